/- Contracts of package frame's functions: Let, Those. -/
import Derived.Test.YtccmjndnjpjohaaRFr6
import Derived.Deep.RegionHeld3
import Derived.OwnWalk
namespace Go.Proofs.YtccmjndnjpjohaaR.fr
open Go.ChangeShapes Go.WideShapes Go.ChangeAt Go.RowKit help rep
set_option linter.all false

def SlB (e : Sh) (xs : List e.T) (g : Bool) (er : Int) (w : World) (en : Ending) (w' : World) : Prop :=
  ∃ v, en = .returned (.tuple #[v, .bool g, .int .i64 er]) ∧ Sl w' e xs v ∧ Below w.heap.size w w'
theorem let_bad (xs : List F) (v : Value) (n : Int) (w : World) (hS : Sl w S3 xs v) (hw : ∀ x ∈ xs, S3.wf x) (h : (atE xs n != 0) = true) :
    Calls Try.prog 44 #[v, .int .i64 n] w (SlB S3 [] false (atE xs n) w) := by
  have HS := Lib.hid hS
  have HW := Lib.hid hw
  clear hS hw
  go_enter Try.func44, Try.ntmps44
  go_wp2_with fail
  refine (at_any xs _ _ _ HS.out HW.out).mono ?_
  rintro e w1 ⟨rfl, hb1⟩
  have hB1 : Below w.heap.size w w1 := Below.trans (by repeat' (first | (with_reducible exact Below.refl _ _) | (with_reducible assumption) | (with_reducible apply Below.drew) | (with_reducible apply bel_drewN) | (with_reducible refine bel_alloc ?_ _) | (with_reducible refine Below.setCell ?_ ?_ _) | (with_reducible refine Below.alloc ?_ ?_ _) | omega | (simp; done) | (simp; omega) | (simp at *; omega))) (hb1.mono (by first | omega | (simp; done) | (simp; omega) | (simp at *; omega)))
  have z1 := hb1.size; (try simp only [World.size_alloc, World.size_setCell] at z1); clear hb1
  go_wp2_with fail
  go_ret3
  exact ⟨_, rfl, Sl.nil _ _, hB1⟩
set_option maxHeartbeats 1000000 in
theorem let_free (xs : List F) (v : Value) (n : Nat) (w : World) (hS : Sl w S3 xs v) (hw : ∀ x ∈ xs, S3.wf x) (h : atE xs n = 0) (hn : n < xs.length) (hst : (st xs[n] == 0) = true) :
    Calls Try.prog 44 #[v, .int .i64 n] w (SlB S3 [] false 8 w) := by
  obtain ⟨b, off, cap, rfl, hm⟩ := sl_open hS (by omega)
  unfold maxLen at hm
  obtain ⟨c0, c1, c2⟩ := three hS hw n hn
  have HA := Lib.hid h
  have HS := Lib.hid hS
  have HW := Lib.hid hw
  have g1 : (n : Int) < xs.length := by omega
  clear hS hw h
  generalize xs[n] = f at *
  go_enter Try.func44, Try.ntmps44
  go_wp2_with fail
  refine (at_zero HA.out _ HS.out HW.out).mono ?_
  rintro e w1 ⟨rfl, hb1⟩
  have d0 := cell_later hb1 c0
  clear c0 c1 c2
  go_wp2_with fail
  go_ret3
  exact ⟨_, rfl, Sl.nil _ _, hb1⟩
theorem keep3 {w w' : World} {B : Nat} {x y z : Value} (hb : Below w.heap.size w w') (h : w.cell? ⟨B, 0, none⟩ = some x ∧ w.cell? ⟨B, 0 + 1, none⟩ = some y ∧ w.cell? ⟨B, 0 + 2, none⟩ = some z) :
    w'.cell? ⟨B, 0, none⟩ = some x ∧ w'.cell? ⟨B, 0 + 1, none⟩ = some y ∧ w'.cell? ⟨B, 0 + 2, none⟩ = some z := ⟨cell_later hb h.1, cell_later hb h.2.1, cell_later hb h.2.2⟩
set_option maxHeartbeats 2000000 in
theorem let_more (xs : List F) (v : Value) (n : Nat) (w : World) (hS : Sl w S3 xs v) (hw : ∀ x ∈ xs, S3.wf x) (h : atE xs n = 0) (hn : n < xs.length) (hst : (st xs[n] == 0) = false) (hc1 : 2 ≤ ct xs[n]) (hc2 : ct xs[n] ≤ 1048576) (ho1 : 0 ≤ ow xs[n]) (ho2 : ow xs[n] ≤ 1048576) (hs1 : 0 ≤ st xs[n]) (hs2 : st xs[n] ≤ 3) :
    Calls Try.prog 44 #[v, .int .i64 n] w (SlB S3 (xs.set n (mkF (st xs[n]) (ow xs[n]) (ct xs[n] - 1))) false 0 w) := by
  obtain ⟨b, off, cap, rfl, hm⟩ := sl_open hS (by omega)
  unfold maxLen at hm
  obtain ⟨c0, c1, c2⟩ := three hS hw n hn
  have hl := chk_len (atE0 h).1
  have HA := Lib.hid h
  have HS := Lib.hid hS
  have HW := Lib.hid hw
  have g1 : (n : Int) < xs.length := by omega
  clear hS hw h
  generalize xs[n] = f at *
  have HWF := Lib.hid (show S3.wf (mkF (st f) (ow f) (ct f - 1)) from ⟨wfi (by omega), wfi (by omega), wfi (by omega), trivial⟩)
  have q3 : (ct f - 1 == 0) = false := by simp; omega
  go_enter Try.func44, Try.ntmps44
  go_wp2_with fail
  refine (at_zero HA.out _ HS.out HW.out).mono ?_
  rintro e w1 ⟨rfl, hb1⟩
  have d0 := cell_later hb1 c0
  have d1 := cell_later hb1 c1
  have d2 := cell_later hb1 c2
  clear c0 c1 c2
  go_wp2_with fail
  have hB := bel_alloc hb1 (.cells #[.int .i64 (st f), .int .i64 (ow f), .int .i64 (ct f - 1)] 91)
  have kX := Blk.new w1 #[.int .i64 (st f), .int .i64 (ow f), .int .i64 (ct f - 1)] 91
  generalize w1.alloc (.cells #[.int .i64 (st f), .int .i64 (ow f), .int .i64 (ct f - 1)] 91) = W at *
  generalize w1.heap.size = X at *
  clear d0 d1 d2
  have x0 : W.cell? ⟨X, 0, none⟩ = some (.int .i64 (st f)) := by rw [kX.cells]; rfl
  have x1 : W.cell? ⟨X, 1, none⟩ = some (.int .i64 (ow f)) := by rw [kX.cells]; rfl
  have x2 : W.cell? ⟨X, 2, none⟩ = some (.int .i64 (ct f - 1)) := by rw [kX.cells]; rfl
  go_region_held3 (fun w' => w'.cell? ⟨X, 0, none⟩ = some (.int .i64 (st f)) ∧ w'.cell? ⟨X, 1, none⟩ = some (.int .i64 (ow f)) ∧ w'.cell? ⟨X, 2, none⟩ = some (.int .i64 (ct f - 1))) (first | assumption | exact ⟨x0, x1, x2⟩)
    (first | (go_at_call 108; (with_reducible refine (with_any xs _ n (st f) (ow f) (ct f - 1) _ (HS.out.later hB.drew) HW.out hl hn HWF.out).mono ?_); rintro e w2 ⟨v2, rfl, hs2, hb2⟩; have x3 := And.intro (cell_later hb2 x0) (And.intro (cell_later hb2 x1) (cell_later hb2 x2))))
  have H2 := Lib.hid hs2
  clear hs2 x3
  go_wp2_with fail
  go_ret3
  exact ⟨_, rfl, H2.out, hB.drew.trans (hb2.mono hB.size)⟩
set_option maxHeartbeats 2000000 in
theorem let_gone (xs : List F) (v : Value) (n : Nat) (w : World) (hS : Sl w S3 xs v) (hw : ∀ x ∈ xs, S3.wf x) (h : atE xs n = 0) (hn : n < xs.length) (hst : (st xs[n] == 0) = false) (hc : ct xs[n] = 1) (ho1 : 0 ≤ ow xs[n]) (ho2 : ow xs[n] ≤ 1048576) (hs1 : 0 ≤ st xs[n]) (hs2 : st xs[n] ≤ 3) :
    Calls Try.prog 44 #[v, .int .i64 n] w (SlB S3 (xs.set n (mkF 0 0 0)) true 0 w) := by
  obtain ⟨b, off, cap, rfl, hm⟩ := sl_open hS (by omega)
  unfold maxLen at hm
  obtain ⟨c0, c1, c2⟩ := three hS hw n hn
  have hl := chk_len (atE0 h).1
  have HA := Lib.hid h
  have HS := Lib.hid hS
  have HW := Lib.hid hw
  have g1 : (n : Int) < xs.length := by omega
  clear hS hw h
  generalize xs[n] = f at *
  have HWF := Lib.hid (show S3.wf (mkF 0 0 0) from ⟨wfi (by omega), wfi (by omega), wfi (by omega), trivial⟩)
  rw [hc] at c2
  clear hc
  go_enter Try.func44, Try.ntmps44
  go_wp2_with fail
  refine (at_zero HA.out _ HS.out HW.out).mono ?_
  rintro e w1 ⟨rfl, hb1⟩
  have d0 := cell_later hb1 c0
  have d1 := cell_later hb1 c1
  have d2 := cell_later hb1 c2
  clear c0 c1 c2
  go_wp2_with fail
  have hB := bel_alloc hb1 (.cells #[.int .i64 0, .int .i64 0, .int .i64 0] 91)
  have kX := Blk.new w1 #[.int .i64 0, .int .i64 0, .int .i64 0] 91
  generalize w1.alloc (.cells #[.int .i64 0, .int .i64 0, .int .i64 0] 91) = W at *
  generalize w1.heap.size = X at *
  clear d0 d1 d2
  have x0 : W.cell? ⟨X, 0, none⟩ = some (.int .i64 0) := by rw [kX.cells]; rfl
  have x1 : W.cell? ⟨X, 1, none⟩ = some (.int .i64 0) := by rw [kX.cells]; rfl
  have x2 : W.cell? ⟨X, 2, none⟩ = some (.int .i64 0) := by rw [kX.cells]; rfl
  go_region_held3 (fun w' => w'.cell? ⟨X, 0, none⟩ = some (.int .i64 0) ∧ w'.cell? ⟨X, 1, none⟩ = some (.int .i64 0) ∧ w'.cell? ⟨X, 2, none⟩ = some (.int .i64 0)) (first | assumption | exact ⟨x0, x1, x2⟩)
    (first | (go_at_call 108; (with_reducible refine (with_any xs _ n 0 0 0 _ (HS.out.later hB.drew) HW.out hl hn HWF.out).mono ?_); rintro e w2 ⟨v2, rfl, hs2, hb2⟩; have x3 := And.intro (cell_later hb2 x0) (And.intro (cell_later hb2 x1) (cell_later hb2 x2))))
  have H2 := Lib.hid hs2
  clear hs2 x3
  go_wp2_with fail
  go_ret3
  exact ⟨_, rfl, H2.out, hB.drew.trans (hb2.mono hB.size)⟩
end Go.Proofs.YtccmjndnjpjohaaR.fr
