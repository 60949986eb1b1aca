/- Contracts of package frame's functions: Take, Hold, Let. -/
import Derived.Test.YtccmjndnjpjohaaRFr5
namespace Go.Proofs.YtccmjndnjpjohaaR.fr
open Go.ChangeShapes Go.WideShapes Go.ChangeAt Go.RowKit help rep
set_option linter.all false

theorem wfi {n : Int} (h : -9223372036854775808 ≤ n ∧ n ≤ 9223372036854775807) : (Lit.int .i64 n).wf = true := by
  simp [Lit.wf, IntKind.min, IntKind.max, IntKind.signed, IntKind.bits]
  omega
theorem chk_len {xs : List F} (h : chk xs = 0) : xs.length ≤ 64 := by
  unfold chk at h
  split at h
  · cases h
  · omega
theorem atE0 {xs : List F} {n : Int} (h : atE xs n = 0) : chk xs = 0 ∧ 0 ≤ n ∧ n < xs.length := by
  unfold atE at h
  split at h
  · split at h
    · cases h
    · exact ⟨by assumption, by omega, by omega⟩
  · exact absurd h (by assumption)
/-- a slice that is not empty, opened -/
theorem sl_open {w : World} {xs : List F} {v : Value} (h : Sl w S3 xs v) (h0 : 0 < xs.length) : ∃ b off cap, v = .slice (some ⟨b, off, none⟩) xs.length cap ∧ xs.length ≤ maxLen := by
  rcases h with ⟨hv, rfl⟩ | ⟨b, off, c, sp, rfl, h1, h2, h3, _⟩
  · simp at h0
  · obtain ⟨rfl, _⟩ := h3 h0
    exact ⟨b, off, c, rfl, by omega⟩
theorem take_bad (xs : List F) (v : Value) (n s o : Int) (w : World) (hS : Sl w S3 xs v) (hw : ∀ x ∈ xs, S3.wf x) (h : (atE xs n != 0) = true) :
    Calls Try.prog 42 #[v, .int .i64 n, .int .i64 s, .int .i64 o] w (SlE S3 [] (atE xs n) w) := by
  have HS := Lib.hid hS
  have HW := Lib.hid hw
  clear hS hw
  go_enter Try.func42, Try.ntmps42
  go_wp2_with fail
  refine (at_any xs _ _ _ HS.out HW.out).mono ?_
  rintro e w1 ⟨rfl, hb1⟩
  have hB1 : Below w.heap.size w w1 := Below.trans (by repeat' (first | (with_reducible exact Below.refl _ _) | (with_reducible assumption) | (with_reducible apply Below.drew) | (with_reducible apply bel_drewN) | (with_reducible refine bel_alloc ?_ _) | (with_reducible refine Below.setCell ?_ ?_ _) | (with_reducible refine Below.alloc ?_ ?_ _) | omega | (simp; done) | (simp; omega) | (simp at *; omega))) (hb1.mono (by first | omega | (simp; done) | (simp; omega) | (simp at *; omega)))
  have z1 := hb1.size; (try simp only [World.size_alloc, World.size_setCell] at z1); clear hb1
  go_wp2_with fail
  go_ret2
  exact ⟨_, rfl, Sl.nil _ _, hB1⟩
theorem at_zero {xs : List F} {v : Value} {n : Int} (h : atE xs n = 0) (w : World) (hS : Sl w S3 xs v) (hw : ∀ x ∈ xs, S3.wf x) : Calls Try.prog 107 #[v, .int .i64 n] w (Ret (.int .i64 0) w) := by
  have := at_any xs v n w hS hw
  rw [h] at this
  exact this
theorem take_arg (xs : List F) (v : Value) (n s o : Int) (w : World) (hS : Sl w S3 xs v) (hw : ∀ x ∈ xs, S3.wf x) (h : atE xs n = 0) (hd : s < 1 ∨ 3 < s ∨ o < 0 ∨ 1048576 < o) :
    Calls Try.prog 42 #[v, .int .i64 n, .int .i64 s, .int .i64 o] w (SlE S3 [] 1 w) := by
  have HA := Lib.hid h
  have HS := Lib.hid hS
  have HW := Lib.hid hw
  have HD := Lib.hid hd
  clear hS hw h hd
  go_enter Try.func42, Try.ntmps42
  go_wp2_with fail
  refine (at_zero HA.out _ HS.out HW.out).mono ?_
  rintro e w1 ⟨rfl, hb1⟩
  have hB1 : Below w.heap.size w w1 := Below.trans (by repeat' (first | (with_reducible exact Below.refl _ _) | (with_reducible assumption) | (with_reducible apply Below.drew) | (with_reducible apply bel_drewN) | (with_reducible refine bel_alloc ?_ _) | (with_reducible refine Below.setCell ?_ ?_ _) | (with_reducible refine Below.alloc ?_ ?_ _) | omega | (simp; done) | (simp; omega) | (simp at *; omega))) (hb1.mono (by first | omega | (simp; done) | (simp; omega) | (simp at *; omega)))
  have z1 := hb1.size; (try simp only [World.size_alloc, World.size_setCell] at z1); clear hb1
  have hd := HD.out
  rcases hd with q | q | q | q
  · go_wp2_with fail
    go_ret2
    exact ⟨_, rfl, Sl.nil _ _, hB1⟩
  · go_wp2_with fail
    go_ret2
    exact ⟨_, rfl, Sl.nil _ _, hB1⟩
  · by_cases q1 : s < 1
    · go_wp2_with fail
      go_ret2
      exact ⟨_, rfl, Sl.nil _ _, hB1⟩
    · by_cases q2 : 3 < s
      · go_wp2_with fail
        go_ret2
        exact ⟨_, rfl, Sl.nil _ _, hB1⟩
      · go_wp2_with fail
        go_ret2
        exact ⟨_, rfl, Sl.nil _ _, hB1⟩
  · by_cases q1 : s < 1
    · go_wp2_with fail
      go_ret2
      exact ⟨_, rfl, Sl.nil _ _, hB1⟩
    · by_cases q2 : 3 < s
      · go_wp2_with fail
        go_ret2
        exact ⟨_, rfl, Sl.nil _ _, hB1⟩
      · have q3 : ¬ o < 0 := by omega
        go_wp2_with fail
        go_ret2
        exact ⟨_, rfl, Sl.nil _ _, hB1⟩
set_option maxHeartbeats 1000000 in
theorem take_there (xs : List F) (v : Value) (n : Nat) (s o : Int) (w : World) (hS : Sl w S3 xs v) (hw : ∀ x ∈ xs, S3.wf x) (h : atE xs n = 0) (q1 : 1 ≤ s) (q2 : s ≤ 3) (q3 : 0 ≤ o) (q4 : o ≤ 1048576) (hn : n < xs.length) (hst : (st xs[n] != 0) = true) :
    Calls Try.prog 42 #[v, .int .i64 n, .int .i64 s, .int .i64 o] w (SlE S3 [] 5 w) := by
  have g := hS
  obtain ⟨b, off, cap, rfl, hm⟩ := sl_open hS (by omega)
  unfold maxLen at hm
  obtain ⟨c0, c1, c2⟩ := three hS hw n hn
  have HA := Lib.hid h
  have HS := Lib.hid hS
  have HW := Lib.hid hw
  have g1 : (n : Int) < xs.length := by omega
  clear hS hw h g
  generalize xs[n] = f at *
  go_enter Try.func42, Try.ntmps42
  go_wp2_with fail
  refine (at_zero HA.out _ HS.out HW.out).mono ?_
  rintro e w1 ⟨rfl, hb1⟩
  have d0 := cell_later hb1 c0
  clear c0 c1 c2
  go_wp2_with fail
  go_ret2
  exact ⟨_, rfl, Sl.nil _ _, hb1⟩
set_option maxHeartbeats 1000000 in
theorem take_good (xs : List F) (v : Value) (n : Nat) (s o : Int) (w : World) (hS : Sl w S3 xs v) (hw : ∀ x ∈ xs, S3.wf x) (h : atE xs n = 0) (q1 : 1 ≤ s) (q2 : s ≤ 3) (q3 : 0 ≤ o) (q4 : o ≤ 1048576) (hn : n < xs.length) (hst : (st xs[n] != 0) = false) :
    Calls Try.prog 42 #[v, .int .i64 n, .int .i64 s, .int .i64 o] w (SlE S3 (xs.set n (mkF s o 1)) 0 w) := by
  obtain ⟨b, off, cap, rfl, hm⟩ := sl_open hS (by omega)
  unfold maxLen at hm
  obtain ⟨c0, c1, c2⟩ := three hS hw n hn
  have hl := chk_len (atE0 h).1
  have HA := Lib.hid h
  have HS := Lib.hid hS
  have HW := Lib.hid hw
  have g1 : (n : Int) < xs.length := by omega
  have HWF := Lib.hid (show S3.wf (mkF s o 1) from ⟨wfi (by omega), wfi (by omega), wfi (by omega), trivial⟩)
  clear hS hw h
  generalize xs[n] = f at *
  go_enter Try.func42, Try.ntmps42
  go_wp2_with fail
  refine (at_zero HA.out _ HS.out HW.out).mono ?_
  rintro e w1 ⟨rfl, hb1⟩
  have d0 := cell_later hb1 c0
  clear c0 c1 c2
  go_wp2_with fail
  refine (with_any xs _ n s o 1 _ (HS.out.later hb1) HW.out hl hn HWF.out).mono ?_
  rintro e w2 ⟨v2, rfl, hs2, hb2⟩
  have H2 := Lib.hid hs2
  clear hs2
  go_wp2_with fail
  go_ret2
  exact ⟨_, rfl, H2.out, hb1.trans (hb2.mono hb1.size)⟩

theorem hold_bad (xs : List F) (v : Value) (n : Int) (w : World) (hS : Sl w S3 xs v) (hw : ∀ x ∈ xs, S3.wf x) (h : (atE xs n != 0) = true) :
    Calls Try.prog 43 #[v, .int .i64 n] w (SlE S3 [] (atE xs n) w) := by
  have HS := Lib.hid hS
  have HW := Lib.hid hw
  clear hS hw
  go_enter Try.func43, Try.ntmps43
  go_wp2_with fail
  refine (at_any xs _ _ _ HS.out HW.out).mono ?_
  rintro e w1 ⟨rfl, hb1⟩
  have hB1 : Below w.heap.size w w1 := Below.trans (by repeat' (first | (with_reducible exact Below.refl _ _) | (with_reducible assumption) | (with_reducible apply Below.drew) | (with_reducible apply bel_drewN) | (with_reducible refine bel_alloc ?_ _) | (with_reducible refine Below.setCell ?_ ?_ _) | (with_reducible refine Below.alloc ?_ ?_ _) | omega | (simp; done) | (simp; omega) | (simp at *; omega))) (hb1.mono (by first | omega | (simp; done) | (simp; omega) | (simp at *; omega)))
  have z1 := hb1.size; (try simp only [World.size_alloc, World.size_setCell] at z1); clear hb1
  go_wp2_with fail
  go_ret2
  exact ⟨_, rfl, Sl.nil _ _, hB1⟩
def holdE (f : F) : Int := if st f < 2 then 8 else if ct f = 1048576 then 6 else 0
set_option maxHeartbeats 1000000 in
theorem hold_any (xs : List F) (v : Value) (n : Nat) (w : World) (hS : Sl w S3 xs v) (hw : ∀ x ∈ xs, S3.wf x) (h : atE xs n = 0) (hn : n < xs.length) (hc1 : 0 ≤ ct xs[n]) (hc2 : ct xs[n] ≤ 1048576) (ho1 : 0 ≤ ow xs[n]) (ho2 : ow xs[n] ≤ 1048576) (hs1 : 0 ≤ st xs[n]) (hs2 : st xs[n] ≤ 3) :
    Calls Try.prog 43 #[v, .int .i64 n] w (SlE S3 (if holdE xs[n] = 0 then xs.set n (mkF (st xs[n]) (ow xs[n]) (ct xs[n] + 1)) else []) (holdE xs[n]) w) := by
  obtain ⟨b, off, cap, rfl, hm⟩ := sl_open hS (by omega)
  unfold maxLen at hm
  obtain ⟨c0, c1, c2⟩ := three hS hw n hn
  have hl := chk_len (atE0 h).1
  have HA := Lib.hid h
  have HS := Lib.hid hS
  have HW := Lib.hid hw
  have g1 : (n : Int) < xs.length := by omega
  clear hS hw h
  generalize xs[n] = f at *
  have HWF := Lib.hid (show S3.wf (mkF (st f) (ow f) (ct f + 1)) from ⟨wfi (by omega), wfi (by omega), wfi (by omega), trivial⟩)
  by_cases q1 : st f < 2
  · rw [show holdE f = 8 from if_pos q1, if_neg (by omega)]
    go_enter Try.func43, Try.ntmps43
    go_wp2_with fail
    refine (at_zero HA.out _ HS.out HW.out).mono ?_
    rintro e w1 ⟨rfl, hb1⟩
    have d0 := cell_later hb1 c0
    have d2 := cell_later hb1 c2
    clear c0 c1 c2
    go_wp2_with fail
    go_ret2
    exact ⟨_, rfl, Sl.nil _ _, hb1⟩
  · by_cases q2 : ct f = 1048576
    · rw [show holdE f = 6 from by unfold holdE; rw [if_neg q1, if_pos q2], if_neg (by omega)]
      have q3 : (ct f == 1048576) = true := by simpa using q2
      clear q2
      go_enter Try.func43, Try.ntmps43
      go_wp2_with fail
      refine (at_zero HA.out _ HS.out HW.out).mono ?_
      rintro e w1 ⟨rfl, hb1⟩
      have d0 := cell_later hb1 c0
      have d2 := cell_later hb1 c2
      clear c0 c1 c2
      go_wp2_with fail
      go_ret2
      exact ⟨_, rfl, Sl.nil _ _, hb1⟩
    · rw [show holdE f = 0 from by unfold holdE; rw [if_neg q1, if_neg q2], if_pos rfl]
      have q3 : (ct f == 1048576) = false := by simpa using q2
      clear q2
      go_enter Try.func43, Try.ntmps43
      go_wp2_with fail
      refine (at_zero HA.out _ HS.out HW.out).mono ?_
      rintro e w1 ⟨rfl, hb1⟩
      have d0 := cell_later hb1 c0
      have d1 := cell_later hb1 c1
      have d2 := cell_later hb1 c2
      clear c0 c1 c2
      go_wp2_with fail
      refine (with_any xs _ n (st f) (ow f) (ct f + 1) _ (HS.out.later (bel_alloc hb1 _)) HW.out hl hn HWF.out).mono ?_
      rintro e w2 ⟨v2, rfl, hs2, hb2⟩
      have H2 := Lib.hid hs2
      clear hs2
      go_wp2_with fail
      go_ret2
      exact ⟨_, rfl, H2.out, (bel_alloc hb1 _).trans (hb2.mono (bel_alloc hb1 _).size)⟩
end Go.Proofs.YtccmjndnjpjohaaR.fr
