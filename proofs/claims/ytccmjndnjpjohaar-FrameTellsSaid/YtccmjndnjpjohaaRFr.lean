/- Contracts of package frame's functions. -/
import Derived.Test.YtccmjndnjpjohaaRSl
namespace Go.Proofs.YtccmjndnjpjohaaR.fr
open Go.ChangeShapes Go.WideShapes Go.ChangeAt Go.RowKit help rep
set_option linter.all false

abbrev S3 : Sh := .pair (.int .i64) (.pair (.int .i64) (.pair (.int .i64) .unit))
abbrev F := S3.T
def mkF (a b c : Int) : F := ((a, b, c, ()) : Int × Int × Int × Unit)
def st (f : F) : Int := (show Int × Int × Int × Unit from f).1
def ow (f : F) : Int := (show Int × Int × Int × Unit from f).2.1
def ct (f : F) : Int := (show Int × Int × Int × Unit from f).2.2.1
theorem encF (f : F) : S3.enc f = [.int .i64 (st f), .int .i64 (ow f), .int .i64 (ct f)] := rfl
theorem three {w : World} {xs : List F} {a : Addr} {n cap : Nat} (h : Sl w S3 xs (.slice (some a) n cap)) (hw : ∀ x ∈ xs, S3.wf x) (k : Nat) (hk : k < xs.length) :
    w.cell? ⟨a.block, a.off + k * 3, none⟩ = some (.int .i64 (st xs[k])) ∧ w.cell? ⟨a.block, a.off + k * 3 + 1, none⟩ = some (.int .i64 (ow xs[k])) ∧ w.cell? ⟨a.block, a.off + k * 3 + 2, none⟩ = some (.int .i64 (ct xs[k])) := by
  have h0 := (h.cell rfl hw k 0 hk (by decide)).2.2
  have h1 := (h.cell rfl hw k 1 hk (by decide)).2.2
  have h2 := (h.cell rfl hw k 2 hk (by decide)).2.2
  exact ⟨h0, h1, h2⟩

def bad1 (f : F) : Bool := decide (st f < 0) || decide (3 < st f) || decide (ow f < 0) || decide (1048576 < ow f) || decide (ct f < 0) || decide (1048576 < ct f)
def bad3 (f : F) : Bool := (st f == 0 && (ow f != 0 || ct f != 0)) || (st f != 0 && ct f == 0) || (st f == 1 && ct f != 1)
def chkL : List F → Int
  | [] => 0
  | f :: r => if bad1 f then 1 else if bad3 f then 3 else chkL r
theorem chkL1 {f : F} (r : List F) (h : bad1 f = true) : chkL (f :: r) = 1 := by simp [chkL, h]
theorem chkL3 {f : F} (r : List F) (h : bad1 f = false) (h' : bad3 f = true) : chkL (f :: r) = 3 := by simp [chkL, h, h']
theorem chkL0 {f : F} (r : List F) (h : bad1 f = false) (h' : bad3 f = false) : chkL (f :: r) = chkL r := by simp [chkL, h, h']
theorem bad1_t {f : F} (h : st f < 0 ∨ 3 < st f ∨ ow f < 0 ∨ 1048576 < ow f ∨ ct f < 0 ∨ 1048576 < ct f) : bad1 f = true := by unfold bad1; simp; omega
theorem bad1_f {f : F} (h : 0 ≤ st f ∧ st f ≤ 3 ∧ 0 ≤ ow f ∧ ow f ≤ 1048576 ∧ 0 ≤ ct f ∧ ct f ≤ 1048576) : bad1 f = false := by unfold bad1; simp; omega
theorem bad3_t {f : F} (h : st f = 0 ∧ (ow f ≠ 0 ∨ ct f ≠ 0) ∨ st f ≠ 0 ∧ ct f = 0 ∨ st f = 1 ∧ ct f ≠ 1) : bad3 f = true := by unfold bad3; simp; omega
theorem bad3_f {f : F} (h : ¬ (st f = 0 ∧ (ow f ≠ 0 ∨ ct f ≠ 0) ∨ st f ≠ 0 ∧ ct f = 0 ∨ st f = 1 ∧ ct f ≠ 1)) : bad3 f = false := by unfold bad3; simp; omega
def chk (xs : List F) : Int := if 64 < xs.length then 2 else chkL xs

set_option maxHeartbeats 1000000 in
theorem check_big (xs : List F) (a : Option Addr) (cap : Nat) (w : World) (h : (64 : Int) < xs.length) :
    Calls Try.prog 47 #[.slice a xs.length cap] w (Ret (.int .i64 2) w) := by
  go_enter Try.func47, Try.ntmps47
  go_wp2_with fail
  go_ret
  exact ⟨rfl, Below.refl _ _⟩
set_option maxHeartbeats 1000000 in
theorem check_some (xs : List F) (b off cap : Nat) (w : World) (hS : Sl w S3 xs (.slice (some ⟨b, off, none⟩) xs.length cap)) (hw : ∀ x ∈ xs, S3.wf x) (h : (xs.length : Int) ≤ 64) (n : Nat) (hn : xs.length = n) :
    Calls Try.prog 47 #[.slice (some ⟨b, off, none⟩) n cap] w (Ret (.int .i64 (chkL xs)) w) := by
  have HS := Lib.hid hS
  have HW := Lib.hid hw
  have HN := Lib.hid hn
  have hn' : (n : Int) ≤ 64 := by omega
  clear hS hw hn h
  go_enter Try.func47, Try.ntmps47
  go_wp2_with fail
  go_loopw [10] (fun i wr => ∃ k : Nat, k ≤ n ∧ i = .int .i64 k ∧ chkL xs = chkL (xs.drop k) ∧ Below w.heap.size w wr) (fun i _ => n - (intOf i).toNat)
  case atStart => exact ⟨0, by omega, rfl, rfl, Below.refl _ _⟩
  case round =>
    obtain ⟨k, hk, rfl, hc, hB⟩ := hrel
    have HC := Lib.hid hc
    clear hc
    by_cases hlt : k < n
    · have hl : k < xs.length := by rw [HN.out]; exact hlt
      obtain ⟨c0, c1, c2⟩ := three HS.out HW.out k hl
      have d0 := cell_later hB c0
      have d1 := cell_later hB c1
      have d2 := cell_later hB c2
      have HX := Lib.hid (List.drop_eq_getElem_cons hl)
      clear c0 c1 c2
      generalize xs[k] = f at *
      go_wp2_with fail
      all_goals try simp only [bne_iff_ne, beq_iff_eq, ne_eq, bne_eq_false_iff_eq, beq_eq_false_iff_ne] at *
      all_goals first
        | (go_ret; refine ⟨ret_int ?_, (by repeat' (first | (with_reducible exact Below.refl _ _) | (with_reducible assumption) | (with_reducible apply Below.drew) | (with_reducible apply bel_drewN) | (with_reducible refine bel_alloc ?_ _) | (with_reducible refine Below.setCell ?_ ?_ _) | (with_reducible refine Below.alloc ?_ ?_ _) | omega | (simp; done) | (simp; omega) | (simp at *; omega)))⟩; rw [HC.out, HX.out]; first | rw [chkL1 _ (bad1_t (by omega))] | rw [chkL3 _ (bad1_f (by omega)) (bad3_t (by omega))])
        | (go_roundw; (case rel => exact ⟨k + 1, by omega, by go_num, by rw [HC.out, HX.out, chkL0 _ (bad1_f (by omega)) (bad3_f (by omega))], (by repeat' (first | (with_reducible exact Below.refl _ _) | (with_reducible assumption) | (with_reducible apply Below.drew) | (with_reducible apply bel_drewN) | (with_reducible refine bel_alloc ?_ _) | (with_reducible refine Below.setCell ?_ ?_ _) | (with_reducible refine Below.alloc ?_ ?_ _) | omega | (simp; done) | (simp; omega) | (simp at *; omega)))⟩); (case measure => try (first | (simp [intOf]; done) | (simp [intOf]; omega) | decide)))
    · go_wp2_with fail
      go_ret
      refine ⟨ret_int ?_, hB⟩
      rw [HC.out, List.drop_eq_nil_of_le (by rw [HN.out]; omega)]
      rfl
end Go.Proofs.YtccmjndnjpjohaaR.fr
