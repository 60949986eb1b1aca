/- Contracts of package frame's functions: Check, at, with; the reference's Frames, FrameWith. -/
import Derived.Test.YtccmjndnjpjohaaRFr3
import Derived.Test.YtccmjndnjpjohaaRSl2
namespace Go.Proofs.YtccmjndnjpjohaaR.fr
open Go.ChangeShapes Go.WideShapes Go.ChangeAt Go.RowKit help rep
set_option linter.all false

theorem check_empty (a : Option Addr) (cap : Nat) (w : World) : Calls Try.prog 47 #[.slice a 0 cap] w (Ret (.int .i64 0) w) := by
  go_enter Try.func47, Try.ntmps47
  go_wp2_with fail
  refine wp_loop_rounds 1 ?_
  rw [rounds_succ]
  go_wp2_with fail
  go_ret
  exact ⟨rfl, Below.refl _ _⟩
theorem check_any (xs : List F) (v : Value) (w : World) (hS : Sl w S3 xs v) (hw : ∀ x ∈ xs, S3.wf x) : Calls Try.prog 47 #[v] w (Ret (.int .i64 (chk xs)) w) := by
  have g := hS
  obtain ⟨a, cap, rfl, hm⟩ := hS.len
  unfold chk
  by_cases h : 64 < xs.length
  · rw [if_pos h]; exact check_big xs a cap w (by omega)
  · rw [if_neg h]
    by_cases h0 : 0 < xs.length
    · rcases hS with ⟨hv, rfl⟩ | ⟨b, off, c, sp, hv, _, _, h3, _⟩
      · simp at h0
      simp at hv
      obtain ⟨rfl, rfl⟩ := hv
      obtain ⟨rfl, _⟩ := h3 h0
      exact check_some xs b off cap w g hw (by omega) xs.length rfl
    · have e1 : xs = [] := List.length_eq_zero_iff.1 (by omega)
      subst e1
      exact check_empty a cap w

set_option maxHeartbeats 1000000 in
theorem frames_some (xs : List F) (b off cap : Nat) (w : World) (hS : Sl w S3 xs (.slice (some ⟨b, off, none⟩) xs.length cap)) (hw : ∀ x ∈ xs, S3.wf x) (h : (xs.length : Int) ≤ 64) (n : Nat) (hn : xs.length = n) :
    Calls Try.prog 46 #[.slice (some ⟨b, off, none⟩) n cap] w (Ret (.int .i64 (chkL xs)) w) := by
  have HS := Lib.hid hS
  have HW := Lib.hid hw
  have HN := Lib.hid hn
  have hn' : (n : Int) ≤ 64 := by omega
  clear hS hw hn h
  go_enter Try.func46, Try.ntmps46
  go_wp2_with fail
  go_loopw [10] (fun i wr => ∃ k : Nat, k ≤ n ∧ i = .int .i64 k ∧ chkL xs = chkL (xs.drop k) ∧ Below w.heap.size w wr) (fun i _ => n - (intOf i).toNat)
  case atStart => exact ⟨0, by omega, rfl, rfl, Below.refl _ _⟩
  case round =>
    obtain ⟨k, hk, rfl, hc, hB⟩ := hrel
    have HC := Lib.hid hc
    clear hc
    by_cases hlt : k < n
    · have hl : k < xs.length := by rw [HN.out]; exact hlt
      obtain ⟨c0, c1, c2⟩ := three HS.out HW.out k hl
      have d0 := cell_later hB c0
      have d1 := cell_later hB c1
      have d2 := cell_later hB c2
      have HX := Lib.hid (List.drop_eq_getElem_cons hl)
      clear c0 c1 c2
      generalize xs[k] = f at *
      by_cases hb1 : st f < 0 ∨ 3 < st f ∨ ow f < 0 ∨ 1048576 < ow f ∨ ct f < 0 ∨ 1048576 < ct f
      · have H1 := Lib.hid (chkL1 (f := f) (xs.drop (k + 1)) (bad1_t hb1))
        have hd : (st f < 0) ∨ (3 < st f) ∨ (0 ≤ st f ∧ st f ≤ 3 ∧ ow f < 0) ∨ (0 ≤ st f ∧ st f ≤ 3 ∧ 1048576 < ow f) ∨ (0 ≤ st f ∧ st f ≤ 3 ∧ 0 ≤ ow f ∧ ow f ≤ 1048576 ∧ ct f < 0) ∨ (0 ≤ st f ∧ st f ≤ 3 ∧ 0 ≤ ow f ∧ ow f ≤ 1048576 ∧ 1048576 < ct f) := by omega
        clear hb1
        rcases hd with q | q | ⟨q1, q2, q⟩ | ⟨q1, q2, q⟩ | ⟨q1, q2, q3, q4, q⟩ | ⟨q1, q2, q3, q4, q⟩
        all_goals go_wp2_with (go_at_call 33; go_in)
        all_goals try simp only [Bool.not_eq_eq_eq_not, Bool.not_true, Bool.not_false, Bool.and_eq_true, Bool.or_eq_true, Bool.and_eq_false_iff, Bool.or_eq_false_iff, decide_eq_true_eq, decide_eq_false_iff_not, bne_iff_ne, beq_iff_eq, ne_eq, bne_eq_false_iff_eq, beq_eq_false_iff_ne] at *
        all_goals first
          | (exfalso; omega)
          | (go_ret; exact ⟨ret_int (by rw [HC.out, HX.out, H1.out]), (by repeat' (first | (with_reducible exact Below.refl _ _) | (with_reducible assumption) | (with_reducible apply Below.drew) | (with_reducible apply bel_drewN) | (with_reducible refine bel_alloc ?_ _) | (with_reducible refine Below.setCell ?_ ?_ _) | (with_reducible refine Below.alloc ?_ ?_ _) | omega | (simp; done) | (simp; omega) | (simp at *; omega)))⟩)
      · have q1 : 0 ≤ st f := by omega
        have q2 : st f ≤ 3 := by omega
        have q3 : 0 ≤ ow f := by omega
        have q4 : ow f ≤ 1048576 := by omega
        have q5 : 0 ≤ ct f := by omega
        have q6 : ct f ≤ 1048576 := by omega
        clear hb1
        go_wp2_with (go_at_call 33; go_in)
        all_goals try simp only [Bool.not_eq_eq_eq_not, Bool.not_true, Bool.not_false, Bool.and_eq_true, Bool.or_eq_true, Bool.and_eq_false_iff, Bool.or_eq_false_iff, decide_eq_true_eq, decide_eq_false_iff_not, bne_iff_ne, beq_iff_eq, ne_eq, bne_eq_false_iff_eq, beq_eq_false_iff_ne] at *
        all_goals first
          | (go_ret; refine ⟨ret_int ?_, (by repeat' (first | (with_reducible exact Below.refl _ _) | (with_reducible assumption) | (with_reducible apply Below.drew) | (with_reducible apply bel_drewN) | (with_reducible refine bel_alloc ?_ _) | (with_reducible refine Below.setCell ?_ ?_ _) | (with_reducible refine Below.alloc ?_ ?_ _) | omega | (simp; done) | (simp; omega) | (simp at *; omega)))⟩; rw [HC.out, HX.out]; rw [chkL3 _ (bad1_f (by omega)) (bad3_t (by omega))])
          | (go_roundw; (case rel => exact ⟨k + 1, by omega, by go_num, by rw [HC.out, HX.out, chkL0 _ (bad1_f (by omega)) (bad3_f (by omega))], (by repeat' (first | (with_reducible exact Below.refl _ _) | (with_reducible assumption) | (with_reducible apply Below.drew) | (with_reducible apply bel_drewN) | (with_reducible refine bel_alloc ?_ _) | (with_reducible refine Below.setCell ?_ ?_ _) | (with_reducible refine Below.alloc ?_ ?_ _) | omega | (simp; done) | (simp; omega) | (simp at *; omega)))⟩); (case measure => try (first | (simp [intOf]; done) | (simp [intOf]; omega) | decide)))
    · go_wp2_with fail
      go_ret
      refine ⟨ret_int ?_, hB⟩
      rw [HC.out, List.drop_eq_nil_of_le (by rw [HN.out]; omega)]
      rfl
theorem frames_big (xs : List F) (a : Option Addr) (cap : Nat) (w : World) (h : (64 : Int) < xs.length) :
    Calls Try.prog 46 #[.slice a xs.length cap] w (Ret (.int .i64 2) w) := by
  go_enter Try.func46, Try.ntmps46
  go_wp2_with fail
  go_ret
  exact ⟨rfl, Below.refl _ _⟩
theorem frames_empty (a : Option Addr) (cap : Nat) (w : World) : Calls Try.prog 46 #[.slice a 0 cap] w (Ret (.int .i64 0) w) := by
  go_enter Try.func46, Try.ntmps46
  go_wp2_with fail
  refine wp_loop_rounds 1 ?_
  rw [rounds_succ]
  go_wp2_with fail
  go_ret
  exact ⟨rfl, Below.refl _ _⟩
theorem frames_any (xs : List F) (v : Value) (w : World) (hS : Sl w S3 xs v) (hw : ∀ x ∈ xs, S3.wf x) : Calls Try.prog 46 #[v] w (Ret (.int .i64 (chk xs)) w) := by
  have g := hS
  obtain ⟨a, cap, rfl, hm⟩ := hS.len
  unfold chk
  by_cases h : 64 < xs.length
  · rw [if_pos h]; exact frames_big xs a cap w (by omega)
  · rw [if_neg h]
    by_cases h0 : 0 < xs.length
    · rcases hS with ⟨hv, rfl⟩ | ⟨b, off, c, sp, hv, _, _, h3, _⟩
      · simp at h0
      simp at hv
      obtain ⟨rfl, rfl⟩ := hv
      obtain ⟨rfl, _⟩ := h3 h0
      exact frames_some xs b off cap w g hw (by omega) xs.length rfl
    · have e1 : xs = [] := List.length_eq_zero_iff.1 (by omega)
      subst e1
      exact frames_empty a cap w

def atE (xs : List F) (n : Int) : Int := if chk xs = 0 then (if n < 0 ∨ (xs.length : Int) ≤ n then 4 else 0) else chk xs
theorem at_any (xs : List F) (v : Value) (n : Int) (w : World) (hS : Sl w S3 xs v) (hw : ∀ x ∈ xs, S3.wf x) : Calls Try.prog 107 #[v, .int .i64 n] w (Ret (.int .i64 (atE xs n)) w) := by
  obtain ⟨a, cap, rfl, hm⟩ := hS.len
  have HS := Lib.hid hS
  have HW := Lib.hid hw
  clear hS hw
  unfold maxLen at hm
  go_enter Try.func107, Try.ntmps107
  go_wp2_with fail
  refine (check_any xs _ _ HS.out HW.out).mono ?_
  rintro e w1 ⟨rfl, hb1⟩
  have hB1 : Below w.heap.size w w1 := Below.trans (by repeat' (first | (with_reducible exact Below.refl _ _) | (with_reducible assumption) | (with_reducible apply Below.drew) | (with_reducible apply bel_drewN) | (with_reducible refine bel_alloc ?_ _) | (with_reducible refine Below.setCell ?_ ?_ _) | (with_reducible refine Below.alloc ?_ ?_ _) | omega | (simp; done) | (simp; omega) | (simp at *; omega))) (hb1.mono (by first | omega | (simp; done) | (simp; omega) | (simp at *; omega)))
  have z1 := hb1.size; (try simp only [World.size_alloc, World.size_setCell] at z1); clear hb1
  go_wp2_with fail
  all_goals try simp only [Bool.not_eq_eq_eq_not, Bool.not_true, Bool.not_false, Bool.and_eq_true, Bool.or_eq_true, Bool.and_eq_false_iff, Bool.or_eq_false_iff, decide_eq_true_eq, decide_eq_false_iff_not, bne_iff_ne, beq_iff_eq, ne_eq, bne_eq_false_iff_eq, beq_eq_false_iff_ne] at *
  all_goals go_ret
  all_goals refine ⟨ret_int ?_, hB1⟩
  all_goals unfold atE
  all_goals (split <;> (try split) <;> omega)

end Go.Proofs.YtccmjndnjpjohaaR.fr
