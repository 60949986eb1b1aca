/- slices.Equal at frames. -/
import Derived.Test.YtccmjndnjpjohaaRFr2
namespace Go.Proofs.YtccmjndnjpjohaaR.fr
open Go.ChangeShapes Go.WideShapes Go.ChangeAt Go.RowKit help rep
set_option linter.all false

theorem F_ext {x y : F} (h1 : st x = st y) (h2 : ow x = ow y) (h3 : ct x = ct y) : x = y := by
  obtain ⟨a, b, c, _⟩ := x
  obtain ⟨a', b', c', _⟩ := y
  simp [st, ow, ct] at h1 h2 h3
  subst h1 h2 h3
  rfl
instance : DecidableEq F := fun x y => if h : st x = st y ∧ ow x = ow y ∧ ct x = ct y then .isTrue (F_ext h.1 h.2.1 h.2.2) else .isFalse (fun e => h (by subst e; exact ⟨rfl, rfl, rfl⟩))
set_option maxHeartbeats 1000000 in
theorem equal_same (xs ys : List F) (b off cap b' off' cap' n : Nat) (w : World) (hS : Sl w S3 xs (.slice (some ⟨b, off, none⟩) n cap)) (hw : ∀ x ∈ xs, S3.wf x)
    (hS' : Sl w S3 ys (.slice (some ⟨b', off', none⟩) n cap')) (hw' : ∀ x ∈ ys, S3.wf x) (hn : xs.length = n) (hn' : ys.length = n) (hm : n ≤ maxLen) :
    Calls Try.prog 49 #[.slice (some ⟨b, off, none⟩) n cap, .slice (some ⟨b', off', none⟩) n cap'] w (Ret (.bool (decide (xs = ys))) w) := by
  unfold maxLen at hm
  have HS := Lib.hid hS; have HW := Lib.hid hw; have HS' := Lib.hid hS'; have HW' := Lib.hid hw'; have HN := Lib.hid hn; have HN' := Lib.hid hn'
  clear hS hw hS' hw' hn hn'
  go_enter Try.func49, Try.ntmps49
  go_wp2_with fail
  go_loopw [13] (fun i wr => ∃ k : Nat, k ≤ n ∧ i = .int .i64 k ∧ xs.take k = ys.take k ∧ Below w.heap.size w wr) (fun i _ => n - (intOf i).toNat)
  case atStart => exact ⟨0, by omega, rfl, rfl, Below.refl _ _⟩
  case round =>
    obtain ⟨k, hk, rfl, ht, hB⟩ := hrel
    have HT := Lib.hid ht
    clear ht
    by_cases hlt : k < n
    · have hl : k < xs.length := by rw [HN.out]; exact hlt
      have hl' : k < ys.length := by rw [HN'.out]; exact hlt
      obtain ⟨c0, c1, c2⟩ := three HS.out HW.out k hl
      obtain ⟨e0, e1, e2⟩ := three HS'.out HW'.out k hl'
      have d0 := cell_later hB c0; have d1 := cell_later hB c1; have d2 := cell_later hB c2
      have f0 := cell_later hB e0; have f1 := cell_later hB e1; have f2 := cell_later hB e2
      clear c0 c1 c2 e0 e1 e2
      have g1 : (k : Int) < n := by omega
      by_cases hxy : xs[k] = ys[k]
      · rw [← hxy] at f0 f1 f2
        have HX := Lib.hid hxy
        clear hxy
        generalize hx : xs[k] = x at *
        have HXX := Lib.hid hx
        clear hx
        go_wp2_with fail
        go_quiet (fail)
        go_wp2_with fail
        go_roundw
        case rel => exact ⟨k + 1, by omega, by go_num, by rw [List.take_succ_eq_append_getElem hl, List.take_succ_eq_append_getElem hl', HT.out, HXX.out, HX.out], (by repeat' (first | (with_reducible exact Below.refl _ _) | (with_reducible assumption) | (with_reducible apply Below.drew) | (with_reducible apply bel_drewN) | (with_reducible refine bel_alloc ?_ _) | (with_reducible refine Below.setCell ?_ ?_ _) | (with_reducible refine Below.alloc ?_ ?_ _) | omega | (simp; done) | (simp; omega) | (simp at *; omega)))⟩
        case measure => try (first | (simp [intOf]; done) | (simp [intOf]; omega) | decide)
      · have HNE := Lib.hid (show decide (xs = ys) = false from decide_eq_false (fun e => hxy (by subst e; rfl)))
        have hd : st xs[k] ≠ st ys[k] ∨ (st xs[k] = st ys[k] ∧ ow xs[k] ≠ ow ys[k]) ∨ (st xs[k] = st ys[k] ∧ ow xs[k] = ow ys[k] ∧ ct xs[k] ≠ ct ys[k]) := by
          by_cases h1 : st xs[k] = st ys[k]
          · by_cases h2 : ow xs[k] = ow ys[k]
            · exact .inr (.inr ⟨h1, h2, fun h3 => hxy (F_ext h1 h2 h3)⟩)
            · exact .inr (.inl ⟨h1, h2⟩)
          · exact .inl h1
        clear hxy
        generalize xs[k] = x at *
        generalize ys[k] = y at *
        rcases hd with h1 | ⟨h1, h2⟩ | ⟨h1, h2, h3⟩
        · have q1 : (st x == st y) = false := by simpa using h1
          clear h1
          go_wp2_with fail
          go_quiet (fail)
          go_wp2_with fail
          go_ret
          exact ⟨ret_bool HNE.out.symm, (by repeat' (first | (with_reducible exact Below.refl _ _) | (with_reducible assumption) | (with_reducible apply Below.drew) | (with_reducible apply bel_drewN) | (with_reducible refine bel_alloc ?_ _) | (with_reducible refine Below.setCell ?_ ?_ _) | (with_reducible refine Below.alloc ?_ ?_ _) | omega | (simp; done) | (simp; omega) | (simp at *; omega)))⟩
        · rw [← h1] at f0
          have q2 : (ow x == ow y) = false := by simpa using h2
          clear h1 h2
          go_wp2_with fail
          go_quiet (fail)
          go_wp2_with fail
          go_ret
          exact ⟨ret_bool HNE.out.symm, (by repeat' (first | (with_reducible exact Below.refl _ _) | (with_reducible assumption) | (with_reducible apply Below.drew) | (with_reducible apply bel_drewN) | (with_reducible refine bel_alloc ?_ _) | (with_reducible refine Below.setCell ?_ ?_ _) | (with_reducible refine Below.alloc ?_ ?_ _) | omega | (simp; done) | (simp; omega) | (simp at *; omega)))⟩
        · rw [← h1] at f0
          rw [← h2] at f1
          have q3 : (ct x == ct y) = false := by simpa using h3
          clear h1 h2 h3
          go_wp2_with fail
          go_quiet (fail)
          go_wp2_with fail
          go_ret
          exact ⟨ret_bool HNE.out.symm, (by repeat' (first | (with_reducible exact Below.refl _ _) | (with_reducible assumption) | (with_reducible apply Below.drew) | (with_reducible apply bel_drewN) | (with_reducible refine bel_alloc ?_ _) | (with_reducible refine Below.setCell ?_ ?_ _) | (with_reducible refine Below.alloc ?_ ?_ _) | omega | (simp; done) | (simp; omega) | (simp at *; omega)))⟩
    · go_wp2_with fail
      go_ret
      refine ⟨ret_bool ?_, hB⟩
      have h1 := HT.out
      rw [List.take_of_length_le (by rw [HN.out]; omega), List.take_of_length_le (by rw [HN'.out]; omega)] at h1
      simp [h1]
theorem equal_diff (xs ys : List F) (a a' : Option Addr) (cap cap' n n' : Nat) (w : World) (hn : xs.length = n) (hn' : ys.length = n') (hne : n ≠ n') :
    Calls Try.prog 49 #[.slice a n cap, .slice a' n' cap'] w (Ret (.bool (decide (xs = ys))) w) := by
  have HNE := Lib.hid (show decide (xs = ys) = false from decide_eq_false (fun e => hne (by subst e; omega)))
  have q : ((n : Int) != (n' : Int)) = true := by simp; omega
  clear hn hn' hne
  go_enter Try.func49, Try.ntmps49
  go_wp2_with fail
  go_ret
  exact ⟨ret_bool HNE.out.symm, Below.refl _ _⟩
theorem equal_empty (a a' : Option Addr) (cap cap' : Nat) (w : World) :
    Calls Try.prog 49 #[.slice a 0 cap, .slice a' 0 cap'] w (Ret (.bool true) w) := by
  go_enter Try.func49, Try.ntmps49
  go_wp2_with fail
  refine wp_loop_rounds 1 ?_
  rw [rounds_succ]
  go_wp2_with fail
  go_ret
  exact ⟨rfl, Below.refl _ _⟩
theorem equal_any (xs ys : List F) (v v' : Value) (w : World) (hS : Sl w S3 xs v) (hw : ∀ x ∈ xs, S3.wf x) (hS' : Sl w S3 ys v') (hw' : ∀ x ∈ ys, S3.wf x) :
    Calls Try.prog 49 #[v, v'] w (Ret (.bool (decide (xs = ys))) w) := by
  obtain ⟨a, cap, rfl, hm⟩ := hS.len
  obtain ⟨a', cap', rfl, hm'⟩ := hS'.len
  by_cases hne : xs.length = ys.length
  · by_cases h0 : 0 < xs.length
    · have g := hS
      have g' := hS'
      rcases hS with ⟨hv, rfl⟩ | ⟨b, off, c, sp, hv, _, _, h3, _⟩
      · simp at h0
      rcases hS' with ⟨hv', rfl⟩ | ⟨b', off', c', sp', hv', _, _, h3', _⟩
      · rw [hne] at h0; simp at h0
      simp at hv hv'
      obtain ⟨rfl, rfl⟩ := hv
      obtain ⟨rfl, rfl⟩ := hv'
      obtain ⟨rfl, _⟩ := h3 h0
      obtain ⟨rfl, _⟩ := h3' (by omega)
      rw [← hne] at g' ⊢
      exact equal_same xs ys b off cap b' off' cap' xs.length w g hw g' hw' rfl hne.symm hm
    · have e1 : xs = [] := List.length_eq_zero_iff.1 (by omega)
      have e2 : ys = [] := List.length_eq_zero_iff.1 (by omega)
      subst e1 e2
      exact equal_empty a a' cap cap' w
  · exact equal_diff xs ys a a' cap cap' _ _ w rfl rfl hne
end Go.Proofs.YtccmjndnjpjohaaR.fr
