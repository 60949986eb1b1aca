/- Slices of int: their cells, slices.Equal. -/
import Derived.Test.YtccmjndnjpjohaaRSl2
import Derived.OwnWalk
namespace Go.Proofs.YtccmjndnjpjohaaR.ints
open Go.ChangeShapes Go.WideShapes Go.ChangeAt Go.RowKit help rep
set_option linter.all false

abbrev SI : Sh := .int .i64
theorem encI (xs : List Int) : (show List SI.T from xs).flatMap SI.enc = xs.map (Value.int .i64) := by
  induction xs with
  | nil => rfl
  | cons x r ih => exact congrArg (Value.int .i64 x :: ·) ih
theorem infI : (Try.prog.info? 3).map (fun i => (i.zero, i.size, i.bytes)) = some (some (.int .i64 0), 1, 8) := by kernel_rfl
/-- the cell of an element -/
theorem one {w : World} {xs : List Int} {a : Addr} {n cap : Nat} (h : Sl w SI xs (.slice (some a) n cap)) (k : Nat) (hk : k < xs.length) :
    w.cell? ⟨a.block, a.off + k, none⟩ = some (.int .i64 xs[k]) := by
  rcases h with ⟨hv, _⟩ | ⟨b, off, cap', sp, hv, h1, h2, h3, h4⟩
  · simp at hv
  · simp at hv
    obtain ⟨rfl, rfl, rfl⟩ := hv
    refine h4 k _ ?_
    rw [encI, List.getElem?_map, List.getElem?_eq_getElem hk]
    rfl
theorem si_open {w : World} {xs : List Int} {v : Value} (h : Sl w SI xs v) (h0 : 0 < xs.length) : ∃ b off cap, v = .slice (some ⟨b, off, none⟩) xs.length cap ∧ xs.length ≤ maxLen := by
  rcases h with ⟨hv, rfl⟩ | ⟨b, off, c, sp, rfl, h1, h2, h3, _⟩
  · exact absurd h0 (Nat.lt_irrefl 0)
  · obtain ⟨rfl, _⟩ := h3 h0
    exact ⟨b, off, c, rfl, Nat.le_trans h1 h2⟩
set_option maxHeartbeats 1000000 in
theorem equal_same (xs ys : List Int) (b off cap b' off' cap' n : Nat) (w : World) (hS : Sl w SI xs (.slice (some ⟨b, off, none⟩) n cap))
    (hS' : Sl w SI ys (.slice (some ⟨b', off', none⟩) n cap')) (hn : xs.length = n) (hn' : ys.length = n) (hm : n ≤ maxLen) :
    Calls Try.prog 48 #[.slice (some ⟨b, off, none⟩) n cap, .slice (some ⟨b', off', none⟩) n cap'] w (Ret (.bool (decide (xs = ys))) w) := by
  unfold maxLen at hm
  have HS := Lib.hid hS; have HS' := Lib.hid hS'; have HN := Lib.hid hn; have HN' := Lib.hid hn'
  clear hS hS' hn hn'
  go_enter Try.func48, Try.ntmps48
  go_wp2_with fail
  go_loopw [13] (fun i wr => ∃ k : Nat, k ≤ n ∧ i = .int .i64 k ∧ xs.take k = ys.take k ∧ Below w.heap.size w wr) (fun i _ => n - (intOf i).toNat)
  case atStart => exact ⟨0, by omega, rfl, rfl, Below.refl _ _⟩
  case round =>
    obtain ⟨k, hk, rfl, ht, hB⟩ := hrel
    have HT := Lib.hid ht
    clear ht
    by_cases hlt : k < n
    · have hl : k < xs.length := by rw [HN.out]; exact hlt
      have hl' : k < ys.length := by rw [HN'.out]; exact hlt
      have d0 := cell_later hB (one HS.out k hl)
      have f0 := cell_later hB (one HS'.out k hl')
      have g1 : (k : Int) < n := by omega
      by_cases hxy : xs[k] = ys[k]
      · rw [← hxy] at f0
        have HX := Lib.hid hxy
        clear hxy
        generalize hx : xs[k] = x at *
        have HXX := Lib.hid hx
        clear hx
        go_wp2_with fail
        go_quiet (fail)
        go_wp2_with fail
        go_roundw
        case rel => exact ⟨k + 1, by omega, by go_num, by rw [List.take_succ_eq_append_getElem hl, List.take_succ_eq_append_getElem hl', HT.out, HXX.out, HX.out], (by repeat' (first | (with_reducible exact Below.refl _ _) | (with_reducible assumption) | (with_reducible apply Below.drew) | (with_reducible apply bel_drewN) | (with_reducible refine bel_alloc ?_ _) | (with_reducible refine Below.setCell ?_ ?_ _) | (with_reducible refine Below.alloc ?_ ?_ _) | omega | (simp; done) | (simp; omega) | (simp at *; omega)))⟩
        case measure => try (first | (simp [intOf]; done) | (simp [intOf]; omega) | decide)
      · have HNE := Lib.hid (show decide (xs = ys) = false from decide_eq_false (fun e => hxy (by subst e; rfl)))
        have q : (xs[k] != ys[k]) = true := by simpa using hxy
        clear hxy
        generalize xs[k] = x at *
        generalize ys[k] = y at *
        go_wp2_with fail
        go_quiet (fail)
        go_wp2_with fail
        go_ret
        exact ⟨ret_bool HNE.out.symm, (by repeat' (first | (with_reducible exact Below.refl _ _) | (with_reducible assumption) | (with_reducible apply Below.drew) | (with_reducible apply bel_drewN) | (with_reducible refine bel_alloc ?_ _) | (with_reducible refine Below.setCell ?_ ?_ _) | (with_reducible refine Below.alloc ?_ ?_ _) | omega | (simp; done) | (simp; omega) | (simp at *; omega)))⟩
    · go_wp2_with fail
      go_ret
      refine ⟨ret_bool ?_, hB⟩
      have h1 := HT.out
      rw [List.take_of_length_le (by rw [HN.out]; omega), List.take_of_length_le (by rw [HN'.out]; omega)] at h1
      simp [h1]
theorem equal_diff (xs ys : List Int) (a a' : Option Addr) (cap cap' n n' : Nat) (w : World) (hn : xs.length = n) (hn' : ys.length = n') (hne : n ≠ n') :
    Calls Try.prog 48 #[.slice a n cap, .slice a' n' cap'] w (Ret (.bool (decide (xs = ys))) w) := by
  have HNE := Lib.hid (show decide (xs = ys) = false from decide_eq_false (fun e => hne (by subst e; omega)))
  have q : ((n : Int) != (n' : Int)) = true := by simp; omega
  clear hn hn' hne
  go_enter Try.func48, Try.ntmps48
  go_wp2_with fail
  go_ret
  exact ⟨ret_bool HNE.out.symm, Below.refl _ _⟩
theorem equal_empty (a a' : Option Addr) (cap cap' : Nat) (w : World) :
    Calls Try.prog 48 #[.slice a 0 cap, .slice a' 0 cap'] w (Ret (.bool true) w) := by
  go_enter Try.func48, Try.ntmps48
  go_wp2_with fail
  refine wp_loop_rounds 1 ?_
  rw [rounds_succ]
  go_wp2_with fail
  go_ret
  exact ⟨rfl, Below.refl _ _⟩
theorem equal_any (xs ys : List Int) (v v' : Value) (w : World) (hS : Sl w SI xs v) (hS' : Sl w SI ys v') :
    Calls Try.prog 48 #[v, v'] w (Ret (.bool (decide (xs = ys))) w) := by
  by_cases hne : xs.length = ys.length
  · by_cases h0 : 0 < xs.length
    · obtain ⟨b, off, cap, rfl, hm⟩ := si_open hS h0
      obtain ⟨b', off', cap', rfl, hm'⟩ := si_open hS' (by omega)
      rw [← hne] at hS' ⊢
      exact equal_same xs ys b off cap b' off' cap' xs.length w hS hS' rfl hne.symm hm
    · have e1 : xs = [] := List.length_eq_zero_iff.1 (by omega)
      have e2 : ys = [] := List.length_eq_zero_iff.1 (by omega)
      subst e1 e2
      obtain ⟨a, cap, rfl, hm⟩ := hS.len
      obtain ⟨a', cap', rfl, hm'⟩ := hS'.len
      exact equal_empty a a' cap cap' w
  · obtain ⟨a, cap, rfl, hm⟩ := hS.len
    obtain ⟨a', cap', rfl, hm'⟩ := hS'.len
    exact equal_diff xs ys a a' cap cap' _ _ w rfl rfl hne
end Go.Proofs.YtccmjndnjpjohaaR.ints
