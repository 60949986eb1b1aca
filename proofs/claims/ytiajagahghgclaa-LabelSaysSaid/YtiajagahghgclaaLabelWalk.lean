/- The walk of LabelSays. -/
import Derived.Test.YtiajagahghgclaaLab
namespace Go.Proofs.Ytiajagahghgclaa.labelWalk
open Go.ChangeShapes Go.WideShapes Go.ChangeAt Go.RowKit help lab
set_option linter.unusedVariables false

theorem chk_bad {l k : Int} (h : l < 0 ∨ 7 < l ∨ k < 0 ∨ 255 < k) : chk l k = 1 := if_pos h
theorem chk_good {l k : Int} (h : 0 ≤ l ∧ l ≤ 7 ∧ 0 ≤ k ∧ k ≤ 255) : chk l k = 0 := if_neg (by omega)
theorem flows_bad {l k l' k' : Int} (h : both l k l' k' = 1) (w : World) :
    Calls Try.prog 7 #[.agg #[.int .i64 l, .int .i64 k], .agg #[.int .i64 l', .int .i64 k']] w (Ret (.tuple #[.bool false, .int .i64 1]) w) := by
  have := flows_any l k l' k' w
  rw [h, show flows l k l' k' = false from by unfold flows; rw [if_neg (by omega)]] at this
  exact this
theorem join_bad {l k l' k' : Int} (h : both l k l' k' = 1) (w : World) :
    Calls Try.prog 8 #[.agg #[.int .i64 l, .int .i64 k], .agg #[.int .i64 l', .int .i64 k']] w (Ret (.tuple #[.agg #[.int .i64 0, .int .i64 0], .int .i64 1]) w) := by
  have := join_any l k l' k' w
  rw [h, show joinL l k l' k' = 0 from if_neg (by omega), show joinK l k l' k' = 0 from if_neg (by omega)] at this
  exact this
theorem meet_bad {l k l' k' : Int} (h : both l k l' k' = 1) (w : World) :
    Calls Try.prog 9 #[.agg #[.int .i64 l, .int .i64 k], .agg #[.int .i64 l', .int .i64 k']] w (Ret (.tuple #[.agg #[.int .i64 0, .int .i64 0], .int .i64 1]) w) := by
  have := meet_any l k l' k' w
  rw [h, show meetL l k l' k' = 0 from if_neg (by omega), show meetK l k l' k' = 0 from if_neg (by omega)] at this
  exact this

theorem check_bad {l k : Int} (h : chk l k = 1) (w : World) : Calls Try.prog 10 #[.agg #[.int .i64 l, .int .i64 k]] w (Ret (.int .i64 1) w) := by
  have := check_any l k w
  rw [h] at this
  exact this

set_option maxRecDepth 100000 in
set_option maxHeartbeats 1000000 in
theorem core_a (l k l' k' : Int) (w : World) (h : l < 0 ∨ 7 < l ∨ k < 0 ∨ 255 < k) :
    Calls Try.prog 3 #[.agg #[.int .i64 l, .int .i64 k], .agg #[.int .i64 l', .int .i64 k']] w (Ret (.bool true) w) := by
  have hck := Lib.hid (chk_bad h)
  have hb := Lib.hid (show both l k l' k' = 1 from if_neg (by rw [hck.out]; omega))
  go_enter Try.func3, Try.ntmps3
  go_wp2_with fail
  refine (flows_bad hb.out _).mono ?_
  rintro e w1 ⟨rfl, hb1⟩
  have hB1 : Below w.heap.size w w1 := Below.trans (by repeat' (first | exact Below.refl _ _ | assumption | apply Below.drew | apply bel_drewN | (refine Below.alloc ?_ (by first | omega | (simp; done) | (simp; omega) | (simp at *; omega)) _) | (refine Below.setCell ?_ (by first | omega | (simp; done) | (simp; omega) | (simp at *; omega)) _))) (hb1.mono (by first | omega | (simp; done) | (simp; omega) | (simp at *; omega)))
  have kA := Blk.later hb1 ((Blk.new _ _ _).alloc _)
  have cA := kA.cells; have fA := kA.frz; have lA := kA.lt
  have kB := Blk.later hb1 (Blk.new _ _ _)
  simp only [World.size_alloc] at kB
  have cB := kB.cells; have fB := kB.frz; have lB := kB.lt
  have z1 := hb1.size; (try simp only [World.size_alloc, World.size_setCell] at z1); clear hb1
  have ha1 := alloc_some; have ha2 := alloc_some2; have ha3 := alloc_some3; have ha4 := alloc_some4; have ha5 := alloc_some5; have hq1 := alloc_frz; have hq2 := alloc_frz2; have hq3 := alloc_frz3
  go_wp2_with fail
  refine (join_bad hb.out _).mono ?_
  rintro e w2 ⟨rfl, hb2⟩
  have hB2 : Below w.heap.size w w2 := Below.trans (by repeat' (first | exact Below.refl _ _ | assumption | apply Below.drew | apply bel_drewN | (refine Below.alloc ?_ (by first | omega | (simp; done) | (simp; omega) | (simp at *; omega)) _) | (refine Below.setCell ?_ (by first | omega | (simp; done) | (simp; omega) | (simp at *; omega)) _))) (hb2.mono (by first | omega | (simp; done) | (simp; omega) | (simp at *; omega)))
  replace kA := Blk.later hb2 kA
  replace cA := kA.cells; replace fA := kA.frz; replace lA := kA.lt
  replace kB := Blk.later hb2 kB
  replace cB := kB.cells; replace fB := kB.frz; replace lB := kB.lt
  have z2 := hb2.size; (try simp only [World.size_alloc, World.size_setCell] at z2); clear hb2
  go_wp2_with fail
  refine (meet_bad hb.out _).mono ?_
  rintro e w3 ⟨rfl, hb3⟩
  have hB3 : Below w.heap.size w w3 := Below.trans (by repeat' (first | exact Below.refl _ _ | assumption | apply Below.drew | apply bel_drewN | (refine Below.alloc ?_ (by first | omega | (simp; done) | (simp; omega) | (simp at *; omega)) _) | (refine Below.setCell ?_ (by first | omega | (simp; done) | (simp; omega) | (simp at *; omega)) _))) (hb3.mono (by first | omega | (simp; done) | (simp; omega) | (simp at *; omega)))
  replace kA := Blk.later hb3 (kA.alloc _)
  replace cA := kA.cells; replace fA := kA.frz; replace lA := kA.lt
  replace kB := Blk.later hb3 (kB.alloc _)
  replace cB := kB.cells; replace fB := kB.frz; replace lB := kB.lt
  have kJ := Blk.later hb3 (Blk.new _ _ _)
  have cJ := kJ.cells; have fJ := kJ.frz; have lJ := kJ.lt
  have z3 := hb3.size; (try simp only [World.size_alloc, World.size_setCell] at z3); clear hb3
  go_wp2_with fail
  refine wp_loop_rounds 1 ?_
  rw [rounds_succ]
  go_wp2_with fail
  all_goals
    refine (check_bad hck.out _).mono ?_
    rintro e w4 ⟨rfl, hb4⟩
    have hB4 : Below w.heap.size w w4 := Below.trans (by repeat' (first | exact Below.refl _ _ | assumption | apply Below.drew | apply bel_drewN | (refine Below.alloc ?_ (by first | omega | (simp; done) | (simp; omega) | (simp at *; omega)) _) | (refine Below.setCell ?_ (by first | omega | (simp; done) | (simp; omega) | (simp at *; omega)) _))) (hb4.mono (by first | omega | (simp; done) | (simp; omega) | (simp at *; omega)))
    have z4 := hb4.size; (try simp only [World.size_alloc, World.size_setCell] at z4); clear hb4
    go_wp2_with fail
    go_ret
    exact ⟨rfl, hB4⟩

set_option maxRecDepth 100000 in
set_option maxHeartbeats 1000000 in
theorem core_b (l k l' k' : Int) (w : World) (h : 0 ≤ l ∧ l ≤ 7 ∧ 0 ≤ k ∧ k ≤ 255) (h' : l' < 0 ∨ 7 < l' ∨ k' < 0 ∨ 255 < k') :
    Calls Try.prog 3 #[.agg #[.int .i64 l, .int .i64 k], .agg #[.int .i64 l', .int .i64 k']] w (Ret (.bool true) w) := by
  have hck := Lib.hid (chk_bad h')
  have hb := Lib.hid (show both l k l' k' = 1 from by unfold both; rw [if_pos (chk_good h), hck.out])
  obtain ⟨h1, h2, h3, h4⟩ := h
  go_enter Try.func3, Try.ntmps3
  go_wp2_with fail
  refine (flows_bad hb.out _).mono ?_
  rintro e w1 ⟨rfl, hb1⟩
  have hB1 : Below w.heap.size w w1 := Below.trans (by repeat' (first | exact Below.refl _ _ | assumption | apply Below.drew | apply bel_drewN | (refine Below.alloc ?_ (by first | omega | (simp; done) | (simp; omega) | (simp at *; omega)) _) | (refine Below.setCell ?_ (by first | omega | (simp; done) | (simp; omega) | (simp at *; omega)) _))) (hb1.mono (by first | omega | (simp; done) | (simp; omega) | (simp at *; omega)))
  have kA := Blk.later hb1 ((Blk.new _ _ _).alloc _)
  have cA := kA.cells; have fA := kA.frz; have lA := kA.lt
  have kB := Blk.later hb1 (Blk.new _ _ _)
  simp only [World.size_alloc] at kB
  have cB := kB.cells; have fB := kB.frz; have lB := kB.lt
  have z1 := hb1.size; (try simp only [World.size_alloc, World.size_setCell] at z1); clear hb1
  have ha1 := alloc_some; have ha2 := alloc_some2; have ha3 := alloc_some3; have ha4 := alloc_some4; have ha5 := alloc_some5; have hq1 := alloc_frz; have hq2 := alloc_frz2; have hq3 := alloc_frz3
  go_wp2_with fail
  refine (join_bad hb.out _).mono ?_
  rintro e w2 ⟨rfl, hb2⟩
  have hB2 : Below w.heap.size w w2 := Below.trans (by repeat' (first | exact Below.refl _ _ | assumption | apply Below.drew | apply bel_drewN | (refine Below.alloc ?_ (by first | omega | (simp; done) | (simp; omega) | (simp at *; omega)) _) | (refine Below.setCell ?_ (by first | omega | (simp; done) | (simp; omega) | (simp at *; omega)) _))) (hb2.mono (by first | omega | (simp; done) | (simp; omega) | (simp at *; omega)))
  replace kA := Blk.later hb2 kA
  replace cA := kA.cells; replace fA := kA.frz; replace lA := kA.lt
  replace kB := Blk.later hb2 kB
  replace cB := kB.cells; replace fB := kB.frz; replace lB := kB.lt
  have z2 := hb2.size; (try simp only [World.size_alloc, World.size_setCell] at z2); clear hb2
  go_wp2_with fail
  refine (meet_bad hb.out _).mono ?_
  rintro e w3 ⟨rfl, hb3⟩
  have hB3 : Below w.heap.size w w3 := Below.trans (by repeat' (first | exact Below.refl _ _ | assumption | apply Below.drew | apply bel_drewN | (refine Below.alloc ?_ (by first | omega | (simp; done) | (simp; omega) | (simp at *; omega)) _) | (refine Below.setCell ?_ (by first | omega | (simp; done) | (simp; omega) | (simp at *; omega)) _))) (hb3.mono (by first | omega | (simp; done) | (simp; omega) | (simp at *; omega)))
  replace kA := Blk.later hb3 (kA.alloc _)
  replace cA := kA.cells; replace fA := kA.frz; replace lA := kA.lt
  replace kB := Blk.later hb3 (kB.alloc _)
  replace cB := kB.cells; replace fB := kB.frz; replace lB := kB.lt
  have kJ := Blk.later hb3 (Blk.new _ _ _)
  have cJ := kJ.cells; have fJ := kJ.frz; have lJ := kJ.lt
  have z3 := hb3.size; (try simp only [World.size_alloc, World.size_setCell] at z3); clear hb3
  go_wp2_with fail
  refine wp_loop_rounds 2 ?_
  rw [rounds_succ]
  go_wp2_with fail
  rw [rounds_succ]
  go_wp2_with fail
  all_goals
    refine (check_bad hck.out _).mono ?_
    rintro e w4 ⟨rfl, hb4⟩
    have hB4 : Below w.heap.size w w4 := Below.trans (by repeat' (first | exact Below.refl _ _ | assumption | apply Below.drew | apply bel_drewN | (refine Below.alloc ?_ (by first | omega | (simp; done) | (simp; omega) | (simp at *; omega)) _) | (refine Below.setCell ?_ (by first | omega | (simp; done) | (simp; omega) | (simp at *; omega)) _))) (hb4.mono (by first | omega | (simp; done) | (simp; omega) | (simp at *; omega)))
    have z4 := hb4.size; (try simp only [World.size_alloc, World.size_setCell] at z4); clear hb4
    go_wp2_with fail
    go_ret
    exact ⟨rfl, hB4⟩

theorem flows_good {l k l' k' : Int} (h : both l k l' k' = 0) (w : World) :
    Calls Try.prog 7 #[.agg #[.int .i64 l, .int .i64 k], .agg #[.int .i64 l', .int .i64 k']] w (Ret (.tuple #[.bool (flows l k l' k'), .int .i64 0]) w) := by
  have := flows_any l k l' k' w
  rw [h] at this
  exact this
theorem join_good {l k l' k' : Int} (h : both l k l' k' = 0) (w : World) :
    Calls Try.prog 8 #[.agg #[.int .i64 l, .int .i64 k], .agg #[.int .i64 l', .int .i64 k']] w (Ret (.tuple #[.agg #[.int .i64 (max l l'), .int .i64 (bits .or .i64 k k')], .int .i64 0]) w) := by
  have := join_any l k l' k' w
  rw [h, show joinL l k l' k' = max l l' from if_pos h, show joinK l k l' k' = bits .or .i64 k k' from if_pos h] at this
  exact this
theorem meet_good {l k l' k' : Int} (h : both l k l' k' = 0) (w : World) :
    Calls Try.prog 9 #[.agg #[.int .i64 l, .int .i64 k], .agg #[.int .i64 l', .int .i64 k']] w (Ret (.tuple #[.agg #[.int .i64 (min l l'), .int .i64 (bits .and .i64 k k')], .int .i64 0]) w) := by
  have := meet_any l k l' k' w
  rw [h, show meetL l k l' k' = min l l' from if_pos h, show meetK l k l' k' = bits .and .i64 k k' from if_pos h] at this
  exact this

/-! the bits -/
theorem lacks_iff (k k' : Int) (h1 : 0 ≤ k) (h2 : k ≤ 255) (h3 : 0 ≤ k') (h4 : k' ≤ 255) (i : Nat) : lacks k k' i = (k.toNat.testBit i && !k'.toNat.testBit i) := by
  obtain ⟨K, rfl⟩ := Int.eq_ofNat_of_zero_le h1
  obtain ⟨K', rfl⟩ := Int.eq_ofNat_of_zero_le h3
  have e1 : ((K : Int) / 2 ^ i) = ((K / 2 ^ i : Nat) : Int) := by simp
  have e2 : ((K' : Int) / 2 ^ i) = ((K' / 2 ^ i : Nat) : Int) := by simp
  have b1 : K / 2 ^ i ≤ K := Nat.div_le_self _ _
  have b2 : K' / 2 ^ i ≤ K' := Nat.div_le_self _ _
  unfold lacks
  rw [e1, e2, show (1 : Int) = ((1 : Nat) : Int) from rfl, i64_and_nat _ _ (by omega) (by omega), i64_and_nat _ _ (by omega) (by omega), Nat.and_one_is_mod, Nat.and_one_is_mod]
  simp only [Int.toNat_natCast, Nat.testBit_eq_decide_div_mod_eq]
  have m1 : K / 2 ^ i % 2 < 2 := Nat.mod_lt _ (by omega)
  have m2 : K' / 2 ^ i % 2 < 2 := Nat.mod_lt _ (by omega)
  generalize K / 2 ^ i % 2 = x at *
  generalize K' / 2 ^ i % 2 = y at *
  have hx : x = 0 ∨ x = 1 := by omega
  have hy : y = 0 ∨ y = 1 := by omega
  rcases hx with rfl | rfl <;> rcases hy with rfl | rfl <;> rfl

end Go.Proofs.Ytiajagahghgclaa.labelWalk
