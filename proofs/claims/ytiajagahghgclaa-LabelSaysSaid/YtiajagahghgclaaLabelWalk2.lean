/- The walk of LabelSays where both labels are right. -/
import Derived.Test.YtiajagahghgclaaLabelWalk
namespace Go.Proofs.Ytiajagahghgclaa.labelWalk
open Go.ChangeShapes Go.WideShapes Go.ChangeAt Go.RowKit help lab
set_option linter.unusedVariables false

theorem any_lacks (k k' : Int) (h1 : 0 ≤ k) (h2 : k ≤ 255) (h3 : 0 ≤ k') (h4 : k' ≤ 255) : (List.range 8).any (lacks k k') = (List.range 8).any fun i => k.toNat.testBit i && !k'.toNat.testBit i := by
  congr 1; funext i; exact lacks_iff k k' h1 h2 h3 h4 i
theorem fo_flows (l k l' k' : Int) (h : both l k l' k' = 0) (h1 : 0 ≤ k) (h2 : k ≤ 255) (h3 : 0 ≤ k') (h4 : k' ≤ 255) : fo l k l' k' = flows l k l' k' := by
  unfold fo flows
  rw [if_pos h, any_lacks k k' h1 h2 h3 h4]
  obtain ⟨K, rfl⟩ := Int.eq_ofNat_of_zero_le h1
  obtain ⟨K', rfl⟩ := Int.eq_ofNat_of_zero_le h3
  rw [i64_andNot_nat _ _ (by omega) (by omega)]
  have e := andNot0 K K' (by omega) (by omega)
  have e2 : ((((K &&& (18446744073709551615 - K') : Nat)) : Int) == 0) = ((K &&& (18446744073709551615 - K')) == 0) := by
    rw [Bool.eq_iff_iff]; simp only [beq_iff_eq]; omega
  rw [e2, e]
  simp only [Int.toNat_natCast]
  by_cases hx : ((List.range 8).any fun i => K.testBit i && !K'.testBit i) = true
  · rw [if_pos hx, hx]; simp
  · rw [if_neg hx, (by simpa using hx : ((List.range 8).any fun i => K.testBit i && !K'.testBit i) = false)]; simp
theorem fo_true (k k' : Int) (h1 : 0 ≤ k) (h2 : k ≤ 255) (h3 : 0 ≤ k') (h4 : k' ≤ 255) (h : ∀ i, k.toNat.testBit i = true → k'.toNat.testBit i = true) : fo 0 k 0 k' = true := by
  unfold fo
  rw [any_lacks k k' h1 h2 h3 h4, if_neg]
  · rfl
  · simp only [List.any_eq_true, not_exists]
    intro i hi
    have h5 := h i
    simp at hi
    rw [h5 hi.2.1] at hi
    simp at hi
theorem or_bd (k k' : Int) (h1 : 0 ≤ k) (h2 : k ≤ 255) (h3 : 0 ≤ k') (h4 : k' ≤ 255) : bits .or .i64 k k' = ((k.toNat ||| k'.toNat : Nat) : Int) ∧ 0 ≤ bits .or .i64 k k' ∧ bits .or .i64 k k' ≤ 255 := by
  obtain ⟨K, rfl⟩ := Int.eq_ofNat_of_zero_le h1
  obtain ⟨K', rfl⟩ := Int.eq_ofNat_of_zero_le h3
  rw [i64_or_nat _ _ (by omega) (by omega)]
  have : K ||| K' < 2 ^ 8 := Nat.or_lt_two_pow (by omega) (by omega)
  simp; omega
theorem and_bd (k k' : Int) (h1 : 0 ≤ k) (h2 : k ≤ 255) (h3 : 0 ≤ k') (h4 : k' ≤ 255) : bits .and .i64 k k' = ((k.toNat &&& k'.toNat : Nat) : Int) ∧ 0 ≤ bits .and .i64 k k' ∧ bits .and .i64 k k' ≤ 255 := by
  obtain ⟨K, rfl⟩ := Int.eq_ofNat_of_zero_le h1
  obtain ⟨K', rfl⟩ := Int.eq_ofNat_of_zero_le h3
  rw [i64_and_nat _ _ (by omega) (by omega)]
  have : K &&& K' < 2 ^ 8 := Nat.and_lt_two_pow _ (by omega)
  simp; omega

theorem flowsOf_q (l k l' k' : Int) (w : World) (hk : 0 ≤ k) (hk' : 0 ≤ k') :
    Calls Try.prog 11 #[.int .i64 l, .int .i64 k, .int .i64 l', .int .i64 k'] w fun e w' => e = .returned (.bool (fo l k l' k')) ∧ w' = w :=
  (flowsOf_any l k l' k' w hk hk').mono fun _ _ ⟨a, b⟩ => ⟨a, b.symm⟩
set_option maxRecDepth 100000 in
set_option maxHeartbeats 4000000 in
theorem core_c1 (l k l' k' : Int) (w : World) (h : 0 ≤ l ∧ l ≤ 7 ∧ 0 ≤ k ∧ k ≤ 255) (hll : l ≤ l') (h' : 0 ≤ l' ∧ l' ≤ 7 ∧ 0 ≤ k' ∧ k' ≤ 255) :
    Calls Try.prog 3 #[.agg #[.int .i64 l, .int .i64 k], .agg #[.int .i64 l', .int .i64 k']] w (Ret (.bool true) w) := by
  have hb := Lib.hid (show both l k l' k' = 0 from by unfold both; rw [if_pos (chk_good h), chk_good h'])
  obtain ⟨h1, h2, h3, h4⟩ := h
  obtain ⟨h5, h6, h7, h8⟩ := h'
  have hfo := fo_flows l k l' k' hb.out h3 h4 h7 h8
  obtain ⟨eo, o1, o2⟩ := or_bd k k' h3 h4 h7 h8
  obtain ⟨ea, a1, a2⟩ := and_bd k k' h3 h4 h7 h8
  have hsum : (bits .or .i64 k k' + bits .and .i64 k k' == k + k') = true := by
    rw [eo, ea, beq_iff_eq]
    have := or_add_and k.toNat k'.toNat
    omega
  have f1 : fo 0 (bits .and .i64 k k') 0 k = true := fo_true _ _ a1 a2 h3 h4 (fun i => by rw [ea]; simp [Nat.testBit_and]; exact fun a _ => a)
  have f2 : fo 0 (bits .and .i64 k k') 0 k' = true := fo_true _ _ a1 a2 h7 h8 (fun i => by rw [ea]; simp [Nat.testBit_and])
  have f3 : fo 0 k 0 (bits .or .i64 k k') = true := fo_true _ _ h3 h4 o1 o2 (fun i => by rw [eo]; simp [Nat.testBit_or]; exact fun a => .inl a)
  have f4 : fo 0 k' 0 (bits .or .i64 k k') = true := fo_true _ _ h7 h8 o1 o2 (fun i => by rw [eo]; simp [Nat.testBit_or]; exact fun a => .inr a)
  clear eo ea
  have e1 : max l l' = l' := Int.max_eq_right hll
  have e2 : min l l' = l := Int.min_eq_left hll
  have J := fun w => join_good hb.out w
  have M := fun w => meet_good hb.out w
  rw [e1] at J
  rw [e2] at M
  have HJ := Lib.hid J
  have HM := Lib.hid M
  clear J M e1 e2
  go_enter Try.func3, Try.ntmps3
  go_wp2_with fail
  refine (flows_good hb.out _).mono ?_
  rintro e w1 ⟨rfl, hb1⟩
  have hB1 : Below w.heap.size w w1 := Below.trans (by repeat' (first | exact Below.refl _ _ | assumption | apply Below.drew | apply bel_drewN | (refine Below.alloc ?_ (by first | omega | (simp; done) | (simp; omega) | (simp at *; omega)) _) | (refine Below.setCell ?_ (by first | omega | (simp; done) | (simp; omega) | (simp at *; omega)) _))) (hb1.mono (by first | omega | (simp; done) | (simp; omega) | (simp at *; omega)))
  have kA := Blk.later hb1 ((Blk.new _ _ _).alloc _)
  have cA := kA.cells; have fA := kA.frz; have lA := kA.lt
  have kB := Blk.later hb1 (Blk.new _ _ _)
  simp only [World.size_alloc] at kB
  have cB := kB.cells; have fB := kB.frz; have lB := kB.lt
  have z1 := hb1.size; (try simp only [World.size_alloc, World.size_setCell] at z1); clear hb1
  have ha1 := alloc_some; have ha2 := alloc_some2; have ha3 := alloc_some3; have ha4 := alloc_some4; have ha5 := alloc_some5; have hq1 := alloc_frz; have hq2 := alloc_frz2; have hq3 := alloc_frz3
  go_wp2_with fail
  refine (HJ.out _).mono ?_
  rintro e w2 ⟨rfl, hb2⟩
  have hB2 : Below w.heap.size w w2 := Below.trans (by repeat' (first | exact Below.refl _ _ | assumption | apply Below.drew | apply bel_drewN | (refine Below.alloc ?_ (by first | omega | (simp; done) | (simp; omega) | (simp at *; omega)) _) | (refine Below.setCell ?_ (by first | omega | (simp; done) | (simp; omega) | (simp at *; omega)) _))) (hb2.mono (by first | omega | (simp; done) | (simp; omega) | (simp at *; omega)))
  replace kA := Blk.later hb2 kA
  replace cA := kA.cells; replace fA := kA.frz; replace lA := kA.lt
  replace kB := Blk.later hb2 kB
  replace cB := kB.cells; replace fB := kB.frz; replace lB := kB.lt
  have z2 := hb2.size; (try simp only [World.size_alloc, World.size_setCell] at z2); clear hb2
  go_wp2_with fail
  refine (HM.out _).mono ?_
  rintro e w3 ⟨rfl, hb3⟩
  have hB3 : Below w.heap.size w w3 := Below.trans (by repeat' (first | exact Below.refl _ _ | assumption | apply Below.drew | apply bel_drewN | (refine Below.alloc ?_ (by first | omega | (simp; done) | (simp; omega) | (simp at *; omega)) _) | (refine Below.setCell ?_ (by first | omega | (simp; done) | (simp; omega) | (simp at *; omega)) _))) (hb3.mono (by first | omega | (simp; done) | (simp; omega) | (simp at *; omega)))
  replace kA := Blk.later hb3 (kA.alloc _)
  replace cA := kA.cells; replace fA := kA.frz; replace lA := kA.lt
  replace kB := Blk.later hb3 (kB.alloc _)
  replace cB := kB.cells; replace fB := kB.frz; replace lB := kB.lt
  have kJ := Blk.later hb3 (Blk.new _ _ _)
  have cJ := kJ.cells; have fJ := kJ.frz; have lJ := kJ.lt
  have z3 := hb3.size; (try simp only [World.size_alloc, World.size_setCell] at z3); clear hb3
  go_wp2_with fail
  refine wp_loop_rounds 3 ?_
  rw [rounds_succ]
  go_wp2_with fail
  rw [rounds_succ]
  go_wp2_with fail
  rw [rounds_succ]
  go_wp2_with fail
  go_quiet (fail)
  go_wp2_with (go_at_call 11; refine (flowsOf_any _ _ _ _ _ (by omega) (by omega)).mono ?_; rintro e w' ⟨rfl, rfl⟩)
  all_goals go_ret
  all_goals exact ⟨rfl, (by repeat' (first | exact Below.refl _ _ | assumption | apply Below.drew | apply bel_drewN | (refine Below.alloc ?_ (by first | omega | (simp; done) | (simp; omega) | (simp at *; omega)) _) | (refine Below.setCell ?_ (by first | omega | (simp; done) | (simp; omega) | (simp at *; omega)) _)))⟩

set_option maxRecDepth 100000 in
set_option maxHeartbeats 4000000 in
theorem core_c2 (l k l' k' : Int) (w : World) (h : 0 ≤ l ∧ l ≤ 7 ∧ 0 ≤ k ∧ k ≤ 255) (hll : l' < l) (h' : 0 ≤ l' ∧ l' ≤ 7 ∧ 0 ≤ k' ∧ k' ≤ 255) :
    Calls Try.prog 3 #[.agg #[.int .i64 l, .int .i64 k], .agg #[.int .i64 l', .int .i64 k']] w (Ret (.bool true) w) := by
  have hb := Lib.hid (show both l k l' k' = 0 from by unfold both; rw [if_pos (chk_good h), chk_good h'])
  obtain ⟨h1, h2, h3, h4⟩ := h
  obtain ⟨h5, h6, h7, h8⟩ := h'
  have hfo := fo_flows l k l' k' hb.out h3 h4 h7 h8
  obtain ⟨eo, o1, o2⟩ := or_bd k k' h3 h4 h7 h8
  obtain ⟨ea, a1, a2⟩ := and_bd k k' h3 h4 h7 h8
  have hsum : (bits .or .i64 k k' + bits .and .i64 k k' == k + k') = true := by
    rw [eo, ea, beq_iff_eq]
    have := or_add_and k.toNat k'.toNat
    omega
  have f1 : fo 0 (bits .and .i64 k k') 0 k = true := fo_true _ _ a1 a2 h3 h4 (fun i => by rw [ea]; simp [Nat.testBit_and]; exact fun a _ => a)
  have f2 : fo 0 (bits .and .i64 k k') 0 k' = true := fo_true _ _ a1 a2 h7 h8 (fun i => by rw [ea]; simp [Nat.testBit_and])
  have f3 : fo 0 k 0 (bits .or .i64 k k') = true := fo_true _ _ h3 h4 o1 o2 (fun i => by rw [eo]; simp [Nat.testBit_or]; exact fun a => .inl a)
  have f4 : fo 0 k' 0 (bits .or .i64 k k') = true := fo_true _ _ h7 h8 o1 o2 (fun i => by rw [eo]; simp [Nat.testBit_or]; exact fun a => .inr a)
  clear eo ea
  have e1 : max l l' = l := Int.max_eq_left (by omega)
  have e2 : min l l' = l' := Int.min_eq_right (by omega)
  have J := fun w => join_good hb.out w
  have M := fun w => meet_good hb.out w
  rw [e1] at J
  rw [e2] at M
  have HJ := Lib.hid J
  have HM := Lib.hid M
  clear J M e1 e2
  go_enter Try.func3, Try.ntmps3
  go_wp2_with fail
  refine (flows_good hb.out _).mono ?_
  rintro e w1 ⟨rfl, hb1⟩
  have hB1 : Below w.heap.size w w1 := Below.trans (by repeat' (first | exact Below.refl _ _ | assumption | apply Below.drew | apply bel_drewN | (refine Below.alloc ?_ (by first | omega | (simp; done) | (simp; omega) | (simp at *; omega)) _) | (refine Below.setCell ?_ (by first | omega | (simp; done) | (simp; omega) | (simp at *; omega)) _))) (hb1.mono (by first | omega | (simp; done) | (simp; omega) | (simp at *; omega)))
  have kA := Blk.later hb1 ((Blk.new _ _ _).alloc _)
  have cA := kA.cells; have fA := kA.frz; have lA := kA.lt
  have kB := Blk.later hb1 (Blk.new _ _ _)
  simp only [World.size_alloc] at kB
  have cB := kB.cells; have fB := kB.frz; have lB := kB.lt
  have z1 := hb1.size; (try simp only [World.size_alloc, World.size_setCell] at z1); clear hb1
  have ha1 := alloc_some; have ha2 := alloc_some2; have ha3 := alloc_some3; have ha4 := alloc_some4; have ha5 := alloc_some5; have hq1 := alloc_frz; have hq2 := alloc_frz2; have hq3 := alloc_frz3
  go_wp2_with fail
  refine (HJ.out _).mono ?_
  rintro e w2 ⟨rfl, hb2⟩
  have hB2 : Below w.heap.size w w2 := Below.trans (by repeat' (first | exact Below.refl _ _ | assumption | apply Below.drew | apply bel_drewN | (refine Below.alloc ?_ (by first | omega | (simp; done) | (simp; omega) | (simp at *; omega)) _) | (refine Below.setCell ?_ (by first | omega | (simp; done) | (simp; omega) | (simp at *; omega)) _))) (hb2.mono (by first | omega | (simp; done) | (simp; omega) | (simp at *; omega)))
  replace kA := Blk.later hb2 kA
  replace cA := kA.cells; replace fA := kA.frz; replace lA := kA.lt
  replace kB := Blk.later hb2 kB
  replace cB := kB.cells; replace fB := kB.frz; replace lB := kB.lt
  have z2 := hb2.size; (try simp only [World.size_alloc, World.size_setCell] at z2); clear hb2
  go_wp2_with fail
  refine (HM.out _).mono ?_
  rintro e w3 ⟨rfl, hb3⟩
  have hB3 : Below w.heap.size w w3 := Below.trans (by repeat' (first | exact Below.refl _ _ | assumption | apply Below.drew | apply bel_drewN | (refine Below.alloc ?_ (by first | omega | (simp; done) | (simp; omega) | (simp at *; omega)) _) | (refine Below.setCell ?_ (by first | omega | (simp; done) | (simp; omega) | (simp at *; omega)) _))) (hb3.mono (by first | omega | (simp; done) | (simp; omega) | (simp at *; omega)))
  replace kA := Blk.later hb3 (kA.alloc _)
  replace cA := kA.cells; replace fA := kA.frz; replace lA := kA.lt
  replace kB := Blk.later hb3 (kB.alloc _)
  replace cB := kB.cells; replace fB := kB.frz; replace lB := kB.lt
  have kJ := Blk.later hb3 (Blk.new _ _ _)
  have cJ := kJ.cells; have fJ := kJ.frz; have lJ := kJ.lt
  have z3 := hb3.size; (try simp only [World.size_alloc, World.size_setCell] at z3); clear hb3
  go_wp2_with fail
  refine wp_loop_rounds 3 ?_
  rw [rounds_succ]
  go_wp2_with fail
  rw [rounds_succ]
  go_wp2_with fail
  rw [rounds_succ]
  go_wp2_with fail
  go_quiet (fail)
  go_wp2_with (go_at_call 11; refine (flowsOf_any _ _ _ _ _ (by omega) (by omega)).mono ?_; rintro e w' ⟨rfl, rfl⟩)
  all_goals go_ret
  all_goals exact ⟨rfl, (by repeat' (first | exact Below.refl _ _ | assumption | apply Below.drew | apply bel_drewN | (refine Below.alloc ?_ (by first | omega | (simp; done) | (simp; omega) | (simp at *; omega)) _) | (refine Below.setCell ?_ (by first | omega | (simp; done) | (simp; omega) | (simp at *; omega)) _)))⟩

theorem core (l k l' k' : Int) (w : World) :
    Calls Try.prog 3 #[.agg #[.int .i64 l, .int .i64 k], .agg #[.int .i64 l', .int .i64 k']] w (Ret (.bool true) w) := by
  by_cases h : 0 ≤ l ∧ l ≤ 7 ∧ 0 ≤ k ∧ k ≤ 255
  · by_cases h' : 0 ≤ l' ∧ l' ≤ 7 ∧ 0 ≤ k' ∧ k' ≤ 255
    · by_cases hll : l ≤ l'
      · exact core_c1 l k l' k' w h hll h'
      · exact core_c2 l k l' k' w h (by omega) h'
    · exact core_b l k l' k' w h (by omega)
  · exact core_a l k l' k' w (by omega)
end Go.Proofs.Ytiajagahghgclaa.labelWalk
