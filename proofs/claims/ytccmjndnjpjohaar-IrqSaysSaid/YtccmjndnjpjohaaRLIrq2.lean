/- IrqSays returns true for every four numbers, every line and either way, and leaves its arguments alone. No condition. -/
import Derived.Test.YtccmjndnjpjohaaRLIrq
namespace Go.Proofs.YtccmjndnjpjohaaR.irqSays
open Go.ChangeShapes Go.WideShapes Go.ChangeAt Go.RowKit help rep pv
set_option linter.all false

theorem neq_refl (x : S_irq_Lines) : eqRes .neq (eqS_irq_Lines x x) = false := by rw [eqS_refl]; rfl
section
variable {E U M P : Nat} (hE : E < 256) (hU : U < 256) (hM : M < 256) (hP : P < 256) (hok : okp E P = true)
include hE hU hM hP hok
theorem c5_ok (k : Int) (on : Bool) (r22 r27 : S_irq_Lines × Int) (A : Fin 8 → S_ringref5_Line) :
    (match fd (cb E U M P) 8 0 with | some j => G_ringlaw5_IrqSays_C5 50 P k on r22 r27 ((j : Int), 0) (L E U M (an P (2 ^ j)), (j : Int), 0) (j : Int) E U M A | none => G_ringlaw5_IrqSays_C5 50 P k on r22 r27 (0, 4) (zz, 0, 4) (-1) E U M A) = some .x1 := by
  cases hj : fd (cb E U M P) 8 0 with
  | none =>
    show G_ringlaw5_IrqSays_C5 50 P k on r22 r27 (0, 4) (zz, 0, 4) (-1) E U M A = some .x1
    unfold G_ringlaw5_IrqSays_C5 G_ringlaw5_IrqSays_C2
    rw [if_pos (by decide)]
    simp only [if_true]
    rw [show eqRes .neq (eqS_irq_Lines zz (S_irq_Lines.mk 0 0 0 0)) = false from neq_refl zz]
    rfl
  | some j =>
    have hlt := fd_lt hj
    show G_ringlaw5_IrqSays_C5 50 P k on r22 r27 ((j : Int), 0) (L E U M (an P (2 ^ j)), (j : Int), 0) (j : Int) E U M A = some .x1
    unfold G_ringlaw5_IrqSays_C5
    rw [if_neg (by omega), if_pos (by omega), shr_bit hP (by omega)]
    have hl := less_bit P hP j (by omega)
    cases hb : P.testBit j with
    | true =>
      rw [hb] at hl
      simp only [if_true] at hl ⊢
      rw [if_pos (by omega)]
      unfold G_ringlaw5_IrqSays_C3
      simp only [if_true]
      have e : wi .i64 ((P : Int) - shlI .i64 1 (j : Int)) = ((an P (2 ^ j) : Nat) : Int) := by
        rw [shl_one (by omega)]
        generalize 2 ^ j = q at hl ⊢
        rw [wi64 (by omega) (by omega)]; omega
      rw [e, show S_irq_Lines.mk (E : Int) (U : Int) (M : Int) ((an P (2 ^ j) : Nat) : Int) = L E U M (an P (2 ^ j)) from rfl, neq_refl]
      rfl
    | false =>
      rw [hb] at hl
      simp at hl
      simp
      unfold G_ringlaw5_IrqSays_C4
      simp only [if_true]
      rw [hl, show S_irq_Lines.mk (E : Int) (U : Int) (M : Int) (P : Int) = L E U M P from rfl, neq_refl]
      rfl
end
def U1 (U K : Nat) (on : Bool) : Nat := if on = true then U ||| 2 ^ K else an U (2 ^ K)
def P1 (E U P K : Nat) (on : Bool) : Nat := if on = true then P ||| an (2 ^ K &&& E) U else P
section
variable {E U M P K : Nat} (hE : E < 256) (hU : U < 256) (hM : M < 256) (hP : P < 256) (hok : okp E P = true) (hK : K < 8)
include hE hU hM hP hok hK
theorem u1_lt (X : Nat) (hX : X < 256) (on : Bool) : U1 X K on < 256 := by
  unfold U1
  cases on
  · exact an_lt hX
  · exact or_lt hX (pow_lt hK)
theorem p1_lt (on : Bool) : P1 E U P K on < 256 := by
  unfold P1
  cases on
  · exact hP
  · exact or_lt hP (an_lt (Nat.lt_of_le_of_lt Nat.and_le_left (pow_lt hK)))
theorem u1_bit (X : Nat) (on : Bool) {j : Nat} (hj : j < 8) : (U1 X K on).testBit j = if j = K then on else X.testBit j := by
  unfold U1
  cases on with
  | true =>
    simp only [if_true]
    rw [Nat.testBit_or, Nat.testBit_two_pow]
    by_cases h : j = K
    · subst h; simp
    · have : ¬ K = j := fun e => h e.symm
      simp [h, this]
  | false =>
    simp only [Bool.false_eq_true, if_false]
    rw [an_bit (pow_lt hK) (by omega), Nat.testBit_two_pow]
    by_cases h : j = K
    · subst h; simp
    · have : ¬ K = j := fun e => h e.symm
      simp [h, this]
theorem p1_bit (on : Bool) {j : Nat} (hj : j < 8) : (P1 E U P K on).testBit j = (P.testBit j || (decide (j = K) && on && E.testBit j && !U.testBit j)) := by
  unfold P1
  cases on with
  | true =>
    simp only [if_true]
    rw [Nat.testBit_or, an_bit hU (by omega), Nat.testBit_and, Nat.testBit_two_pow]
    by_cases h : j = K
    · subst h; simp
    · have : ¬ K = j := fun e => h e.symm
      simp [h, this]
  | false => simp
theorem check1 (on : Bool) : G_irq_Check 50 (L E (U1 U K on) M (P1 E U P K on)) = some 0 := by
  rw [check_ok hE (u1_lt hE hU hM hP hok hK U hU on) hM (p1_lt hE hU hM hP hok hK on), if_pos]
  refine okp_of fun i hi hp => ?_
  rw [p1_bit hE hU hM hP hok hK on hi] at hp
  cases hpb : P.testBit i with
  | true => exact okp_bit hok hi hpb
  | false =>
    rw [hpb] at hp
    revert hp
    cases E.testBit i <;> simp
theorem check2 (on : Bool) : G_irq_Check 50 (L E U (U1 M K on) P) = some 0 := by
  rw [check_ok hE hU (u1_lt hE hU hM hP hok hK M hM on) hP, if_pos hok]
theorem was (on : Bool) : (fun j : Fin 8 => lo E (U1 U K on) M (P1 E U P K on) j.val) = setA (fun j : Fin 8 => lo E U M P j.val) (K : Int) (S_ringref5_Line.mk (E.testBit K) on (M.testBit K) (P.testBit K || (E.testBit K && on && !U.testBit K))) := by
  funext j
  have hj := j.isLt
  unfold setA lo
  rw [u1_bit hE hU hM hP hok hK U on hj, p1_bit hE hU hM hP hok hK on hj, Int.toNat_natCast]
  by_cases h : j.val = K
  · rw [if_pos h, if_pos h, h]
    congr 1
    cases P.testBit K <;> cases E.testBit K <;> cases U.testBit K <;> cases on <;> simp
  · rw [if_neg h, if_neg h]
    simp [h]
theorem now (on : Bool) : (fun j : Fin 8 => lo E U (U1 M K on) P j.val) = setA (fun j : Fin 8 => lo E U M P j.val) (K : Int) (S_ringref5_Line.mk (E.testBit K) (U.testBit K) on (P.testBit K)) := by
  funext j
  have hj := j.isLt
  unfold setA lo
  rw [u1_bit hE hU hM hP hok hK M on hj, Int.toNat_natCast]
  by_cases h : j.val = K
  · rw [if_pos h, if_pos h, h]
  · rw [if_neg h, if_neg h]
theorem c9_ok (on : Bool) (hp : P.testBit K = true) : G_ringlaw5_IrqSays_C9 50 (L E (U1 U K on) M (P1 E U P K on), 0) (L E U (U1 M K on) P, 0) (fun j : Fin 8 => lo E U M P j.val) (K : Int) (lo E U M P K) on (lo E U M P K) = some (.x0 true) := by
  have s1 := split_ok hE (u1_lt hE hU hM hP hok hK U hU on) hM (p1_lt hE hU hM hP hok hK on)
  have s2 := split_ok hE hU (u1_lt hE hU hM hP hok hK M hM on) hP
  unfold G_ringlaw5_IrqSays_C9
  simp only [if_true]
  rw [show (L E (U1 U K on) M (P1 E U P K on)).fEdge = (E : Int) from rfl, show (L E (U1 U K on) M (P1 E U P K on)).fUp = ((U1 U K on : Nat) : Int) from rfl, show (L E (U1 U K on) M (P1 E U P K on)).fMasked = (M : Int) from rfl, show (L E (U1 U K on) M (P1 E U P K on)).fPending = ((P1 E U P K on : Nat) : Int) from rfl, s1]
  rw [show (L E U (U1 M K on) P).fEdge = (E : Int) from rfl, show (L E U (U1 M K on) P).fUp = (U : Int) from rfl, show (L E U (U1 M K on) P).fMasked = ((U1 M K on : Nat) : Int) from rfl, show (L E U (U1 M K on) P).fPending = (P : Int) from rfl, s2]
  have w := was hE hU hM hP hok hK on
  rw [hp] at w
  rw [w, now hE hU hM hP hok hK on]
  simp only [Option.bind_some, lo, Bool.true_or, hp, eqA_refl, check1 hE hU hM hP hok hK on, check2 hE hU hM hP hok hK on]
  rfl
theorem c10_ok (hp : P.testBit K = false) (he : E.testBit K = true) : G_ringlaw5_IrqSays_C10 50 (L E (U1 U K true) M (P1 E U P K true), 0) (L E U (U1 M K true) P, 0) (fun j : Fin 8 => lo E U M P j.val) (K : Int) (lo E U M P K) true (lo E U M P K) = some (.x0 true) := by
  have s1 := split_ok hE (u1_lt hE hU hM hP hok hK U hU true) hM (p1_lt hE hU hM hP hok hK true)
  have s2 := split_ok hE hU (u1_lt hE hU hM hP hok hK M hM true) hP
  unfold G_ringlaw5_IrqSays_C10
  simp only [if_true]
  rw [show (L E (U1 U K true) M (P1 E U P K true)).fEdge = (E : Int) from rfl, show (L E (U1 U K true) M (P1 E U P K true)).fUp = ((U1 U K true : Nat) : Int) from rfl, show (L E (U1 U K true) M (P1 E U P K true)).fMasked = (M : Int) from rfl, show (L E (U1 U K true) M (P1 E U P K true)).fPending = ((P1 E U P K true : Nat) : Int) from rfl, s1]
  rw [show (L E U (U1 M K true) P).fEdge = (E : Int) from rfl, show (L E U (U1 M K true) P).fUp = (U : Int) from rfl, show (L E U (U1 M K true) P).fMasked = ((U1 M K true : Nat) : Int) from rfl, show (L E U (U1 M K true) P).fPending = (P : Int) from rfl, s2]
  have w := was hE hU hM hP hok hK true
  have w2 := now hE hU hM hP hok hK true
  rw [hp, he] at w
  rw [hp, he] at w2
  rw [w, w2]
  simp only [Option.bind_some, lo, Bool.false_or, Bool.true_and, hp, he, eqA_refl, check1 hE hU hM hP hok hK true, check2 hE hU hM hP hok hK true]
  rfl
theorem c11_ok (on : Bool) (hp : P.testBit K = false) (he : (E.testBit K && on) = false) : G_ringlaw5_IrqSays_C11 50 (L E (U1 U K on) M (P1 E U P K on), 0) (L E U (U1 M K on) P, 0) (fun j : Fin 8 => lo E U M P j.val) (K : Int) (lo E U M P K) on (lo E U M P K) = some (.x0 true) := by
  have s1 := split_ok hE (u1_lt hE hU hM hP hok hK U hU on) hM (p1_lt hE hU hM hP hok hK on)
  have s2 := split_ok hE hU (u1_lt hE hU hM hP hok hK M hM on) hP
  unfold G_ringlaw5_IrqSays_C11
  simp only [if_true]
  rw [show (L E (U1 U K on) M (P1 E U P K on)).fEdge = (E : Int) from rfl, show (L E (U1 U K on) M (P1 E U P K on)).fUp = ((U1 U K on : Nat) : Int) from rfl, show (L E (U1 U K on) M (P1 E U P K on)).fMasked = (M : Int) from rfl, show (L E (U1 U K on) M (P1 E U P K on)).fPending = ((P1 E U P K on : Nat) : Int) from rfl, s1]
  rw [show (L E U (U1 M K on) P).fEdge = (E : Int) from rfl, show (L E U (U1 M K on) P).fUp = (U : Int) from rfl, show (L E U (U1 M K on) P).fMasked = ((U1 M K on : Nat) : Int) from rfl, show (L E U (U1 M K on) P).fPending = (P : Int) from rfl, s2]
  have w := was hE hU hM hP hok hK on
  have w2 := now hE hU hM hP hok hK on
  rw [hp, he] at w
  rw [hp] at w2
  rw [w, w2]
  simp only [Option.bind_some, lo, Bool.false_or, Bool.false_and, hp, eqA_refl, check1 hE hU hM hP hok hK on, check2 hE hU hM hP hok hK on]
  rfl
end
theorem c1_any (r : Int) : G_ringlaw5_IrqSays_C1 50 (zz, r) (zz, r) (0, r) (zz, 0, r) r = some (.x0 true) := by
  unfold G_ringlaw5_IrqSays_C1
  have e : eqRes .eql (eqS_irq_Lines zz (S_irq_Lines.mk 0 0 0 0)) = true := eqS_refl zz
  simp [e]
theorem fails (e u m p k r : Int) (on : Bool) (hr : r ≠ 0) (hc : G_irq_Check 50 (S_irq_Lines.mk e u m p) = some r) (hl : G_ringref5_LinesErr 50 e u m p = some r) : G_ringlaw5_IrqSays 50 e u m p k on = some true := by
  obtain ⟨h1, h2, h3, h4⟩ := errs _ k r on hc hr
  unfold G_ringlaw5_IrqSays
  rw [h1, h2, h3, h4, hc, hl]
  simp only [Option.bind_some, if_true, if_neg hr, c1_any]
theorem law (e u m p k : Int) (on : Bool) : ∃ n, G_ringlaw5_IrqSays n e u m p k on = some true := by
  refine ⟨50, ?_⟩
  cases hb : (badb e || badb u || badb m || badb p) with
  | true =>
    refine fails e u m p k 1 on (by decide) ?_ ?_
    · unfold G_irq_Check
      have h := chk1 50 45 e u m p
      rw [hb] at h
      have h : G_irq_Check_L1 50 (S_irq_Lines.mk e u m p) 50 0 = some (.x0 1) := h
      rw [h]; rfl
    · unfold G_ringref5_LinesErr
      have h := lin1 50 45 e u m p
      rw [hb] at h
      have h : G_ringref5_LinesErr_L1 50 e p u m 50 0 = some (.x0 1) := h
      rw [h]; rfl
  | false =>
    simp only [Bool.or_eq_false_iff] at hb
    obtain ⟨⟨⟨b1, b2⟩, b3⟩, b4⟩ := hb
    obtain ⟨E, rfl, hE⟩ := not_bad b1
    obtain ⟨U, rfl, hU⟩ := not_bad b2
    obtain ⟨M, rfl, hM⟩ := not_bad b3
    obtain ⟨P, rfl, hP⟩ := not_bad b4
    have hc := check_ok hE hU hM hP
    have hl := lines_ok hE hU hM hP
    cases hok : okp E P with
    | false =>
      rw [hok] at hc hl
      exact fails E U M P k 3 on (by decide) hc hl
    | true =>
      rw [hok] at hc hl
      simp only [if_true] at hc hl
      have hn := next_ok hE hU hM hP hok
      have ht := take_ok hE hU hM hP hok
      have hi := idx_ok E U M P _ rfl
      have hsp := split_ok hE hU hM hP
      have h5 := fun r22 r27 => c5_ok hE hU hM hP hok k on r22 r27 (fun j => lo E U M P j.val)
      generalize hA : (fun j : Fin 8 => lo E U M P j.val) = A at hsp h5
      have hi := idx_ok E U M P A hA.symm
      have key : ∀ (r22 r27 : S_irq_Lines × Int), G_irq_Set 50 (L E U M P) k on = some r22 → G_irq_Mask 50 (L E U M P) k on = some r27 →
          (if k < 0 then (G_ringlaw5_IrqSays_C6 50 r22 r27).bind (fun o => match o with | .x0 z => some z)
            else if k > 7 then (G_ringlaw5_IrqSays_C7 50 r22 r27).bind (fun o => match o with | .x0 z => some z)
            else (getA A k).bind fun y => (G_ringlaw5_IrqSays_C8 50 k on r22 r27 A y).bind fun o => match o with
              | .x0 => (G_ringlaw5_IrqSays_C9 50 r22 r27 A k y on y).bind (fun o => match o with | .x0 z => some z)
              | .x1 => (G_ringlaw5_IrqSays_C10 50 r22 r27 A k y on y).bind (fun o => match o with | .x0 z => some z)
              | .x2 => (G_ringlaw5_IrqSays_C11 50 r22 r27 A k y on y).bind (fun o => match o with | .x0 z => some z)) = some true →
          G_ringlaw5_IrqSays 50 E U M P k on = some true := by
        intro r22 r27 hs hm hz
        have h5 := h5 r22 r27
        unfold G_ringlaw5_IrqSays
        rw [show S_irq_Lines.mk (E : Int) (U : Int) (M : Int) (P : Int) = L E U M P from rfl, hs, hm, hn, ht, hc, hl, hsp]
        have tail : ∀ (x : Option Bool), x = some true → x = some true := fun _ h => h
        cases hj : fd (cb E U M P) 8 0 with
        | none =>
          rw [hj] at h5 hi
          simp only [Option.bind_some, if_true] at h5 hi ⊢
          rw [hi]
          simp only [Option.bind_some]
          rw [h5]
          simp only [Option.bind_some]
          by_cases k1 : k < 0
          · rw [if_pos k1] at hz ⊢; exact hz
          · rw [if_neg k1] at hz ⊢
            by_cases k2 : k > 7
            · rw [if_pos k2] at hz ⊢; exact hz
            · rw [if_neg k2] at hz ⊢
              have k3 : 0 ≤ k ∧ k < (8 : Int) := by omega
              obtain ⟨y, hy⟩ : ∃ y, getA A k = some y := by unfold getA; exact ⟨_, dif_pos k3⟩
              simp only [if_pos k3, hy, Option.bind_some] at hz ⊢
              exact hz
        | some j =>
          rw [hj] at h5 hi
          simp only [Option.bind_some, if_true] at h5 hi ⊢
          rw [hi]
          simp only [Option.bind_some]
          rw [h5]
          simp only [Option.bind_some]
          by_cases k1 : k < 0
          · rw [if_pos k1] at hz ⊢; exact hz
          · rw [if_neg k1] at hz ⊢
            by_cases k2 : k > 7
            · rw [if_pos k2] at hz ⊢; exact hz
            · rw [if_neg k2] at hz ⊢
              have k3 : 0 ≤ k ∧ k < (8 : Int) := by omega
              obtain ⟨y, hy⟩ : ∃ y, getA A k = some y := by unfold getA; exact ⟨_, dif_pos k3⟩
              simp only [if_pos k3, hy, Option.bind_some] at hz ⊢
              exact hz
      by_cases k1 : k < 0
      · obtain ⟨h1, h2⟩ := bad_ok hE hU hM hP hok k (.inl k1) on
        refine key _ _ h1 h2 ?_
        rw [if_pos k1]
        kernel_rfl
      · by_cases k2 : k > 7
        · obtain ⟨h1, h2⟩ := bad_ok hE hU hM hP hok k (.inr k2) on
          refine key _ _ h1 h2 ?_
          rw [if_neg k1, if_pos k2]
          kernel_rfl
        · obtain ⟨K, rfl⟩ := Int.eq_ofNat_of_zero_le (show 0 ≤ k by omega)
          have hK : K < 8 := by omega
          have hs := set_ok hE hU hM hP hok K hK on
          have hm := mask_ok hE hU hM hP hok K hK on
          have hs' : G_irq_Set 50 (L E U M P) (K : Int) on = some (L E (U1 U K on) M (P1 E U P K on), 0) := by rw [hs]; unfold U1 P1; cases on <;> rfl
          have hm' : G_irq_Mask 50 (L E U M P) (K : Int) on = some (L E U (U1 M K on) P, 0) := by rw [hm]; unfold U1; cases on <;> rfl
          refine key _ _ hs' hm' ?_
          have hg : getA A (K : Int) = some (lo E U M P K) := by
            subst hA
            unfold getA
            rw [dif_pos (by omega)]
            rfl
          rw [if_neg k1, if_neg k2, hg, Option.bind_some]
          subst hA
          unfold G_ringlaw5_IrqSays_C8
          cases hp : P.testBit K with
          | true =>
            rw [show (lo E U M P K).fPending = true from hp, if_pos rfl, Option.bind_some]
            simp only []
            rw [c9_ok hE hU hM hP hok hK on hp]; rfl
          | false =>
            rw [show (lo E U M P K).fPending = false from hp, if_neg (by decide)]
            cases he : E.testBit K with
            | true =>
              rw [show (lo E U M P K).fEdge = true from he, if_pos rfl]
              cases on with
              | true =>
                rw [if_pos rfl, Option.bind_some]
                simp only []
                rw [c10_ok hE hU hM hP hok hK hp he]; rfl
              | false =>
                rw [if_neg (by decide), Option.bind_some]
                simp only []
                rw [c11_ok hE hU hM hP hok hK false hp (by rw [he]; rfl)]; rfl
            | false =>
              rw [show (lo E U M P K).fEdge = false from he, if_neg (by decide), Option.bind_some]
              simp only []
              rw [c11_ok hE hU hM hP hok hK on hp (by rw [he]; rfl)]; rfl
end Go.Proofs.YtccmjndnjpjohaaR.irqSays
