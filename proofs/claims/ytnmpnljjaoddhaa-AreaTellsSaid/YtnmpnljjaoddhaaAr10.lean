/- AreaTells: the law. -/
import Derived.Test.YtnmpnljjaoddhaaAr9
namespace Go.Proofs.Ytnmpnljjaoddhaa.areaT
open Go.RowKit help rep pv
set_option linter.all false

def wantA (q : Int) (l : List A) : A := match own_ q l with | some a => a | none => ⟨0, 0, 0⟩
theorem at_form (n : Nat) (l : List A) (hn : 1001 ≤ n) (hc : G_area_Check n l = some 0) (hw : Nm 0 (-1) l) {q : Int} (hq : 0 ≤ q ∧ q ≤ 63) : G_area_At n l q = some (wantA q l, decide (pg l q ≥ 0), 0) := by
  rw [at_ok n l hn hc hw hq]
  have := own_pg (q := q) (wk_of_nm hw)
  unfold wantA
  cases h : own_ q l with
  | none => rw [h] at this; simp only at this ⊢; rw [this]; rfl
  | some a => rw [h] at this; simp only at this ⊢; rw [decide_eq_true this.2]
theorem k36 (n : Nat) (W : A) (re : Int × Int) (x : A) (l : List A) (hp : 0 ≤ x.fPage ∧ x.fPage ≤ 63) :
    G_ringlaw2_AreaTells_C36 n (W, decide (pg l x.fPage ≥ 0), 0) re x (pgF l) W = some (.x0 false) ∧ G_ringlaw2_AreaTells_C18 n (W, decide (pg l x.fPage ≥ 0), 0) re x (pgF l) W = some (.x0 false) ∧ G_ringlaw2_AreaTells_C9 n (W, decide (pg l x.fPage ≥ 0), 0) re x (pgF l) W = some (.x0 false) := by
  obtain ⟨P, hP⟩ := Int.eq_ofNat_of_zero_le hp.1
  have hq : 0 ≤ x.fPage ∧ x.fPage < (64 : Int) := by omega
  have hg : getA (pgF l) x.fPage = some (pg l x.fPage) := by
    rw [hP, getA_at (show P < 64 by omega)]; rfl
  have hb : ∀ b : Bool, eqRes .neq (b == b) = false := fun b => by cases b <;> rfl
  unfold G_ringlaw2_AreaTells_C36 G_ringlaw2_AreaTells_C18 G_ringlaw2_AreaTells_C9
  simp only [neqR, Bool.false_eq_true, if_false, if_pos hq, hg, Option.bind_some, hb, bne_self_eq_false, and_self]
def gapA (m : Int) (l : List A) : Int × Int := match gp m 0 l with | some z => (z, 0) | none => (0, 6)
theorem tail_35 (n : Nat) (l : List A) (x : A) (rd : A × Bool × Int) (re : Int × Int) (hn : 1001 ≤ n) (hc : G_area_Check n l = some 0) (hw : Nm 0 (-1) l) (h1 : G_area_At n l x.fPage = some rd) (h2 : G_area_Gap n l x.fN = some re) :
  ((G_ringref2_In n x.fPage 0 63).bind fun (v_r816 : (Bool)) =>
if v_r816 = true then
 (G_ringlaw2_AreaTells_L35 n rd re l x (pgF l) n 0 (S_area_Area.mk 0 0 0)).bind fun v_o837 => match v_o837 with
 | .x0 v_z838 =>
   (G_ringlaw2_AreaTells_C36 n rd re x (pgF l) v_z838).bind fun v_o844 => match v_o844 with
   | .x0 v_z845 =>
     if v_z845 = true then
      some false
     else
      (G_ringref2_In n x.fN 1 64).bind fun (v_r846 : (Bool)) =>
      if v_r846 = true then
       (G_ringlaw2_AreaTells_L37 n re x (pgF l) n 0).bind fun v_o852 => match v_o852 with
       | .x0 v_z853 =>
         some v_z853
       | .x1  =>
         if re.1 = 0 then
          some (re.2 == 6)
         else
          some false
      else
       if re.1 = 0 then
        some (re.2 == 1)
       else
        some false
else
 if (eqRes .neq (eqS_area_Area rd.1 (S_area_Area.mk 0 0 0))) = true then
  some false
 else
  if rd.2.1 = true then
   some false
  else
   if rd.2.2 = 1 then
    (G_ringref2_In n x.fN 1 64).bind fun (v_r817 : (Bool)) =>
    if v_r817 = true then
     (G_ringlaw2_AreaTells_L34 n re x (pgF l) n 0).bind fun v_o823 => match v_o823 with
     | .x0 v_z824 =>
       some v_z824
     | .x1  =>
       if re.1 = 0 then
        some (re.2 == 6)
       else
        some false
    else
     if re.1 = 0 then
      some (re.2 == 1)
     else
      some false
   else
    some false) = some true := by
  have hwk := wk_of_nm hw
  have hl := wk_len hwk
  have hgap : ∀ r : Int, (if 1 ≤ x.fN ∧ x.fN ≤ 64 then re = gapA x.fN l else re = (0, 1)) := fun _ => by
    by_cases hm : 1 ≤ x.fN ∧ x.fN ≤ 64
    · rw [if_pos hm]; rw [gap_ok n l hn hc hw hm] at h2; exact (Option.some.inj h2).symm
    · rw [if_neg hm]; rw [gap_no n l hn hc hw hm] at h2; exact (Option.some.inj h2).symm
  have hgap := hgap 0
  have hg : ∀ (hm : 1 ≤ x.fN ∧ x.fN ≤ 64), G_ringlaw2_AreaTells_L37 n (gapA x.fN l) x (pgF l) n 0 = some (match gp x.fN 0 l with | some _ => .x0 true | none => .x1) ∧ G_ringlaw2_AreaTells_L34 n (gapA x.fN l) x (pgF l) n 0 = some (match gp x.fN 0 l with | some _ => .x0 true | none => .x1) := fun hm => by
    obtain ⟨p, m, r⟩ := x
    obtain ⟨M, rfl⟩ := Int.eq_ofNat_of_zero_le (show 0 ≤ m by have := hm.1; simp only at this; omega)
    simp only at hm
    have hs := gp_spec (n := (M : Int)) (by omega) hwk
    have hz : ∀ z, gp (M : Int) 0 l = some z → ((0 : Nat) : Int) ≤ z := fun z h => by rw [h] at hs; exact hs.1
    exact ⟨gap_37 n l p r M hn (by omega) hwk _ rfl n 0 (by omega) (by omega) hz, gap_34 n l p r M hn (by omega) hwk _ rfl n 0 (by omega) (by omega) hz⟩
  have hwant : ∀ b, G_ringlaw2_AreaTells_L35 n rd re l x (pgF l) n 0 b = some (.x0 (match own_ x.fPage l with | some a => a | none => b)) := fun b => by
    have h := want_35 n rd re l x (pgF l) (by omega) n 0 b 0 (by omega) (by omega) (by omega) (by rw [List.drop_zero]; exact hwk)
    rw [List.drop_zero] at h
    exact h
  have hend : ∀ (E : Option Bool), (E = if 1 ≤ x.fN ∧ x.fN ≤ 64 then (match gp x.fN 0 l with | some _ => some true | none => if re.1 = 0 then some (re.2 == 6) else some false) else (if re.1 = 0 then some (re.2 == 1) else some false)) → E = some true := fun E hE => by
    rw [hE]
    by_cases hm : 1 ≤ x.fN ∧ x.fN ≤ 64
    · rw [if_pos hm] at hgap ⊢
      cases hgp : gp x.fN 0 l with
      | some z => rfl
      | none => rw [hgap]; unfold gapA; rw [hgp]; rfl
    · rw [if_neg hm] at hgap ⊢
      rw [hgap]; rfl
  simp only [in_any, Option.bind_some, decide_eq_true_eq]
  by_cases hp : 0 ≤ x.fPage ∧ x.fPage ≤ 63
  · rw [at_form n l hn hc hw hp] at h1
    have h1 := Option.some.inj h1
    have hk := (k36 n (wantA x.fPage l) re x l hp).1
    rw [if_pos hp, hwant, Option.bind_some]
    dsimp only
    rw [← h1]
    have hk' : G_ringlaw2_AreaTells_C36 n (wantA x.fPage l, decide (pg l x.fPage ≥ 0), 0) re x (pgF l) (match own_ x.fPage l with | some a => a | none => S_area_Area.mk 0 0 0) = some (.x0 false) := hk
    rw [hk', Option.bind_some]
    dsimp only
    simp only [Bool.false_eq_true, if_false]
    apply hend
    by_cases hm : 1 ≤ x.fN ∧ x.fN ≤ 64
    · rw [if_pos hm, if_pos hm]
      rw [if_pos hm] at hgap
      rw [hgap, (hg hm).1, Option.bind_some]
      cases gp x.fN 0 l <;> rfl
    · rw [if_neg hm, if_neg hm]
  · rw [at_no n l hn hc hw hp] at h1
    have h1 := Option.some.inj h1
    rw [if_neg hp, ← h1]
    simp only [neqR, Bool.false_eq_true, if_false, if_true]
    apply hend
    by_cases hm : 1 ≤ x.fN ∧ x.fN ≤ 64
    · rw [if_pos hm, if_pos hm]
      rw [if_pos hm] at hgap
      rw [hgap, (hg hm).2, Option.bind_some]
      cases gp x.fN 0 l <;> rfl
    · rw [if_neg hm, if_neg hm]
theorem tail_17 (n : Nat) (l : List A) (x : A) (rd : A × Bool × Int) (re : Int × Int) (hn : 1001 ≤ n) (hc : G_area_Check n l = some 0) (hw : Nm 0 (-1) l) (h1 : G_area_At n l x.fPage = some rd) (h2 : G_area_Gap n l x.fN = some re) :
  ((G_ringref2_In n x.fPage 0 63).bind fun (v_r595 : (Bool)) =>
if v_r595 = true then
 (G_ringlaw2_AreaTells_L17 n rd re l x (pgF l) n 0 (S_area_Area.mk 0 0 0)).bind fun v_o616 => match v_o616 with
 | .x0 v_z617 =>
   (G_ringlaw2_AreaTells_C18 n rd re x (pgF l) v_z617).bind fun v_o623 => match v_o623 with
   | .x0 v_z624 =>
     if v_z624 = true then
      some false
     else
      (G_ringref2_In n x.fN 1 64).bind fun (v_r625 : (Bool)) =>
      if v_r625 = true then
       (G_ringlaw2_AreaTells_L19 n re x (pgF l) n 0).bind fun v_o631 => match v_o631 with
       | .x0 v_z632 =>
         some v_z632
       | .x1  =>
         if re.1 = 0 then
          some (re.2 == 6)
         else
          some false
      else
       if re.1 = 0 then
        some (re.2 == 1)
       else
        some false
else
 if (eqRes .neq (eqS_area_Area rd.1 (S_area_Area.mk 0 0 0))) = true then
  some false
 else
  if rd.2.1 = true then
   some false
  else
   if rd.2.2 = 1 then
    (G_ringref2_In n x.fN 1 64).bind fun (v_r596 : (Bool)) =>
    if v_r596 = true then
     (G_ringlaw2_AreaTells_L16 n re x (pgF l) n 0).bind fun v_o602 => match v_o602 with
     | .x0 v_z603 =>
       some v_z603
     | .x1  =>
       if re.1 = 0 then
        some (re.2 == 6)
       else
        some false
    else
     if re.1 = 0 then
      some (re.2 == 1)
     else
      some false
   else
    some false) = some true := by
  have hwk := wk_of_nm hw
  have hl := wk_len hwk
  have hgap : ∀ r : Int, (if 1 ≤ x.fN ∧ x.fN ≤ 64 then re = gapA x.fN l else re = (0, 1)) := fun _ => by
    by_cases hm : 1 ≤ x.fN ∧ x.fN ≤ 64
    · rw [if_pos hm]; rw [gap_ok n l hn hc hw hm] at h2; exact (Option.some.inj h2).symm
    · rw [if_neg hm]; rw [gap_no n l hn hc hw hm] at h2; exact (Option.some.inj h2).symm
  have hgap := hgap 0
  have hg : ∀ (hm : 1 ≤ x.fN ∧ x.fN ≤ 64), G_ringlaw2_AreaTells_L19 n (gapA x.fN l) x (pgF l) n 0 = some (match gp x.fN 0 l with | some _ => .x0 true | none => .x1) ∧ G_ringlaw2_AreaTells_L16 n (gapA x.fN l) x (pgF l) n 0 = some (match gp x.fN 0 l with | some _ => .x0 true | none => .x1) := fun hm => by
    obtain ⟨p, m, r⟩ := x
    obtain ⟨M, rfl⟩ := Int.eq_ofNat_of_zero_le (show 0 ≤ m by have := hm.1; simp only at this; omega)
    simp only at hm
    have hs := gp_spec (n := (M : Int)) (by omega) hwk
    have hz : ∀ z, gp (M : Int) 0 l = some z → ((0 : Nat) : Int) ≤ z := fun z h => by rw [h] at hs; exact hs.1
    exact ⟨gap_19 n l p r M hn (by omega) hwk _ rfl n 0 (by omega) (by omega) hz, gap_16 n l p r M hn (by omega) hwk _ rfl n 0 (by omega) (by omega) hz⟩
  have hwant : ∀ b, G_ringlaw2_AreaTells_L17 n rd re l x (pgF l) n 0 b = some (.x0 (match own_ x.fPage l with | some a => a | none => b)) := fun b => by
    have h := want_17 n rd re l x (pgF l) (by omega) n 0 b 0 (by omega) (by omega) (by omega) (by rw [List.drop_zero]; exact hwk)
    rw [List.drop_zero] at h
    exact h
  have hend : ∀ (E : Option Bool), (E = if 1 ≤ x.fN ∧ x.fN ≤ 64 then (match gp x.fN 0 l with | some _ => some true | none => if re.1 = 0 then some (re.2 == 6) else some false) else (if re.1 = 0 then some (re.2 == 1) else some false)) → E = some true := fun E hE => by
    rw [hE]
    by_cases hm : 1 ≤ x.fN ∧ x.fN ≤ 64
    · rw [if_pos hm] at hgap ⊢
      cases hgp : gp x.fN 0 l with
      | some z => rfl
      | none => rw [hgap]; unfold gapA; rw [hgp]; rfl
    · rw [if_neg hm] at hgap ⊢
      rw [hgap]; rfl
  simp only [in_any, Option.bind_some, decide_eq_true_eq]
  by_cases hp : 0 ≤ x.fPage ∧ x.fPage ≤ 63
  · rw [at_form n l hn hc hw hp] at h1
    have h1 := Option.some.inj h1
    have hk := (k36 n (wantA x.fPage l) re x l hp).2.1
    rw [if_pos hp, hwant, Option.bind_some]
    dsimp only
    rw [← h1]
    have hk' : G_ringlaw2_AreaTells_C18 n (wantA x.fPage l, decide (pg l x.fPage ≥ 0), 0) re x (pgF l) (match own_ x.fPage l with | some a => a | none => S_area_Area.mk 0 0 0) = some (.x0 false) := hk
    rw [hk', Option.bind_some]
    dsimp only
    simp only [Bool.false_eq_true, if_false]
    apply hend
    by_cases hm : 1 ≤ x.fN ∧ x.fN ≤ 64
    · rw [if_pos hm, if_pos hm]
      rw [if_pos hm] at hgap
      rw [hgap, (hg hm).1, Option.bind_some]
      cases gp x.fN 0 l <;> rfl
    · rw [if_neg hm, if_neg hm]
  · rw [at_no n l hn hc hw hp] at h1
    have h1 := Option.some.inj h1
    rw [if_neg hp, ← h1]
    simp only [neqR, Bool.false_eq_true, if_false, if_true]
    apply hend
    by_cases hm : 1 ≤ x.fN ∧ x.fN ≤ 64
    · rw [if_pos hm, if_pos hm]
      rw [if_pos hm] at hgap
      rw [hgap, (hg hm).2, Option.bind_some]
      cases gp x.fN 0 l <;> rfl
    · rw [if_neg hm, if_neg hm]
theorem tail_8 (n : Nat) (l : List A) (x : A) (rd : A × Bool × Int) (re : Int × Int) (hn : 1001 ≤ n) (hc : G_area_Check n l = some 0) (hw : Nm 0 (-1) l) (h1 : G_area_At n l x.fPage = some rd) (h2 : G_area_Gap n l x.fN = some re) :
  ((G_ringref2_In n x.fPage 0 63).bind fun (v_r478 : (Bool)) =>
if v_r478 = true then
 (G_ringlaw2_AreaTells_L8 n rd re l x (pgF l) n 0 (S_area_Area.mk 0 0 0)).bind fun v_o513 => match v_o513 with
 | .x0 v_z514 =>
   (G_ringlaw2_AreaTells_C9 n rd re x (pgF l) v_z514).bind fun v_o520 => match v_o520 with
   | .x0 v_z521 =>
     if v_z521 = true then
      some false
     else
      (G_ringref2_In n x.fN 1 64).bind fun (v_r522 : (Bool)) =>
      if v_r522 = true then
       (G_ringlaw2_AreaTells_L10 n re x (pgF l) n 0).bind fun v_o528 => match v_o528 with
       | .x0 v_z529 =>
         some v_z529
       | .x1  =>
         if re.1 = 0 then
          some (re.2 == 6)
         else
          some false
      else
       if re.1 = 0 then
        some (re.2 == 1)
       else
        some false
else
 if (eqRes .neq (eqS_area_Area rd.1 (S_area_Area.mk 0 0 0))) = true then
  some false
 else
  if rd.2.1 = true then
   some false
  else
   if rd.2.2 = 1 then
    (G_ringref2_In n x.fN 1 64).bind fun (v_r479 : (Bool)) =>
    if v_r479 = true then
     (G_ringlaw2_AreaTells_L7 n re x (pgF l) n 0).bind fun v_o499 => match v_o499 with
     | .x0 v_z500 =>
       some v_z500
     | .x1  =>
       if re.1 = 0 then
        some (re.2 == 6)
       else
        some false
    else
     if re.1 = 0 then
      some (re.2 == 1)
     else
      some false
   else
    some false) = some true := by
  have hwk := wk_of_nm hw
  have hl := wk_len hwk
  have hgap : ∀ r : Int, (if 1 ≤ x.fN ∧ x.fN ≤ 64 then re = gapA x.fN l else re = (0, 1)) := fun _ => by
    by_cases hm : 1 ≤ x.fN ∧ x.fN ≤ 64
    · rw [if_pos hm]; rw [gap_ok n l hn hc hw hm] at h2; exact (Option.some.inj h2).symm
    · rw [if_neg hm]; rw [gap_no n l hn hc hw hm] at h2; exact (Option.some.inj h2).symm
  have hgap := hgap 0
  have hg : ∀ (hm : 1 ≤ x.fN ∧ x.fN ≤ 64), G_ringlaw2_AreaTells_L10 n (gapA x.fN l) x (pgF l) n 0 = some (match gp x.fN 0 l with | some _ => .x0 true | none => .x1) ∧ G_ringlaw2_AreaTells_L7 n (gapA x.fN l) x (pgF l) n 0 = some (match gp x.fN 0 l with | some _ => .x0 true | none => .x1) := fun hm => by
    obtain ⟨p, m, r⟩ := x
    obtain ⟨M, rfl⟩ := Int.eq_ofNat_of_zero_le (show 0 ≤ m by have := hm.1; simp only at this; omega)
    simp only at hm
    have hs := gp_spec (n := (M : Int)) (by omega) hwk
    have hz : ∀ z, gp (M : Int) 0 l = some z → ((0 : Nat) : Int) ≤ z := fun z h => by rw [h] at hs; exact hs.1
    exact ⟨gap_10 n l p r M hn (by omega) hwk _ rfl n 0 (by omega) (by omega) hz, gap_7 n l p r M hn (by omega) hwk _ rfl n 0 (by omega) (by omega) hz⟩
  have hwant : ∀ b, G_ringlaw2_AreaTells_L8 n rd re l x (pgF l) n 0 b = some (.x0 (match own_ x.fPage l with | some a => a | none => b)) := fun b => by
    have h := want_8 n rd re l x (pgF l) (by omega) n 0 b 0 (by omega) (by omega) (by omega) (by rw [List.drop_zero]; exact hwk)
    rw [List.drop_zero] at h
    exact h
  have hend : ∀ (E : Option Bool), (E = if 1 ≤ x.fN ∧ x.fN ≤ 64 then (match gp x.fN 0 l with | some _ => some true | none => if re.1 = 0 then some (re.2 == 6) else some false) else (if re.1 = 0 then some (re.2 == 1) else some false)) → E = some true := fun E hE => by
    rw [hE]
    by_cases hm : 1 ≤ x.fN ∧ x.fN ≤ 64
    · rw [if_pos hm] at hgap ⊢
      cases hgp : gp x.fN 0 l with
      | some z => rfl
      | none => rw [hgap]; unfold gapA; rw [hgp]; rfl
    · rw [if_neg hm] at hgap ⊢
      rw [hgap]; rfl
  simp only [in_any, Option.bind_some, decide_eq_true_eq]
  by_cases hp : 0 ≤ x.fPage ∧ x.fPage ≤ 63
  · rw [at_form n l hn hc hw hp] at h1
    have h1 := Option.some.inj h1
    have hk := (k36 n (wantA x.fPage l) re x l hp).2.2
    rw [if_pos hp, hwant, Option.bind_some]
    dsimp only
    rw [← h1]
    have hk' : G_ringlaw2_AreaTells_C9 n (wantA x.fPage l, decide (pg l x.fPage ≥ 0), 0) re x (pgF l) (match own_ x.fPage l with | some a => a | none => S_area_Area.mk 0 0 0) = some (.x0 false) := hk
    rw [hk', Option.bind_some]
    dsimp only
    simp only [Bool.false_eq_true, if_false]
    apply hend
    by_cases hm : 1 ≤ x.fN ∧ x.fN ≤ 64
    · rw [if_pos hm, if_pos hm]
      rw [if_pos hm] at hgap
      rw [hgap, (hg hm).1, Option.bind_some]
      cases gp x.fN 0 l <;> rfl
    · rw [if_neg hm, if_neg hm]
  · rw [at_no n l hn hc hw hp] at h1
    have h1 := Option.some.inj h1
    rw [if_neg hp, ← h1]
    simp only [neqR, Bool.false_eq_true, if_false, if_true]
    apply hend
    by_cases hm : 1 ≤ x.fN ∧ x.fN ≤ 64
    · rw [if_pos hm, if_pos hm]
      rw [if_pos hm] at hgap
      rw [hgap, (hg hm).2, Option.bind_some]
      cases gp x.fN 0 l <;> rfl
    · rw [if_neg hm, if_neg hm]
end Go.Proofs.Ytnmpnljjaoddhaa.areaT
