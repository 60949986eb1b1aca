/- OpenPlays: what is opened, dropped and forked at both tables. -/
import Derived.Test.YtlnlhppaiagafaaLOp3
namespace Go.Proofs.Ytlnlhppaiagafaa.pv
set_option linter.all false
open Go.RowKit help
namespace op

theorem open_check (n : Nat) (t : Tb) (o : Op) (p : Int) (x : Th) : ∃ b, G_open_Table_Open_h_C1 n p t (th x) = some (.x0 b) ∧ G_ringref5_Open_Add_h_C1 n p o x = some (.x0 b o.fThings) ∧ (b = false → 1 ≤ p ∧ p ≤ 16) := by
  unfold G_open_Table_Open_h_C1 G_ringref5_Open_Add_h_C1
  rw [owner_ok, Option.bind_some]
  by_cases hp : 1 ≤ p ∧ p ≤ 16
  · rw [decide_eq_true hp, if_pos rfl, if_neg (show ¬ p < 1 by omega), if_neg (show ¬ p > 16 by omega)]
    by_cases h1 : x.fKind < 1
    · exact ⟨true, by rw [if_pos (show (th x).fKind < 1 from h1)], by rw [if_pos h1], fun _ => hp⟩
    by_cases h2 : x.fKind > 3
    · exact ⟨true, by rw [if_neg (show ¬ (th x).fKind < 1 from h1), if_pos (show (th x).fKind > 3 from h2)], by rw [if_neg h1, if_pos h2], fun _ => hp⟩
    by_cases h3 : x.fId < 0
    · exact ⟨true, by rw [if_neg (show ¬ (th x).fKind < 1 from h1), if_neg (show ¬ (th x).fKind > 3 from h2), if_pos (show (th x).fId < 0 from h3)], by rw [if_neg h1, if_neg h2, if_pos h3], fun _ => hp⟩
    by_cases h4 : x.fMay < 0
    · exact ⟨true, by rw [if_neg (show ¬ (th x).fKind < 1 from h1), if_neg (show ¬ (th x).fKind > 3 from h2), if_neg (show ¬ (th x).fId < 0 from h3), if_pos (show (th x).fMay < 0 from h4)], by rw [if_neg h1, if_neg h2, if_neg h3, if_pos h4], fun _ => hp⟩
    by_cases h5 : x.fMay > 3
    · exact ⟨true, by rw [if_neg (show ¬ (th x).fKind < 1 from h1), if_neg (show ¬ (th x).fKind > 3 from h2), if_neg (show ¬ (th x).fId < 0 from h3), if_neg (show ¬ (th x).fMay < 0 from h4), if_pos (show (th x).fMay > 3 from h5)], by rw [if_neg h1, if_neg h2, if_neg h3, if_neg h4, if_pos h5], fun _ => hp⟩
    exact ⟨decide (x.fAt < 0), by rw [if_neg (show ¬ (th x).fKind < 1 from h1), if_neg (show ¬ (th x).fKind > 3 from h2), if_neg (show ¬ (th x).fId < 0 from h3), if_neg (show ¬ (th x).fMay < 0 from h4), if_neg (show ¬ (th x).fMay > 3 from h5)]; rfl, by rw [if_neg h1, if_neg h2, if_neg h3, if_neg h4, if_neg h5], fun _ => hp⟩
  · rw [decide_eq_false hp, if_neg (by simp)]
    refine ⟨true, rfl, ?_, fun e => by cases e⟩
    by_cases h : p < 1
    · rw [if_pos h]
    · rw [if_neg h, if_pos (by omega)]
theorem search_loop (n : Nat) (t : Tb) (P J : Nat) (hP : P ≤ 16) (hJ : J < 8) (x : Oth) : ∀ (m i : Nat), 32 - i < m → i ≤ 32 →
    (G_open_Table_Open_h_L2 n (P : Int) ((J : Int), t) x m (i : Int) = some .x1 ∧ ∀ k, i ≤ k → k < 32 → (fl t k).fn ≠ 0) ∨
    ∃ k : Nat, G_open_Table_Open_h_L2 n (P : Int) ((J : Int), t) x m (i : Int) = some (.x0 (J : Int) 0 (S_open_Table.mk (setA t.ffiles (k : Int) ⟨x, 1⟩) (setA t.ffds (P : Int) (setA (row t.ffds P) (J : Int) ((k : Int) + 1))))) ∧ k < 32 ∧ (fl t k).fn = 0
  | 0, i, h, _ => by omega
  | m + 1, i, h, hi => by
    unfold G_open_Table_Open_h_L2
    by_cases h1 : i < 32
    · rw [if_pos (by omega), if_pos ⟨by omega, by omega⟩, rdF h1, Option.bind_some]
      by_cases h2 : (fl t i).fn = 0
      · rw [if_pos h2, if_pos ⟨by omega, by omega⟩, Option.bind_some, if_pos ⟨by omega, by omega⟩, if_pos ⟨by omega, by omega⟩, rd (by omega), Option.bind_some, rd8 hJ, Option.bind_some, wi64 (by omega) (by omega)]
        exact .inr ⟨i, rfl, h1, h2⟩
      · rw [if_neg h2, wi_succ (by omega)]
        rcases search_loop n t P J hP hJ x m (i + 1) (by omega) (by omega) with ⟨h3, h4⟩ | h3
        · refine .inl ⟨h3, fun k a b => ?_⟩
          by_cases e : k = i
          · rw [e]; exact h2
          · exact h4 k (by omega) b
        · exact .inr h3
    · rw [if_neg (by omega)]
      exact .inl ⟨rfl, fun k a b => by omega⟩
theorem open_add (n : Nat) {t : Tb} {o : Op} (hn : o.fThings.length + 200 < n) (hb : o.fThings.length < 2000000000000) (R : Rel t o) (p : Int) (x : Th) :
    ∃ r e t' o', G_open_Table_Open_h n t p (th x) = some (r, e, t') ∧ G_ringref5_Open_Add_h n o p x = some (r, e, o') ∧ Rel t' o' ∧ o'.fThings.length ≤ o.fThings.length + 1 := by
  obtain ⟨b, c1, c2, c3⟩ := open_check n t o p x
  cases b with
  | true =>
    refine ⟨0, 1, t, o, ?_, ?_, R, by omega⟩
    · unfold G_open_Table_Open_h
      rw [c1]; rfl
    · unfold G_ringref5_Open_Add_h
      rw [c2]; rfl
  | false =>
    obtain ⟨h1, h2⟩ := c3 rfl
    obtain ⟨P, rfl⟩ := Int.eq_ofNat_of_zero_le (show 0 ≤ p by omega)
    obtain ⟨r, f1, f2⟩ := free_ok n (by omega) t P (by omega)
    obtain ⟨s, g1, g2⟩ := index_ok n (by omega) o.fFds P
    have e : r = s := f2.uniq (by omega) R.z g2
    subst e
    rcases f2 with ⟨rfl, f2⟩ | ⟨J, rfl, k1, k2, k3⟩
    · refine ⟨0, 6, t, o, ?_, ?_, R, by omega⟩
      · unfold G_open_Table_Open_h
        rw [c1, Option.bind_some]
        simp only
        rw [if_neg (by simp), f1]; rfl
      · unfold G_ringref5_Open_Add_h
        rw [c2, Option.bind_some]
        simp only
        rw [if_neg (by simp), if_pos ⟨by omega, by omega⟩, rd (by omega), Option.bind_some, g1]; rfl
    · have hl : G_ringref5_Open_lives_h n (S_ringref5_Open.mk o.fThings o.fFds) = _ := lives_ok n o (by omega) (by omega)
      have hc : cnt (liv o) o.fThings.length = _ := R.lives
      rcases search_loop n t P J (by omega) k1 (th x) n 0 (by omega) (by omega) with ⟨q1, q2⟩ | ⟨k, q1, q2, q3⟩
      · have q1 : G_open_Table_Open_h_L2 n (P : Int) ((J : Int), t) (th x) n 0 = _ := q1
        have hf : cnt (fun k => (fl t k).fn != 0) 32 = 32 := cnt_full.2 fun i hi => by simpa using q2 i (by omega) hi
        refine ⟨0, 6, t, o, ?_, ?_, R, by omega⟩
        · unfold G_open_Table_Open_h
          rw [c1, Option.bind_some]
          simp only
          rw [if_neg (by simp), f1, Option.bind_some, if_neg (show ¬ (J : Int) < 0 by omega), q1]; rfl
        · unfold G_ringref5_Open_Add_h
          rw [c2, Option.bind_some]
          simp only
          rw [if_neg (by simp), if_pos ⟨by omega, by omega⟩, rd (by omega), Option.bind_some, g1, Option.bind_some, if_neg (show ¬ (J : Int) < 0 by omega), hl, Option.bind_some, hc, hf]
          rfl
      · have q1 : G_open_Table_Open_h_L2 n (P : Int) ((J : Int), t) (th x) n 0 = _ := q1
        have hf : cnt (fun k => (fl t k).fn != 0) 32 ≠ 32 := fun e => by
          have := cnt_full.1 e k q2
          rw [q3] at this
          exact absurd this (by decide)
        refine ⟨J, 0, S_open_Table.mk (setA t.ffiles (k : Int) ⟨th x, 1⟩) (setA t.ffds (P : Int) (setA (row t.ffds P) (J : Int) ((k : Int) + 1))), S_ringref5_Open.mk (o.fThings ++ [x]) (setA o.fFds (P : Int) (setA (row o.fFds P) (J : Int) (((o.fThings ++ [x]).length : Nat) : Int))), ?_, ?_, ?_, by simp⟩
        · unfold G_open_Table_Open_h
          rw [c1, Option.bind_some]
          simp only
          rw [if_neg (by simp), f1, Option.bind_some, if_neg (show ¬ (J : Int) < 0 by omega), q1]; rfl
        · unfold G_ringref5_Open_Add_h
          rw [c2, Option.bind_some]
          simp only
          rw [if_neg (by simp), if_pos ⟨by omega, by omega⟩, rd (by omega), Option.bind_some, g1, Option.bind_some, if_neg (show ¬ (J : Int) < 0 by omega), hl, Option.bind_some, hc]
          simp only
          rw [if_neg (by omega), app_le (m := 2000000000001) (by simp only [List.length_singleton]; omega) (by omega) (by omega), Option.bind_some, if_pos ⟨by omega, by omega⟩, if_pos ⟨by omega, by omega⟩, rd (by omega), Option.bind_some, rd8 k1, Option.bind_some]
        · refine R.new (i := 8 * P + J) (k := k) (y := x) (by omega) k2 q2 q3 (fun j hj => fl_set hj) (fun j hj => gt_set k1 hj) (fun j hj => ?_) rfl
          have := gt_set (F := o.fFds) (p := P) (j := J) (i := j) (v := (((o.fThings ++ [x]).length : Nat) : Int)) k1 hj
          refine Eq.trans this ?_
          rw [List.length_append, List.length_singleton]
          rfl

theorem drop_loop (n : Nat) (P : Nat) (hP : 1 ≤ P ∧ P ≤ 16) : ∀ (m m' i : Nat) (t : Tb) (o : Op) (V : List Th), 8 - i < m → 8 - i < m' → i ≤ 8 → 200 < n → o.fThings.length < 2000000000000 → Rel t o → V.length ≤ i →
    ∃ t' o' V', G_open_Table_Drop_h_L3 n (P : Int) m (i : Int) t (V.map th) = some (.x0 t' (V'.map th)) ∧ G_ringref5_Open_DropAll_h_L3 n (P : Int) m' (i : Int) o.fFds o.fThings V = some (.x0 o'.fFds o'.fThings V') ∧ Rel t' o' ∧ o'.fThings = o.fThings ∧ V'.length ≤ 8
  | 0, _, i, _, _, _, h, _, _, _, _, _, _ => by omega
  | _ + 1, 0, i, _, _, _, _, h, _, _, _, _, _ => by omega
  | m + 1, m' + 1, i, t, o, V, h, h', hi, hn, hb, R, hV => by
    unfold G_open_Table_Drop_h_L3 G_ringref5_Open_DropAll_h_L3
    by_cases h1 : i < 8
    · rw [if_pos (by omega), if_pos (by omega), if_pos ⟨by omega, by omega⟩, if_pos ⟨by omega, by omega⟩, rd (by omega), Option.bind_some, rd8 h1, Option.bind_some, wi_succ (by omega)]
      unfold G_open_Table_Drop_h_C2 G_ringref5_Open_DropAll_h_C2
      have hz := R.z (8 * P + i) (by omega)
      have ho := R.ob (8 * P + i) (by omega)
      by_cases h2 : gt t.ffds (8 * P + i) = 0
      · have hc : G_open_Table_Close_h n t (P : Int) (i : Int) = some (⟨0, 0, 0, false, 0⟩, false, 4, t) := by
          unfold G_open_Table_Close_h
          rw [find_none n t (by omega) (.inr (.inr ⟨P, i, rfl, rfl, h1, h2⟩))]
          rfl
        rw [hc, if_neg (show ¬ gt o.fFds (8 * P + i) > 0 by omega)]
        exact drop_loop n P hP m m' (i + 1) t o V (by omega) (by omega) (by omega) hn hb R (by omega)
      · obtain ⟨y, g1, g2⟩ := less_ok n hn R (by omega) hP h1 h2
        have g1 : G_ringref5_Open_Less_h n (S_ringref5_Open.mk o.fThings o.fFds) (P : Int) (i : Int) = _ := g1
        rw [close_some n R hP h1 h2, if_pos (show gt o.fFds (8 * P + i) > 0 by omega), g1, g2, Option.bind_some, Option.bind_some]
        have R' := R.clr hP h1 h2
        by_cases h3 : ((fl t (gt t.ffds (8 * P + i) - 1).toNat).fn - 1 == 0) = true
        · rw [h3]
          have a1 : app 40 (V.map th) [th y] = some ((V ++ [y]).map th) := by
            rw [app_some (by simp; omega) (by omega), List.map_append]; rfl
          have a2 : app 40 V [y] = some (V ++ [y]) := app_some (by simp; omega) (by omega)
          obtain ⟨t', o', V', r1, r2, r3, r4, r5⟩ := drop_loop n P hP m m' (i + 1) (op.clr t P i) (clrO o P i) (V ++ [y]) (by omega) (by omega) (by omega) hn hb R' (by simp; omega)
          refine ⟨t', o', V', ?_, ?_, r3, r4, r5⟩
          · simp only [if_pos, a1, Option.bind_some]
            exact r1
          · simp only [if_pos, a2, Option.bind_some]
            exact r2
        · rw [Bool.eq_false_iff.2 h3]
          obtain ⟨t', o', V', r1, r2, r3, r4, r5⟩ := drop_loop n P hP m m' (i + 1) (op.clr t P i) (clrO o P i) V (by omega) (by omega) (by omega) hn hb R' (by omega)
          exact ⟨t', o', V', r1, r2, r3, r4, r5⟩
    · rw [if_neg (by omega), if_neg (by omega)]
      exact ⟨t, o, V, rfl, rfl, R, rfl, by omega⟩
theorem drop_ok (n : Nat) {t : Tb} {o : Op} (hn : 200 < n) (hb : o.fThings.length < 2000000000000) (R : Rel t o) {P : Nat} (hP : 1 ≤ P ∧ P ≤ 16) :
    ∃ t' o' V', G_open_Table_Drop_h n t (P : Int) = some (V'.map th, 0, t') ∧ G_ringref5_Open_DropAll_h n o (P : Int) = some (V', o') ∧ Rel t' o' ∧ o'.fThings = o.fThings ∧ V'.length ≤ 8 := by
  obtain ⟨t', o', V', r1, r2, r3, r4, r5⟩ := drop_loop n P hP n n 0 t o [] (by omega) (by omega) (by omega) hn hb R (by simp)
  have r1 : G_open_Table_Drop_h_L3 n (P : Int) n 0 t [] = _ := r1
  have r2 : G_ringref5_Open_DropAll_h_L3 n (P : Int) n 0 o.fFds o.fThings [] = _ := r2
  refine ⟨t', o', V', ?_, ?_, r3, r4, r5⟩
  · unfold G_open_Table_Drop_h
    rw [owner_ok, decide_eq_true (by omega), Option.bind_some, if_pos rfl, r1]; rfl
  · unfold G_ringref5_Open_DropAll_h
    rw [r2]; rfl
theorem eq_refl (x : Oth) : eqS_open_Thing x x = true := by simp [eqS_open_Thing]
theorem equal_loop (n : Nat) (l : List Oth) (hl : l.length < 1000000) : ∀ (m i : Nat), l.length - i < m → i ≤ l.length → G_slices_Equal_open_Thing_open_Thing_L1 n l l m (i : Int) = some .x1
  | 0, i, h, _ => by omega
  | m + 1, i, h, hi => by
    unfold G_slices_Equal_open_Thing_open_Thing_L1
    by_cases h1 : i < l.length
    · rw [if_pos (by omega), getI_nat, List.getElem?_eq_getElem h1, Option.bind_some, Option.bind_some, eq_refl]
      rw [if_neg (by decide), wi_succ (by omega)]
      exact equal_loop n l hl m (i + 1) (by omega) (by omega)
    · rw [if_neg (by omega)]
theorem equal_ok (n : Nat) (l : List Oth) (hl : l.length < 1000000) (hn : l.length < n) : G_slices_Equal_open_Thing_open_Thing n l l = some true := by
  unfold G_slices_Equal_open_Thing_open_Thing
  have := equal_loop n l hl n 0 (by omega) (by omega)
  have : G_slices_Equal_open_Thing_open_Thing_L1 n l l n 0 = _ := this
  rw [if_pos rfl, this]; rfl
theorem equali_loop (n : Nat) (l : List Int) (hl : l.length < 1000000) : ∀ (m i : Nat), l.length - i < m → i ≤ l.length → G_slices_Equal_int_int_L1 n l l m (i : Int) = some .x1
  | 0, i, h, _ => by omega
  | m + 1, i, h, hi => by
    unfold G_slices_Equal_int_int_L1
    by_cases h1 : i < l.length
    · rw [if_pos (by omega), getI_nat, List.getElem?_eq_getElem h1, Option.bind_some, Option.bind_some, if_pos rfl, wi_succ (by omega)]
      exact equali_loop n l hl m (i + 1) (by omega) (by omega)
    · rw [if_neg (by omega)]
theorem equali_ok (n : Nat) (l : List Int) (hl : l.length < 1000000) (hn : l.length < n) : G_slices_Equal_int_int n l l = some true := by
  unfold G_slices_Equal_int_int
  have := equali_loop n l hl n 0 (by omega) (by omega)
  have : G_slices_Equal_int_int_L1 n l l n 0 = _ := this
  rw [if_pos rfl, this]; rfl

theorem all_loop (n : Nat) (P : Nat) (hP : 1 ≤ P ∧ P ≤ 16) {t : Tb} {o : Op} (R : Rel t o) (r : List Int × Int × Tb) : ∀ (m m' i : Nat) (V : List Int), 8 - i < m → 8 - i < m' → i ≤ 8 → V.length ≤ i →
    ∃ V', G_open_Table_All_h_L1 n (row t.ffds P) t m (i : Int) V = some (.x0 V') ∧ G_ringlaw5_forked_h_L4 n r (row o.fFds P) o m' (i : Int) o.fThings V = some (.x0 o.fThings V') ∧ V'.length ≤ 8
  | 0, _, i, _, h, _, _, _ => by omega
  | _ + 1, 0, i, _, _, h, _, _ => by omega
  | m + 1, m' + 1, i, V, h, h', hi, hV => by
    unfold G_open_Table_All_h_L1 G_ringlaw5_forked_h_L4
    by_cases h1 : i < 8
    · rw [if_pos (by omega), if_pos (by omega), rd8 h1, Option.bind_some, rd8 h1, Option.bind_some, wi_succ (by omega)]
      have hz := R.z (8 * P + i) (by omega)
      have ho := R.ob (8 * P + i) (by omega)
      by_cases h2 : gt t.ffds (8 * P + i) = 0
      · rw [if_pos h2, if_neg (by omega)]
        exact all_loop n P hP R r m m' (i + 1) V (by omega) (by omega) (by omega) (by omega)
      · rw [if_neg h2, if_pos (by omega), app_some (by simp; omega) (by omega), Option.bind_some, Option.bind_some]
        exact all_loop n P hP R r m m' (i + 1) (V ++ [(i : Int)]) (by omega) (by omega) (by omega) (by simp; omega)
    · rw [if_neg (by omega), if_neg (by omega)]
      exact ⟨V, rfl, rfl, by omega⟩
theorem copy_loop (n : Nat) (r : List Oth × Int × Tb) (V : List Th) (o : Op) (T : List Th) (hV : V.length ≤ 8) : ∀ (m i : Nat), 8 - i < m → i ≤ V.length →
    G_ringlaw5_forked_h_L3 n r (V, o) m (i : Int) T ((V.take i).map th) = some (.x0 T (V.map th))
  | 0, i, h, hi => by omega
  | m + 1, i, h, hi => by
    unfold G_ringlaw5_forked_h_L3
    by_cases h1 : i < V.length
    · have ih := copy_loop n r V o T hV m (i + 1) (by omega) (by omega)
      rw [if_pos (show (i : Int) < (V.length : Int) by omega), getI_nat, List.getElem?_eq_getElem h1, Option.bind_some, thing_ok, Option.bind_some, app_some (by simp; omega) (by omega), Option.bind_some, wi_succ (by omega)]
      rw [← ih, List.take_succ_eq_append_getElem h1, List.map_append]
      rfl
    · rw [if_neg (show ¬ (i : Int) < (V.length : Int) by omega), List.take_of_length_le (by omega)]
end op
end Go.Proofs.Ytlnlhppaiagafaa.pv
