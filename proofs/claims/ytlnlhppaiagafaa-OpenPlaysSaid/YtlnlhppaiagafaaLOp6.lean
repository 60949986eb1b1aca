/- OpenPlays: every act at both tables. -/
import Derived.Test.YtlnlhppaiagafaaLOp5
namespace Go.Proofs.Ytlnlhppaiagafaa.pv
set_option linter.all false
open Go.RowKit help
namespace op

theorem both (n : Nat) {t : Tb} {o : Op} (R : Rel t o) (p fd : Int) :
    (∃ c, (c = 1 ∨ c = 4) ∧ G_ringref5_Open_ErrFd_h n o p fd = some (c, o) ∧ G_open_Table_find_h n t p fd = some (none, c, t)) ∨
    ∃ P J : Nat, p = (P : Int) ∧ fd = (J : Int) ∧ (1 ≤ P ∧ P ≤ 16) ∧ J < 8 ∧ gt t.ffds (8 * P + J) ≠ 0 ∧ gt o.fFds (8 * P + J) ≠ 0 := by
  rcases leads t.ffds p fd with h | ⟨h, k⟩ | ⟨P, J, e, e', h, k, q⟩
  · exact .inl ⟨1, .inl rfl, err_out n o h, find_out n t h⟩
  · refine .inl ⟨4, .inr rfl, err_none n o h ?_, find_none n t h k⟩
    rcases k with k | k | ⟨P, J, rfl, rfl, h1, h2⟩
    · exact .inl k
    · exact .inr (.inl k)
    · exact .inr (.inr ⟨P, J, rfl, rfl, h1, (R.z (8 * P + J) (by omega)).1 h2⟩)
  · exact .inr ⟨P, J, e, e', h, k, q, fun z => q ((R.z (8 * P + J) (by omega)).2 z)⟩
theorem at_ok (n : Nat) {t : Tb} {o : Op} (R : Rel t o) (hT : o.fThings.length < 4611686018427387904) {P J : Nat} (h : 1 ≤ P ∧ P ≤ 16) (k : J < 8) (q : gt t.ffds (8 * P + J) ≠ 0) :
    ∃ y, G_ringref5_Open_At_h n o (P : Int) (J : Int) = some ((gt o.fFds (8 * P + J) - 1).toNat, o) ∧ o.fThings[(gt o.fFds (8 * P + J) - 1).toNat]? = some y ∧ (fl t (gt t.ffds (8 * P + J) - 1).toNat).fThing = th y := by
  have d := R.ob (8 * P + J) (by omega)
  have z := R.z (8 * P + J) (by omega)
  obtain ⟨y, h1, h2⟩ := R.th _ (by omega) q
  obtain ⟨h3, h4⟩ := List.getElem?_eq_some_iff.1 h1
  refine ⟨y, ?_, h1, h2⟩
  unfold G_ringref5_Open_At_h
  rw [if_pos ⟨by omega, by omega⟩, if_pos ⟨by omega, by omega⟩, rd (by omega), Option.bind_some, rd8 k, Option.bind_some, wi64 (by omega) (by omega), if_pos ⟨by omega, h3⟩]
/-- a descriptor is laid on another one -/
def cpy (t : Tb) (P J Q : Nat) : Tb := S_open_Table.mk (setA t.ffiles (((gt t.ffds (8 * P + J) - 1).toNat : Nat) : Int) ⟨(fl t (gt t.ffds (8 * P + J) - 1).toNat).fThing, (fl t (gt t.ffds (8 * P + J) - 1).toNat).fn + 1⟩) (setA t.ffds (P : Int) (setA (row t.ffds P) (Q : Int) (gt t.ffds (8 * P + J))))
def cpyO (o : Op) (P J Q : Nat) : Op := S_ringref5_Open.mk o.fThings (setA o.fFds (P : Int) (setA (row o.fFds P) (Q : Int) (gt o.fFds (8 * P + J))))
theorem Rel.cpy {t : Tb} {o : Op} (R : Rel t o) {P J Q : Nat} (h : 1 ≤ P ∧ P ≤ 16) (k : J < 8) (k' : Q < 8) (q : gt t.ffds (8 * P + J) ≠ 0) (q' : gt t.ffds (8 * P + Q) = 0) : Rel (op.cpy t P J Q) (cpyO o P J Q) :=
  R.copy (i := 8 * P + Q) (s := 8 * P + J) (by omega) (by omega) q' q
    (fun j hj => by unfold op.cpy; rw [fl_set hj]; split <;> rename_i e; rw [e]; rfl)
    (fun j hj => gt_set k' hj) (fun j hj => gt_set k' hj) rfl
theorem gt_clr {t : Tb} {P J Q : Nat} (h : 1 ≤ P ∧ P ≤ 16) (k : J < 8) (k' : Q < 8) : gt (op.clr t P Q).ffds (8 * P + J) = if J = Q then 0 else gt t.ffds (8 * P + J) := by
  have := gt_set (F := t.ffds) (p := P) (j := Q) (i := 8 * P + J) (v := 0) k' (by omega)
  refine Eq.trans this ?_
  unfold upd
  by_cases e : J = Q
  · rw [if_pos (by omega), if_pos e]
  · rw [if_neg (by omega), if_neg e]
theorem gt_clrO {o : Op} {P J Q : Nat} (h : 1 ≤ P ∧ P ≤ 16) (k : J < 8) (k' : Q < 8) : gt (clrO o P Q).fFds (8 * P + J) = if J = Q then 0 else gt o.fFds (8 * P + J) := by
  have := gt_set (F := o.fFds) (p := P) (j := Q) (i := 8 * P + J) (v := 0) k' (by omega)
  refine Eq.trans this ?_
  unfold upd
  by_cases e : J = Q
  · rw [if_pos (by omega), if_pos e]
  · rw [if_neg (by omega), if_neg e]
def noth : Oth := ⟨0, 0, 0, false, 0⟩
/-- Dup, if there is something to be laid on another -/
theorem dup_ok (n : Nat) {t : Tb} {o : Op} (R : Rel t o) {P J Q : Nat} (h : 1 ≤ P ∧ P ≤ 16) (k : J < 8) (k' : Q < 8) (hne : Q ≠ J) (q : gt t.ffds (8 * P + J) ≠ 0) :
    (gt t.ffds (8 * P + Q) = 0 ∧ G_open_Table_Dup_h n t (P : Int) (J : Int) (Q : Int) = some (noth, false, 0, cpy t P J Q)) ∨
    (gt t.ffds (8 * P + Q) ≠ 0 ∧ G_open_Table_Dup_h n t (P : Int) (J : Int) (Q : Int) = some (if ((fl t (gt t.ffds (8 * P + Q) - 1).toNat).fn - 1 == 0) = true then (fl t (gt t.ffds (8 * P + Q) - 1).toNat).fThing else noth, ((fl t (gt t.ffds (8 * P + Q) - 1).toNat).fn - 1 == 0), 0, cpy (clr t P Q) P J Q)) := by
  have b := R.tb (8 * P + J) (by omega)
  have hk : (gt t.ffds (8 * P + J) - 1).toNat < 32 := by omega
  have c := R.n _ hk
  have l := num_le (f := gt t.ffds) (m := 136) (v := ((gt t.ffds (8 * P + J) - 1).toNat : Int) + 1)
  unfold G_open_Table_Dup_h
  rw [find_some n t h k q b, Option.bind_some]
  simp only
  have hP' : 0 ≤ (P : Int) ∧ (P : Int) < 17 := by omega
  have hJ' : 0 ≤ (J : Int) ∧ (J : Int) < 8 := by omega
  have hQ' : 0 ≤ (Q : Int) ∧ (Q : Int) < 8 := by omega
  have hQ1 : ¬ (Q : Int) < 0 := by omega
  have hQ2 : ¬ (Q : Int) ≥ 8 := by omega
  have hQ3 : ¬ (Q : Int) = (J : Int) := by omega
  have hr : getA t.ffds (P : Int) = some (row t.ffds P) := rd (by omega)
  simp only [if_neg hQ1, if_neg hQ2, if_neg hQ3, if_pos hP', if_pos hQ', if_pos hJ', hr, rd8 k', Option.bind_some]
  unfold G_open_Table_Dup_h_C1
  by_cases h0 : gt t.ffds (8 * P + Q) = 0
  · left
    refine ⟨h0, ?_⟩
    have hw : wi .i64 ((fl t (gt t.ffds (8 * P + J) - 1).toNat).fn + 1) = (fl t (gt t.ffds (8 * P + J) - 1).toNat).fn + 1 := wi64 (by omega) (by omega)
    simp only [if_pos h0, Option.bind_some, rd8 k, rdF hk, hw]
    rfl
  · right
    refine ⟨h0, ?_⟩
    have R' := R.clr h k' h0
    have g := gt_clr (t := t) h k k'
    rw [if_neg (fun e => hne e.symm)] at g
    have c' := R'.n _ hk
    have l' := num_le (f := gt (clr t P Q).ffds) (m := 136) (v := ((gt t.ffds (8 * P + J) - 1).toNat : Int) + 1)
    have hw : wi .i64 ((fl (clr t P Q) (gt t.ffds (8 * P + J) - 1).toNat).fn + 1) = (fl (clr t P Q) (gt t.ffds (8 * P + J) - 1).toNat).fn + 1 := wi64 (by omega) (by omega)
    have hr' : getA (clr t P Q).ffds (P : Int) = some (row (clr t P Q).ffds P) := rd (by omega)
    rw [if_neg h0, close_some n R h k' h0, Option.bind_some]
    by_cases h3 : ((fl t (gt t.ffds (8 * P + Q) - 1).toNat).fn - 1 == 0) = true
    · rw [if_pos h3, if_pos h3, Option.bind_some]
      simp only [hr', rd8 k, rd8 k', rdF hk, Option.bind_some, hw, if_pos hP', if_pos hQ', if_pos hJ']
      unfold cpy
      rw [g]
      rfl
    · rw [if_neg h3, if_neg h3, Option.bind_some]
      simp only [hr', rd8 k, rd8 k', rdF hk, Option.bind_some, hw, if_pos hP', if_pos hQ', if_pos hJ']
      unfold cpy
      rw [g]
      rfl
theorem eq_th (x : Oth) : eqRes .eql (eqS_open_Thing x x) = true := by rw [eq_refl]; rfl
theorem dupped_none (n : Nat) {t : Tb} {o : Op} (R : Rel t o) (a : Ac) {c : Int} (hc : c = 1 ∨ c = 4) (hf : G_open_Table_find_h n t a.fP a.fFd = some (none, c, t)) : Good n o (G_ringlaw5_dupped_h n t o a c) := by
  have hc0 : ¬ c = 0 := by omega
  have hd : G_open_Table_Dup_h n t a.fP a.fFd a.fTo = some (noth, false, c, t) := by
    unfold G_open_Table_Dup_h
    rw [hf, Option.bind_some]
    show (if c = 0 then _ else _) = _
    rw [if_neg hc0]; rfl
  refine ⟨t, o, ?_, R, Nat.le_succ _⟩
  unfold G_ringlaw5_dupped_h
  rw [hd, Option.bind_some]
  unfold G_ringlaw5_dupped_h_C1
  rw [if_neg hc0, Option.bind_some]
  simp only
  rw [if_neg (by simp)]
  unfold G_ringlaw5_dupped_h_C3
  rw [if_neg hc0, Option.bind_some]
  simp only
  unfold G_ringlaw5_dupped_h_C5
  rw [if_neg (by simp), Option.bind_some]
  simp only
  unfold G_ringlaw5_dupped_h_C9
  rw [if_pos rfl, thing_ok, Option.bind_some]
  have : eqRes .eql (eqS_open_Thing noth (th ⟨0, 0, 0, false, 0⟩)) = true := eq_th noth
  rw [if_pos this]
  rfl
theorem dupped_some (n : Nat) {t : Tb} {o : Op} (hn : o.fThings.length + 300 < n) (hb : o.fThings.length < 2000000000000) (R : Rel t o) (a : Ac) {P J : Nat} (eP : a.fP = (P : Int)) (eJ : a.fFd = (J : Int)) (h : 1 ≤ P ∧ P ≤ 16) (k : J < 8) (q : gt t.ffds (8 * P + J) ≠ 0) (q' : gt o.fFds (8 * P + J) ≠ 0) : Good n o (G_ringlaw5_dupped_h n t o a 0) := by
  have zz : eqRes .eql (eqS_open_Thing noth (th ⟨0, 0, 0, false, 0⟩)) = true := eq_th noth
  by_cases hbad : a.fTo < 0 ∨ a.fTo > 7
  · have hd : G_open_Table_Dup_h n t a.fP a.fFd a.fTo = some (noth, false, 1, t) := by
      unfold G_open_Table_Dup_h
      rw [eP, eJ, find_some n t h k q (R.tb _ (by omega)), Option.bind_some]
      show (if (0 : Int) = 0 then _ else _) = _
      rw [if_pos rfl]
      by_cases h1 : a.fTo < 0
      · rw [if_pos h1]; rfl
      · rw [if_neg h1, if_pos (by omega)]; rfl
    refine ⟨t, o, ?_, R, Nat.le_succ _⟩
    unfold G_ringlaw5_dupped_h
    rw [hd, Option.bind_some]
    have c1 : G_ringlaw5_dupped_h_C1 n 0 (noth, false, 1, t) o a = some (.x0 true o.fThings) := by
      unfold G_ringlaw5_dupped_h_C1
      rw [if_pos rfl]
      by_cases h1 : a.fTo < 0
      · rw [if_pos h1]
      · rw [if_neg h1, decide_eq_true (by omega)]
    rw [c1, Option.bind_some]
    simp only
    rw [if_pos trivial]
    unfold G_ringlaw5_dupped_h_C2
    rw [if_pos rfl, thing_ok, Option.bind_some, if_pos zz]
    rfl
  · obtain ⟨Q, eQ⟩ := Int.eq_ofNat_of_zero_le (show 0 ≤ a.fTo by omega)
    have hQ : Q < 8 := by omega
    have c1 : ∀ r, G_ringlaw5_dupped_h_C1 n 0 r o a = some (.x0 false o.fThings) := fun r => by
      unfold G_ringlaw5_dupped_h_C1
      rw [if_pos rfl, if_neg (by omega), decide_eq_false (by omega)]
    have c3 : ∀ r l, G_ringlaw5_dupped_h_C3 n 0 r o l a = some (.x0 (a.fTo != a.fFd) l) := fun r l => by
      unfold G_ringlaw5_dupped_h_C3
      rw [if_pos rfl]
    unfold G_ringlaw5_dupped_h
    by_cases hQJ : Q = J
    · have hd : G_open_Table_Dup_h n t a.fP a.fFd a.fTo = some (noth, false, 0, t) := by
        unfold G_open_Table_Dup_h
        rw [eP, eJ, eQ, find_some n t h k q (R.tb _ (by omega)), Option.bind_some]
        show (if (0 : Int) = 0 then _ else _) = _
        rw [if_pos rfl, if_neg (by omega), if_neg (by omega), if_pos (by omega)]; rfl
      refine ⟨t, o, ?_, R, Nat.le_succ _⟩
      have e : (a.fTo != a.fFd) = false := by rw [eQ, eJ, hQJ]; simp
      rw [hd, Option.bind_some, c1, Option.bind_some]
      simp only
      rw [if_neg (by simp), c3, e, Option.bind_some]
      simp only
      unfold G_ringlaw5_dupped_h_C5
      rw [if_neg (by simp), Option.bind_some]
      simp only
      unfold G_ringlaw5_dupped_h_C9
      rw [if_pos rfl, thing_ok, Option.bind_some, if_pos zz]
      rfl
    · have e : (a.fTo != a.fFd) = true := by rw [eQ, eJ]; simp; omega
      have hP' : 0 ≤ (P : Int) ∧ (P : Int) < 17 := by omega
      have hJ' : 0 ≤ (J : Int) ∧ (J : Int) < 8 := by omega
      have hQ' : 0 ≤ (Q : Int) ∧ (Q : Int) < 8 := by omega
      have hr : getA o.fFds (P : Int) = some (row o.fFds P) := rd (by omega)
      have ho := R.ob (8 * P + Q) (by omega)
      have hz := R.z (8 * P + Q) (by omega)
      have hd := dup_ok n R h k hQ hQJ q
      rw [← eP, ← eJ, ← eQ] at hd
      rcases hd with ⟨h0, hd⟩ | ⟨h0, hd⟩
      · have c5 : ∀ r, G_ringlaw5_dupped_h_C5 n 0 r true o o.fThings a = some (.x2 false (cpyO o P J Q).fFds o.fThings) := fun r => by
          unfold G_ringlaw5_dupped_h_C5 G_ringlaw5_dupped_h_C4
          have : ¬ gt o.fFds (8 * P + Q) > 0 := by omega
          simp only [eP, eJ, eQ, if_pos, if_pos hP', if_pos hJ', if_pos hQ', hr, rd8 hQ, rd8 k, Option.bind_some, if_neg this]
          rfl
        refine ⟨cpy t P J Q, cpyO o P J Q, ?_, R.cpy h k hQ q h0, Nat.le_succ _⟩
        rw [hd, Option.bind_some, c1, Option.bind_some]
        simp only
        rw [if_neg (by simp), c3, e, Option.bind_some]
        simp only
        rw [c5, Option.bind_some]
        simp only
        unfold G_ringlaw5_dupped_h_C8
        rw [if_pos rfl, thing_ok, Option.bind_some, if_pos zz]
        rfl
      · have R' := R.clr h hQ h0
        have g := gt_clr (t := t) h k hQ
        rw [if_neg (fun e => hQJ e.symm)] at g
        have g0 := gt_clr (t := t) (J := Q) h hQ hQ
        rw [if_pos rfl] at g0
        have gO := gt_clrO (o := o) h k hQ
        rw [if_neg (fun e => hQJ e.symm)] at gO
        obtain ⟨y, l1, l2⟩ := less_ok n (by omega) R (by omega) h hQ h0
        have hrc : getA (clrO o P Q).fFds (P : Int) = some (row (clrO o P Q).fFds P) := rd (by omega)
        have l1 : G_ringref5_Open_Less_h n (S_ringref5_Open.mk o.fThings o.fFds) (P : Int) (Q : Int) = _ := l1
        have hp : gt o.fFds (8 * P + Q) > 0 := by omega
        have Rc := R'.cpy h k hQ (by rw [g]; exact q) g0
        by_cases h3 : ((fl t (gt t.ffds (8 * P + Q) - 1).toNat).fn - 1 == 0) = true
        · have c5 : ∀ r, G_ringlaw5_dupped_h_C5 n 0 r true o o.fThings a = some (.x1 true (cpyO (clrO o P Q) P J Q).fFds o.fThings y) := fun r => by
            unfold G_ringlaw5_dupped_h_C5 G_ringlaw5_dupped_h_C4
            simp only [eP, eJ, eQ, if_pos, if_pos hP', if_pos hJ', if_pos hQ', hr, hrc, l1, h3, rd8 hQ, rd8 k, Option.bind_some, if_pos hp]
            rfl
          refine ⟨_, _, ?_, Rc, Nat.le_succ _⟩
          rw [hd, Option.bind_some, c1, Option.bind_some]
          simp only
          rw [if_neg (by simp), c3, e, Option.bind_some]
          simp only
          rw [c5, Option.bind_some]
          simp only
          unfold G_ringlaw5_dupped_h_C7
          rw [if_pos rfl, thing_ok, Option.bind_some]
          simp only [h3, l2, if_pos]
          rw [if_pos (eq_th _)]
          rfl
        · have h3' := Bool.eq_false_iff.2 h3
          have c5 : ∀ r, G_ringlaw5_dupped_h_C5 n 0 r true o o.fThings a = some (.x0 false (cpyO (clrO o P Q) P J Q).fFds o.fThings) := fun r => by
            unfold G_ringlaw5_dupped_h_C5 G_ringlaw5_dupped_h_C4
            simp only [eP, eJ, eQ, if_pos, if_pos hP', if_pos hJ', if_pos hQ', hr, hrc, l1, h3', rd8 hQ, rd8 k, Option.bind_some, if_pos hp, Bool.false_eq_true, if_false]
            rfl
          refine ⟨_, _, ?_, Rc, Nat.le_succ _⟩
          rw [hd, Option.bind_some, c1, Option.bind_some]
          simp only
          rw [if_neg (by simp), c3, e, Option.bind_some]
          simp only
          rw [c5, Option.bind_some]
          simp only
          unfold G_ringlaw5_dupped_h_C6
          rw [if_pos rfl, thing_ok, Option.bind_some]
          simp only [h3', Bool.false_eq_true, if_false]
          rw [if_pos zz]
          rfl
theorem opened_ok (n : Nat) {t : Tb} {o : Op} (hn : o.fThings.length + 300 < n) (hb : o.fThings.length < 2000000000000) (R : Rel t o) (a : Ac) : Good n o (G_ringlaw5_opened_h n t o a) := by
  obtain ⟨r, hr⟩ := rest_ok n a.fKind
  unfold G_ringlaw5_opened_h
  have zz : eqRes .eql (eqS_open_Thing noth ⟨0, 0, 0, false, 0⟩) = true := eq_th noth
  have hE : ∃ e, G_ringref5_Open_ErrFd_h n o a.fP a.fFd = some (e, o) := by
    rcases both n R a.fP a.fFd with ⟨c, _, h, _⟩ | ⟨P, J, e, e', h, k, _, q⟩
    · exact ⟨c, h⟩
    · exact ⟨0, by rw [e, e']; exact err_some n o h k q⟩
  by_cases r0 : r = 0
  · obtain ⟨e, hE⟩ := hE
    obtain ⟨s, f, t', o', w1, w2, w3, w4⟩ := open_add n (by omega) hb R a.fP a.fThing
    rw [hE, Option.bind_some, hr, Option.bind_some, if_pos r0, thing_ok, Option.bind_some, w1, Option.bind_some]
    simp only
    rw [w2, Option.bind_some, if_pos rfl]
    refine ⟨t', o', ?_, w3, w4⟩
    simp
  by_cases r5 : r ≠ 1 ∧ r ≠ 2 ∧ r ≠ 3 ∧ r ≠ 4
  · obtain ⟨e, hE⟩ := hE
    obtain ⟨t', o', w1, w2, w3⟩ := forked_ok n hn hb R a
    rw [hE, Option.bind_some, hr, Option.bind_some, if_neg r0, if_neg r5.1, if_neg r5.2.1, if_neg r5.2.2.1, if_neg r5.2.2.2]
    simp only
    rw [w1]
    exact ⟨t', o', rfl, w2, w3⟩
  rcases both n R a.fP a.fFd with ⟨c, hc, hE, hF⟩ | ⟨P, J, eP, eJ, h, k, q, q'⟩
  · have hc0 : ¬ c = 0 := by omega
    rw [hE, Option.bind_some, hr, Option.bind_some, if_neg r0]
    simp only
    by_cases r1 : r = 1
    · have hg : G_open_Table_Get_h n t a.fP a.fFd = some (noth, c, t) := by
        unfold G_open_Table_Get_h
        rw [hF, Option.bind_some]
        show (if c = 0 then _ else _) = _
        rw [if_neg hc0]; rfl
      rw [if_pos r1, hg, Option.bind_some]
      unfold G_ringlaw5_opened_h_C1
      rw [if_pos rfl, if_neg hc0, if_pos zz]
      exact ⟨t, o, rfl, R, Nat.le_succ _⟩
    rw [if_neg r1]
    by_cases r2 : r = 2
    · have hs : G_open_Table_Seek_h n t a.fP a.fFd a.fTo = some (c, t) := by
        unfold G_open_Table_Seek_h
        rw [hF, Option.bind_some]
        show (if c = 0 then _ else _) = _
        rw [if_neg hc0]
      rw [if_pos r2]
      unfold G_ringlaw5_opened_h_C2
      rw [if_neg hc0, Option.bind_some]
      simp only
      rw [if_neg (by simp), if_neg hc0, hs, Option.bind_some]
      refine ⟨t, o, ?_, R, Nat.le_succ _⟩
      simp
    rw [if_neg r2]
    by_cases r3 : r = 3
    · have hs : G_open_Table_Close_h n t a.fP a.fFd = some (noth, false, c, t) := by
        unfold G_open_Table_Close_h
        rw [hF, Option.bind_some]
        show (if c = 0 then _ else _) = _
        rw [if_neg hc0]; rfl
      rw [if_pos r3, hs, Option.bind_some, if_neg hc0]
      unfold G_ringlaw5_opened_h_C3
      rw [if_pos rfl, if_pos zz]
      exact ⟨t, o, rfl, R, Nat.le_succ _⟩
    have r4 : r = 4 := by
      by_cases r4 : r = 4
      · exact r4
      · exact absurd ⟨r1, r2, r3, r4⟩ r5
    obtain ⟨t', o', w1, w2, w3⟩ := dupped_none n R a hc hF
    rw [if_neg r3, if_pos r4, w1]
    exact ⟨t', o', rfl, w2, w3⟩
  · have hF : G_open_Table_find_h n t a.fP a.fFd = some (some (((gt t.ffds (8 * P + J) - 1).toNat : Nat) : Int), 0, t) := by rw [eP, eJ]; exact find_some n t h k q (R.tb _ (by omega))
    have hE : G_ringref5_Open_ErrFd_h n o a.fP a.fFd = some (0, o) := by rw [eP, eJ]; exact err_some n o h k q'
    have hk : (gt t.ffds (8 * P + J) - 1).toNat < 32 := by have := R.tb (8 * P + J) (by omega); omega
    rw [hE, Option.bind_some, hr, Option.bind_some, if_neg r0]
    simp only
    by_cases r1 : r = 1
    · obtain ⟨y, a1, a2, a3⟩ := at_ok n R (by omega) h k q
      rw [← eP, ← eJ] at a1
      have hg : G_open_Table_Get_h n t a.fP a.fFd = some (th y, 0, t) := by
        unfold G_open_Table_Get_h
        rw [hF, Option.bind_some]
        simp only
        rw [rdF hk, if_pos trivial, Option.bind_some, a3]
      rw [if_pos r1, hg, Option.bind_some]
      unfold G_ringlaw5_opened_h_C1
      rw [if_pos rfl, if_pos rfl, a1, Option.bind_some, a2, Option.bind_some, thing_ok, Option.bind_some, eq_th]
      exact ⟨t, o, rfl, R, Nat.le_succ _⟩
    rw [if_neg r1]
    by_cases r2 : r = 2
    · rw [if_pos r2]
      unfold G_ringlaw5_opened_h_C2
      rw [if_pos rfl]
      by_cases hbad : a.fTo < 0 ∨ a.fTo > 512
      · have hs : G_open_Table_Seek_h n t a.fP a.fFd a.fTo = some (1, t) := by
          unfold G_open_Table_Seek_h
          rw [hF, Option.bind_some]
          simp only
          rw [if_pos trivial]
          by_cases h1 : a.fTo < 0
          · rw [if_pos h1]
          · rw [if_neg h1, if_pos (by omega)]
        have hC : (if a.fTo < 0 then some (G_ringlaw5_opened_h_C2_R.x0 true o.fThings) else some (.x0 (decide (a.fTo > 512)) o.fThings)) = some (.x0 true o.fThings) := by
          by_cases h1 : a.fTo < 0
          · rw [if_pos h1]
          · rw [if_neg h1, decide_eq_true (by omega)]
        rw [hC, Option.bind_some]
        simp only
        rw [if_pos trivial, hs, Option.bind_some]
        exact ⟨t, o, rfl, R, Nat.le_succ _⟩
      · obtain ⟨y, a1, a2, a3⟩ := at_ok n R (by omega) h k q
        rw [← eP, ← eJ] at a1
        have a1 : G_ringref5_Open_At_h n (S_ringref5_Open.mk o.fThings o.fFds) a.fP a.fFd = _ := a1
        have hs : G_open_Table_Seek_h n t a.fP a.fFd a.fTo = some (0, S_open_Table.mk (setA t.ffiles (((gt t.ffds (8 * P + J) - 1).toNat : Nat) : Int) ⟨th ⟨y.fKind, y.fId, y.fMay, y.fMore, a.fTo⟩, (fl t (gt t.ffds (8 * P + J) - 1).toNat).fn⟩) t.ffds) := by
          unfold G_open_Table_Seek_h
          rw [hF, Option.bind_some]
          simp only
          rw [if_pos trivial, if_neg (by omega), if_neg (by omega), rdF hk, Option.bind_some, a3]
          rfl
        rw [if_neg (by omega), decide_eq_false (by omega), Option.bind_some]
        simp only
        rw [if_neg (by simp), if_pos trivial, a1, Option.bind_some]
        simp only
        rw [a2, Option.bind_some, hs, Option.bind_some]
        refine ⟨_, _, rfl, ?_, by simp⟩
        exact R.seek (i := 8 * P + J) (y := y) (z := ⟨y.fKind, y.fId, y.fMay, y.fMore, a.fTo⟩) (by omega) q (fun j hj => by rw [fl_set hj]; split <;> rename_i e; rw [e]; rfl) (fun j hj => rfl) (fun j hj => rfl) rfl
    rw [if_neg r2]
    by_cases r3 : r = 3
    · have hs := close_some n R h k q
      obtain ⟨y, l1, l2⟩ := less_ok n (by omega) R (by omega) h k q
      rw [← eP, ← eJ] at hs l1
      rw [if_pos r3, hs, Option.bind_some, if_pos trivial, l1, Option.bind_some]
      unfold G_ringlaw5_opened_h_C4
      rw [if_pos rfl, thing_ok, Option.bind_some, l2, if_pos (eq_th _)]
      refine ⟨clr t P J, clrO o P J, ?_, R.clr h k q, Nat.le_succ _⟩
      simp [eqRes, clrO]
    have r4 : r = 4 := by
      by_cases r4 : r = 4
      · exact r4
      · exact absurd ⟨r1, r2, r3, r4⟩ r5
    obtain ⟨t', o', w1, w2, w3⟩ := dupped_some n hn hb R a eP eJ h k q q'
    rw [if_neg r3, if_pos r4, w1]
    exact ⟨t', o', rfl, w2, w3⟩
end op
end Go.Proofs.Ytlnlhppaiagafaa.pv
