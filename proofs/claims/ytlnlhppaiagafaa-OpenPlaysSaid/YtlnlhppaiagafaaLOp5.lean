/- OpenPlays: a fork, and a descriptor that is laid on another, at both tables. -/
import Derived.Test.YtlnlhppaiagafaaLOp4
namespace Go.Proofs.Ytlnlhppaiagafaa.pv
set_option linter.all false
open Go.RowKit help
namespace op

theorem fork_loop (n : Nat) {t : Tb} {o : Op} (R : Rel t o) (P : Nat) (hP : 1 ≤ P ∧ P ≤ 16) : ∀ (m i : Nat) (b : Tb), 8 - i < m → i ≤ 8 →
    (∀ k : Nat, k < 32 → fl b k = ⟨(fl t k).fThing, (fl t k).fn + num (fun j => gt t.ffds (8 * P + j)) i ((k : Int) + 1)⟩) →
    ∃ b', G_open_Table_Fork_h_L2 n (row t.ffds P) m (i : Int) b = some (.x0 b') ∧ (∀ k : Nat, k < 32 → fl b' k = ⟨(fl t k).fThing, (fl t k).fn + num (fun j => gt t.ffds (8 * P + j)) 8 ((k : Int) + 1)⟩) ∧ b'.ffds = b.ffds
  | 0, i, _, h, _, _ => by omega
  | m + 1, i, b, h, hi, hb => by
    unfold G_open_Table_Fork_h_L2
    by_cases h1 : i < 8
    · rw [if_pos (by omega), rd8 h1, Option.bind_some, wi_succ (by omega)]
      have ht := R.tb (8 * P + i) (by omega)
      by_cases h2 : gt t.ffds (8 * P + i) = 0
      · rw [if_pos h2]
        refine fork_loop n R P hP m (i + 1) b (by omega) (by omega) (fun k hk => ?_)
        rw [hb k hk, num_succ, if_neg (by rw [h2]; omega)]
        rfl
      · have hs : ((gt t.ffds (8 * P + i) - 1).toNat : Int) = gt t.ffds (8 * P + i) - 1 := by omega
        have hk : (gt t.ffds (8 * P + i) - 1).toNat < 32 := by omega
        rw [if_neg h2, wi64 (by omega) (by omega), if_pos ⟨by omega, by omega⟩, ← hs, rdF hk, Option.bind_some, if_pos ⟨by omega, by omega⟩, Option.bind_some]
        have hn := R.n _ hk
        have hb' := hb _ hk
        have l1 := num_le (f := gt t.ffds) (m := 136) (v := ((gt t.ffds (8 * P + i) - 1).toNat : Int) + 1)
        have l2 := num_le (f := fun j => gt t.ffds (8 * P + j)) (m := i) (v := ((gt t.ffds (8 * P + i) - 1).toNat : Int) + 1)
        have e1 : (fl b (gt t.ffds (8 * P + i) - 1).toNat).fn = (fl t (gt t.ffds (8 * P + i) - 1).toNat).fn + num (fun j => gt t.ffds (8 * P + j)) i (((gt t.ffds (8 * P + i) - 1).toNat : Int) + 1) := by rw [hb']
        rw [wi64 (by omega) (by omega)]
        refine fork_loop n R P hP m (i + 1) _ (by omega) (by omega) (fun k hk' => ?_)
        rw [fl_set hk', num_succ]
        split
        · rename_i e
          subst e
          rw [if_pos (by omega), hb']
          simp only
          congr 1
          omega
        · rename_i e
          rw [if_neg (by omega), hb k hk']
          rfl
    · have : i = 8 := by omega
      rw [if_neg (by omega)]
      subst this
      exact ⟨b, rfl, hb, rfl⟩
theorem num_row {f : Nat → Int} {P C : Nat} (hP : P ≤ 16) (hC : C ≤ 16) (hz : ∀ j, j < 8 → f (8 * C + j) = 0) {v : Int} (hv : v ≠ 0) : ∀ m, m ≤ 8 →
    num (fun i => if i / 8 = C ∧ i % 8 < m then f (8 * P + i % 8) else f i) 136 v = num f 136 v + num (fun j => f (8 * P + j)) m v
  | 0, _ => by
    have : num (fun i => if i / 8 = C ∧ i % 8 < 0 then f (8 * P + i % 8) else f i) 136 v = num f 136 v := num_ext fun i hi => by rw [if_neg (by omega)]
    have e0 : num (fun j => f (8 * P + j)) 0 v = 0 := rfl
    rw [this, e0, Nat.add_zero]
  | m + 1, hm => by
    have ih := num_row hP hC hz hv m (by omega)
    have a := num_upd (f := fun i => if i / 8 = C ∧ i % 8 < m then f (8 * P + i % 8) else f i) (g := fun i => if i / 8 = C ∧ i % 8 < m + 1 then f (8 * P + i % 8) else f i) (m := 136) (i := 8 * C + m) (v := f (8 * P + m)) (by omega) (fun j hj => by
      unfold upd
      simp only
      by_cases e : j = 8 * C + m
      · have : j % 8 = m := by omega
        rw [if_pos e, if_pos ⟨by omega, by omega⟩, this]
      · rw [if_neg e]
        by_cases e2 : j / 8 = C ∧ j % 8 < m
        · rw [if_pos e2, if_pos ⟨e2.1, by omega⟩]
        · rw [if_neg e2, if_neg (by omega)]) v
    rw [if_neg (show ¬ ((8 * C + m) / 8 = C ∧ (8 * C + m) % 8 < m) by omega), hz m (by omega), if_neg (fun e => hv e.symm)] at a
    have b : num (fun j => f (8 * P + j)) (m + 1) v = num (fun j => f (8 * P + j)) m v + (if f (8 * P + m) = v then 1 else 0) := num_succ
    omega
theorem Rel.fork {t t' : Tb} {o o' : Op} (R : Rel t o) {P C : Nat} (hP : P ≤ 16) (hC : C ≤ 16) (hz : ∀ j, j < 8 → gt t.ffds (8 * C + j) = 0)
    (hf : ∀ k : Nat, k < 32 → fl t' k = ⟨(fl t k).fThing, (fl t k).fn + num (fun j => gt t.ffds (8 * P + j)) 8 ((k : Int) + 1)⟩)
    (hg : ∀ i, i < 136 → gt t'.ffds i = if i / 8 = C then gt t.ffds (8 * P + i % 8) else gt t.ffds i)
    (ho : ∀ i, i < 136 → gt o'.fFds i = if i / 8 = C then gt o.fFds (8 * P + i % 8) else gt o.fFds i) (hT : o'.fThings = o.fThings) : Rel t' o' := by
  have key : ∀ i, i < 136 → ∃ s, s < 136 ∧ gt t'.ffds i = gt t.ffds s ∧ gt o'.fFds i = gt o.fFds s := fun i hi => by
    by_cases e : i / 8 = C
    · exact ⟨8 * P + i % 8, by omega, by rw [hg i hi, if_pos e], by rw [ho i hi, if_pos e]⟩
    · exact ⟨i, hi, by rw [hg i hi, if_neg e], by rw [ho i hi, if_neg e]⟩
  exact {
    z := fun i hi => by obtain ⟨s, h, a, b⟩ := key i hi; rw [a, b]; exact R.z s h
    tb := fun i hi => by obtain ⟨s, h, a, b⟩ := key i hi; rw [a]; exact R.tb s h
    ob := fun i hi => by obtain ⟨s, h, a, b⟩ := key i hi; rw [b, hT]; exact R.ob s h
    eq := fun i j hi hj => by obtain ⟨s, h, a, b⟩ := key i hi; obtain ⟨s', h', a', b'⟩ := key j hj; rw [a, b, a', b']; exact R.eq s s' h h'
    th := fun i hi hne => by
      obtain ⟨s, h, a, b⟩ := key i hi
      rw [a] at hne ⊢
      rw [b, hT]
      obtain ⟨y, h1, h2⟩ := R.th s h hne
      have := R.tb s h
      exact ⟨y, h1, by rw [hf _ (by omega)]; exact h2⟩
    n := fun k hk => by
      have a := num_row (f := gt t.ffds) hP hC hz (v := (k : Int) + 1) (by omega) 8 (by omega)
      have b : num (gt t'.ffds) 136 ((k : Int) + 1) = num (fun i => if i / 8 = C ∧ i % 8 < 8 then gt t.ffds (8 * P + i % 8) else gt t.ffds i) 136 ((k : Int) + 1) := num_ext fun i hi => by
        rw [hg i hi]
        by_cases e : i / 8 = C
        · rw [if_pos e, if_pos ⟨e, by omega⟩]
        · rw [if_neg e, if_neg (by omega)]
      have c := R.n k hk
      rw [hf k hk, b, a]
      show (fl t k).fn + _ = _
      omega }
theorem busy_loop (n : Nat) (p c : Int) (t : Tb) (C : Nat) : ∀ (m i : Nat), 8 - i < m → i ≤ 8 → (∀ j, j < i → gt t.ffds (8 * C + j) = 0) →
    (G_open_Table_Fork_h_L1 n p c (row t.ffds C) t m (i : Int) = some .x1 ∧ ∀ j, j < 8 → gt t.ffds (8 * C + j) = 0) ∨ (G_open_Table_Fork_h_L1 n p c (row t.ffds C) t m (i : Int) = some (.x0 8) ∧ ∃ j, j < 8 ∧ gt t.ffds (8 * C + j) ≠ 0)
  | 0, i, h, _, _ => by omega
  | m + 1, i, h, hi, hb => by
    unfold G_open_Table_Fork_h_L1
    by_cases h1 : i < 8
    · rw [if_pos (by omega), rd8 h1, Option.bind_some, wi_succ (by omega)]
      by_cases h2 : gt t.ffds (8 * C + i) = 0
      · rw [if_pos h2]
        exact busy_loop n p c t C m (i + 1) (by omega) (by omega) (fun j hj => by
          by_cases e : j = i
          · rw [e]; exact h2
          · exact hb j (by omega))
      · rw [if_neg h2]
        exact .inr ⟨rfl, i, h1, h2⟩
    · rw [if_neg (by omega)]
      exact .inl ⟨rfl, fun j hj => hb j (by omega)⟩
theorem eq_zero {F : FD} {C : Nat} : eqA_8_int (row F C) (fun _ => 0) = true ↔ ∀ j, j < 8 → gt F (8 * C + j) = 0 := by
  have g : ∀ (j : Nat) (hj : j < 8), row F C ⟨j, hj⟩ = gt F (8 * C + j) := fun j hj => by
    have := of_get (F := F) (p := C) hj
    rw [List.getElem?_ofFn, dif_pos hj] at this
    exact Option.some.inj this
  unfold eqA_8_int
  simp only [Bool.and_eq_true, beq_iff_eq, and_true]
  constructor
  · intro ⟨h0, h1, h2, h3, h4, h5, h6, h7⟩ j hj
    rw [← g j hj]
    match j, hj with
    | 0, _ => exact h0
    | 1, _ => exact h1
    | 2, _ => exact h2
    | 3, _ => exact h3
    | 4, _ => exact h4
    | 5, _ => exact h5
    | 6, _ => exact h6
    | 7, _ => exact h7
  · intro h
    exact ⟨(g 0 (by omega)).trans (h 0 (by omega)), (g 1 (by omega)).trans (h 1 (by omega)), (g 2 (by omega)).trans (h 2 (by omega)), (g 3 (by omega)).trans (h 3 (by omega)), (g 4 (by omega)).trans (h 4 (by omega)), (g 5 (by omega)).trans (h 5 (by omega)), (g 6 (by omega)).trans (h 6 (by omega)), (g 7 (by omega)).trans (h 7 (by omega))⟩
theorem Rel.same {t : Tb} {o o' : Op} (R : Rel t o) (ho : ∀ i, i < 136 → gt o'.fFds i = gt o.fFds i) (hT : o'.fThings = o.fThings) : Rel t o' where
  z i hi := by rw [ho i hi]; exact R.z i hi
  tb := R.tb
  ob i hi := by rw [ho i hi, hT]; exact R.ob i hi
  eq i j hi hj := by rw [ho i hi, ho j hj]; exact R.eq i j hi hj
  th i hi hne := by rw [ho i hi, hT]; exact R.th i hi hne
  n := R.n
theorem rest_ok (n : Nat) (k : Int) : ∃ r, G_ringref5_Rest n k 8 = some r := by
  unfold G_ringref5_Rest
  rw [if_pos (by decide)]
  split <;> exact ⟨_, rfl⟩
abbrev Ac := S_ringlaw5_Act
/-- both tables answer alike -/
def Good (n : Nat) (o : Op) (x : Option (Bool × Tb × Op)) : Prop := ∃ t' o', x = some (true, t', o') ∧ Rel t' o' ∧ o'.fThings.length ≤ o.fThings.length + 1
theorem forked_ok (n : Nat) {t : Tb} {o : Op} (hn : o.fThings.length + 300 < n) (hb : o.fThings.length < 2000000000000) (R : Rel t o) (a : Ac) : Good n o (G_ringlaw5_forked_h n t o a) := by
  obtain ⟨r, hr⟩ := rest_ok n a.fKind
  unfold G_ringlaw5_forked_h
  rw [hr, Option.bind_some]
  by_cases h5 : r = 5
  · rw [if_pos h5]
    unfold G_ringlaw5_forked_h_C1
    rw [in_ok, Option.bind_some]
    by_cases hp : 1 ≤ a.fP ∧ a.fP ≤ 16
    · by_cases hc : 1 ≤ a.fTo ∧ a.fTo ≤ 16
      · obtain ⟨P, eP⟩ := Int.eq_ofNat_of_zero_le (show 0 ≤ a.fP by omega)
        obtain ⟨C, eC⟩ := Int.eq_ofNat_of_zero_le (show 0 ≤ a.fTo by omega)
        rw [decide_eq_true hp, if_pos rfl, in_ok, decide_eq_true hc, Option.bind_some, Option.bind_some]
        simp only
        unfold G_ringlaw5_forked_h_C2
        rw [if_neg (by simp), eC, if_pos ⟨by omega, by omega⟩, rd (by omega), Option.bind_some]
        have hFk : ∀ x, G_open_Table_Fork_h n t a.fP (C : Int) = x → G_open_Table_Fork_h n t a.fP a.fTo = x := fun x h => by rw [eC]; exact h
        by_cases hz : ∀ j, j < 8 → gt o.fFds (8 * C + j) = 0
        · have hz' : ∀ j, j < 8 → gt t.ffds (8 * C + j) = 0 := fun j hj => (R.z (8 * C + j) (by omega)).2 (hz j hj)
          rw [eq_zero.2 hz, if_neg (by decide), eP, if_pos ⟨by omega, by omega⟩, rd (by omega), Option.bind_some, if_pos ⟨by omega, by omega⟩, Option.bind_some, Option.bind_some]
          simp only
          unfold G_open_Table_Fork_h
          rcases busy_loop n (P : Int) (C : Int) t C n 0 (by omega) (by omega) (fun j hj => by omega) with ⟨q1, q2⟩ | ⟨q1, j, q2, q3⟩
          · have q1 : G_open_Table_Fork_h_L1 n (P : Int) (C : Int) (row t.ffds C) t n 0 = _ := q1
            rw [owner_ok, decide_eq_true (by omega), Option.bind_some, if_pos rfl, owner_ok, decide_eq_true (by omega), Option.bind_some, if_pos rfl, if_pos ⟨by omega, by omega⟩, rd (by omega), Option.bind_some, q1, Option.bind_some]
            simp only
            by_cases hpc : P = C
            · subst hpc
              rw [if_pos rfl, Option.bind_some]
              refine ⟨t, _, rfl, R.same (fun i hi => ?_) rfl, Nat.le_succ _⟩
              have := gt_row (F := o.fFds) (p := P) (q := P) hi
              refine this.trans ?_
              split
              · congr 1; omega
              · rfl
            · rw [if_neg (by omega), if_pos ⟨by omega, by omega⟩, rd (by omega), Option.bind_some, if_pos ⟨by omega, by omega⟩, Option.bind_some, if_pos ⟨by omega, by omega⟩, rd (by omega), Option.bind_some, row_set (by omega), if_neg hpc]
              obtain ⟨b', w1, w2, w3⟩ := fork_loop n R P (by omega) n 0 (S_open_Table.mk t.ffiles (setA t.ffds (C : Int) (row t.ffds P))) (by omega) (by omega) (fun k hk => by
                show fl t k = ⟨(fl t k).fThing, (fl t k).fn + ((0 : Nat) : Int)⟩
                rw [show (fl t k).fn + ((0 : Nat) : Int) = (fl t k).fn by omega])
              have w1 : G_open_Table_Fork_h_L2 n (row t.ffds P) n 0 (S_open_Table.mk t.ffiles (setA t.ffds (C : Int) (row t.ffds P))) = _ := w1
              rw [w1, Option.bind_some]
              refine ⟨b', _, rfl, ?_, Nat.le_succ _⟩
              exact R.fork (P := P) (C := C) (by omega) (by omega) hz' w2 (fun i hi => by rw [w3]; exact gt_row hi) (fun i hi => gt_row hi) rfl
          · exact absurd (hz' j q2) q3
        · have hz' : ¬ eqA_8_int (row o.fFds C) (fun _ => 0) = true := fun e => hz (eq_zero.1 e)
          rw [Bool.eq_false_iff.2 hz', if_pos (by decide), Option.bind_some]
          simp only
          rw [eP]
          unfold G_open_Table_Fork_h
          rcases busy_loop n (P : Int) (C : Int) t C n 0 (by omega) (by omega) (fun j hj => by omega) with ⟨q1, q2⟩ | ⟨q1, j, q2, q3⟩
          · exact absurd (fun j hj => (R.z (8 * C + j) (by omega)).1 (q2 j hj)) hz
          · have q1 : G_open_Table_Fork_h_L1 n (P : Int) (C : Int) (row t.ffds C) t n 0 = _ := q1
            rw [owner_ok, decide_eq_true (by omega), Option.bind_some, if_pos rfl, owner_ok, decide_eq_true (by omega), Option.bind_some, if_pos rfl, if_pos ⟨by omega, by omega⟩, rd (by omega), Option.bind_some, q1, Option.bind_some]
            exact ⟨t, o, rfl, R, Nat.le_succ _⟩
      · rw [decide_eq_true hp, if_pos rfl, in_ok, decide_eq_false hc, Option.bind_some, Option.bind_some]
        simp only
        unfold G_ringlaw5_forked_h_C2
        rw [if_pos (by simp), Option.bind_some]
        simp only
        unfold G_open_Table_Fork_h
        rw [owner_ok, decide_eq_true hp, Option.bind_some, if_pos rfl, owner_ok, decide_eq_false hc, Option.bind_some, if_neg (by simp)]
        exact ⟨t, o, rfl, R, Nat.le_succ _⟩
    · rw [decide_eq_false hp, if_neg (by simp), Option.bind_some]
      simp only
      unfold G_ringlaw5_forked_h_C2
      rw [if_pos (by simp), Option.bind_some]
      simp only
      unfold G_open_Table_Fork_h
      rw [owner_ok, decide_eq_false hp, Option.bind_some, if_neg (by simp)]
      exact ⟨t, o, rfl, R, Nat.le_succ _⟩
  · rw [if_neg h5]
    by_cases h6 : r = 6
    · rw [if_pos h6]
      by_cases hp : 1 ≤ a.fP ∧ a.fP ≤ 16
      · obtain ⟨P, eP⟩ := Int.eq_ofNat_of_zero_le (show 0 ≤ a.fP by omega)
        obtain ⟨t', o', V', r1, r2, r3, r4, r5⟩ := drop_ok n (by omega) hb R (P := P) (by omega)
        have l := copy_loop n (V'.map th, 0, t') V' o' o'.fThings r5 n 0 (by omega) (by omega)
        have l : G_ringlaw5_forked_h_L3 n (V'.map th, 0, t') (V', o') n 0 o'.fThings [] = _ := l
        rw [eP, r1, Option.bind_some, in_ok, decide_eq_true (by omega), Option.bind_some, if_pos rfl, r2, Option.bind_some, l, Option.bind_some]
        simp only
        rw [equal_ok n (V'.map th) (by rw [List.length_map]; omega) (by rw [List.length_map]; omega), Option.bind_some]
        exact ⟨t', o', rfl, r3, by rw [r4]; omega⟩
      · unfold G_open_Table_Drop_h
        rw [owner_ok, in_ok, decide_eq_false hp, Option.bind_some, if_neg (by simp), Option.bind_some, Option.bind_some, if_neg (by simp)]
        exact ⟨t, o, rfl, R, Nat.le_succ _⟩
    · rw [if_neg h6]
      by_cases hp : 1 ≤ a.fP ∧ a.fP ≤ 16
      · obtain ⟨P, eP⟩ := Int.eq_ofNat_of_zero_le (show 0 ≤ a.fP by omega)
        have key : ∀ r, ∃ V', G_open_Table_All_h_L1 n (row t.ffds P) t n 0 [] = some (.x0 V') ∧ G_ringlaw5_forked_h_L4 n r (row o.fFds P) o n 0 o.fThings [] = some (.x0 o.fThings V') ∧ V'.length ≤ 8 := fun r =>
          all_loop n P (by omega) R r n n 0 [] (by omega) (by omega) (by omega) (by simp)
        obtain ⟨V', q1, _, _⟩ := key ([], 0, t)
        have hA : G_open_Table_All_h n t (P : Int) = some (V', 0, t) := by
          unfold G_open_Table_All_h
          rw [owner_ok, decide_eq_true (by omega), Option.bind_some, if_pos rfl, if_pos ⟨by omega, by omega⟩, rd (by omega), Option.bind_some, q1]; rfl
        obtain ⟨V2, w1, w2, w3⟩ := key (V', 0, t)
        have e : V2 = V' := by rw [q1] at w1; cases w1; rfl
        subst e
        rw [eP, hA, Option.bind_some, in_ok, decide_eq_true (by omega), Option.bind_some, if_pos rfl, if_pos ⟨by omega, by omega⟩, rd (by omega), Option.bind_some, w2, Option.bind_some]
        simp only
        rw [equali_ok n V2 (by omega) (by omega), Option.bind_some]
        exact ⟨t, o, rfl, R, Nat.le_succ _⟩
      · unfold G_open_Table_All_h
        rw [owner_ok, in_ok, decide_eq_false hp, Option.bind_some, if_neg (by simp), Option.bind_some, Option.bind_some, if_neg (by simp)]
        exact ⟨t, o, rfl, R, Nat.le_succ _⟩
end op
end Go.Proofs.Ytlnlhppaiagafaa.pv
