/- Rows of rows: a hole is closed; calls that look at them; a slice's length that is still wanted. -/
import Derived.Test.YtdimcmpkhbfcnaaSn
namespace Go.Proofs.Ytdimcmpkhbfcnaa.pv
set_option linter.all false
open Go.RowKit

section
variable {P : Program} {T : List TI} {n : Nat} {w0 : Cx} {st : PS} {a : Act} {w : World} {ow : Nat → Bool} {hd : Nat → Value}
/-- the row that was taken out of the hole j is in its cell again -/
def nClose (l B L ty sz : Nat) (ct : Nat → Nat × Nat) (q' : Nat → Bool) (hs' : List (Option Nat)) (xs' : List PV) (fs : List FV) (j : Nat) (st : PS) : PS :=
  ⟨st.f, ((st.m.set B .none).set L .none).set l (.cu (outC ty sz q' hs' xs') ((fs.set 0 (.srf st.m.length)).set (j + 1) (.d (.v noB)))) ++ [.cu (bagC ct q' xs') []]⟩
theorem nclose {l B L ty sz i off j e s : Nat} {ct : Nat → Nat × Nat} {q q' : Nat → Bool} {hs : List (Option Nat)} {xs ys : List PV} {fs : List FV} {y y' : PV} (hlB : l ≠ B) (hlL : l ≠ L) (hBL : B ≠ L) (hf : xs.all (fits sz) = true) (hy : xs[i]? = some y) (hoff : off < sz) (hy' : pcells y' = (pcells y).set off (.sl ys)) (ht' : isTup y' = false)
    (hq : q (i * sz + off) = false) (hj : hs[j]? = some (some (i * sz + off))) (hu : ∀ j' : Nat, j' ≠ j → hs[j']? ≠ some (some (i * sz + off))) (h0 : fs[0]? = some (.srf B)) (hL : fs[j + 1]? = some (.srf L)) (hct : ct (i * sz + off) = (e, s)) (hq' : ∀ k, k < xs.length * sz → q' k = (q k || decide (k = i * sz + off))) :
    SilX [(l, .cu (outC ty sz q hs xs) fs), (B, .cu (bagC ct q xs) []), (L, .row e s ys)] (nClose l B L ty sz ct q' (hs.set j none) (xs.set i y') fs j) := by
  intro st hm
  refine ⟨rfl, fun n w0 a w S => ?_⟩
  obtain ⟨ow, hd, hold, S⟩ := S
  have hml := hm (l, .cu (outC ty sz q hs xs) fs) (by simp)
  have hmb := hm (B, .cu (bagC ct q xs) []) (by simp)
  have hmL := hm (L, .row e s ys) (by simp)
  simp only at hml hmb hmL
  have hlt := (List.getElem?_eq_some_iff.1 hml).1
  obtain ⟨b1, vs, b2, cells, caps, b3, b4, b5⟩ := S.objs l _ hml
  obtain ⟨c1, cvs, c2, caps', c3, c4, c5, c6, c7⟩ := S.objs B _ hmb
  obtain ⟨cs, r1, r2, r3⟩ := S.objs L _ hmL
  have hcc : caps' = caps := by
    obtain ⟨u, hu, hr, _⟩ := b2.get 0 _ h0
    rw [b4] at hu; cases hu
    simp only [RF] at hr
    rw [c3] at hr
    have := hr.2.1
    simp only [Value.func.injEq] at this
    exact this.2.2.symm
  subst hcc
  have hvL : vs[j + 1]? = some (hd L) := by
    obtain ⟨u, hu, hr, _⟩ := b2.get (j + 1) _ hL
    simp only [RF] at hr
    rw [hu, hr.2.1]
  generalize hk : i * sz + off = k at *
  have hkl : k < (fl xs).length := by
    have hmul : i * sz + sz ≤ xs.length * sz := by rw [← Nat.succ_mul]; exact Nat.mul_le_mul_right _ (List.getElem?_eq_some_iff.1 hy).1
    rw [fl_len hf]; omega
  have hfl' : fl (xs.set i y') = (fl xs).set k (.sl ys) := by rw [← hk]; exact fl_set hf hy hoff hy'
  have hcb : k < caps'.size := by rw [c4]; exact hkl
  have hjl : j < hs.length := (List.getElem?_eq_some_iff.1 hj).1
  -- the new bag
  have hcap2 : ∀ (i : Nat) (v : Value), (caps'.setIfInBounds k (hd L))[i]? = some v → (i = k ∧ v = hd L) ∨ (i ≠ k ∧ caps'[i]? = some v) := by
    intro i v h
    rw [Array.getElem?_setIfInBounds] at h
    by_cases e : k = i
    · subst e; rw [if_pos rfl, if_pos hcb] at h; cases h; exact .inl ⟨rfl, rfl⟩
    · rw [if_neg e] at h; exact .inr ⟨fun h => e h.symm, h⟩
  have hb2 : ∀ b, b ∈ blocksOf (.func (.func 0) #[] (caps'.setIfInBounds k (hd L))) → b ∈ blocksOf (hd B) ∨ b ∈ blocksOf (hd L) := by
    intro b hb
    obtain ⟨i, v, hi, hv⟩ := mem_caps hb
    rcases hcap2 i v hi with ⟨_, rfl⟩ | ⟨hne, hi⟩
    · exact .inr (mem_of_bo hv)
    · exact .inl (by rw [c3]; exact caps_mem hi hv)
  have hsize : (caps'.setIfInBounds k (hd L)).size = (fl (xs.set i y')).length := by rw [hfl', List.length_set]; simpa using c4
  have hqq : ∀ k', k' < (fl xs).length → q' k' = (q k' || decide (k' = k)) := fun k' h => hq' k' (by rw [fl_len hf] at h; exact h)
  have hbag : bagI ct q' (xs.set i y') ow w (.func (.func 0) #[] (caps'.setIfInBounds k (hd L))) := by
    refine ⟨_, rfl, hsize, fun i' hi hqi => ?_, fun i' v hi hqi => ?_, fun i' i'' v v' b hne hi hi' hv => ?_⟩
    · have hi2 : i' < caps'.size := by simpa using hi
      by_cases e : i' = k
      · subst e
        exact ⟨ys, cs, hd L, by rw [hfl', List.getElem?_set_self hkl], by rw [Array.getElem?_setIfInBounds, if_pos rfl, if_pos hcb], by rw [hct]; exact r1, by rw [hct]; exact r3⟩
      · have hqk : q i' = true := by
          have := hqq i' (by rw [← c4]; exact hi2)
          rw [hqi] at this
          simpa [e] using this.symm
        obtain ⟨zs, cs2, v, z1, z2, z3, z4⟩ := c5 i' hi2 hqk
        exact ⟨zs, cs2, v, by rw [hfl', List.getElem?_set_ne (Ne.symm e)]; exact z1, by rw [Array.getElem?_setIfInBounds, if_neg (Ne.symm e)]; exact z2, z3, z4⟩
    · rcases hcap2 i' v hi with ⟨h1, h2⟩ | ⟨h1, h2⟩
      · have := hqq i' (by rw [h1]; exact hkl)
        rw [hqi, h1] at this
        simp at this
      · refine c6 i' v h2 ?_
        have := hqq i' (by rw [← c4]; exact (Array.getElem?_eq_some_iff.1 h2).1)
        rw [hqi] at this
        simpa [h1] using this.symm
    · rcases hcap2 i' v hi with ⟨h1, rfl⟩ | ⟨h1, h2⟩
      · rcases hcap2 i'' v' hi' with ⟨h1', rfl⟩ | ⟨h1', h2'⟩
        · exact absurd (h1.trans h1'.symm) hne
        · intro hv'
          exact S.dist L B _ _ b (Ne.symm hBL) hmL hmb rfl rfl (mem_of_bo hv) (by rw [c3]; exact caps_mem h2' hv')
      · rcases hcap2 i'' v' hi' with ⟨h1', rfl⟩ | ⟨h1', h2'⟩
        · intro hv'
          exact S.dist L B _ _ b (Ne.symm hBL) hmL hmb rfl rfl (mem_of_bo hv') (by rw [c3]; exact caps_mem h2 hv)
        · exact c7 i' i'' v v' b hne h2 h2' hv
  have S2 := (S.kill B).kill L
  have S3 := S2.room 1
  have e1 : ((st.m.set B .none).set L .none) ++ List.replicate 1 PO.free = ((st.m.set B .none).set L .none) ++ [.free] := rfl
  have hlen : ((st.m.set B .none).set L .none).length = st.m.length := by simp
  simp only [e1] at S3
  obtain ⟨S4, ha, hal⟩ := S3.add (l := ((st.m.set B .none).set L .none).length) (o := .cu (bagC ct q' (xs.set i y')) []) (hv := .func (.func 0) #[] (caps'.setIfInBounds k (hd L))) get_end rfl
    ⟨fun b hb => by rcases hb2 b hb with h | h; exact c1 b h; exact r2 b h, [], by simp [RFL], hbag⟩ (fun i' oi b hne hi hli hb hbu => by
      have hi1 : ((st.m.set B .none).set L .none)[i']? = some oi := by
        rw [List.getElem?_append] at hi
        split at hi
        · exact hi
        · rename_i h
          have : i' = ((st.m.set B .none).set L .none).length := by
            have := (List.getElem?_eq_some_iff.1 hi).1
            simp at this ⊢; simp at h; omega
          exact absurd this hne
      obtain ⟨hi2, hnL⟩ := kill_live hi1 hli
      obtain ⟨hi3, hnB⟩ := kill_live hi2 hli
      rcases hb2 b hbu with h | h
      · exact S.dist i' B oi _ b hnB hi3 hmb hli rfl hb h
      · exact S.dist i' L oi _ b hnL hi3 hmL hli rfl hb h)
  rw [set_len] at S4 ha hal
  rw [hlen] at S4 ha hal
  have hne : l ≠ st.m.length := by omega
  have hl2 : upd hd st.m.length (.func (.func 0) #[] (caps'.setIfInBounds k (hd L))) l = hd l := upd_ne _ _ hne
  have haA : ∀ i', al st.m i' = true → al (((st.m.set B .none).set L .none) ++ [.cu (bagC ct q' (xs.set i y')) []]) i' = true ∧ upd hd st.m.length (.func (.func 0) #[] (caps'.setIfInBounds k (hd L))) i' = hd i' := by
    intro i' hi
    refine ha i' ?_
    have := al_set_mono (o := .none) (l := L) rfl i' (al_set_mono (o := .none) (l := B) rfl i' hi)
    rw [al_app (t := [.free]) (by simp)]
    exact this
  have hvl : j + 1 < vs.length ∧ 0 < vs.length := by
    have := (List.getElem?_eq_some_iff.1 hvL).1
    omega
  have S5 := S4.re (l := l) (o := .cu (outC ty sz q hs xs) fs) (o' := .cu (outC ty sz q' (hs.set j none) (xs.set i y')) ((fs.set 0 (.srf st.m.length)).set (j + 1) (.d (.v noB)))) (get_app (get_set_ne (get_set_ne hml hlB) hlL)) rfl rfl (by
    rw [hl2]
    refine ⟨b1, (vs.set 0 (.func (.func 0) #[] (caps'.setIfInBounds k (hd L)))).set (j + 1) noB, ?_, cells, caps'.setIfInBounds k (hd L), by rw [List.length_set]; exact b3, ?_, fun k' p' hp' => ?_⟩
    · refine RFL.set' _ _ _ (RFL.set' _ _ _ (RFL.mono (Kp.refl _ _) (fun i hi => ⟨al_set_mono rfl _ (haA i hi).1, (haA i hi).2⟩) _ _ b2) ?_ rfl) ?_ rfl
      · simp only [RF]
        exact ⟨al_set_mono rfl _ hal, by rw [upd_same], by rw [upd_same]; rfl⟩
      · simp only [RF, R]
        exact ⟨trivial, rfl⟩
    · rw [List.getElem?_set_ne (by omega), List.getElem?_set_self hvl.2]
    · rw [hfl'] at hp'
      by_cases e : k' = k
      · subst e
        obtain ⟨u, u1, u2, u3, u4, u5⟩ := b5 k' _ (List.getElem?_eq_getElem hkl)
        have huL := u4 j hj
        rw [hvL] at huL
        cases huL
        refine ⟨hd L, u1, u2, fun _ => by rw [Array.getElem?_setIfInBounds, if_pos rfl, if_pos hcb], fun j' hj' => ?_, fun hqf _ => ?_⟩
        · by_cases ej : j = j'
          · subst ej; rw [List.getElem?_set_self hjl] at hj'; cases hj'
          · rw [List.getElem?_set_ne ej] at hj'
            exact absurd hj' (hu j' (Ne.symm ej))
        · rw [hqq k' hkl] at hqf
          simp at hqf
      · rw [List.getElem?_set_ne (Ne.symm e)] at hp'
        obtain ⟨u, u1, u2, u3, u4, u5⟩ := b5 k' p' hp'
        have hk'l := (List.getElem?_eq_some_iff.1 hp').1
        have hqe : q' k' = q k' := by rw [hqq k' hk'l]; simp [e]
        refine ⟨u, u1, u2, fun h => ?_, fun j' hj' => ?_, fun hqf hno => ?_⟩
        · rw [hqe] at h
          rw [Array.getElem?_setIfInBounds, if_neg (Ne.symm e)]; exact u3 h
        · by_cases ej : j = j'
          · subst ej; rw [List.getElem?_set_self hjl] at hj'; cases hj'
          · rw [List.getElem?_set_ne ej] at hj'
            rw [List.getElem?_set_ne (by omega), List.getElem?_set_ne (by omega)]
            exact u4 j' hj'
        · rw [hqe] at hqf
          refine u5 hqf fun j' hj' => ?_
          by_cases ej : j = j'
          · subst ej; rw [hj] at hj'; simp at hj'; exact e hj'.symm
          · exact hno j' (by rw [List.getElem?_set_ne ej]; exact hj'))
  refine ⟨ow, upd hd st.m.length (.func (.func 0) #[] (caps'.setIfInBounds k (hd L))), hold, ?_⟩
  have hll : l < ((st.m.set B .none).set L .none).length := by rw [hlen]; exact hlt
  simp only [set_app hll] at S5
  exact S5
/-- the mask in other words -/
def nSame (l B ty sz : Nat) (ct : Nat → Nat × Nat) (q' : Nat → Bool) (hs : List (Option Nat)) (xs : List PV) (fs : List FV) (st : PS) : PS := ⟨st.f, (st.m.set l (.cu (outC ty sz q' hs xs) fs)).set B (.cu (bagC ct q' xs) [])⟩
theorem nsame {l B ty sz : Nat} {ct : Nat → Nat × Nat} {q q' : Nat → Bool} {hs : List (Option Nat)} {xs : List PV} {fs : List FV} (hlB : l ≠ B) (hf : xs.all (fits sz) = true) (hq : ∀ k, k < xs.length * sz → q' k = q k) :
    SilX [(l, .cu (outC ty sz q hs xs) fs), (B, .cu (bagC ct q xs) [])] (nSame l B ty sz ct q' hs xs fs) := by
  intro st hm
  refine ⟨rfl, fun n w0 a w S => ?_⟩
  obtain ⟨ow, hd, hold, S⟩ := S
  have hml := hm (l, .cu (outC ty sz q hs xs) fs) (by simp)
  have hmb := hm (B, .cu (bagC ct q xs) []) (by simp)
  simp only at hml hmb
  have hqq : ∀ k, k < (fl xs).length → q' k = q k := fun k h => hq k (by rw [fl_len hf] at h; exact h)
  have S1 := S.retell (o' := .cu (outC ty sz q' hs xs) fs) hml rfl rfl (fun A h => by
    obtain ⟨b1, vs, b2, cells, caps, b3, b4, b5⟩ := h
    refine ⟨b1, vs, b2, cells, caps, b3, b4, fun k p hp => ?_⟩
    obtain ⟨u, u1, u2, u3, u4, u5⟩ := b5 k p hp
    have e := hqq k (List.getElem?_eq_some_iff.1 hp).1
    exact ⟨u, u1, u2, fun h => u3 (by rw [← e]; exact h), u4, fun h => u5 (by rw [← e]; exact h)⟩)
  have S2 := S1.retell (l := B) (o := .cu (bagC ct q xs) []) (o' := .cu (bagC ct q' xs) []) (get_set_ne hmb (Ne.symm hlB)) rfl rfl (fun A h => by
    obtain ⟨c1, cvs, c2, caps, c3, c4, c5, c6, c7⟩ := h
    refine ⟨c1, cvs, c2, caps, c3, c4, fun k hk h => c5 k hk (by rw [← hqq k (by rw [← c4]; exact hk)]; exact h), fun k u hk h => c6 k u hk ?_, c7⟩
    rw [← hqq k (by rw [← c4]; exact (Array.getElem?_eq_some_iff.1 hk).1)]; exact h)
  exact ⟨ow, hd, hold, S2⟩

/-- what an object is as data, for as long as a call looks at it -/
inductive Lend (m0 : List (Nat × PO)) : Nat → PV → Prop where
  | row (l e s : Nat) (ys : List PV) : (l, .row e s ys) ∈ m0 → Lend m0 l (.sl ys)
  | nst (l B ty sz : Nat) (ct : Nat → Nat × Nat) (q : Nat → Bool) (hs : List (Option Nat)) (xs : List PV) (fs : List FV) : (l, .cu (outC ty sz q hs xs) fs) ∈ m0 → (B, .cu (bagC ct q xs) []) ∈ m0 → fs[0]? = some (.srf B) → xs.all (fits sz) = true →
      (∀ (j k : Nat), hs[j]? = some (some k) → ∃ L e s ys, fs[j + 1]? = some (.srf L) ∧ (L, .row e s ys) ∈ m0 ∧ (fl xs)[k]? = some (.sl ys)) → Lend m0 l (.sl xs)
mutual
def lendF (E : List (Nat × PV)) : FV → Option PV
  | .d x => some x
  | .agg cs => (match lendL E cs with | some xs => some (.agg xs) | none => none)
  | .srf l => (match E.find? (fun p => Nat.beq p.1 l) with | some p => some p.2 | none => none)
  | .clo f cs => (match lendL E cs with | some xs => some (.clo f xs) | none => none)
  | _ => none
def lendL (E : List (Nat × PV)) : List FV → Option (List PV)
  | [] => some []
  | x :: xs => match lendF E x, lendL E xs with
    | some y, some ys => some (y :: ys)
    | _, _ => none
end
theorem Lend.sound (S : SimW n w0 st a w ow hd) {m0 : List (Nat × PO)} (hm : ∀ q ∈ m0, st.m[q.1]? = some q.2) {l : Nat} {p : PV} (h : Lend m0 l p) : R (fun _ => false) w p (hd l) := by
  have hpub : Kp ow w (fun _ => false) w := ⟨Nat.le_refl _, fun _ _ _ => rfl, fun _ _ _ => rfl⟩
  cases h with
  | row e s ys h =>
    have hml := hm _ h
    obtain ⟨cs, r1, r2, r3⟩ := S.objs l _ hml
    exact own_R r1 r3 hpub fun _ _ => rfl
  | nst B ty sz ct q hs xs fs h hB h0 hf hh =>
    have hml := hm _ h
    have hmb := hm _ hB
    obtain ⟨b1, vs, b2, cells, caps, b3, b4, b5⟩ := S.objs l _ hml
    obtain ⟨c1, cvs, c2, caps', c3, c4, c5, c6, c7⟩ := S.objs B _ hmb
    have hcc : caps' = caps := by
      obtain ⟨u, hu, hr, _⟩ := b2.get 0 _ h0
      rw [b4] at hu; cases hu
      simp only [RF] at hr
      rw [c3] at hr
      have := hr.2.1
      simp only [Value.func.injEq] at this
      exact this.2.2.symm
    subst hcc
    refine own_R (s := sz) b3 (RL_RE hf (RL_of_get (ow := fun _ => false) (by rw [b3.1, fl_len hf]) fun k p hp => ?_)) (ow' := fun _ => false) ⟨Nat.le_refl _, fun _ _ _ => rfl, fun _ _ _ => rfl⟩ fun _ _ => rfl
    obtain ⟨u, u1, u2, u3, u4, u5⟩ := b5 k p hp
    refine ⟨u, u1, u2, ?_⟩
    cases hq : q k with
    | true =>
      have hkl : k < caps'.size := by rw [c4]; exact (List.getElem?_eq_some_iff.1 hp).1
      obtain ⟨ys, cs, u', d1, d2, d3, d4⟩ := c5 k hkl hq
      have hu := u3 hq
      rw [d2] at hu; cases hu
      rw [hp] at d1; cases d1
      exact own_R d3 d4 hpub fun _ _ => rfl
    | false =>
      by_cases hex : ∃ j : Nat, hs[j]? = some (some k)
      · obtain ⟨j, hj⟩ := hex
        obtain ⟨L, e, s, ys, f1, f2, f3⟩ := hh j k hj
        rw [hp] at f3; cases f3
        obtain ⟨v, hv, hr, _⟩ := b2.get (j + 1) _ f1
        rw [u4 j hj] at hv; cases hv
        simp only [RF] at hr
        rw [hr.2.1]
        obtain ⟨cs, r1, r2, r3⟩ := S.objs L _ (hm _ f2)
        exact own_R r1 r3 hpub fun _ _ => rfl
      · exact R.mono hpub _ _ (u5 hq fun j hj => hex ⟨j, hj⟩)
mutual
theorem lend_sound {E : List (Nat × PV)} (S : SimW n w0 st a w ow hd) (hE : ∀ q ∈ E, R (fun _ => false) w q.2 (hd q.1)) : ∀ (x : FV) (u : Value) (y : PV), lendF E x = some y → RF (al st.m) hd ow w x u → R (fun _ => false) w y u
  | .d x, u, y, h, hr => by
    simp [lendF] at h; subst h
    exact R.mono ⟨Nat.le_refl _, fun _ _ _ => rfl, fun _ _ _ => rfl⟩ _ _ (by simpa only [RF] using hr)
  | .agg cs, u, y, h, hr => by
    simp only [lendF] at h
    split at h
    · rename_i xs hx
      simp at h; subst h
      simp only [RF] at hr
      obtain ⟨vs, e, hr⟩ := hr
      simp only [R]
      exact ⟨vs, e, lendL_sound S hE cs vs xs hx hr⟩
    · cases h
  | .clo f cs, u, y, h, hr => by
    simp only [lendF] at h
    split at h
    · rename_i xs hx
      simp at h; subst h
      simp only [RF] at hr
      obtain ⟨vs, e, hr⟩ := hr
      simp only [R]
      exact ⟨vs, e, lendL_sound S hE cs vs xs hx hr⟩
    · cases h
  | .srf l, u, y, h, hr => by
    simp only [lendF] at h
    split at h
    · rename_i p hp
      simp at h; subst h
      have h1 := hE p (List.mem_of_find?_eq_some hp)
      have h2 := List.find?_some hp
      have h3 : p.1 = l := by simpa using h2
      simp only [RF] at hr
      rw [hr.2.1, ← h3]; exact h1
    · cases h
  | .tup _, _, _, h, _ => by simp [lendF] at h
  | .ref _ _, _, _, h, _ => by simp [lendF] at h
  | .ept _ _ _ _, _, _, h, _ => by simp [lendF] at h
  | .asl _ _ _ _ _ _, _, _, h, _ => by simp [lendF] at h
  | .ssl _ _ _ _, _, _, h, _ => by simp [lendF] at h
  | .dead, _, _, h, _ => by simp [lendF] at h
theorem lendL_sound {E : List (Nat × PV)} (S : SimW n w0 st a w ow hd) (hE : ∀ q ∈ E, R (fun _ => false) w q.2 (hd q.1)) : ∀ (xs : List FV) (us : List Value) (ys : List PV), lendL E xs = some ys → RFL (al st.m) hd ow w xs us → RL (fun _ => false) w ys us
  | [], us, ys, h, hr => by simp [lendL] at h; subst h; simpa only [RFL, RL] using hr
  | x :: xs, us, ys, h, hr => by
    simp only [lendL] at h
    split at h
    · rename_i z zs h1 h2
      simp at h; subst h
      simp only [RFL] at hr
      obtain ⟨v, r, e, g1, g2, g3⟩ := hr
      simp only [RL]
      exact ⟨v, r, e, lend_sound S hE x v z h1 g1, g2, lendL_sound S hE xs r zs h2 g3⟩
    · cases h
theorem lendT_sound {E : List (Nat × PV)} (S : SimW n w0 st a w ow hd) (hE : ∀ q ∈ E, R (fun _ => false) w q.2 (hd q.1)) : ∀ (xs : List FV) (us : List Value) (ys : List PV), lendL E xs = some ys → RFT (al st.m) hd ow w xs us → RT (fun _ => false) w ys us
  | [], us, ys, h, hr => by simp [lendL] at h; subst h; simpa only [RFT, RT] using hr
  | x :: xs, us, ys, h, hr => by
    simp only [lendL] at h
    split at h
    · rename_i z zs h1 h2
      simp at h; subst h
      simp only [RFT] at hr
      obtain ⟨v, r, e, g1, g3⟩ := hr
      simp only [RT]
      exact ⟨v, r, e, lend_sound S hE x v z h1 g1, lendT_sound S hE xs r zs h2 g3⟩
    · cases h
end
/-- a call that looks at private objects, rows of rows among them -/
theorem ncall {f : Operand} {args : Array Operand} {tys : Array Nat} {fv : FV} {vs : List FV} {m0 : List (Nat × PO)} (E : List (Nat × PV)) {g : FuncId} {caps ps : List PV} {r : PV} (hE : ∀ q ∈ E, Lend m0 q.1 q.2) (hf : lendF E fv = some (.clo g caps)) (hv : lendL E vs = some ps)
    (hr : Ret P g (nslL ps ++ caps) r) (hfl : flat r = true) : Ext P T (.call ⟨.value f, args, tys⟩) (fv :: vs) m0 (.d r) [] := by
  intro n w0 st a w o hT hS ho hn hvs hm K Q hK
  obtain ⟨ow, hd, hold, S⟩ := hS
  obtain ⟨d, op, tyo, pos, af, gd⟩ := o
  simp only at ho hn hK
  subst ho
  have hρ' : ev st.f f :: args.toList.map (ev st.f) = fv :: vs := by
    rw [← hvs]; simp [Op.operands, Call.operands]
  obtain ⟨e1, e2⟩ := List.cons.inj hρ'
  have hE' : ∀ q ∈ E, R (fun _ => false) w q.2 (hd q.1) := fun q hq => (hE q hq).sound S hm
  have h1 := lend_sound S hE' fv (a.eval f) _ hf (by rw [← e1]; exact S.eval f)
  have h2 := lendT_sound S hE' vs (args.toList.map a.eval) ps hv (by rw [← e2]; exact RFT_of_eval S _)
  simp only [R] at h1
  obtain ⟨us, hc1, hc2⟩ := h1
  unfold Oper.wp
  rw [run_call hc1 hr.1]
  show Calls P g (args.map a.eval ++ us.toArray) w _
  have harr : args.map a.eval ++ us.toArray = (args.toList.map a.eval ++ us).toArray := by
    apply Array.toList_inj.1; simp
  rw [harr]
  refine (hr.2 (fun _ => false) w _ (fun _ _ => rfl) ((RT.nsl _ _ h2).append (RT_of_RL hc2))).mono fun e w' ⟨v, he, hb, hr⟩ => ?_
  subst he
  exact hK _ _ ⟨ow, hd, hold, (S.later hb).put hn (x := .d r) (by simp only [RF]; exact R.flat _ _ hfl hr)⟩
end
end Go.Proofs.Ytdimcmpkhbfcnaa.pv
