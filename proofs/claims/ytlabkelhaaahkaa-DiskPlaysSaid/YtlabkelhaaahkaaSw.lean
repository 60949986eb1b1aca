/- Rows of rows: rows whose cells are named by their values; what a call that knows nothing of the cells makes of them, an element more. -/
import Derived.Test.YtlabkelhaaahkaaSv
namespace Go.Proofs.Ytlabkelhaaahkaa.pv
set_option linter.all false
open Go.RowKit

/-- the inner rows of a row whose cells are these values -/
def bagV (ct : Nat → Nat × Nat) (us : List Value) (xs : List PV) : Cust where
  I := fun ow w v _ => bagI ct (fun _ => true) xs ow w v ∧ v = .func (.func 0) #[] us.toArray
  lt := fun h => (bagC ct (fun _ => true) xs).lt (vs := []) h.1
  kp := fun hk hb h => ⟨(bagC ct (fun _ => true) xs).kp (vs := []) hk hb h.1, h.2⟩
  one := by
    rintro ow w v vs ⟨_, rfl⟩
    rfl
/-- a row of one's own, whose slice is this value -/
def rowV (e s : Nat) (ys : List PV) (u : Value) : Cust where
  I := fun ow w v _ => v = u ∧ ∃ cells, w.ownsRow 0 e s v ys.length cells ∧ RE ow w s ys cells
  lt := by
    rintro ow w v vs ⟨rfl, cells, h1, _⟩ b hb
    exact (owns_bo h1 hb).2
  kp := by
    rintro ow ow' w w' v vs hk hb ⟨rfl, cells, h1, h2⟩
    exact ⟨rfl, cells, ownsRow_kept h1 fun b e => (hb b e).1, RE.mono hk _ _ _ h2⟩
  one := by
    rintro ow w v vs ⟨rfl, cells, h1, _⟩
    exact owns_one h1
/-- a row of one element, which is a row of one's own -/
def oneC (ty : Nat) : Cust where
  I := fun ow w v vs => ∃ u, vs = [u] ∧ w.ownsRow 0 ty 1 v 1 [u]
  lt := by
    rintro ow w v vs ⟨u, rfl, h1⟩ b hb
    exact (owns_bo h1 hb).2
  kp := by
    rintro ow ow' w w' v vs hk hb ⟨u, rfl, h1⟩
    exact ⟨u, rfl, ownsRow_kept h1 fun b e => (hb b e).1⟩
  one := by
    rintro ow w v vs ⟨u, rfl, h1⟩
    exact owns_one h1
theorem fl_raw : ∀ (us : List Value), fl (us.map .v) = us.map .v
  | [] => rfl
  | u :: us => by rw [List.map_cons, fl_cons, fl_raw us]; rfl
theorem fl_sl {α : Type} (f : α → PV) : ∀ (xs : List (List α)), fl (xs.map (eL f)) = xs.map (eL f)
  | [] => rfl
  | x :: xs => by rw [List.map_cons, fl_cons, fl_sl f xs]; rfl
theorem fits_raw (us : List Value) : (us.map PV.v).all (fits 1) = true := by
  rw [List.all_eq_true]
  intro x hx
  obtain ⟨u, _, rfl⟩ := List.mem_map.1 hx
  rfl
section
variable {ow : Nat → Bool} {w : World}
theorem RE_raw {us : List Value} (h : ∀ u ∈ us, u.oneCell' = true) : RE ow w 1 (us.map .v) us := by
  refine RL_RE (fits_raw us) (RL_of_get (by rw [fl_raw]; simp) fun k p hp => ?_)
  rw [fl_raw, List.getElem?_map] at hp
  cases hu : us[k]? with
  | none => rw [hu] at hp; cases hp
  | some u =>
    rw [hu] at hp
    simp at hp; subst hp
    have h1 := h u (List.mem_of_getElem? hu)
    exact ⟨u, rfl, h1, by simp only [R]; exact ⟨trivial, h1⟩⟩
theorem raw_RE {us cells : List Value} (h : RE ow w 1 (us.map .v) cells) : cells = us ∧ ∀ u ∈ us, u.oneCell' = true := by
  have h1 := RE_RL (fits_raw us) h
  have hl := RL.length h1
  rw [fl_raw, List.length_map] at hl
  have hg : ∀ (k : Nat) (u : Value), us[k]? = some u → cells[k]? = some u ∧ u.oneCell' = true := by
    intro k u hu
    obtain ⟨v, v1, v2, v3⟩ := RL_get h1 k (.v u) (by rw [fl_raw, List.getElem?_map, hu]; rfl)
    simp only [R] at v3
    rw [v3.1] at v1
    exact ⟨v1, v3.2⟩
  refine ⟨List.ext_getElem? fun k => ?_, fun u hu => ?_⟩
  · cases hu : us[k]? with
    | some u => exact (hg k u hu).1
    | none =>
      rw [List.getElem?_eq_none_iff] at hu ⊢
      omega
  · obtain ⟨k, hk⟩ := List.getElem?_of_mem hu
    exact (hg k u hk).2
end
section
variable {P : Program} {T : List TI} {n : Nat} {w0 : Cx} {st : PS} {a : Act} {w : World} {ow : Nat → Bool} {hd : Nat → Value}
/-- the cells by their values -/
theorem SimW.unn (S : SimW n w0 st a w ow hd) {l B ty : Nat} {ct : Nat → Nat × Nat} {q : Nat → Bool} {hs : List (Option Nat)} {xs : List PV} {fs : List FV} (hml : st.m[l]? = some (.cu (outC ty 1 q hs xs) fs)) (hmb : st.m[B]? = some (.cu (bagC ct q xs) []))
    (hlB : l ≠ B) (h0 : fs[0]? = some (.srf B)) (hfl : fl xs = xs) (hq : ∀ k, k < xs.length → q k = true) :
    ∃ us : List Value, us.length = xs.length ∧ SimW n w0 ⟨st.f, (st.m.set B (.cu (bagV ct us xs) [])).set l (.row ty 1 (us.map .v))⟩ a w ow hd := by
  obtain ⟨b1, vs, b2, cells, caps, b3, b4, b5⟩ := S.objs l _ hml
  obtain ⟨c1, cvs, c2, caps', c3, c4, c5, c6, c7⟩ := S.objs B _ hmb
  have hcc : caps' = caps := by
    obtain ⟨u, hu, hr, _⟩ := b2.get 0 _ h0
    rw [b4] at hu; cases hu
    simp only [RF] at hr
    rw [c3] at hr
    have := hr.2.1
    simp only [Value.func.injEq] at this
    exact this.2.2.symm
  subst hcc
  rw [hfl] at c4 b5
  have hlen : cells.length = xs.length := by have := b3.1; simpa using this
  have hce : caps' = cells.toArray := by
    apply Array.toList_inj.1
    refine List.ext_getElem? fun k => ?_
    by_cases hk : k < xs.length
    · obtain ⟨u, u1, u2, u3, _⟩ := b5 k _ (List.getElem?_eq_getElem hk)
      have := u3 (hq k hk)
      rw [Array.getElem?_toList, this]
      simpa using u1.symm
    · rw [List.getElem?_eq_none (by rw [Array.length_toList]; omega), List.getElem?_eq_none (by simp; omega)]
  have hone : ∀ u ∈ cells, u.oneCell' = true := by
    intro u hu
    obtain ⟨k, hk⟩ := List.getElem?_of_mem hu
    have hkl := (List.getElem?_eq_some_iff.1 hk).1
    obtain ⟨v, v1, v2, _⟩ := b5 k _ (List.getElem?_eq_getElem (show k < xs.length by omega))
    rw [hk] at v1; cases v1; exact v2
  have S1 := S.re (l := B) (o := .cu (bagC ct q xs) []) (o' := .cu (bagV ct cells xs) []) hmb rfl rfl
    ⟨c1, [], by simp [RFL], ⟨caps', c3, by rw [hfl]; exact c4, fun k hk _ => c5 k hk (hq k (by omega)), fun k u _ h => (by cases h), c7⟩, by rw [c3, hce]⟩
  have S2 := S1.re (l := l) (o := .cu (outC ty 1 q hs xs) fs) (o' := .row ty 1 (cells.map .v)) (get_set_ne hml hlB) rfl rfl
    ⟨cells, by rw [List.length_map, hlen]; exact b3, b1, RE_raw hone⟩
  exact ⟨cells, hlen, S2⟩
/-- and back -/
theorem SimW.nest (S : SimW n w0 st a w ow hd) {l B nl ty : Nat} {ct : Nat → Nat × Nat} {us us' : List Value} {xs xs' : List PV} {q' : Nat → Bool} {hs : List (Option Nat)} {fs1 : List FV} {vs1 : List Value} (σ : Nat → Nat)
    (hml : st.m[l]? = some (.row ty 1 (us'.map .v))) (hmb : st.m[B]? = some (.cu (bagV ct us xs) [])) (hnl : st.m[nl]? = some .free) (hlB : l ≠ B) (hln : l ≠ nl) (hBn : B ≠ nl)
    (hlen : xs'.length = us'.length) (hfl : fl xs = xs) (hfl' : fl xs' = xs')
    (hq : ∀ (k : Nat) (u : Value), us'[k]? = some u → q' k = true → us[σ k]? = some u ∧ xs'[k]? = xs[σ k]? ∧ ct k = ct (σ k))
    (hinj : ∀ k k' : Nat, k < us'.length → k' < us'.length → q' k = true → q' k' = true → k ≠ k' → σ k ≠ σ k')
    (hh : ∀ k : Nat, k < us'.length → q' k = false → ∃ j : Nat, hs[j]? = some (some k))
    (hvs : RFL (al st.m) hd ow w fs1 vs1) (hhv : ∀ (j k : Nat) (u : Value), us'[k]? = some u → hs[j]? = some (some k) → vs1[j]? = some u) :
    ∃ hd' : Nat → Value, SimW n w0 ⟨st.f, ((st.m.set B .none).set nl (.cu (bagC ct q' xs') [])).set l (.cu (outC ty 1 q' hs xs') (.srf nl :: fs1))⟩ a w ow hd' ∧
      (∀ i, al st.m i = true → al (((st.m.set B .none).set nl (.cu (bagC ct q' xs') [])).set l (.cu (outC ty 1 q' hs xs') (.srf nl :: fs1))) i = true ∧ hd' i = hd i) := by
  obtain ⟨c1, cvs, c2, ⟨caps0, c3', c4, c5, c6, c7⟩, c3⟩ := S.objs B _ hmb
  have hcc : caps0 = us.toArray := by
    rw [c3] at c3'
    simp only [Value.func.injEq] at c3'
    exact c3'.2.2.symm
  subst hcc
  rw [hfl] at c4
  obtain ⟨cells, d1, d2, d3⟩ := S.objs l _ hml
  obtain ⟨e1, e2⟩ := raw_RE d3
  subst e1
  rw [List.length_map] at d1
  let cp : Array Value := (cells.mapIdx fun k u => if q' k = true then u else noB).toArray
  have hcp : ∀ (k : Nat) (v : Value), cp[k]? = some v → ∃ u, cells[k]? = some u ∧ v = if q' k = true then u else noB := by
    intro k v h
    simp only [cp, List.getElem?_toArray, List.getElem?_mapIdx] at h
    cases hu : cells[k]? with
    | none => rw [hu] at h; cases h
    | some u => rw [hu] at h; simp at h; exact ⟨u, rfl, h.symm⟩
  have hcp' : ∀ (k : Nat) (u : Value), cells[k]? = some u → cp[k]? = some (if q' k = true then u else noB) := by
    intro k u h
    simp only [cp, List.getElem?_toArray, List.getElem?_mapIdx]
    rw [h]; rfl
  have hsz : cp.size = cells.length := by simp [cp]
  have hbl : ∀ b, b ∈ blocksOf (.func (.func 0) #[] cp) → b ∈ blocksOf (hd B) := by
    intro b hb
    obtain ⟨k, v, hk, hv⟩ := mem_caps hb
    obtain ⟨u, hu, rfl⟩ := hcp k v hk
    cases hqk : q' k with
    | false => rw [hqk] at hv; simp [noB, blockOf] at hv
    | true =>
      rw [hqk, if_pos rfl] at hv
      rw [c3]
      exact caps_mem (k := σ k) (by simpa using (hq k u hu hqk).1) hv
  have hbag : bagI ct q' xs' ow w (.func (.func 0) #[] cp) := by
    refine ⟨cp, rfl, by rw [hfl', hsz, hlen], fun k hk hqk => ?_, fun k v hk hqk => ?_, fun k k' v v' b hne hk hk' hv => ?_⟩
    · obtain ⟨u, hu⟩ : ∃ u, cells[k]? = some u := ⟨_, List.getElem?_eq_getElem (by rw [hsz] at hk; exact hk)⟩
      obtain ⟨g1, g2, g3⟩ := hq k u hu hqk
      have hσ := (List.getElem?_eq_some_iff.1 g1).1
      obtain ⟨ys, cs, u', z1, z2, z3, z4⟩ := c5 (σ k) (by simpa using hσ) rfl
      have : u' = u := by
        have : us[σ k]? = some u' := by simpa using z2
        rw [g1] at this; cases this; rfl
      subst this
      rw [hfl] at z1
      refine ⟨ys, cs, u', by rw [hfl', g2]; exact z1, ?_, by rw [g3]; exact z3, by rw [g3]; exact z4⟩
      rw [hcp' k u' hu, if_pos hqk]
    · obtain ⟨u, hu, rfl⟩ := hcp k v hk
      rw [hqk]; rfl
    · obtain ⟨u, hu, rfl⟩ := hcp k v hk
      obtain ⟨u', hu', rfl⟩ := hcp k' v' hk'
      cases hqk : q' k with
      | false => rw [hqk] at hv; simp [noB, blockOf] at hv
      | true =>
        rw [hqk, if_pos rfl] at hv
        cases hqk' : q' k' with
        | false => simp [noB, blockOf]
        | true =>
          rw [if_pos rfl]
          exact c7 (σ k) (σ k') u u' b (hinj k k' (List.getElem?_eq_some_iff.1 hu).1 (List.getElem?_eq_some_iff.1 hu').1 hqk hqk' hne) (by simpa using (hq k u hu hqk).1) (by simpa using (hq k' u' hu' hqk').1) hv
  have S1 := S.kill B
  have ha1 : ∀ i, al st.m i = true → al (st.m.set B .none) i = true := al_set_mono rfl
  obtain ⟨S2, ha2, hal2⟩ := S1.add (l := nl) (o := .cu (bagC ct q' xs') []) (hv := .func (.func 0) #[] cp) (get_set_ne hnl (Ne.symm hBn)) rfl
    ⟨fun b hb => c1 b (hbl b hb), [], by simp [RFL], hbag⟩ (fun i oi b hne hi hli hb hbu => by
      obtain ⟨hi', hne'⟩ := kill_live hi hli
      exact S.dist i B oi _ b hne' hi' hmb hli rfl hb (hbl b hbu))
  have hhl : upd hd nl (.func (.func 0) #[] cp) l = hd l := upd_ne _ _ hln
  have haA : ∀ i, al st.m i = true → al ((st.m.set B .none).set nl (.cu (bagC ct q' xs') [])) i = true ∧ upd hd nl (.func (.func 0) #[] cp) i = hd i := fun i hi => ha2 i (ha1 i hi)
  have S3 := S2.re (l := l) (o := .row ty 1 (cells.map .v)) (o' := .cu (outC ty 1 q' hs xs') (.srf nl :: fs1)) (get_set_ne (get_set_ne hml hlB) hln) rfl rfl (by
    rw [hhl]
    refine ⟨d2, .func (.func 0) #[] cp :: vs1, ?_, cells, cp, by rw [hlen]; exact d1, rfl, fun k p hp => ?_⟩
    · simp only [RFL]
      refine ⟨_, _, rfl, ?_, rfl, RFL.mono (Kp.refl _ _) (fun i hi => ⟨al_set_mono rfl _ (haA i hi).1, (haA i hi).2⟩) _ _ hvs⟩
      simp only [RF]
      exact ⟨al_set_mono rfl _ hal2, by rw [upd_same], by rw [upd_same]; rfl⟩
    · rw [hfl'] at hp
      have hk : k < cells.length := by rw [← hlen]; exact (List.getElem?_eq_some_iff.1 hp).1
      have hu := List.getElem?_eq_getElem hk
      refine ⟨_, hu, e2 _ (List.getElem_mem hk), fun hqk => ?_, fun j hj => ?_, fun hqk hno => ?_⟩
      · rw [hcp' k _ hu, if_pos hqk]
      · rw [List.getElem?_cons_succ]
        exact hhv j k _ hu hj
      · obtain ⟨j, hj⟩ := hh k hk hqk
        exact absurd hj (hno j))
  exact ⟨_, S3, fun i hi => ⟨al_set_mono rfl _ (haA i hi).1, (haA i hi).2⟩⟩
end
end Go.Proofs.Ytlabkelhaaahkaa.pv
