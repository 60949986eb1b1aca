/- Rows of rows: a call that looks at private objects and makes new ones. -/
import Derived.Test.YtdimcmpkhbfcnaaSy
namespace Go.Proofs.Ytdimcmpkhbfcnaa.pv
set_option linter.all false
open Go.RowKit
/-- values of which it is no matter what is private -/
def flatF : FV → Bool
  | .d x => flat x
  | .srf _ => true
  | .dead => true
  | _ => false
def CleanO : PO → Prop
  | .none => True
  | .row _ _ xs => xs.all flat = true
  | .cu q fs => fs.all flatF = true ∧ ∀ (ow ow' : Nat → Bool) (w : World) (h : Value) (vs : List Value), q.I ow w h vs → q.I ow' w h vs
  | _ => False
section
variable {w : World} {A : Nat → Bool} {hd : Nat → Value}
theorem RE_flat {ow ow' : Nat → Bool} {s : Nat} : ∀ {xs : List PV} {cs : List Value}, xs.all flat = true → RE ow w s xs cs → RE ow' w s xs cs
  | [], cs, _, h => by simpa only [RE] using h
  | x :: xs, cs, hf, h => by
    simp only [List.all_cons, Bool.and_eq_true] at hf
    simp only [RE] at h ⊢
    obtain ⟨u, r, e, h0, h1, h2, h3⟩ := h
    exact ⟨u, r, e, h0, h1, R.flat _ _ hf.1 h2, RE_flat hf.2 h3⟩
theorem RFL_flat {ow ow' : Nat → Bool} : ∀ {fs : List FV} {vs : List Value}, fs.all flatF = true → RFL A hd ow w fs vs → RFL A hd ow' w fs vs
  | [], vs, _, h => by simpa only [RFL] using h
  | f :: fs, vs, hf, h => by
    simp only [List.all_cons, Bool.and_eq_true] at hf
    simp only [RFL] at h ⊢
    obtain ⟨u, r, e, h1, h2, h3⟩ := h
    refine ⟨u, r, e, ?_, h2, RFL_flat hf.2 h3⟩
    have hf1 := hf.1
    cases f with
    | d x => simp only [RF] at h1 ⊢; exact R.flat _ _ hf1 h1
    | srf l => simpa only [RF] using h1
    | dead => simp only [RF]
    | agg => simp [flatF] at hf1
    | tup => simp [flatF] at hf1
    | ref => simp [flatF] at hf1
    | ept => simp [flatF] at hf1
    | asl => simp [flatF] at hf1
    | ssl => simp [flatF] at hf1
    | clo => simp [flatF] at hf1
end
section
variable {P : Program} {T : List TI} {n : Nat} {w0 : Cx} {st : PS} {a : Act} {w : World} {ow : Nat → Bool} {hd : Nat → Value}
theorem SimW.callN (S : SimW n w0 st a w ow hd) (hold : Keep w0 ow) {g : FuncId} {ps : List PV} {us : List Value} {τ : List Nat} {m2 : List PO} {r : FV} {nl : Nat} (hx : RT (fun _ => false) w ps us)
    (h2 : nodup τ = true) (h4 : τ = (List.range m2.length).map (nl + ·)) (h5 : ∀ k, k < m2.length → st.m[nl + k]? = some .free) (h6 : ∀ o ∈ m2, CleanO o) (hr0 : ∀ (A : Nat → Bool) (hd : Nat → Value) (ow ow' : Nat → Bool) (w : World) (v : Value), RF A hd ow w r v → RF A hd ow' w r v)
    (hret : RetH P g (ps.map .d) [] r m2) :
    Calls P g us.toArray w (fun e w' => ∃ v ow' hd', e = .returned v ∧ Keep w0 ow' ∧ SimW n w0 ⟨st.f, updM st.m (zipO τ τ m2)⟩ a w' ow' hd' ∧ RF (al (updM st.m (zipO τ τ m2))) hd' ow' w' (mapF τ r) v) := by
  have hτl : τ.length = m2.length := by rw [h4]; simp
  have hτn : ∀ j, j < m2.length → τ[j]? = some (nl + j) := by
    intro j hj
    rw [h4, List.getElem?_map, List.getElem?_range (by omega)]
    rfl
  have hτlt : ∀ x ∈ τ, x < st.m.length := by
    intro x hx
    rw [h4, List.mem_map] at hx
    obtain ⟨k, hk, rfl⟩ := hx
    exact (List.getElem?_eq_some_iff.1 (h5 k (by simpa using hk))).1
  have hupd := fun l => updM_zipO (τ := τ) τ m2 st.m l h2 hτl hτlt
  let c1 : Cx := ⟨w, fun _ => false, fun _ => false, fun _ => undef⟩
  have S1 : SimH c1 [] w (fun _ => false) hd := ⟨Kt.refl _ _, fun _ _ => rfl, fun l o h => by simp at h, fun l l' o o' b _ h => by simp at h⟩
  have hargs : RFT (al []) hd (fun _ => false) w (ps.map .d) us := by
    have go : ∀ (ps : List PV) (us : List Value), RT (fun _ => false) w ps us → RFT (al []) hd (fun _ => false) w (ps.map .d) us := by
      intro ps
      induction ps with
      | nil => intro us h; simpa only [RT, List.map_nil, RFT] using h
      | cons p ps ih =>
        intro us h
        simp only [RT] at h
        obtain ⟨v, r, e, h1, h3⟩ := h
        simp only [List.map_cons, RFT]
        exact ⟨v, r, e, by simpa only [RF] using h1, ih r h3⟩
    exact go ps us hx
  refine (hret.2 c1 hd us S1 hargs).mono fun e w2 ⟨v, ow2, hd2, he, k2, S2, _, hr⟩ => ?_
  let hd3 : Nat → Value := fun l => match idx l τ with | some j => hd2 j | none => hd l
  have hd3τ : ∀ j l, τ[j]? = some l → hd3 l = hd2 j := by
    intro j l hj
    obtain ⟨i, hi⟩ := idx_of_get (List.mem_of_getElem? hj)
    have := nodup_nat h2 hj (idx_get hi)
    subst this
    show (match idx l τ with | some j => hd2 j | none => hd l) = hd2 j
    rw [hi]
  have hd3n : ∀ l, l ∉ τ → hd3 l = hd l := by
    intro l hl
    show (match idx l τ with | some j => hd2 j | none => hd l) = hd l
    cases hq : idx l τ with
    | none => rfl
    | some j => exact absurd (List.mem_of_getElem? (idx_get hq)) hl
  let ow3 : Nat → Bool := fun b => if b < w.heap.size then ow b else ow2 b
  have hold3 : ∀ b, b < w.heap.size → ow3 b = ow b := fun b hb => if_pos hb
  have hblk : ∀ b, b < w.heap.size → w2.heap[b]? = w.heap[b]? := fun b hb => S2.below.block b hb rfl
  have hKp : Kp ow w ow3 w2 := ⟨S2.below.size, fun b hb h => by rw [hold3 b hb]; exact h, fun b hb _ => hblk b hb⟩
  have hsz := S.below.size
  have hnewb : ∀ b, c1.New b → w.heap.size ≤ b := by
    intro b hb
    rcases hb with hb | hb
    · exact hb
    · cases hb
  have hnew : ∀ b, c1.New b → w0.New b := fun b hb => .inl (Nat.le_trans hsz (hnewb b hb))
  have how3 : ∀ b, w.heap.size ≤ b → ow3 b = ow2 b := fun b hb => if_neg (Nat.not_lt.2 hb)
  have hok : ∀ o, CleanO o → okH o = true := by intro o ho; cases o <;> simp_all [CleanO, okH]
  have halτ : ∀ j, al m2 j = true → al (updM st.m (zipO τ τ m2)) (τ.getD j 0) = true ∧ hd3 (τ.getD j 0) = hd2 j := by
    intro j hj
    unfold al at hj
    cases hq : m2[j]? with
    | none => simp [hq] at hj
    | some o =>
      have hlt : j < τ.length := by rw [hτl]; exact (List.getElem?_eq_some_iff.1 hq).1
      have hg : τ[j]? = some (τ.getD j 0) := by rw [List.getD_eq_getElem?_getD, List.getElem?_eq_getElem hlt]; rfl
      refine ⟨?_, hd3τ j _ hg⟩
      unfold al
      rw [(hupd _).1 j hg, hq]
      have := hok o (h6 o (List.mem_of_getElem? hq))
      cases o <;> simp [okH] at this <;> rfl
  have ha : ∀ j, al st.m j = true → al (updM st.m (zipO τ τ m2)) j = true ∧ hd3 j = hd j := by
    intro j hj
    by_cases hmem : j ∈ τ
    · obtain ⟨i, hi⟩ := List.mem_iff_getElem?.1 hmem
      have hilt : i < m2.length := by rw [← hτl]; exact (List.getElem?_eq_some_iff.1 hi).1
      have := hτn i hilt
      rw [hi] at this
      simp at this
      have hf := h5 i hilt
      rw [← this] at hf
      simp [al, hf, PO.made] at hj
    · refine ⟨?_, hd3n j hmem⟩
      unfold al at hj ⊢
      rw [(hupd j).2 hmem]; exact hj
  have hback : ∀ (l : Nat) (o : PO), (updM st.m (zipO τ τ m2))[l]? = some o → (∃ (j : Nat) (o2 : PO), τ[j]? = some l ∧ m2[j]? = some o2 ∧ o = mapO τ o2) ∨ (l ∉ τ ∧ st.m[l]? = some o) := by
    intro l o hl
    by_cases hmem : l ∈ τ
    · obtain ⟨i, hi⟩ := List.mem_iff_getElem?.1 hmem
      rw [(hupd l).1 i hi] at hl
      cases hq : m2[i]? with
      | none => simp [hq] at hl
      | some o2 => simp [hq] at hl; exact .inl ⟨i, o2, hi, hq, hl.symm⟩
    · rw [(hupd l).2 hmem] at hl
      exact .inr ⟨hmem, hl⟩
  have hlvO : ∀ o : PO, (mapO τ o).live = o.live := by intro o; cases o <;> rfl
  have hother : ∀ l o b, st.m[l]? = some o → o.live = true → b ∈ blocksOf (hd l) → b < w.heap.size := fun l o b ho hlv hb => ((S.objs l o ho).lt hlv b hb).1
  have hnewO : ∀ j o2 b, m2[j]? = some o2 → o2.live = true → b ∈ blocksOf (hd2 j) → w.heap.size ≤ b := fun j o2 b hj hlv hb => hnewb b ((S2.objs j o2 hj).lt hlv b hb).2.1
  have S3 : SimH w0 (updM st.m (zipO τ τ m2)) w2 ow3 hd3 := by
    refine ⟨S.below.trans ⟨S2.below.os, S2.below.tape, S2.below.output, S2.below.size, fun k hk hn => hblk k (Nat.lt_of_lt_of_le hk hsz)⟩, fun b hb => ?_, fun l o hl => ?_, ?_⟩
    · rw [how3 b (Nat.le_trans S2.below.size hb)]; exact S2.fresh b hb
    · rcases hback l o hl with ⟨j, o2, hj, hj2, rfl⟩ | ⟨hmem, hl'⟩
      · have ho := S2.objs j o2 hj2
        have hcl := h6 o2 (List.mem_of_getElem? hj2)
        rw [hd3τ j l hj]
        cases o2 with
        | none => trivial
        | row ty sz xs =>
          obtain ⟨cells, g1, g2, g3⟩ := ho
          exact ⟨cells, g1, fun b hb => ⟨hnew b (g2 b hb).1, by rw [how3 b (hnewb b (g2 b hb).1)]; exact (g2 b hb).2⟩, RE_flat hcl g3⟩
        | cu q fs =>
          obtain ⟨g1, vs', g2, g3⟩ := ho
          exact ⟨fun b hb => ⟨hnew b (g1 b hb).1, by rw [how3 b (hnewb b (g1 b hb).1)]; exact (g1 b hb).2⟩, vs', RFL.mapF halτ _ _ (RFL_flat hcl.1 g2), hcl.2 _ _ _ _ _ g3⟩
        | free => exact hcl.elim
        | gh => exact hcl.elim
        | box => exact hcl.elim
      · rw [hd3n l hmem]
        refine (S.objs l o hl').kp hKp ha fun b hb hlv => ?_
        have q1 := hother l o b hl' hlv hb
        exact ⟨hblk b q1, hold3 b q1⟩
    · intro l l' o o' b hne hl hl' hlv hlv' hb hb'
      rcases hback l o hl with ⟨j, o2, hj, hj2, rfl⟩ | ⟨hmem, hl1⟩
      · rw [hd3τ j l hj] at hb
        rw [hlvO] at hlv
        rcases hback l' o' hl' with ⟨j', o2', hj', hj2', rfl⟩ | ⟨hmem', hl1'⟩
        · rw [hd3τ j' l' hj'] at hb'
          rw [hlvO] at hlv'
          exact S2.dist j j' o2 o2' b (fun e => by subst e; rw [hj] at hj'; cases hj'; exact hne rfl) hj2 hj2' hlv hlv' hb hb'
        · rw [hd3n l' hmem'] at hb'
          have q1 := hother l' o' b hl1' hlv' hb'
          have q2 := hnewO j o2 b hj2 hlv hb
          omega
      · rw [hd3n l hmem] at hb
        rcases hback l' o' hl' with ⟨j', o2', hj', hj2', rfl⟩ | ⟨hmem', hl1'⟩
        · rw [hd3τ j' l' hj'] at hb'
          rw [hlvO] at hlv'
          have q1 := hother l o b hl1 hlv hb
          have q2 := hnewO j' o2' b hj2' hlv' hb'
          omega
        · rw [hd3n l' hmem'] at hb'
          exact S.dist l l' o o' b hne hl1 hl1' hlv hlv' hb hb'
  exact ⟨v, ow3, hd3, he, hold.step fun b hb hn => hold3 b (Nat.lt_of_lt_of_le hb hsz), { S3 with defers := S.defers, size := S.size, slots := fun i => RF.mono hKp ha _ _ (S.slots i) }, RF.mapF halτ _ _ (hr0 _ _ _ _ _ _ hr)⟩
end
end Go.Proofs.Ytdimcmpkhbfcnaa.pv
