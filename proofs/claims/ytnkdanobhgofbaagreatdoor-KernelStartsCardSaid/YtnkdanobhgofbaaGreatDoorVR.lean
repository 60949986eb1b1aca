/- Calls that are handed private objects, as they stand. -/
import Derived.Test.YtnkdanobhgofbaaGreatDoorVQ
namespace Go.Proofs.YtnkdanobhgofbaaGreatDoor.pv
set_option linter.all false
open Go.RowKit
section
variable {P : Program} {T : List TI} {n : Nat} {w0 : Cx} {st : PS} {a : Act} {w : World} {ow : Ow} {hd : Nat → Value}
/-- A CALL THAT IS HANDED PRIVATE OBJECTS -/
theorem SimW.callP (S : SimW n w0 st a w ow hd) (hold : Keep w0 ow) {g : FuncId} {xs cs : List FV} {us vs : List Value} {s τ : List Nat} {m2 : List PO} {r : FV} {nl : Nat} (hx : RFT (al st.m) hd ow w xs us) (hcs : RFT (al st.m) hd ow w cs vs)
    (h2 : nodup τ = true) (h3 : s.all (liveAt st.m) = true) (h4 : τ = s ++ (List.range (m2.length - s.length)).map (nl + ·)) (h5 : (List.range (m2.length - s.length)).all (fun k => isFreeAt st.m (nl + k)) = true) (h6 : m2.all okH = true) (h7 : s.length ≤ m2.length)
    (hret : RetH P g (renL s xs ++ renL s cs) (renM st.m s s) r m2) :
    Calls P g (us ++ vs).toArray w (fun e w' => ∃ v ow' hd', e = .returned v ∧ Keep w0 ow' ∧ SimW n w0 ⟨st.f, updM st.m (zipO τ τ m2)⟩ a w' ow' hd' ∧ RF (al (updM st.m (zipO τ τ m2))) hd' ow' w' (mapF τ r) v) := by
  have hlive : ∀ l ∈ s, ∃ o, st.m[l]? = some o ∧ o.live = true := by
    intro l hl
    have := List.all_eq_true.1 h3 l hl
    unfold liveAt at this
    split at this
    · rename_i o ho; exact ⟨o, ho, this⟩
    · cases this
  have hfree : ∀ k, k < m2.length - s.length → st.m[nl + k]? = some .free := by
    intro k hk
    have := List.all_eq_true.1 h5 k (by rw [List.mem_range]; exact hk)
    unfold isFreeAt at this
    split at this
    · assumption
    · cases this
  have hτl : τ.length = m2.length := by rw [h4]; simp; omega
  have hτs : ∀ j, j < s.length → τ[j]? = s[j]? := by intro j hj; rw [h4, List.getElem?_append_left hj]
  have hτn : ∀ j, s.length ≤ j → j < m2.length → τ[j]? = some (nl + (j - s.length)) := by
    intro j hj hj'
    rw [h4, List.getElem?_append_right hj, List.getElem?_map, List.getElem?_range (by omega)]
    rfl
  have hs : nodup s = true := by
    have : ∀ (a b : List Nat), nodup (a ++ b) = true → nodup a = true := by
      intro a b
      induction a with
      | nil => intro _; rfl
      | cons x a ih =>
        intro h
        simp only [List.cons_append, nodup, Bool.and_eq_true, Bool.not_eq_true', List.any_append, Bool.or_eq_false_iff] at h ⊢
        exact ⟨h.1.1, ih h.2⟩
    rw [h4] at h2
    exact this _ _ h2
  have hτlt : ∀ x ∈ τ, x < st.m.length := by
    intro x hx
    rw [h4, List.mem_append, List.mem_map] at hx
    rcases hx with hx | ⟨k, hk, rfl⟩
    · obtain ⟨o, ho, _⟩ := hlive x hx; exact (List.getElem?_eq_some_iff.1 ho).1
    · exact (List.getElem?_eq_some_iff.1 (hfree k (by simpa using hk))).1
  have hupd := fun l => updM_zipO (τ := τ) τ m2 st.m l h2 hτl hτlt
  -- what is lent
  let own1 : Nat → Bool := fun b => s.any fun l => (blocksOf (hd l)).contains b
  have hownI : ∀ b, own1 b = true → ∃ l o, l ∈ s ∧ st.m[l]? = some o ∧ o.live = true ∧ b ∈ blocksOf (hd l) := by
    intro b hb
    obtain ⟨l, hl, hb⟩ := List.any_eq_true.1 hb
    obtain ⟨o, ho, hlv⟩ := hlive l hl
    exact ⟨l, o, hl, ho, hlv, by simpa using hb⟩
  have hownN : ∀ b, own1 b = true → b < w.heap.size ∧ w0.New b ∧ ow b = true := by
    intro b hb
    obtain ⟨l, o, _, ho, hlv, hbk⟩ := hownI b hb
    exact (S.objs l o ho).lt hlv b hbk
  have hownP : ∀ l ∈ s, ∀ b, b ∈ blocksOf (hd l) → own1 b = true := by
    intro l hl b hb
    exact List.any_eq_true.2 ⟨l, hl, by simp [hb]⟩
  let c1 : Cx := ⟨w, own1, ow, fun _ => undef, fun g => (renM st.m s s).any fun o => o.tag == some g⟩
  have haln : ∀ l, al (renM st.m s s) l = al (renM st.m s s) l := fun _ => rfl
  have hobj : ∀ j o, (renM st.m s s)[j]? = some o → ∃ l o', s[j]? = some l ∧ st.m[l]? = some o' ∧ o'.live = true ∧ o = renO s o' ∧ hren hd s j = hd l := by
    intro j o hj
    · obtain ⟨l, hl, rfl⟩ := renM_get _ _ _ _ _ hj
      obtain ⟨o', ho', hlv⟩ := hlive l (List.mem_of_getElem? hl)
      refine ⟨l, o', hl, ho', hlv, by rw [List.getD_eq_getElem?_getD, ho']; rfl, by simp [hren, List.getD_eq_getElem?_getD, hl]⟩
  have hlive1 : ∀ o : PO, (renO s o).live = o.live := by intro o; cases o <;> rfl
  have htag1 : ∀ o : PO, (renO s o).tag = o.tag := by intro o; cases o <;> rfl
  have S1 : SimH c1 (renM st.m s s) w ow (hren hd s) := by
    refine ⟨Kt.refl _ _, S.fresh, fun j o hj => ?_, ?_, ?_⟩
    · obtain ⟨l, o', hl, ho', hlv, rfl, e⟩ := hobj j o hj
      rw [e]
      have ho := S.objs l o' ho'
      have hm := List.mem_of_getElem? hl
      cases o' with
      | free => trivial
      | none => trivial
      | gh => simp [PO.live] at hlv
      | box cs =>
        obtain ⟨b, vals, t, g1, g2, g3, g4, g5⟩ := ho
        refine ⟨b, vals, t, g1, .inr (hownP l hm b (by rw [g1]; first | rfl | simp [blocksOf, blockOf])), g3, g4, ?_⟩
        rw [funext haln]
        exact RFL.ren _ _ g5
      | row ty sz xs =>
        obtain ⟨cells, g1, g2, g3⟩ := ho
        exact ⟨cells, g1, fun b hb => ⟨.inr (hownP l hm b hb), (g2 b hb).2⟩, g3⟩
      | cu q fs =>
        obtain ⟨g1, vs', g2, g3⟩ := ho
        refine ⟨fun b hb => ⟨.inr (hownP l hm b hb), (g1 b hb).2⟩, vs', ?_, g3⟩
        rw [funext haln]
        exact RFL.ren _ _ g2
    · intro j j' o o' b hne hj hj' hlv hlv' hb hb'
      obtain ⟨l, p, hl, hp, hpv, rfl, e⟩ := hobj j o hj
      obtain ⟨l', p', hl', hp', hpv', rfl, e'⟩ := hobj j' o' hj'
      rw [e] at hb
      rw [e'] at hb'
      exact S.dist l l' p p' b (fun h => by subst h; exact hne (nodup_nat hs hl hl')) hp hp' hpv hpv' hb hb'
    · refine ⟨?_, fun l o g hl hg => List.any_eq_true.2 ⟨o, List.mem_of_getElem? hl, by rw [hg]; exact beq_self_eq_true _⟩⟩
      intro j j' o o' g hj hj' hg hg'
      obtain ⟨l, p, hl, hp, _, rfl, _⟩ := hobj j o hj
      obtain ⟨l', p', hl', hp', _, rfl, _⟩ := hobj j' o' hj'
      rw [htag1] at hg hg'
      have e := S.tags.1 l l' p p' g hp hp' hg hg'
      subst e
      exact nodup_nat hs hl hl'
  have hargs : RFT (al (renM st.m s s)) (hren hd s) ow w (renL s xs ++ renL s cs) (us ++ vs) := by
    rw [funext haln]
    exact RFT.append (RFT.ren _ _ hx) (RFT.ren _ _ hcs)
  -- groups
  have hft : ∀ l o g, l ∉ s → st.m[l]? = some o → o.tag = some g → ∀ q, q ∈ renM st.m s s → q.tag ≠ some g := by
    intro l o g hl ho hg q hq hqg
    obtain ⟨j, hj⟩ := List.mem_iff_getElem?.1 hq
    obtain ⟨l', p', hl', hp', _, rfl, _⟩ := hobj j q hj
    rw [htag1] at hqg
    have e := S.tags.1 l l' o p' g ho hp' hg hqg
    subst e
    exact hl (List.mem_of_getElem? hl')
  refine (hret.2.2 c1 (hren hd s) (us ++ vs) S1 hargs).mono fun e w2 ⟨v, ow2, hd2, he, k2, kt, S2, hid, hr⟩ => ?_
  haveI hph : Ph ow ow2 := k2.1
  -- the caller's objects afterwards
  let hd3 : Nat → Value := fun l => match idx l τ with | some j => hd2 j | none => hd l
  have hd3τ : ∀ j l, τ[j]? = some l → hd3 l = hd2 j := by
    intro j l hj
    obtain ⟨i, hi⟩ := idx_of_get (List.mem_of_getElem? hj)
    have := nodup_nat h2 hj (idx_get hi)
    subst this
    show (match idx l τ with | some j => hd2 j | none => hd l) = hd2 j
    rw [hi]
  have hd3n : ∀ l, l ∉ τ → hd3 l = hd l := by
    intro l hl
    show (match idx l τ with | some j => hd2 j | none => hd l) = hd l
    cases hq : idx l τ with
    | none => rfl
    | some j => exact absurd (List.mem_of_getElem? (idx_get hq)) hl
  have hKp : Kp ow w ow2 w2 := by
    refine ⟨S2.below.size, fun b hb h => ?_, fun b hb h => ?_⟩
    · rw [k2.2.1 b hb (by cases ho : own1 b with | false => exact ho | true => rw [(hownN b ho).2.2] at h; cases h)]; exact h
    · exact S2.below.block b hb (by cases ho : own1 b with | false => exact ho | true => rw [(hownN b ho).2.2] at h; cases h)
  have hout : ∀ b, b < w0.w.heap.size → w0.own b = false → own1 b = false := by
    intro b hb hn
    cases ho : own1 b with
    | false => rfl
    | true =>
      rcases (hownN b ho).2.1 with h' | h'
      · omega
      · rw [hn] at h'; cases h'
  have hsz := S.below.size
  have hm2 : ∀ j o, m2[j]? = some o → okH o = true := fun j o hj => List.all_eq_true.1 h6 o (List.mem_of_getElem? hj)
  have hnew : ∀ b, c1.New b → w0.New b := by
    intro b hb
    rcases hb with hb | hb
    · exact .inl (Nat.le_trans hsz hb)
    · exact (hownN b hb).2.1
  have halτ : ∀ j, al m2 j = true → al (updM st.m (zipO τ τ m2)) (τ.getD j 0) = true ∧ hd3 (τ.getD j 0) = hd2 j := by
    intro j hj
    unfold al at hj
    cases hq : m2[j]? with
    | none => simp [hq] at hj
    | some o =>
      have hlt : j < τ.length := by rw [hτl]; exact (List.getElem?_eq_some_iff.1 hq).1
      have hg : τ[j]? = some (τ.getD j 0) := by rw [List.getD_eq_getElem?_getD, List.getElem?_eq_getElem hlt]; rfl
      refine ⟨?_, hd3τ j _ hg⟩
      unfold al
      rw [(hupd _).1 j hg, hq]
      rw [hq] at hj
      show (mapO τ o).made = true
      cases o <;> first | rfl | exact hj
  have ha : ∀ j, al st.m j = true → al (updM st.m (zipO τ τ m2)) j = true ∧ hd3 j = hd j := by
    intro j hj
    by_cases hmem : j ∈ τ
    · obtain ⟨i, hi⟩ := List.mem_iff_getElem?.1 hmem
      have hilt : i < m2.length := by rw [← hτl]; exact (List.getElem?_eq_some_iff.1 hi).1
      rcases Nat.lt_or_ge i s.length with hlt | hge
      · have hsi : s[i]? = some j := by rw [← hτs i hlt]; exact hi
        obtain ⟨o, ho, hlv⟩ := hlive j (List.mem_of_getElem? hsi)
        have hal1 : al (renM st.m s s) i = true := by
          rw [haln]
          unfold al
          rw [renM_at _ _ _ _ _ hsi, List.getD_eq_getElem?_getD, ho]
          simp only [Option.getD_some, renO_made]
          unfold al at hj
          rw [ho] at hj
          exact hj
        obtain ⟨q1, q2⟩ := hid i hal1
        obtain ⟨q3, q4⟩ := halτ i q1
        have hgd : τ.getD i 0 = j := by rw [List.getD_eq_getElem?_getD, hi]; rfl
        rw [hgd] at q3 q4
        refine ⟨q3, ?_⟩
        rw [q4, q2]
        simp [hren, List.getD_eq_getElem?_getD, hsi]
      · have := hτn i hge hilt
        rw [hi] at this
        simp at this
        have hf := hfree (i - s.length) (by omega)
        rw [← this] at hf
        simp [al, hf, PO.made] at hj
    · refine ⟨?_, hd3n j hmem⟩
      unfold al at hj ⊢
      rw [(hupd j).2 hmem]; exact hj
  have hback : ∀ (l : Nat) (o : PO), (updM st.m (zipO τ τ m2))[l]? = some o → (∃ (j : Nat) (o2 : PO), τ[j]? = some l ∧ m2[j]? = some o2 ∧ o = mapO τ o2) ∨ (l ∉ τ ∧ st.m[l]? = some o) := by
    intro l o hl
    by_cases hmem : l ∈ τ
    · obtain ⟨i, hi⟩ := List.mem_iff_getElem?.1 hmem
      rw [(hupd l).1 i hi] at hl
      cases hq : m2[i]? with
      | none => simp [hq] at hl
      | some o2 => simp [hq] at hl; exact .inl ⟨i, o2, hi, hq, hl.symm⟩
    · rw [(hupd l).2 hmem] at hl
      exact .inr ⟨hmem, hl⟩
  have hlvO : ∀ o : PO, (mapO τ o).live = o.live := by intro o; cases o <;> rfl
  -- blocks of the objects that were not handed over
  have hother : ∀ l o b, l ∉ τ → st.m[l]? = some o → o.live = true → b ∈ blocksOf (hd l) → b < w.heap.size ∧ own1 b = false := by
    intro l o b hl ho hlv hb
    refine ⟨((S.objs l o ho).lt hlv b hb).1, ?_⟩
    cases hw : own1 b with
    | false => rfl
    | true =>
      obtain ⟨l', o', hl', ho', hlv', hb'⟩ := hownI b hw
      exact absurd hb' (S.dist l l' o o' b (fun e => by subst e; exact hl (by rw [h4]; simp [hl'])) ho ho' hlv hlv' hb)
  have S3 : SimH w0 (updM st.m (zipO τ τ m2)) w2 ow2 hd3 := by
    refine ⟨S.below.trans ⟨S2.below.os, S2.below.tape, S2.below.output, S2.below.size, fun k hk hn => S2.below.block k (Nat.lt_of_lt_of_le hk hsz) (hout k hk hn)⟩, S2.fresh, fun l o hl => ?_, ?_, ?_⟩
    · rcases hback l o hl with ⟨j, o2, hj, hj2, rfl⟩ | ⟨hmem, hl'⟩
      · have ho := S2.objs j o2 hj2
        rw [hd3τ j l hj]
        cases o2 with
        | free => trivial
        | none => trivial
        | gh => have := hm2 j _ hj2; simp [okH] at this
        | box cs =>
          obtain ⟨b, vals, t, g1, g2, g3, g4, g5⟩ := ho
          exact ⟨b, vals, t, g1, hnew b g2, g3, g4, RFL.mapF halτ _ _ g5⟩
        | row ty sz xs =>
          obtain ⟨cells, g1, g2, g3⟩ := ho
          exact ⟨cells, g1, fun b hb => ⟨hnew b (g2 b hb).1, (g2 b hb).2⟩, g3⟩
        | cu q fs =>
          obtain ⟨g1, vs', g2, g3⟩ := ho
          exact ⟨fun b hb => ⟨hnew b (g1 b hb).1, (g1 b hb).2⟩, vs', RFL.mapF halτ _ _ g2, g3⟩
      · rw [hd3n l hmem]
        refine (S.objs l o hl').kp hKp ha (fun b hb hlv => ?_) fun g hg => kt g (hft l o g (fun h => hmem (by rw [h4]; simp [h])) hl' hg)
        obtain ⟨q1, q2⟩ := hother l o b hmem hl' hlv hb
        exact ⟨S2.below.block b q1 q2, k2.2.1 b q1 q2⟩
    · intro l l' o o' b hne hl hl' hlv hlv' hb hb'
      rcases hback l o hl with ⟨j, o2, hj, hj2, rfl⟩ | ⟨hmem, hl1⟩
      · rw [hd3τ j l hj] at hb
        rw [hlvO] at hlv
        rcases hback l' o' hl' with ⟨j', o2', hj', hj2', rfl⟩ | ⟨hmem', hl1'⟩
        · rw [hd3τ j' l' hj'] at hb'
          rw [hlvO] at hlv'
          exact S2.dist j j' o2 o2' b (fun e => by subst e; rw [hj] at hj'; cases hj'; exact hne rfl) hj2 hj2' hlv hlv' hb hb'
        · rw [hd3n l' hmem'] at hb'
          obtain ⟨q1, q2⟩ := hother l' o' b hmem' hl1' hlv' hb'
          rcases ((S2.objs j o2 hj2).lt hlv b hb).2.1 with h' | h'
          · exact absurd q1 (Nat.not_lt.2 h')
          · rw [show c1.own b = own1 b from rfl, q2] at h'; cases h'
      · rw [hd3n l hmem] at hb
        rcases hback l' o' hl' with ⟨j', o2', hj', hj2', rfl⟩ | ⟨hmem', hl1'⟩
        · rw [hd3τ j' l' hj'] at hb'
          rw [hlvO] at hlv'
          obtain ⟨q1, q2⟩ := hother l o b hmem hl1 hlv hb
          rcases ((S2.objs j' o2' hj2').lt hlv' b hb').2.1 with h' | h'
          · exact absurd q1 (Nat.not_lt.2 h')
          · rw [show c1.own b = own1 b from rfl, q2] at h'; cases h'
        · rw [hd3n l' hmem'] at hb'
          exact S.dist l l' o o' b hne hl1 hl1' hlv hlv' hb hb'
    · have htO : ∀ o : PO, (mapO τ o).tag = o.tag := by intro o; cases o <;> rfl
      have hmix : ∀ (l : Nat) (o o2 : PO) (g : Nat), l ∉ τ → st.m[l]? = some o → o.tag = some g → o2 ∈ m2 → o2.tag = some g → False := by
        intro l o o2 g hl ho hg h2 hg2
        obtain ⟨q, hq, hqg⟩ := hret.2.1 o2 h2 g hg2
        exact hft l o g (fun h => hl (by rw [h4]; simp [h])) ho hg q hq hqg
      have hgr : ∀ (o2 : PO) (g : Nat), o2 ∈ m2 → o2.tag = some g → w0.gr g = true := by
        intro o2 g h2 hg2
        obtain ⟨q, hq, hqg⟩ := hret.2.1 o2 h2 g hg2
        obtain ⟨j, hj⟩ := List.mem_iff_getElem?.1 hq
        obtain ⟨l', p', hl', hp', _, rfl, _⟩ := hobj j q hj
        rw [htag1] at hqg
        exact S.tags.2 l' p' g hp' hqg
      refine ⟨?_, fun l o g hl hg => ?_⟩
      rotate_left
      · rcases hback l o hl with ⟨j, o2, hj, hj2, rfl⟩ | ⟨hmem, hl1⟩
        · rw [htO] at hg
          exact hgr o2 g (List.mem_of_getElem? hj2) hg
        · exact S.tags.2 l o g hl1 hg
      intro l l' o o' g hl hl' hg hg'
      rcases hback l o hl with ⟨j, o2, hj, hj2, rfl⟩ | ⟨hmem, hl1⟩
      · rw [htO] at hg
        rcases hback l' o' hl' with ⟨j', o2', hj', hj2', rfl⟩ | ⟨hmem', hl1'⟩
        · rw [htO] at hg'
          have e := S2.tags.1 j j' o2 o2' g hj2 hj2' hg hg'
          subst e
          rw [hj] at hj'
          exact Option.some.inj hj'
        · exact (hmix l' o' o2 g hmem' hl1' hg' (List.mem_of_getElem? hj2) hg).elim
      · rcases hback l' o' hl' with ⟨j', o2', hj', hj2', rfl⟩ | ⟨hmem', hl1'⟩
        · rw [htO] at hg'
          exact (hmix l o o2' g hmem hl1 hg (List.mem_of_getElem? hj2') hg').elim
        · exact S.tags.1 l l' o o' g hl1 hl1' hg hg'
  exact ⟨v, ow2, hd3, he, hold.step (fun b hb hn => k2.2.1 b (Nat.lt_of_lt_of_le hb hsz) (hout b hb hn)) (fun g hg => kt g fun q hq hqg => by
    obtain ⟨j, hj⟩ := List.mem_iff_getElem?.1 hq
    obtain ⟨l', p', hl', hp', _, rfl, _⟩ := hobj j q hj
    rw [htag1] at hqg
    rw [S.tags.2 l' p' g hp' hqg] at hg; cases hg), { S3 with defers := S.defers, size := S.size, slots := fun i => RF.mono hKp ha _ _ (S.slots i) }, RF.mapF halτ _ _ hr⟩
end
end Go.Proofs.YtnkdanobhgofbaaGreatDoor.pv
