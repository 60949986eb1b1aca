/- Rows of rows: a call that looks at private objects and makes new ones. -/
import Derived.Test.YtlabkelhaaahkaaSy
namespace Go.Proofs.Ytlabkelhaaahkaa.pv
set_option linter.all false
open Go.RowKit

/-- values of which it is no matter what is private -/
def flatF : FV → Bool
  | .d x => flat x
  | .srf _ => true
  | .dead => true
  | _ => false
def CleanO : PO → Prop
  | .none => True
  | .row _ _ xs => xs.all flat = true
  | .cu q fs => fs.all flatF = true ∧ ∀ (ow ow' : Nat → Bool) (w : World) (h : Value) (vs : List Value), q.I ow w h vs → q.I ow' w h vs
  | _ => False
section
variable {w : World} {A : Nat → Bool} {hd : Nat → Value}
theorem RE_flat {ow ow' : Nat → Bool} {s : Nat} : ∀ {xs : List PV} {cs : List Value}, xs.all flat = true → RE ow w s xs cs → RE ow' w s xs cs
  | [], cs, _, h => by simpa only [RE] using h
  | x :: xs, cs, hf, h => by
    simp only [List.all_cons, Bool.and_eq_true] at hf
    simp only [RE] at h ⊢
    obtain ⟨u, r, e, h0, h1, h2, h3⟩ := h
    exact ⟨u, r, e, h0, h1, R.flat _ _ hf.1 h2, RE_flat hf.2 h3⟩
theorem RFL_flat {ow ow' : Nat → Bool} : ∀ {fs : List FV} {vs : List Value}, fs.all flatF = true → RFL A hd ow w fs vs → RFL A hd ow' w fs vs
  | [], vs, _, h => by simpa only [RFL] using h
  | f :: fs, vs, hf, h => by
    simp only [List.all_cons, Bool.and_eq_true] at hf
    simp only [RFL] at h ⊢
    obtain ⟨u, r, e, h1, h2, h3⟩ := h
    refine ⟨u, r, e, ?_, h2, RFL_flat hf.2 h3⟩
    have hf1 := hf.1
    cases f with
    | d x => simp only [RF] at h1 ⊢; exact R.flat _ _ hf1 h1
    | srf l => simpa only [RF] using h1
    | dead => simp only [RF]
    | agg => simp [flatF] at hf1
    | tup => simp [flatF] at hf1
    | ref => simp [flatF] at hf1
    | ept => simp [flatF] at hf1
    | asl => simp [flatF] at hf1
    | ssl => simp [flatF] at hf1
    | clo => simp [flatF] at hf1
end
theorem outC_clean {ty sz : Nat} {q : Nat → Bool} {hs : List (Option Nat)} {xs : List PV} (hf : xs.all (fits sz) = true) (hq : ∀ k, k < xs.length * sz → q k = true) : ∀ (ow ow' : Nat → Bool) (w : World) (h : Value) (vs : List Value), (outC ty sz q hs xs).I ow w h vs → (outC ty sz q hs xs).I ow' w h vs := by
  rintro ow ow' w h vs ⟨cells, caps, h1, h2, h3⟩
  refine ⟨cells, caps, h1, h2, fun k p hp => ?_⟩
  obtain ⟨u, g1, g2, g3, g4, g5⟩ := h3 k p hp
  have hk : k < xs.length * sz := by rw [← fl_len hf]; exact (List.getElem?_eq_some_iff.1 hp).1
  exact ⟨u, g1, g2, g3, g4, fun hqk => by rw [hq k hk] at hqk; cases hqk⟩
theorem bagC_clean {ct : Nat → Nat × Nat} {q : Nat → Bool} {xs : List PV} (hx : ∀ ys : List PV, .sl ys ∈ fl xs → ys.all flat = true) : ∀ (ow ow' : Nat → Bool) (w : World) (h : Value) (vs : List Value), (bagC ct q xs).I ow w h vs → (bagC ct q xs).I ow' w h vs := by
  rintro ow ow' w h vs ⟨caps, h1, h2, h3, h4, h5⟩
  refine ⟨caps, h1, h2, fun k hk hqk => ?_, h4, h5⟩
  obtain ⟨ys, cs, u, z1, z2, z3, z4⟩ := h3 k hk hqk
  exact ⟨ys, cs, u, z1, z2, z3, RE_flat (hx ys (List.mem_of_getElem? z1)) z4⟩
section
variable {P : Program} {T : List TI} {n : Nat} {w0 : Cx} {st : PS} {a : Act} {w : World} {ow : Nat → Bool} {hd : Nat → Value}
theorem SimW.callN (S : SimW n w0 st a w ow hd) (hold : Keep w0 ow) {g : FuncId} {ps : List PV} {us : List Value} {τ : List Nat} {m2 : List PO} {r : FV} {nl : Nat} (hx : RT (fun _ => false) w ps us)
    (h2 : nodup τ = true) (h4 : τ = (List.range m2.length).map (nl + ·)) (h5 : ∀ k, k < m2.length → st.m[nl + k]? = some .free) (h6 : ∀ o ∈ m2, CleanO o) (hr0 : ∀ (A : Nat → Bool) (hd : Nat → Value) (ow ow' : Nat → Bool) (w : World) (v : Value), RF A hd ow w r v → RF A hd ow' w r v)
    (hret : RetH P g (ps.map .d) [] r m2) :
    Calls P g us.toArray w (fun e w' => ∃ v ow' hd', e = .returned v ∧ Keep w0 ow' ∧ SimW n w0 ⟨st.f, updM st.m (zipO τ τ m2)⟩ a w' ow' hd' ∧ RF (al (updM st.m (zipO τ τ m2))) hd' ow' w' (mapF τ r) v) := by
  have hτl : τ.length = m2.length := by rw [h4]; simp
  have hτn : ∀ j, j < m2.length → τ[j]? = some (nl + j) := by
    intro j hj
    rw [h4, List.getElem?_map, List.getElem?_range (by omega)]
    rfl
  have hτlt : ∀ x ∈ τ, x < st.m.length := by
    intro x hx
    rw [h4, List.mem_map] at hx
    obtain ⟨k, hk, rfl⟩ := hx
    exact (List.getElem?_eq_some_iff.1 (h5 k (by simpa using hk))).1
  have hupd := fun l => updM_zipO (τ := τ) τ m2 st.m l h2 hτl hτlt
  let c1 : Cx := ⟨w, fun _ => false, fun _ => false, fun _ => undef⟩
  have S1 : SimH c1 [] w (fun _ => false) hd := ⟨Kt.refl _ _, fun _ _ => rfl, fun l o h => by simp at h, fun l l' o o' b _ h => by simp at h⟩
  have hargs : RFT (al []) hd (fun _ => false) w (ps.map .d) us := by
    have go : ∀ (ps : List PV) (us : List Value), RT (fun _ => false) w ps us → RFT (al []) hd (fun _ => false) w (ps.map .d) us := by
      intro ps
      induction ps with
      | nil => intro us h; simpa only [RT, List.map_nil, RFT] using h
      | cons p ps ih =>
        intro us h
        simp only [RT] at h
        obtain ⟨v, r, e, h1, h3⟩ := h
        simp only [List.map_cons, RFT]
        exact ⟨v, r, e, by simpa only [RF] using h1, ih r h3⟩
    exact go ps us hx
  refine (hret.2 c1 hd us S1 hargs).mono fun e w2 ⟨v, ow2, hd2, he, k2, S2, _, hr⟩ => ?_
  let hd3 : Nat → Value := fun l => match idx l τ with | some j => hd2 j | none => hd l
  have hd3τ : ∀ j l, τ[j]? = some l → hd3 l = hd2 j := by
    intro j l hj
    obtain ⟨i, hi⟩ := idx_of_get (List.mem_of_getElem? hj)
    have := nodup_nat h2 hj (idx_get hi)
    subst this
    show (match idx l τ with | some j => hd2 j | none => hd l) = hd2 j
    rw [hi]
  have hd3n : ∀ l, l ∉ τ → hd3 l = hd l := by
    intro l hl
    show (match idx l τ with | some j => hd2 j | none => hd l) = hd l
    cases hq : idx l τ with
    | none => rfl
    | some j => exact absurd (List.mem_of_getElem? (idx_get hq)) hl
  let ow3 : Nat → Bool := fun b => if b < w.heap.size then ow b else ow2 b
  have hold3 : ∀ b, b < w.heap.size → ow3 b = ow b := fun b hb => if_pos hb
  have hblk : ∀ b, b < w.heap.size → w2.heap[b]? = w.heap[b]? := fun b hb => S2.below.block b hb rfl
  have hKp : Kp ow w ow3 w2 := ⟨S2.below.size, fun b hb h => by rw [hold3 b hb]; exact h, fun b hb _ => hblk b hb⟩
  have hsz := S.below.size
  have hnewb : ∀ b, c1.New b → w.heap.size ≤ b := by
    intro b hb
    rcases hb with hb | hb
    · exact hb
    · cases hb
  have hnew : ∀ b, c1.New b → w0.New b := fun b hb => .inl (Nat.le_trans hsz (hnewb b hb))
  have how3 : ∀ b, w.heap.size ≤ b → ow3 b = ow2 b := fun b hb => if_neg (Nat.not_lt.2 hb)
  have hok : ∀ o, CleanO o → okH o = true := by intro o ho; cases o <;> simp_all [CleanO, okH]
  have halτ : ∀ j, al m2 j = true → al (updM st.m (zipO τ τ m2)) (τ.getD j 0) = true ∧ hd3 (τ.getD j 0) = hd2 j := by
    intro j hj
    unfold al at hj
    cases hq : m2[j]? with
    | none => simp [hq] at hj
    | some o =>
      have hlt : j < τ.length := by rw [hτl]; exact (List.getElem?_eq_some_iff.1 hq).1
      have hg : τ[j]? = some (τ.getD j 0) := by rw [List.getD_eq_getElem?_getD, List.getElem?_eq_getElem hlt]; rfl
      refine ⟨?_, hd3τ j _ hg⟩
      unfold al
      rw [(hupd _).1 j hg, hq]
      have := hok o (h6 o (List.mem_of_getElem? hq))
      cases o <;> simp [okH] at this <;> rfl
  have ha : ∀ j, al st.m j = true → al (updM st.m (zipO τ τ m2)) j = true ∧ hd3 j = hd j := by
    intro j hj
    by_cases hmem : j ∈ τ
    · obtain ⟨i, hi⟩ := List.mem_iff_getElem?.1 hmem
      have hilt : i < m2.length := by rw [← hτl]; exact (List.getElem?_eq_some_iff.1 hi).1
      have := hτn i hilt
      rw [hi] at this
      simp at this
      have hf := h5 i hilt
      rw [← this] at hf
      simp [al, hf, PO.made] at hj
    · refine ⟨?_, hd3n j hmem⟩
      unfold al at hj ⊢
      rw [(hupd j).2 hmem]; exact hj
  have hback : ∀ (l : Nat) (o : PO), (updM st.m (zipO τ τ m2))[l]? = some o → (∃ (j : Nat) (o2 : PO), τ[j]? = some l ∧ m2[j]? = some o2 ∧ o = mapO τ o2) ∨ (l ∉ τ ∧ st.m[l]? = some o) := by
    intro l o hl
    by_cases hmem : l ∈ τ
    · obtain ⟨i, hi⟩ := List.mem_iff_getElem?.1 hmem
      rw [(hupd l).1 i hi] at hl
      cases hq : m2[i]? with
      | none => simp [hq] at hl
      | some o2 => simp [hq] at hl; exact .inl ⟨i, o2, hi, hq, hl.symm⟩
    · rw [(hupd l).2 hmem] at hl
      exact .inr ⟨hmem, hl⟩
  have hlvO : ∀ o : PO, (mapO τ o).live = o.live := by intro o; cases o <;> rfl
  have hother : ∀ l o b, st.m[l]? = some o → o.live = true → b ∈ blocksOf (hd l) → b < w.heap.size := fun l o b ho hlv hb => ((S.objs l o ho).lt hlv b hb).1
  have hnewO : ∀ j o2 b, m2[j]? = some o2 → o2.live = true → b ∈ blocksOf (hd2 j) → w.heap.size ≤ b := fun j o2 b hj hlv hb => hnewb b ((S2.objs j o2 hj).lt hlv b hb).2.1
  have S3 : SimH w0 (updM st.m (zipO τ τ m2)) w2 ow3 hd3 := by
    refine ⟨S.below.trans ⟨S2.below.os, S2.below.tape, S2.below.output, S2.below.size, fun k hk hn => hblk k (Nat.lt_of_lt_of_le hk hsz)⟩, fun b hb => ?_, fun l o hl => ?_, ?_⟩
    · rw [how3 b (Nat.le_trans S2.below.size hb)]; exact S2.fresh b hb
    · rcases hback l o hl with ⟨j, o2, hj, hj2, rfl⟩ | ⟨hmem, hl'⟩
      · have ho := S2.objs j o2 hj2
        have hcl := h6 o2 (List.mem_of_getElem? hj2)
        rw [hd3τ j l hj]
        cases o2 with
        | none => trivial
        | row ty sz xs =>
          obtain ⟨cells, g1, g2, g3⟩ := ho
          exact ⟨cells, g1, fun b hb => ⟨hnew b (g2 b hb).1, by rw [how3 b (hnewb b (g2 b hb).1)]; exact (g2 b hb).2⟩, RE_flat hcl g3⟩
        | cu q fs =>
          obtain ⟨g1, vs', g2, g3⟩ := ho
          exact ⟨fun b hb => ⟨hnew b (g1 b hb).1, by rw [how3 b (hnewb b (g1 b hb).1)]; exact (g1 b hb).2⟩, vs', RFL.mapF halτ _ _ (RFL_flat hcl.1 g2), hcl.2 _ _ _ _ _ g3⟩
        | free => exact hcl.elim
        | gh => exact hcl.elim
        | box => exact hcl.elim
      · rw [hd3n l hmem]
        refine (S.objs l o hl').kp hKp ha fun b hb hlv => ?_
        have q1 := hother l o b hl' hlv hb
        exact ⟨hblk b q1, hold3 b q1⟩
    · intro l l' o o' b hne hl hl' hlv hlv' hb hb'
      rcases hback l o hl with ⟨j, o2, hj, hj2, rfl⟩ | ⟨hmem, hl1⟩
      · rw [hd3τ j l hj] at hb
        rw [hlvO] at hlv
        rcases hback l' o' hl' with ⟨j', o2', hj', hj2', rfl⟩ | ⟨hmem', hl1'⟩
        · rw [hd3τ j' l' hj'] at hb'
          rw [hlvO] at hlv'
          exact S2.dist j j' o2 o2' b (fun e => by subst e; rw [hj] at hj'; cases hj'; exact hne rfl) hj2 hj2' hlv hlv' hb hb'
        · rw [hd3n l' hmem'] at hb'
          have q1 := hother l' o' b hl1' hlv' hb'
          have q2 := hnewO j o2 b hj2 hlv hb
          omega
      · rw [hd3n l hmem] at hb
        rcases hback l' o' hl' with ⟨j', o2', hj', hj2', rfl⟩ | ⟨hmem', hl1'⟩
        · rw [hd3τ j' l' hj'] at hb'
          rw [hlvO] at hlv'
          have q1 := hother l o b hl1 hlv hb
          have q2 := hnewO j' o2' b hj2' hlv' hb'
          omega
        · rw [hd3n l' hmem'] at hb'
          exact S.dist l l' o o' b hne hl1 hl1' hlv hlv' hb hb'
  exact ⟨v, ow3, hd3, he, hold.step fun b hb hn => hold3 b (Nat.lt_of_lt_of_le hb hsz), { S3 with defers := S.defers, size := S.size, slots := fun i => RF.mono hKp ha _ _ (S.slots i) }, RF.mapF halτ _ _ (hr0 _ _ _ _ _ _ hr)⟩
theorem clean_nil : ∀ o ∈ ([] : List PO), CleanO o := by simp
theorem clean_cons {x : PO} {l : List PO} (h : CleanO x) (hr : ∀ o ∈ l, CleanO o) : ∀ o ∈ x :: l, CleanO o := by
  intro o ho
  rcases List.mem_cons.1 ho with rfl | ho
  · exact h
  · exact hr o ho
theorem all_flat {α : Type} {f : α → PV} (hf : ∀ x, flat (f x) = true) {l : List α} : (l.map f).all flat = true := by
  rw [List.all_eq_true]
  intro x hx
  obtain ⟨a, _, rfl⟩ := List.mem_map.1 hx
  exact hf a
theorem sl_flat {β : Type} {f' : β → PV} (hf : ∀ x, flat (f' x) = true) {W : List (List β)} : ∀ ys : List PV, .sl ys ∈ fl (W.map (eL f')) → ys.all flat = true := by
  intro ys h
  rw [fl_sl] at h
  obtain ⟨Y, _, hY⟩ := List.mem_map.1 h
  simp only [eL, PV.sl.injEq] at hY
  rw [← hY]
  exact all_flat hf
/-- the zero value of a type of one cell, as it stands -/
theorem zeroZ_spec {P : Program} {T : List TI} (hT : TOk P T) {t : Nat} {ti : TI} {z : PV} {zz : Z} (ht : T[t]? = some ti) (hka : ti.kind.agg = false) (hzz : ti.zero = [zz]) (hz : z = zz.pv) : ∃ (i : TypeInfo) (zv u : Value), P.info? t = some i ∧ i.zero = some zv ∧ i.size = ti.size ∧ i.bytes = ti.bytes ∧ zv.cells.size = ti.zero.length ∧ u.cells = zv.cells ∧ (∀ v ∈ u.cells.toList, v.oneCell' = true) ∧ ∀ (ow : Nat → Bool) (w : World), R ow w z u := by
  have hne : ti.zero ≠ [] := by rw [hzz]; simp
  obtain ⟨i, d, h1, h2, h3, h4, h5, h6⟩ := hT.info ht
  obtain ⟨zv, h7, h8⟩ := h6 hne
  obtain ⟨h9, h10⟩ := zsOk_pv h8
  have hlen : zv.cells.size = ti.zero.length := by
    have := congrArg List.length h9
    simpa using this
  subst hz
  rw [hzz] at h9 hlen
  have hl1 : zv.cells.toList.length = 1 := by simpa using hlen
  obtain ⟨c, hc⟩ := List.length_eq_one_iff.1 hl1
  rw [hc] at h9 h10
  simp at h9
  have hone := h10 c (by simp)
  have hcc : c.cells = #[c] := by cases c <;> simp_all [Value.cells, Value.oneCell']
  have hzc : zv.cells = #[c] := by apply Array.toList_inj.1; simpa using hc
  refine ⟨i, zv, c, h1, h7, h3, h4, by rw [hlen, hzz], by rw [hcc, hzc], by rw [hcc]; simpa using hone, fun ow w => ?_⟩
  rw [← h9]
  exact ofCell_R hone
theorem ext_clearSSZ {t e s l i j : Nat} {ti : TI} {z : PV} {zz : Z} {xs : List PV} {x : Operand} (h1 : tsl T t = some (e, s)) (h2 : T[e]? = some ti) (hka : ti.kind.agg = false) (hzz : ti.zero = [zz]) (hz : z = zz.pv) (hs1 : ti.zero.length = s) (hs0 : 0 < s) (hij : i ≤ j) (hj : j ≤ xs.length) :
    Ext P T (.call ⟨.builtin .clear, #[x], #[t]⟩) [.ssl l i j s] [(l, .row e s xs)] .dead [(l, .row e s (xs.take i ++ List.replicate (j - i) z ++ xs.drop j))] := by
  intro n w0 st a w o hT hS ho hn hv hm K Q hK
  obtain ⟨ow, hd, hold, S⟩ := hS
  obtain ⟨d, op, ty, pos, af, gd⟩ := o
  simp only at ho hn hK
  subst ho
  simp [Op.operands, Call.operands] at hv
  have hml := hm (l, .row e s xs) (by simp)
  simp only at hml
  obtain ⟨i', zv, u, e1, e2, e3, e4, e5, e6, e7, e8⟩ := zeroZ_spec hT h2 hka hzz hz
  obtain ⟨hu, hs⟩ := tsl_und hT h1
  have hzs : zv.cells.size = s := by rw [e5, hs1]
  have hzc : ∀ n : Nat, (Builtin.zeroCells zv.cells n).toList = (List.replicate n u.cells.toList).flatten := by
    intro n
    have := made_cells zv.cells (by omega) n
    rw [e6, ← this]
    simp [Builtin.zeroCells, madeCells]
  have hx := S.eval x
  rw [hv] at hx
  simp only [RF] at hx
  obtain ⟨hA, ad, N, cap, x1, x2, x3, x4⟩ := hx
  by_cases h0 : j - i = 0
  · have hrun : (execOp a.eval ⟨d, .call ⟨.builtin .clear, #[x], #[t]⟩, ty, pos, af, gd⟩).run P w = .ok (.value (.tuple #[])) w := by
      rw [h0] at x4
      have : ∀ A : Option Addr, (Builtin.clear_ #[t] ty #[.slice A 0 (cap - i)]).run P w = .ok (.tuple #[]) w := by
        intro A
        cases A <;> simp [Builtin.clear_, run_underlying hu]
      simp [execOp, resolve, invoke, builtin, x4, this]
    refine wp_val hrun (hK _ _ ⟨ow, hd, hold, ?_⟩)
    have e0 : st.m.set l (.row e s (xs.take i ++ List.replicate (j - i) z ++ xs.drop j)) = st.m := by
      have : xs.take i ++ List.replicate (j - i) z ++ xs.drop j = xs := by
        rw [h0, show j = i by omega]; simp
      rw [this]
      apply List.ext_getElem?
      intro k
      rw [List.getElem?_set]
      split
      · rename_i hk; subst hk
        rw [hml, if_pos (List.getElem?_eq_some_iff.1 hml).1]
      · rfl
    simp only [PS.act, updM]
    rw [e0]
    exact S.put hn (x := .dead) (by simp only [RF])
  · obtain ⟨cells, ⟨g1, g2⟩, h4, h5⟩ := S.objs l _ hml
    rcases g2 with ⟨g2, g3⟩ | ⟨b, cap', cur, g2, g3, g4, g5, g6, g7, g8⟩
    · omega
    rw [x1] at g2
    simp at g2
    obtain ⟨rfl, rfl, rfl⟩ := g2
    have hRE : RE ow w s (List.replicate (j - i) z) (Builtin.zeroCells zv.cells (j - i)).toList := by
      rw [hzc]; exact RE_zero (by rw [e6]; exact hzs) e7 (e8 _ _) _
    obtain ⟨p1, p2, p3, _, S'⟩ := S.putEls (i := i) hml x1 (by rw [List.length_replicate]; omega) hRE
    rw [List.length_replicate, show i + (j - i) = j by omega] at S'
    have hst := run_storeCells_cells (P := P) b (i * s) (Builtin.zeroCells zv.cells (j - i)).toList 0 w (fun k hk => by rw [Nat.add_zero]; exact (p1 k hk).1) (fun k hk => by rw [Nat.add_zero]; exact (p1 k hk).2) (RE.one hRE)
    rw [Nat.add_zero] at hst
    have hx4 : a.eval x = .slice (some ⟨b, i * s, none⟩) (j - i) (cap - i) := by
      rw [x4, if_neg (by omega), Option.map_some, addr_add0]
    have hzv : (zeroValue e).run P w = .ok zv w := by simp [zeroValue, typeInfo, e1, e2]
    obtain ⟨m, hm'⟩ : ∃ m, j - i = m + 1 := ⟨j - i - 1, by omega⟩
    rw [hm'] at hst hx4 S'
    have hrun : (execOp a.eval ⟨d, .call ⟨.builtin .clear, #[x], #[t]⟩, ty, pos, af, gd⟩).run P w = .ok (.value (.tuple #[])) (w.setCells b (i * s) (Builtin.zeroCells zv.cells (m + 1)).toList) := by
      have : (Builtin.clear_ #[t] ty #[.slice (some ⟨b, i * s, none⟩) (m + 1) (cap - i)]).run P w = .ok (.tuple #[]) (w.setCells b (i * s) (Builtin.zeroCells zv.cells (m + 1)).toList) := by
        simp [Builtin.clear_, run_underlying hu, hzv, hst]
      simp [execOp, resolve, invoke, builtin, hx4, this]
    unfold Oper.wp
    rw [hrun]
    simp only [hm'] at hK
    exact hK _ _ ⟨ow, hd, hold, S'.put hn (x := .dead) (by simp only [RF])⟩
theorem xclrZ {α : Type} {f : α → PV} {L : List α} {t e s l i j : Nat} {x : Operand} {ti : TI} {z : α} {zz : Z} (h : tsl T t = some (e, s)) (h2 : T[e]? = some ti) (hka : ti.kind.agg = false) (hzz : ti.zero = [zz]) (hs : ti.zero.length = s) (h0 : 0 < s) (hp : f z = zz.pv) (c : i ≤ j ∧ j ≤ L.length) :
    Ext P T (.call ⟨.builtin .clear, #[x], #[t]⟩) [.ssl l i j s] [(l, .row e s (L.map f))] .dead [(l, .row e s ((clrR L i j z).map f))] := by
  have := ext_clearSSZ (P := P) (T := T) (l := l) (x := x) (xs := L.map f) h h2 hka hzz hp hs h0 c.1 (by simpa using c.2)
  simpa [clrR, List.map_take, List.map_drop] using this
/-- a part of a row from its start, as a row of one's own at once -/
theorem ext_clip {op : Op} {vs : List FV} {m0 : List (Nat × PO)} {l nl e s k : Nat} {o0 : PO} {zs : List PV} (h : Ext P T op vs m0 (.ssl l 0 k s) [(l, .row e s zs)]) (hl : (l, o0) ∈ m0) (hne : nl ≠ l) (hk : k ≤ zs.length) :
    Ext P T op vs (m0 ++ [(nl, .free)]) (.srf nl) [(l, .none), (nl, .row e s (zs.take k))] := by
  intro n w0 st a w o hT hS ho hn hv hm K Q hK
  refine h n w0 st a w o hT hS ho hn hv (fun q hq => hm q (by simp [hq])) K Q (fun a' w' h' => hK a' w' ?_)
  obtain ⟨ow, hd, hold, S⟩ := h'
  have hlt : l < st.m.length := (List.getElem?_eq_some_iff.1 (hm _ (List.mem_append.2 (.inl hl)))).1
  have hf1 := hm (nl, .free) (by simp)
  simp only at hf1
  have h3 : (st.act o.dst (.ssl l 0 k s) [(l, .row e s zs)]).m[l]? = some (.row e s zs) := by
    show (st.m.set l (.row e s zs))[l]? = _
    rw [List.getElem?_set_self hlt]
  have h0 : (st.act o.dst (.ssl l 0 k s) [(l, .row e s zs)]).m[nl]? = some .free := get_set_ne hf1 hne
  obtain ⟨cells, g1, g2, g3⟩ := S.objs l _ h3
  obtain ⟨ad, cap, hsl, hcap⟩ : ∃ ad cap, hd l = .slice ad zs.length cap ∧ zs.length ≤ cap := by
    rcases g1.2 with ⟨q1, q2⟩ | ⟨g, cap', cur, q1, _, _, q4, _⟩
    · exact ⟨none, 0, by rw [q1, q2], by omega⟩
    · exact ⟨_, cap', q1, q4⟩
  have hlen : (zs.take k).length = k := by simp; omega
  obtain ⟨hd', q1, q2, q3⟩ := S.rerow h3 h0 (v' := .slice ad k cap) (ys := zs.take k) (cells := cells.take (k * s)) (by rw [hlen]; exact ownsRow_take g1 hsl hk) (fun b hb => by rw [hsl]; cases ad <;> simpa [blocksOf, blockOf] using hb) (RE.take _ g3) ⟨_, _, _, rfl⟩
  refine ⟨ow, hd', hold, ?_⟩
  have hmm : ((st.m.set l (.row e s zs)).set l .none).set nl (.row e s (zs.take k)) = updM st.m [(l, .none), (nl, .row e s (zs.take k))] := by
    simp only [updM, List.set_set]
  have q2' := q2
  simp only [PS.act, updM, List.set_set] at q2' ⊢
  refine { q2' with slots := fun i => ?_ }
  have h2 := S.slots i
  have h4 := q2'.slots i
  simp only [PS.act, updM, List.set_set] at h2 h4 q3 ⊢
  cases hdst : o.dst with
  | none => simp only [hdst, putF] at h4 ⊢; exact h4
  | some d =>
    simp only [hdst, putF] at h2 h4 ⊢
    rw [getD_set] at h2 h4 ⊢
    by_cases c : i = d ∧ d < st.f.length
    · rw [if_pos c] at h2 ⊢
      simp only [RF] at h2
      obtain ⟨_, ad', n', c', x1, x2, x3, x4⟩ := h2
      rw [hsl] at x1
      simp only [Value.slice.injEq] at x1
      obtain ⟨rfl, rfl, rfl⟩ := x1
      have had : (if cap = 0 then ad else ad.map (·.add (0 * s))) = ad := by
        split
        · rfl
        · cases ad with
          | none => rfl
          | some p => simp [Addr.add]
      rw [had, Nat.sub_zero, Nat.sub_zero] at x4
      rw [x4]; exact q3
    · rw [if_neg c] at h4 ⊢; exact h4
/-- append of a row's rest to its start, in its place -/
theorem xappR {α : Type} {f : α → PV} {L : List α} {ti : TI} {t e s l nl i j q : Nat} {x y : Operand} (h : tsl T t = some (e, s)) (h2 : T[e]? = some ti) (hne : nl ≠ l) (c : i ≤ j ∧ j ≤ q ∧ q ≤ L.length) :
    Ext P T (.call ⟨.builtin .append, #[x, y], #[t, t]⟩) [.ssl l 0 i s, .ssl l j q s] [(l, .row e s (L.map f)), (nl, .free)] (.srf nl) [(l, .none), (nl, .row e s ((L.take i ++ (L.take q).drop j).map f))] := by
  have h1 := ext_clip (P := P) (T := T) (nl := nl) (o0 := .row e s (L.map f)) (xapp (f := f) (L := L) (l := l) (x := x) (y := y) h h2 c) (by simp) hne (by
    rw [List.length_map]
    simp only [delR, List.length_append, List.length_take, List.length_drop]
    omega)
  have e1 : ((delR L i j q).map f).take (i + (q - j)) = (L.take i ++ (L.take q).drop j).map f := by
    rw [← List.map_take]
    congr 1
    unfold delR
    rw [List.take_append_of_le_length (by simp; omega), List.take_of_length_le (by simp; omega)]
  rw [e1] at h1
  exact h1
/-- a call that looks at private objects and hands back new ones -/
theorem ncallN {f : Operand} {args : Array Operand} {tys : Array Nat} {fv : FV} {vs : List FV} {m0 : List (Nat × PO)} (E : List (Nat × PV)) {g : FuncId} {ps : List PV} {τ : List Nat} {m2 : List PO} {r : FV} {nl : Nat} (hE : ∀ q ∈ E, Lend m0 q.1 q.2) (hf : lendF E fv = some (.clo g [])) (hv : lendL E vs = some ps)
    (h2 : nodup τ = true) (h4 : τ = (List.range m2.length).map (nl + ·)) (h5 : ∀ k, k < m2.length → (nl + k, .free) ∈ m0) (h6 : ∀ o ∈ m2, CleanO o) (hr0 : ∀ (A : Nat → Bool) (hd : Nat → Value) (ow ow' : Nat → Bool) (w : World) (v : Value), RF A hd ow w r v → RF A hd ow' w r v)
    (hret : RetH P g ((nslL ps).map .d) [] r m2) : Ext P T (.call ⟨.value f, args, tys⟩) (fv :: vs) m0 (mapF τ r) (zipO τ τ m2) := by
  intro n w0 st a w o hT hS ho hn hvs hm K Q hK
  obtain ⟨ow, hd, hold, S⟩ := hS
  obtain ⟨d, op, tyo, pos, af, gd⟩ := o
  simp only at ho hn hK
  subst ho
  have hρ' : ev st.f f :: args.toList.map (ev st.f) = fv :: vs := by
    rw [← hvs]; simp [Op.operands, Call.operands]
  obtain ⟨e1, e2⟩ := List.cons.inj hρ'
  have hE' : ∀ q ∈ E, R (fun _ => false) w q.2 (hd q.1) := fun q hq => (hE q hq).sound S hm
  have h1 := lend_sound S hE' fv (a.eval f) _ hf (by rw [← e1]; exact S.eval f)
  have h3 := lendT_sound S hE' vs (args.toList.map a.eval) ps hv (by rw [← e2]; exact RFT_of_eval S _)
  simp only [R] at h1
  obtain ⟨us, hc1, hc2⟩ := h1
  simp only [RL] at hc2
  subst hc2
  unfold Oper.wp
  rw [run_call hc1 hret.1]
  show Calls P g (args.map a.eval ++ #[]) w _
  have harr : args.map a.eval ++ #[] = (args.toList.map a.eval).toArray := by
    apply Array.toList_inj.1; simp
  rw [harr]
  refine (S.callN hold (RT.nsl _ _ h3) h2 h4 (fun k hk => hm _ (h5 k hk)) h6 hr0 hret).mono fun e w' ⟨v, ow', hd', he, hold', S', hr⟩ => ?_
  subst he
  exact hK _ _ ⟨ow', hd', hold', S'.put hn hr⟩
end
end Go.Proofs.Ytlabkelhaaahkaa.pv
