/- Rows of rows: a slice of one row of one's own, an element more, and what a call makes that moves elements. -/
import Derived.Test.YtlabkelhaaahkaaSw
namespace Go.Proofs.Ytlabkelhaaahkaa.pv
set_option linter.all false
open Go.RowKit

section
variable {P : Program} {T : List TI} {n : Nat} {w0 : Cx} {st : PS} {a : Act} {w : World} {ow : Nat → Bool} {hd : Nat → Value}
/-- a slice of one row of one's own -/
theorem nbs {t L nl ty e s : Nat} {ti : TI} {ys : List PV} {x : Operand} (h1 : tsl T t = some (ty, 1)) (h2 : T[ty]? = some ti) (h3 : ti.zero ≠ []) :
    Ext P T (.buildSlice t 1 #[(0, x)]) [.srf L] [(L, .row e s ys), (nl, .free)] (.srf nl) [(nl, .cu (oneC ty) [.srf L])] := by
  intro n w0 st a w o hT hS ho hn hv hm K Q hK
  obtain ⟨ow, hd, hold, S⟩ := hS
  obtain ⟨d, op, tyo, pos, af, gd⟩ := o
  simp only at ho hn hK
  subst ho
  simp [Op.operands] at hv
  have hmL := hm (L, .row e s ys) (by simp)
  have hm1 := hm (nl, .free) (by simp)
  simp only at hmL hm1
  have hx := S.eval x
  rw [hv] at hx
  simp only [RF] at hx
  obtain ⟨x1, x2, x3⟩ := hx
  rw [← x2] at x3
  obtain ⟨i, dd, e1, e2, e3, e4, e5, e6⟩ := hT.info h2
  obtain ⟨hu, hs⟩ := tsl_und hT h1
  have hsi := tsz_info hT hs
  rw [e1] at hsi
  simp at hsi
  obtain ⟨z, hz, e6⟩ := e6 h3
  have hcz : (a.eval x).cells = #[a.eval x] := by
    generalize a.eval x = v at x3
    cases v <;> simp_all [Value.cells, Value.oneCell']
  obtain ⟨out, o1, o2⟩ := fill_seq 1 [a.eval x] 0 ((Array.range (1 * 1)).map (z.cells[· % z.cells.size]!)) (by simp [hcz]) (by simp)
  have hrun := run_buildSlice (P := P) w t ty 1 #[(0, a.eval x)] out i z hu e1 hz (by rw [hsi]; omega) (by rw [hsi]; decide) (by rw [hsi]; exact o1)
  have hol : out.toList = [a.eval x] := by
    rw [o2]; simp [hcz]
  have hosz : out.size = 1 * 1 := by rw [← Array.length_toList, hol]; rfl
  have hrun2 : (execOp a.eval ⟨d, .buildSlice t 1 #[(0, x)], tyo, pos, af, gd⟩).run P w = .ok (.value (.slice (some ⟨w.heap.size, 0, none⟩) 1 1)) (w.alloc (.cells out ty)) := by
    have : (#[((0 : Nat), x)].map fun (i, x) => (i, a.eval x)) = #[(0, a.eval x)] := by simp
    simp only [execOp, this, Sem.run_bind, hrun, Result.andThen_ok]; rfl
  have hown : (w.alloc (.cells out ty)).ownsRow 0 ty 1 (.slice (some ⟨w.heap.size, 0, none⟩) 1 1) 1 [a.eval x] := by
    have := World.ownsRow_lit (base := 0) (e := ty) (size := 1) w out 1 (Nat.zero_le _) (by simp [maxLen]) hosz
    rw [hol] at this; exact this
  have hg := World.grownBy_alloc w (.cells out ty) none
  have hb : ∀ b, b ∈ blocksOf (.slice (some ⟨w.heap.size, 0, none⟩) 1 1) → b = w.heap.size ∧ b < (w.alloc (.cells out ty)).heap.size := fun b hb => by
    simp [blocksOf, blockOf] at hb; subst hb; simp
  have hbase := S.below.size
  have hkp : Kp ow w (fun b => if b ∈ blocksOf (.slice (some ⟨w.heap.size, 0, none⟩) 1 1) then true else ow b) (w.alloc (.cells out ty)) := by
    refine ⟨hg.size, fun b hlt h => ?_, fun b hlt h => hg.block b hlt (fun e => by cases e)⟩
    show (if b ∈ blocksOf _ then true else ow b) = false
    rw [if_neg]
    · exact h
    · intro e; have := hb b e; omega
  have hbel : Kt w0 w (w.alloc (.cells out ty)) := Kt.of_below ((Below.refl _ _).grown hg hbase (fun k hk => by cases hk)) (Nat.le_refl _)
  have hlen : nl < st.m.length := (List.getElem?_eq_some_iff.1 hm1).1
  have hne : L ≠ nl := fun e => by rw [e, hm1] at hmL; cases hmL
  have hal : ∀ j, al st.m j = true → al (st.m.set nl (.cu (oneC ty) [.srf L])) j = true := al_set_mono rfl
  have S2 := S.obj (l := nl) (hv := .slice (some ⟨w.heap.size, 0, none⟩) 1 1) (o := .cu (oneC ty) [.srf L]) hkp hbel
    (fun b hlt => by
      show (if b ∈ blocksOf _ then true else ow b) = false
      rw [if_neg]
      · exact S.fresh b (Nat.le_trans hg.size hlt)
      · intro e; have := hb b e; omega)
    (.inl (by simp [al, hm1, PO.made])) rfl
    ⟨fun b hlt => ⟨.inl (by rw [(hb b hlt).1]; exact hbase), by show (if b ∈ blocksOf _ then true else ow b) = true; rw [if_pos hlt]⟩,
      [a.eval x], by
        simp only [RFL]
        refine ⟨_, _, rfl, ?_, x3, rfl⟩
        simp only [RF]
        rw [upd_ne _ _ hne, ← x2]
        exact ⟨hal L x1, rfl, x3⟩, a.eval x, rfl, hown⟩
    (fun j oj b hne hj hlv hbk => by
      have hbj := ((S.objs j oj hj).lt hlv b hbk).1
      have hnv : b ∉ blocksOf (.slice (some ⟨w.heap.size, 0, none⟩) 1 1) := by
        intro e; have := hb b e; omega
      exact ⟨hg.block b hbj (fun e => by cases e), if_neg hnv, fun _ => hnv⟩)
  unfold Oper.wp
  rw [hrun2]
  refine hK _ _ ⟨_, _, hold.step fun b hlt _ => ?_, S2.put hn (x := .srf nl) ?_⟩
  · show (if b ∈ blocksOf _ then true else ow b) = ow b
    rw [if_neg]
    intro e
    have := hb b e
    omega
  · simp only [RF]
    rw [upd_same]
    refine ⟨?_, rfl, rfl⟩
    simp [al, hlen, PO.made]
theorem set_pt {m m' : List PO} (h : ∀ i : Nat, m[i]? = m'[i]?) : m = m' := List.ext_getElem? h
/-- an element more: a row of one's own -/
theorem napp {t l B l2 L nl ty e s : Nat} {ti : TI} {ct : Nat → Nat × Nat} {q q' : Nat → Bool} {hs : List (Option Nat)} {xs ys : List PV} {fs : List FV} {x y : Operand} (h1 : tsl T t = some (ty, 1)) (h2 : T[ty]? = some ti) (h3 : ti.zero.length = 1)
    (h0 : fs[0]? = some (.srf B)) (hfl : fl xs = xs) (hq : ∀ k, k < xs.length → q k = true) (hq1 : ∀ k, k < xs.length → q' k = true) (hq2 : q' xs.length = false) (hct : ∀ k k', ct k = ct k')
    (hm1 : xs.length + 1 ≤ maxLen) (hm2 : (xs.length + 1) * ti.bytes ≤ 140737488355328) (hlB : l ≠ B) (hl2 : l ≠ l2) (hlL : l ≠ L) (hB2 : B ≠ l2) (hBL : B ≠ L) (h2L : l2 ≠ L) :
    Ext P T (.call ⟨.builtin .append, #[x, y], #[t, t]⟩) [.srf l, .srf l2] [(l, .cu (outC ty 1 q hs xs) fs), (B, .cu (bagC ct q xs) []), (l2, .cu (oneC ty) [.srf L]), (L, .row e s ys), (nl, .free), (nl + 1, .free)] (.srf nl)
      [(l, .none), (B, .none), (l2, .none), (nl + 1, .cu (bagC ct q' (xs ++ [.sl ys])) []), (nl, .cu (outC ty 1 q' [some xs.length, none] (xs ++ [.sl ys])) [.srf (nl + 1), .srf L, .d (.v noB)])] := by
  intro n w0 st a w o hT hS ho hn hv hm K Q hK
  obtain ⟨ow, hd, hold, S⟩ := hS
  have hml := hm (l, .cu (outC ty 1 q hs xs) fs) (by simp)
  have hmb := hm (B, .cu (bagC ct q xs) []) (by simp)
  have hm2' := hm (l2, .cu (oneC ty) [.srf L]) (by simp)
  have hmL := hm (L, .row e s ys) (by simp)
  have hf1 := hm (nl, .free) (by simp)
  have hf2 := hm (nl + 1, .free) (by simp)
  simp only at hml hmb hm2' hmL hf1 hf2
  have n1 : nl ≠ l := fun e => by rw [e, hml] at hf1; cases hf1
  have n2 : nl ≠ B := fun e => by rw [e, hmb] at hf1; cases hf1
  have n3 : nl ≠ l2 := fun e => by rw [e, hm2'] at hf1; cases hf1
  have n4 : nl ≠ L := fun e => by rw [e, hmL] at hf1; cases hf1
  have p1 : nl + 1 ≠ l := fun e => by rw [e, hml] at hf2; cases hf2
  have p2 : nl + 1 ≠ B := fun e => by rw [e, hmb] at hf2; cases hf2
  have p3 : nl + 1 ≠ l2 := fun e => by rw [e, hm2'] at hf2; cases hf2
  have p4 : nl + 1 ≠ L := fun e => by rw [e, hmL] at hf2; cases hf2
  obtain ⟨us, hul, S1⟩ := S.unn hml hmb hlB h0 hfl hq
  -- the one element, by its value
  have hl2' : ((st.m.set B (.cu (bagV ct us xs) [])).set l (.row ty 1 (us.map .v)))[l2]? = some (.cu (oneC ty) [.srf L]) := get_set_ne (get_set_ne hm2' (Ne.symm hB2)) (Ne.symm hl2)
  have hL' : ((st.m.set B (.cu (bagV ct us xs) [])).set l (.row ty 1 (us.map .v)))[L]? = some (.row e s ys) := get_set_ne (get_set_ne hmL (Ne.symm hBL)) (Ne.symm hlL)
  obtain ⟨g1, gv, g2, u, rfl, g3⟩ := S1.objs l2 _ hl2'
  have hu : hd L = u ∧ u.oneCell' = true := by
    simp only [RFL] at g2
    obtain ⟨v, r, hvr, g4, g5, hr⟩ := g2
    subst hr
    simp at hvr; subst hvr
    simp only [RF] at g4
    exact ⟨g4.2.1.symm, g5⟩
  have S2 := S1.re (l := l2) (o := .cu (oneC ty) [.srf L]) (o' := .row ty 1 ([u].map .v)) hl2' rfl rfl
    ⟨[u], g3, g1, RE_raw (by simpa using hu.2)⟩
  have S3 := S2.re (l := L) (o := .row e s ys) (o' := .cu (rowV e s ys u) []) (get_set_ne hL' (Ne.symm h2L)) rfl rfl (by
    obtain ⟨cells, r1, r2, r3⟩ := S1.objs L _ hL'
    exact ⟨r2, [], by simp [RFL], hu.1, cells, r1, r3⟩)
  obtain ⟨d, op, tyo, pos, af, gd⟩ := o
  simp only at ho hn hK
  subst ho
  simp [Op.operands, Call.operands] at hv
  obtain ⟨hv1, hv2⟩ := hv
  -- the machine's step
  refine act0_wp (st := ⟨st.f, (((st.m.set B (.cu (bagV ct us xs) [])).set l (.row ty 1 (us.map .v))).set l2 (.row ty 1 ([u].map .v))).set L (.cu (rowV e s ys u) [])⟩) (r := .srf nl) (nl := nl) hT ⟨ow, hd, hold, S3⟩ hn
    (.append t x y ty 1 ti (us.map .v) ([u].map .v) [(l, .none)] [l] [l2] (get_set_ne (get_set_ne (get_set_ne (get_set_ne hf1 n2) n1) n3) n4) h1 h2 h3 (by decide)
      (by rw [hv1]; exact .row l _ (get_set_ne (get_set_ne (by rw [List.getElem?_set_self (by rw [List.length_set]; exact (List.getElem?_eq_some_iff.1 hml).1)]) hl2) hlL))
      (by rw [hv2]; exact .row l2 ty 1 _ (get_set_ne (by rw [List.getElem?_set_self (by rw [List.length_set, List.length_set]; exact (List.getElem?_eq_some_iff.1 hm2').1)]) h2L))
      (fits_raw [u]) (by simpa [hul] using hm1) (by simpa [hul] using hm2)) fun a' w' hS' => hK _ _ ?_
  obtain ⟨ow', hd', hold', S'⟩ := hS'
  have hlt1 : nl < st.m.length := (List.getElem?_eq_some_iff.1 hf1).1
  have hlt2 : nl + 1 < st.m.length := (List.getElem?_eq_some_iff.1 hf2).1
  have hltB : B < st.m.length := (List.getElem?_eq_some_iff.1 hmb).1
  have hltL : L < st.m.length := (List.getElem?_eq_some_iff.1 hmL).1
  let m2 : List PO := (((((st.m.set B (.cu (bagV ct us xs) [])).set l (.row ty 1 (us.map .v))).set l2 (.row ty 1 ([u].map .v))).set L (.cu (rowV e s ys u) [])).set l .none).set nl (.row ty 1 ((us ++ [u]).map .v))
  have S' : SimW n w0 ⟨putF st.f d (.srf nl), m2⟩ a' w' ow' hd' := by
    have h := S'
    simp only [PS.act, updM, List.cons_append, List.nil_append] at h
    have e : List.map PV.v us ++ List.map PV.v [u] = (us ++ [u]).map .v := by simp
    rw [e] at h
    exact h
  have S' := S'.kill l2
  have gB : (m2.set l2 .none)[B]? = some (.cu (bagV ct us xs) []) := by
    refine get_set_ne (get_set_ne (get_set_ne (get_set_ne (get_set_ne (get_set_ne ?_ (Ne.symm hlB)) hB2) hBL) (Ne.symm hlB)) (Ne.symm n2)) hB2
    rw [List.getElem?_set_self hltB]
  have gL : (m2.set l2 .none)[L]? = some (.cu (rowV e s ys u) []) := by
    refine get_set_ne (get_set_ne (get_set_ne ?_ (Ne.symm hlL)) (Ne.symm n4)) (Ne.symm h2L)
    rw [List.getElem?_set_self (by simp only [List.length_set]; exact hltL)]
  have gnl : (m2.set l2 .none)[nl]? = some (.row ty 1 ((us ++ [u]).map .v)) := by
    refine get_set_ne ?_ n3
    rw [List.getElem?_set_self (by simp only [List.length_set]; exact hlt1)]
  have gn1 : (m2.set l2 .none)[nl + 1]? = some .free := get_set_ne (get_set_ne (get_set_ne (get_set_ne (get_set_ne (get_set_ne (get_set_ne hf2 p2) p1) p3) p4) p1) (by omega)) p3
  have hdL : hd' L = u := by
    obtain ⟨_, _, _, h, _⟩ := S'.objs L _ gL
    exact h
  have haL : al (m2.set l2 .none) L = true := by simp [al, gL, PO.made]
  have hus : ∀ k : Nat, k < xs.length → ∃ v, us[k]? = some v ∧ (us ++ [u])[k]? = some v := by
    intro k hk
    refine ⟨us[k]'(by omega), List.getElem?_eq_getElem _, ?_⟩
    rw [List.getElem?_append_left (by omega)]; exact List.getElem?_eq_getElem _
  obtain ⟨hd2, S4, ha4⟩ := S'.nest (l := nl) (B := B) (nl := nl + 1) (ct := ct) (us := us) (us' := us ++ [u]) (xs := xs) (xs' := xs ++ [.sl ys]) (q' := q') (hs := [some xs.length, none]) (fs1 := [.srf L, .d (.v noB)]) (vs1 := [u, noB]) (fun k => k)
    gnl gB gn1 n2 (by omega) (Ne.symm p2) (by simp [hul]) hfl (by
      have : fl (xs ++ [.sl ys]) = fl xs ++ [.sl ys] := by simp [fl, pcells]
      rw [this, hfl])
    (fun k v hk hqk => by
      have hkl := (List.getElem?_eq_some_iff.1 hk).1
      have hlt : k < xs.length := by
        rcases Nat.lt_or_ge k xs.length with c | c
        · exact c
        · have : k = xs.length := by simp at hkl; omega
          rw [this, hq2] at hqk; cases hqk
      obtain ⟨v', k1, k2⟩ := hus k hlt
      rw [hk] at k2; cases k2
      exact ⟨k1, by rw [List.getElem?_append_left hlt], rfl⟩)
    (fun k k' _ _ _ _ h => h)
    (fun k hk hqk => by
      refine ⟨0, ?_⟩
      have : k = xs.length := by
        rcases Nat.lt_or_ge k xs.length with c | c
        · rw [hq1 k c] at hqk; cases hqk
        · simp at hk; omega
      rw [this]; rfl)
    (by
      simp only [RFL]
      refine ⟨_, _, rfl, ?_, hu.2, _, _, rfl, by simp only [RF, R]; exact ⟨trivial, rfl⟩, rfl, rfl⟩
      simp only [RF]
      exact ⟨haL, hdL.symm, by rw [hdL]; exact hu.2⟩)
    (fun j k v hk hj => by
      rcases j with _ | _ | j
      · simp at hj
        subst hj
        rw [List.getElem?_append_right (by omega), hul, Nat.sub_self] at hk
        simpa using hk
      · simp at hj
      · simp at hj)
  have gL2 : ((((m2.set l2 .none).set B .none).set (nl + 1) (.cu (bagC ct q' (xs ++ [.sl ys])) [])).set nl (.cu (outC ty 1 q' [some xs.length, none] (xs ++ [.sl ys])) (.srf (nl + 1) :: [.srf L, .d (.v noB)])))[L]? = some (.cu (rowV e s ys u) []) := get_set_ne (get_set_ne (get_set_ne gL (Ne.symm hBL)) (Ne.symm p4)) (Ne.symm n4)
  have S5 := S4.re (l := L) (o := .cu (rowV e s ys u) []) (o' := .row e s ys) gL2 rfl rfl (by
    obtain ⟨r1, _, _, r2, cells, r3, r4⟩ := S4.objs L _ gL2
    exact ⟨cells, r3, r1, r4⟩)
  refine ⟨ow', hd2, hold', ?_⟩
  have hfin : ((((m2.set l2 .none).set B .none).set (nl + 1) (.cu (bagC ct q' (xs ++ [.sl ys])) [])).set nl (.cu (outC ty 1 q' [some xs.length, none] (xs ++ [.sl ys])) (.srf (nl + 1) :: [.srf L, .d (.v noB)]))).set L (.row e s ys)
      = updM st.m [(l, .none), (B, .none), (l2, .none), (nl + 1, .cu (bagC ct q' (xs ++ [.sl ys])) []), (nl, .cu (outC ty 1 q' [some xs.length, none] (xs ++ [.sl ys])) [.srf (nl + 1), .srf L, .d (.v noB)])] := by
    apply set_pt
    intro i
    have hltl : l < st.m.length := (List.getElem?_eq_some_iff.1 hml).1
    have hlt22 : l2 < st.m.length := (List.getElem?_eq_some_iff.1 hm2').1
    simp only [updM, m2, List.getElem?_set, List.length_set, hlt1, hlt2, hltB, hltL, hltl, hlt22, if_true]
    by_cases c1 : L = i
    · subst c1
      rw [if_pos rfl, if_neg n4, if_neg p4, if_neg h2L, if_neg hBL, if_neg hlL]; exact hmL.symm
    by_cases c2 : nl = i
    · simp [c1, c2]
    by_cases c3 : nl + 1 = i
    · simp [c1, c2, c3]
    by_cases c4 : B = i
    · simp [c1, c2, c3, c4]
    by_cases c5 : l2 = i
    · simp [c1, c2, c3, c4, c5]
    by_cases c6 : l = i
    · simp [c1, c2, c3, c4, c5, c6]
    · simp [c1, c2, c3, c4, c5, c6]
  show SimW n w0 ⟨putF st.f d (.srf nl), updM st.m _⟩ a' w' ow' hd2
  rw [← hfin]
  exact S5
end
end Go.Proofs.Ytlabkelhaaahkaa.pv
