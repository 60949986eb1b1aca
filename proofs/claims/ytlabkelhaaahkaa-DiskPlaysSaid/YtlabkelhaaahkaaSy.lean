/- Rows of rows: a call that moves elements and looks at none of them. -/
import Derived.Test.YtlabkelhaaahkaaSx
namespace Go.Proofs.Ytlabkelhaaahkaa.pv
set_option linter.all false
open Go.RowKit

section
variable {P : Program} {T : List TI} {n : Nat} {w0 : Cx} {st : PS} {a : Act} {w : World} {ow : Nat → Bool} {hd : Nat → Value}
/-- a call that takes the elements from i to j out -/
theorem ndel {l B nl ty i j : Nat} {ct : Nat → Nat × Nat} {q q' : Nat → Bool} {hs : List (Option Nat)} {xs : List PV} {fs : List FV} {f x y z : Operand} {tys : Array Nat} {fv : FV} {g : FuncId}
    (h0 : fs[0]? = some (.srf B)) (hfl : fl xs = xs) (hfl' : fl (xs.take i ++ xs.drop j) = xs.take i ++ xs.drop j) (hq : ∀ k, k < xs.length → q k = true) (hq1 : ∀ k, k < xs.length → q' k = true) (hct : ∀ k k', ct k = ct k') (hij : i ≤ j) (hj : j ≤ xs.length) (hlB : l ≠ B)
    (hc : cloOf fv = some (g, []))
    (hret : ∀ us : List Value, us.length = xs.length → RetH P g [.srf 0, .d (.v (.int .i64 i)), .d (.v (.int .i64 j))] [.row ty 1 (us.map .v)] (.srf 1) [.none, .row ty 1 ((us.take i ++ us.drop j).map .v)]) :
    Ext P T (.call ⟨.value f, #[x, y, z], tys⟩) [fv, .srf l, .d (.v (.int .i64 i)), .d (.v (.int .i64 j))] [(l, .cu (outC ty 1 q hs xs) fs), (B, .cu (bagC ct q xs) []), (nl, .free), (nl + 1, .free)] (.srf nl)
      [(l, .none), (B, .none), (nl + 1, .cu (bagC ct q' (xs.take i ++ xs.drop j)) []), (nl, .cu (outC ty 1 q' [none, none] (xs.take i ++ xs.drop j)) [.srf (nl + 1), .d (.v noB), .d (.v noB)])] := by
  intro n w0 st a w o hT hS ho hn hv hm K Q hK
  obtain ⟨ow, hd, hold, S⟩ := hS
  have hml := hm (l, .cu (outC ty 1 q hs xs) fs) (by simp)
  have hmb := hm (B, .cu (bagC ct q xs) []) (by simp)
  have hf1 := hm (nl, .free) (by simp)
  have hf2 := hm (nl + 1, .free) (by simp)
  simp only at hml hmb hf1 hf2
  have n1 : nl ≠ l := fun e => by rw [e, hml] at hf1; cases hf1
  have n2 : nl ≠ B := fun e => by rw [e, hmb] at hf1; cases hf1
  have p1 : nl + 1 ≠ l := fun e => by rw [e, hml] at hf2; cases hf2
  have p2 : nl + 1 ≠ B := fun e => by rw [e, hmb] at hf2; cases hf2
  obtain ⟨us, hul, S1⟩ := S.unn hml hmb hlB h0 hfl hq
  obtain ⟨d, op, tyo, pos, af, gd⟩ := o
  simp only at ho hn hK
  subst ho
  have hv' : ev st.f f :: [ev st.f x, ev st.f y, ev st.f z] = [fv, .srf l, .d (.v (.int .i64 i)), .d (.v (.int .i64 j))] := by
    rw [← hv]; simp [Op.operands, Call.operands]
  simp only [List.cons.injEq, and_true] at hv'
  obtain ⟨e1, e2, e3, e4⟩ := hv'
  have hltl : l < st.m.length := (List.getElem?_eq_some_iff.1 hml).1
  have hltB : B < st.m.length := (List.getElem?_eq_some_iff.1 hmb).1
  have hlt1 : nl < st.m.length := (List.getElem?_eq_some_iff.1 hf1).1
  have hlt2 : nl + 1 < st.m.length := (List.getElem?_eq_some_iff.1 hf2).1
  have gl : ((st.m.set B (.cu (bagV ct us xs) [])).set l (.row ty 1 (us.map .v)))[l]? = some (.row ty 1 (us.map .v)) := by rw [List.getElem?_set_self (by rw [List.length_set]; exact hltl)]
  have gn : ((st.m.set B (.cu (bagV ct us xs) [])).set l (.row ty 1 (us.map .v)))[nl]? = some .free := get_set_ne (get_set_ne hf1 n2) n1
  have hb1 : Nat.beq l l = true := Nat.beq_refl l
  have hb2 : Nat.beq l nl = false := by
    cases h : Nat.beq l nl with
    | false => rfl
    | true => exact absurd (Nat.eq_of_beq_eq_true h).symm n1
  refine act0_wp (st := ⟨st.f, (st.m.set B (.cu (bagV ct us xs) [])).set l (.row ty 1 (us.map .v))⟩) (r := .srf nl) (nl := nl) (U := [(l, .none), (nl, .row ty 1 ((us.take i ++ us.drop j).map .v))]) (F := [l, nl]) hT ⟨ow, hd, hold, S1⟩ hn ?_ fun a' w' hS' => hK _ _ ?_
  · have hcall := PAct0.callH (P := P) (T := T) (ρ := ev st.f) (m := (st.m.set B (.cu (bagV ct us xs) [])).set l (.row ty 1 (us.map .v))) (nl := nl) f #[x, y, z] tys g [] [l] [l, nl] [] [.none, .row ty 1 ((us.take i ++ us.drop j).map .v)] (.srf 1)
      (by rw [e1]; exact hc) (by simp [nodup, hb2]) (by simp only [List.all_cons, List.all_nil, Bool.and_true, liveAt]; rw [gl]; rfl) (by simp [List.range_succ]) (by simp only [List.length_cons, List.length_nil, List.range_succ, List.range_zero, List.nil_append, List.all_cons, List.all_nil, Bool.and_true, isFreeAt, Nat.add_zero]; rw [gn]) rfl (by simp)
      (by
        have h := hret us hul
        have ea : nslM [] (renL [l] ((#[x, y, z] : Array Operand).toList.map (ev st.f))) ++ renL [l] [] = [.srf 0, .d (.v (.int .i64 i)), .d (.v (.int .i64 j))] := by
          simp only [List.map_cons, List.map_nil, e2, e3, e4, renL, ren, idx, hb1, cond_true, nslM, nslFL, nslF, nsl, List.append_nil]
        have em : (renM ((st.m.set B (.cu (bagV ct us xs) [])).set l (.row ty 1 (us.map .v))) [l] [l]).map nslO = [.row ty 1 (us.map .v)] := by
          simp only [renM, List.getD_eq_getElem?_getD, gl, Option.getD_some, renO, List.map_cons, List.map_nil, nslO]
        rw [ea, em]; exact h)
    exact hcall
  obtain ⟨ow', hd', hold', S'⟩ := hS'
  let m2 : List PO := (((st.m.set B (.cu (bagV ct us xs) [])).set l (.row ty 1 (us.map .v))).set l .none).set nl (.row ty 1 ((us.take i ++ us.drop j).map .v))
  have S' : SimW n w0 ⟨putF st.f d (.srf nl), m2⟩ a' w' ow' hd' := S'
  have gB : m2[B]? = some (.cu (bagV ct us xs) []) := by
    refine get_set_ne (get_set_ne (get_set_ne ?_ (Ne.symm hlB)) (Ne.symm hlB)) (Ne.symm n2)
    rw [List.getElem?_set_self hltB]
  have gnl : m2[nl]? = some (.row ty 1 ((us.take i ++ us.drop j).map .v)) := by
    rw [List.getElem?_set_self (by simp only [List.length_set]; exact hlt1)]
  have gn1 : m2[nl + 1]? = some .free := get_set_ne (get_set_ne (get_set_ne (get_set_ne hf2 p2) p1) p1) (by omega)
  have hget : ∀ {α : Type} (l : List α) (k : Nat), i ≤ l.length → (l.take i ++ l.drop j)[k]? = l[if k < i then k else k + (j - i)]? := by
    intro α l k hi
    have hti : (l.take i).length = i := by rw [List.length_take]; omega
    by_cases c : k < i
    · rw [if_pos c, List.getElem?_append_left (by omega), List.getElem?_take, if_pos c]
    · rw [if_neg c, List.getElem?_append_right (by omega), hti, List.getElem?_drop]
      congr 1; omega
  obtain ⟨hd2, S4, ha4⟩ := S'.nest (l := nl) (B := B) (nl := nl + 1) (ct := ct) (us := us) (us' := us.take i ++ us.drop j) (xs := xs) (xs' := xs.take i ++ xs.drop j) (q' := q') (hs := [none, none]) (fs1 := [.d (.v noB), .d (.v noB)]) (vs1 := [noB, noB]) (fun k => if k < i then k else k + (j - i))
    gnl gB gn1 n2 (by omega) (Ne.symm p2) (by simp [hul]) hfl hfl'
    (fun k v hk hqk => by
      rw [hget us k (by omega)] at hk
      exact ⟨hk, hget xs k (by omega), hct _ _⟩)
    (fun k k' _ _ _ _ h => by
      intro e
      split at e <;> split at e <;> omega)
    (fun k hk hqk => by
      have : (us.take i ++ us.drop j).length ≤ xs.length := by simp [hul]; omega
      rw [hq1 k (by omega)] at hqk; cases hqk)
    (by
      simp only [RFL]
      exact ⟨_, _, rfl, by simp only [RF, R]; exact ⟨trivial, rfl⟩, rfl, _, _, rfl, by simp only [RF, R]; exact ⟨trivial, rfl⟩, rfl, rfl⟩)
    (fun j k v hk hj => by
      rcases j with _ | _ | j <;> simp at hj)
  refine ⟨ow', hd2, hold', ?_⟩
  have hfin : ((m2.set B .none).set (nl + 1) (.cu (bagC ct q' (xs.take i ++ xs.drop j)) [])).set nl (.cu (outC ty 1 q' [none, none] (xs.take i ++ xs.drop j)) (.srf (nl + 1) :: [.d (.v noB), .d (.v noB)]))
      = updM st.m [(l, .none), (B, .none), (nl + 1, .cu (bagC ct q' (xs.take i ++ xs.drop j)) []), (nl, .cu (outC ty 1 q' [none, none] (xs.take i ++ xs.drop j)) [.srf (nl + 1), .d (.v noB), .d (.v noB)])] := by
    apply set_pt
    intro i
    simp only [updM, m2, List.getElem?_set, List.length_set, hlt1, hlt2, hltB, hltl, if_true]
    by_cases c2 : nl = i
    · simp [c2]
    by_cases c3 : nl + 1 = i
    · simp [c2, c3]
    by_cases c4 : B = i
    · simp [c2, c3, c4]
    by_cases c6 : l = i
    · simp [c2, c3, c4, c6]
    · simp [c2, c3, c4, c6]
  show SimW n w0 ⟨putF st.f d (.srf nl), updM st.m _⟩ a' w' ow' hd2
  rw [← hfin]
  exact S4
/-- as the walks write it -/
theorem ndel' {β : Type} {f' : β → PV} {W : List (List β)} {l B nl ty : Nat} {i j : Int} {ct : Nat → Nat × Nat} {q : Nat → Bool} {hs : List (Option Nat)} {fs : List FV} {f x y z : Operand} {tys : Array Nat} {fv : FV} {g : FuncId}
    (hg : 0 ≤ i ∧ i ≤ j ∧ j ≤ (W.length : Int)) (h0 : fs[0]? = some (.srf B)) (hq : ∀ k, q k = true) (hct : ∀ k k', ct k = ct k') (hlB : l ≠ B)
    (hc : cloOf fv = some (g, []))
    (hret : ∀ (us : List Value) (i' j' : Nat), i' ≤ j' → j' ≤ us.length → RetH P g [.srf 0, .d (.v (.int .i64 i')), .d (.v (.int .i64 j'))] [.row ty 1 (us.map .v)] (.srf 1) [.none, .row ty 1 ((us.take i' ++ us.drop j').map .v)]) :
    Ext P T (.call ⟨.value f, #[x, y, z], tys⟩) [fv, .srf l, .d (.v (.int .i64 i)), .d (.v (.int .i64 j))] [(l, .cu (outC ty 1 q hs (W.map (eL f'))) fs), (B, .cu (bagC ct q (W.map (eL f'))) []), (nl, .free), (nl + 1, .free)] (.srf nl)
      [(l, .none), (B, .none), (nl + 1, .cu (bagC ct q ((W.take i.toNat ++ W.drop j.toNat).map (eL f'))) []), (nl, .cu (outC ty 1 q [none, none] ((W.take i.toNat ++ W.drop j.toNat).map (eL f'))) [.srf (nl + 1), .d (.v noB), .d (.v noB)])] := by
  obtain ⟨g1, g2, g3⟩ := hg
  have e : (W.take i.toNat ++ W.drop j.toNat).map (eL f') = (W.map (eL f')).take i.toNat ++ (W.map (eL f')).drop j.toNat := by simp
  have hij : i.toNat ≤ j.toNat := by omega
  have hjl : j.toNat ≤ W.length := by omega
  have h := ndel (P := P) (T := T) (l := l) (B := B) (nl := nl) (ty := ty) (i := i.toNat) (j := j.toNat) (ct := ct) (q := q) (q' := q) (hs := hs) (xs := W.map (eL f')) (fs := fs) (f := f) (x := x) (y := y) (z := z) (tys := tys) (fv := fv) (g := g) h0 (fl_sl f' W) (by rw [← e]; exact fl_sl f' _) (fun k _ => hq k) (fun k _ => hq k) hct hij (by rw [List.length_map]; exact hjl) hlB hc
    (fun us hul => hret us _ _ hij (by rw [hul, List.length_map]; exact hjl))
  rw [← e] at h
  have e1 : ((i.toNat : Nat) : Int) = i := by omega
  have e2 : ((j.toNat : Nat) : Int) = j := by omega
  rw [e1, e2] at h
  exact h
theorem app_snoc {α : Type} {b : Nat} {W : List α} {Y : α} {Z : List α} (h : app b W [Y] = some Z) : Z = W ++ [Y] ∧ Z[W.length]? = some Y ∧ W.length + 1 ≤ maxLen ∧ (W.length + 1) * b ≤ 140737488355328 := by
  unfold app at h
  split at h
  · rename_i c
    cases h
    exact ⟨rfl, by rw [List.getElem?_append_right (Nat.le_refl _), Nat.sub_self]; rfl, c⟩
  · cases h
theorem napp' {β : Type} {f' : β → PV} {W Z : List (List β)} {Y : List β} {t l B l2 L nl ty e s : Nat} {ti : TI} {ct : Nat → Nat × Nat} {q : Nat → Bool} {hs : List (Option Nat)} {fs : List FV} {x y : Operand} (ha : app ti.bytes W [Y] = some Z) (h1 : tsl T t = some (ty, 1)) (h2 : T[ty]? = some ti) (h3 : ti.zero.length = 1)
    (h0 : fs[0]? = some (.srf B)) (hq : ∀ k, q k = true) (hct : ∀ k k', ct k = ct k')
    (hlB : l ≠ B) (hl2 : l ≠ l2) (hlL : l ≠ L) (hB2 : B ≠ l2) (hBL : B ≠ L) (h2L : l2 ≠ L) :
    Ext P T (.call ⟨.builtin .append, #[x, y], #[t, t]⟩) [.srf l, .srf l2] [(l, .cu (outC ty 1 q hs (W.map (eL f'))) fs), (B, .cu (bagC ct q (W.map (eL f'))) []), (l2, .cu (oneC ty) [.srf L]), (L, .row e s (Y.map f')), (nl, .free), (nl + 1, .free)] (.srf nl)
      [(l, .none), (B, .none), (l2, .none), (nl + 1, .cu (bagC ct (minus q (W.length * 1 + 0)) (Z.map (eL f'))) []), (nl, .cu (outC ty 1 (minus q (W.length * 1 + 0)) [some (W.length * 1 + 0), none] (Z.map (eL f'))) [.srf (nl + 1), .srf L, .d (.v noB)])] := by
  obtain ⟨rfl, _, g1, g2⟩ := app_snoc ha
  have e1 : W.length * 1 + 0 = W.length := by omega
  have h := napp (P := P) (T := T) (t := t) (l := l) (B := B) (l2 := l2) (L := L) (nl := nl) (ty := ty) (e := e) (s := s) (ti := ti) (ct := ct) (q := q) (q' := minus q W.length) (hs := hs) (xs := W.map (eL f')) (ys := Y.map f') (fs := fs) (x := x) (y := y) h1 h2 h3 h0 (fl_sl f' W) (fun k _ => hq k)
    (fun k hk => by rw [List.length_map] at hk; simp [minus, hq k]; omega) (by simp [minus]) hct (by simpa using g1) (by simpa using g2) hlB hl2 hlL hB2 hBL h2L
  rw [e1]
  have e2 : W.map (eL f') ++ [.sl (Y.map f')] = (W ++ [Y]).map (eL f') := by simp [eL]
  rw [e2, List.length_map] at h
  exact h
end
end Go.Proofs.Ytlabkelhaaahkaa.pv
