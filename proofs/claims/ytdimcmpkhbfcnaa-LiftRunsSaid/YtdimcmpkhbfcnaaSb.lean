/- Acts over private rows, in the words of plain lists: parts (s[i:j]), their length, append, clear, copy, a part moved. -/
import Derived.Test.YtdimcmpkhbfcnaaSa
import Derived.Test.YtdimcmpkhbfcnaaQo
namespace Go.Proofs.Ytdimcmpkhbfcnaa.pv
set_option linter.all false
open Go.RowKit
/-- s[i:j], cut out of the first q; s[i:j] made zero; Y copied over s[i:j] -/
def delR {α : Type} (L : List α) (i j q : Nat) : List α := L.take i ++ (L.take q).drop j ++ L.drop (i + (q - j))
def clrR {α : Type} (L : List α) (i j : Nat) (z : α) : List α := L.take i ++ List.replicate (j - i) z ++ L.drop j
def cpyR {α : Type} (L : List α) (i j : Nat) (Y : List α) : List α := L.take i ++ Y.take (j - i) ++ L.drop (i + Nat.min Y.length (j - i))
section
variable {P : Program} {T : List TI}
theorem ext_of0 {op : Op} {vs : List FV} {m0 U : List (Nat × PO)} {r : FV} (h : ∀ (ρ : Operand → FV) (m : List PO), op.operands.toList.map ρ = vs → (∀ q ∈ m0, m[q.1]? = some q.2) → ∃ nl F, PAct0 P T ρ m nl op r U F) : Ext P T op vs m0 r U := by
  intro n w0 st a w o hT S ho hn hv hm K Q hK
  obtain ⟨nl, F, h0⟩ := h _ _ hv hm
  subst ho
  exact act0_wp hT S hn h0 hK
variable {α : Type} {f : α → PV} {L Y : List α} {t e s l i j q : Nat} {a b c : Int} {ka kb kc : IntKind} {x y lo hi mx : Operand}
theorem xs10 (h : tsl T t = some (e, s)) (c : 0 ≤ a ∧ a ≤ L.length) : Ext P T (.slice t x (some lo) none none) [.srf l, .d (.v (.int ka a))] [(l, .row e s (L.map f))] (.ssl l a.toNat L.length s) [] :=
  ext_of0 fun ρ m hv hm => by
    simp [Op.operands] at hv
    have := PAct0.sliceS (P := P) (T := T) (ρ := ρ) (m := m) (nl := 0) t x (some lo) none e s l (L.map f) a L.length h hv.1 (hm (l, .row e s (L.map f)) (by simp)) (by simp [optInt, hv.2]) (by simp [optInt]) c.1 c.2 (by simp)
    exact ⟨_, _, by simpa using this⟩
theorem xlen (h : tsl T t = some (e, s)) : Ext P T (.call ⟨.builtin .len, #[x], #[t]⟩) [.ssl l i j s] [] (.d (.v (.int .i64 ((j - i : Nat) : Int)))) [] :=
  ext_of0 fun ρ m hv hm => by
    simp [Op.operands, Call.operands] at hv
    exact ⟨0, _, .lenSS t x e s l i j h hv⟩
end
section
variable {P : Program} {T : List TI} {n : Nat} {w0 : Cx} {st : PS} {a : Act} {w : World} {ow : Nat → Bool} {hd : Nat → Value}
/-- what may be copied from: where its elements lie -/
def Src (ow : Nat → Bool) (w : World) (s : Nat) (v : Value) (ys : List PV) : Prop :=
  ∃ (ad : Option Addr) (cap : Nat), v = .slice ad ys.length cap ∧ (ys = [] ∨ ∃ (b off : Nat) (cells : List Value), ad = some ⟨b, off, none⟩ ∧ w.rangeAt b off cells ∧ RE ow w s ys cells)
theorem addr_add (b o k : Nat) : (⟨b, o, none⟩ : Addr).add k = ⟨b, o + k, none⟩ := by unfold Addr.add; split <;> simp_all
theorem rangeAt_take {b off k : Nat} {cells : List Value} (h : w.rangeAt b off cells) : w.rangeAt b off (cells.take k) := fun j v hv => by
  rw [List.getElem?_take] at hv
  split at hv
  · exact h j v hv
  · cases hv
/-- copy into a part of a private row -/
theorem copy_core (hT : TOk P T) (S : SimW n w0 st a w ow hd) {t t' e s l i j : Nat} {ti : TI} {xs ys : List PV} {x y : Operand} (h1 : tsl T t = some (e, s)) (h2 : T[e]? = some ti) (hx : RF (al st.m) hd ow w (.ssl l i j s) (a.eval x)) (hml : st.m[l]? = some (.row e s xs)) (hj : j ≤ xs.length) (hsrc : Src ow w s (a.eval y) ys) (ty : TypeId) :
    ∃ w', (Builtin.copy_ #[t, t'] ty #[a.eval x, a.eval y]).run P w = .ok (.int .i64 (Nat.min ys.length (j - i) : Nat)) w' ∧
      SimW n w0 ⟨st.f, st.m.set l (.row e s (xs.take i ++ ys.take (j - i) ++ xs.drop (i + Nat.min ys.length (j - i))))⟩ a w' ow hd := by
  obtain ⟨i', dd, e1, e2, e3, e4, e5, e6⟩ := hT.info h2
  obtain ⟨hu, hs⟩ := tsl_und hT h1
  have hsi := tsz_info hT hs
  rw [e1] at hsi
  simp at hsi
  simp only [RF] at hx
  obtain ⟨hA, ad, N, cap, x1, x2, x3, x4⟩ := hx
  obtain ⟨adS, capS, y1, y2⟩ := hsrc
  have hmin : Nat.min ys.length (j - i) ≤ ys.length := Nat.min_le_left _ _
  have hmin2 : Nat.min ys.length (j - i) ≤ j - i := Nat.min_le_right _ _
  have htk : ys.take (j - i) = ys.take (Nat.min ys.length (j - i)) := by
    rcases Nat.le_total ys.length (j - i) with h | h
    · rw [show Nat.min ys.length (j - i) = ys.length from Nat.min_eq_left h, List.take_length, List.take_of_length_le h]
    · rw [show Nat.min ys.length (j - i) = j - i from Nat.min_eq_right h]
  have hlen : (ys.take (Nat.min ys.length (j - i))).length = Nat.min ys.length (j - i) := by rw [List.length_take]; exact Nat.min_eq_left hmin
  rw [htk]
  generalize hm : Nat.min ys.length (j - i) = m at *
  have hfc : ∃ news : List Value, (∀ n' c', (Builtin.firstCells i'.size m (.slice adS n' c')).run P w = .ok news.toArray w) ∧ RE ow w s (ys.take m) news := by
    rcases y2 with rfl | ⟨b, off, cells, rfl, g1, g2⟩
    · have : m = 0 := by simpa using hmin
      subst this
      refine ⟨[], fun n' c' => ?_, by simp [RE]⟩
      cases adS with
      | none => simp [Builtin.firstCells]
      | some ad => simpa using run_firstCells_some (P := P) w i'.size 0 ad n' c' [] (by simp) (by simp)
    · have g3 := RE.take m g2
      refine ⟨cells.take (m * s), fun n' c' => run_firstCells_some (P := P) w i'.size m _ n' c' _ (by rw [g3.length, hsi, List.length_take, Nat.min_eq_left hmin]) (fun k u hk => ?_), g3⟩
      rw [addr_add]
      exact rangeAt_take g1 k u hk
  obtain ⟨news, f1, f2⟩ := hfc
  have hnl := f2.length
  rw [hlen] at hnl
  obtain ⟨cells, ⟨g1, g2⟩, h4, h5⟩ := S.objs l _ hml
  rcases g2 with ⟨g2, g3⟩ | ⟨b, cap', cur, g2, g3, g4, g5, g6, g7, g8⟩
  · rw [x1] at g2
    simp at g2
    obtain ⟨rfl, rfl, rfl⟩ := g2
    have hi0 : i = 0 := by omega
    have hj0 : j = 0 := by omega
    subst hi0 hj0
    have hm0 : m = 0 := by omega
    subst hm0
    have hn0 : news = [] := List.eq_nil_of_length_eq_zero (by simpa using hnl)
    subst hn0
    refine ⟨w, ?_, ?_⟩
    · simp only [x4, y1]
      simp [Builtin.copy_, run_underlying hu, Builtin.lenOf, sizeOf, typeInfo, e1, hm, f1, goInt]
    · have e0 : st.m.set l (.row e s (xs.take 0 ++ ys.take 0 ++ xs.drop (0 + 0))) = st.m := by
        apply List.ext_getElem?
        intro k
        rw [List.getElem?_set]
        split
        · rename_i hk; subst hk
          rw [hml, if_pos (List.getElem?_eq_some_iff.1 hml).1]
          simp
        · rfl
      rw [e0]
      exact S
  · rw [x1] at g2
    simp at g2
    obtain ⟨rfl, rfl, rfl⟩ := g2
    obtain ⟨p1, p2, p3, _, S'⟩ := S.putEls (i := i) hml x1 (by rw [hlen]; omega) f2
    rw [hlen] at S'
    have hst := run_storeCells_cells (P := P) b (i * s) news 0 w (fun k hk => by rw [Nat.add_zero]; exact (p1 k hk).1) (fun k hk => by rw [Nat.add_zero]; exact (p1 k hk).2) (RE.one f2)
    rw [Nat.add_zero] at hst
    refine ⟨_, ?_, S'⟩
    by_cases hc : cap = i
    · have hm0 : m = 0 := by omega
      subst hm0
      have hn0 : news = [] := List.eq_nil_of_length_eq_zero (by simpa using hnl)
      subst hn0
      have hji : j - i = 0 := by omega
      simp only [x4, y1, if_pos hc]
      rw [hji] at hm ⊢
      simp [Builtin.copy_, run_underlying hu, Builtin.lenOf, sizeOf, typeInfo, e1, hm, f1, goInt, storeCells, World.setCells]
    · simp only [x4, y1, if_neg hc, Option.map_some, addr_add0]
      simp [Builtin.copy_, run_underlying hu, Builtin.lenOf, sizeOf, typeInfo, e1, hm, f1, goInt, hst]
theorem Src.of_els {s : Nat} (S : SimW n w0 st a w ow hd) {y : Operand} {ys : List PV} {ls : List Nat} (h : Els st.m (ev st.f y) ys ls) (hf : ys.all (fits s) = true) : Src ow w s (a.eval y) ys := by
  obtain ⟨ad, cap, y1, y2⟩ := h.spec S
  refine ⟨ad, cap, y1, ?_⟩
  rcases y2 with rfl | ⟨b, off, sz, cells, k1, k2, k3⟩
  · exact .inl rfl
  · exact .inr ⟨b, off, cells, k1, k2, RE.resize k3 hf⟩
end
section
variable {P : Program} {T : List TI} {α : Type} {f : α → PV} {L Y : List α} {t t' e e' s l l' i j p q : Nat} {x y : Operand} {ti : TI}
/-- a private row as the part of all of it -/
theorem srf_ssl {n : Nat} {w0 : Cx} {st : PS} {a : Act} {w : World} {ow : Nat → Bool} {hd : Nat → Value} (S : SimW n w0 st a w ow hd) {xs : List PV} {u : Value} (hx : RF (al st.m) hd ow w (.srf l) u) (hml : st.m[l]? = some (.row e s xs)) : RF (al st.m) hd ow w (.ssl l 0 xs.length s) u := by
  simp only [RF] at hx ⊢
  obtain ⟨h1, h2, _⟩ := hx
  obtain ⟨cells, ⟨g1, g2⟩, _⟩ := S.objs l _ hml
  rcases g2 with ⟨g2, g3⟩ | ⟨b, cap, cur, g2, g3, g4, g5, g6, g7, g8⟩
  · exact ⟨h1, none, 0, 0, g2, Nat.zero_le _, by omega, by rw [h2, g2, g3]; rfl⟩
  · exact ⟨h1, some ⟨b, 0, none⟩, xs.length, cap, g2, Nat.zero_le _, g5, by rw [h2, g2]; simp [Addr.add]⟩
theorem ext_copy {vs : List FV} {m0 : List (Nat × PO)} {xs ys : List PV} (h1 : tsl T t = some (e, s)) (h2 : T[e]? = some ti) (hj : j ≤ xs.length) (hm0 : (l, .row e s xs) ∈ m0) (fy : FV) (hvs : vs = [.ssl l i j s, fy] ∨ vs = [.srf l, fy] ∧ i = 0 ∧ j = xs.length)
    (hs : ∀ (n : Nat) (w0 : Cx) (st : PS) (a : Act) (w : World) (ow : Nat → Bool) (hd : Nat → Value), SimW n w0 st a w ow hd → ev st.f y = fy → (∀ q ∈ m0, st.m[q.1]? = some q.2) → Src ow w s (a.eval y) ys) :
    Ext P T (.call ⟨.builtin .copy, #[x, y], #[t, t']⟩) vs m0 (.d (.v (.int .i64 (Nat.min ys.length (j - i) : Nat)))) [(l, .row e s (xs.take i ++ ys.take (j - i) ++ xs.drop (i + Nat.min ys.length (j - i))))] := by
  intro n w0 st a w o hT hS ho hn hv hm K Q hK
  obtain ⟨ow, hd, hold, S⟩ := hS
  obtain ⟨d, op, ty, pos, af, gd⟩ := o
  simp only at ho hn hK
  subst ho
  have hml := hm _ hm0
  obtain ⟨hv1, hv2⟩ : RF (al st.m) hd ow w (.ssl l i j s) (a.eval x) ∧ ev st.f y = fy := by
    rcases hvs with hvs | ⟨hvs, rfl, rfl⟩
    · subst hvs
      simp [Op.operands, Call.operands] at hv
      exact ⟨by rw [← hv.1]; exact S.eval x, hv.2⟩
    · subst hvs
      simp [Op.operands, Call.operands] at hv
      refine ⟨srf_ssl S ?_ hml, hv.2⟩
      rw [← hv.1]; exact S.eval x
  obtain ⟨w', r1, S'⟩ := copy_core hT S (x := x) (y := y) (t' := t') h1 h2 hv1 hml hj (hs _ _ _ _ _ _ _ S hv2 hm) ty
  have hrun : (execOp a.eval ⟨d, .call ⟨.builtin .copy, #[x, y], #[t, t']⟩, ty, pos, af, gd⟩).run P w = .ok (.value (.int .i64 (Nat.min ys.length (j - i) : Nat))) w' := by
    simp [execOp, resolve, invoke, builtin, r1]
  unfold Oper.wp
  rw [hrun]
  exact hK _ _ ⟨ow, hd, hold, S'.put hn (x := .d (.v _)) (by simp only [RF, R]; exact ⟨trivial, rfl⟩)⟩
/-- copy(s[i:j], data) -/
theorem xcpD (h1 : tsl T t = some (e, s)) (h2 : T[e]? = some ti) (hj : j ≤ L.length) (hf : ∀ x, fits s (f x) = true) :
    Ext P T (.call ⟨.builtin .copy, #[x, y], #[t, t']⟩) [.ssl l i j s, .d (.sl (Y.map f))] [(l, .row e s (L.map f))] (.d (.v (.int .i64 (Nat.min Y.length (j - i) : Nat)))) [(l, .row e s ((cpyR L i j Y).map f))] := by
  have := ext_copy (P := P) (T := T) (t' := t') (x := x) (y := y) (l := l) (i := i) (j := j) (xs := L.map f) (ys := Y.map f) (m0 := [(l, .row e s (L.map f))]) h1 h2 (by simpa using hj) (by simp) _ (.inl rfl)
    (fun n w0 st a w ow hd S hy _ => Src.of_els S (by rw [hy]; exact .sl _) (all_fits hf))
  simpa [cpyR, List.map_take, List.map_drop] using this
theorem xcpR0 (h1 : tsl T t = some (e, s)) (h2 : T[e]? = some ti) (hf : ∀ x, fits s (f x) = true) :
    Ext P T (.call ⟨.builtin .copy, #[x, y], #[t, t']⟩) [.srf l, .srf l'] [(l, .row e s (L.map f)), (l', .row e s (Y.map f))] (.d (.v (.int .i64 (Nat.min Y.length (L.length - 0) : Nat)))) [(l, .row e s ((cpyR L 0 L.length Y).map f))] := by
  have := ext_copy (P := P) (T := T) (t' := t') (x := x) (y := y) (l := l) (i := 0) (j := (L.map f).length) (xs := L.map f) (ys := Y.map f) (m0 := [(l, .row e s (L.map f)), (l', .row e s (Y.map f))]) h1 h2 (Nat.le_refl _) (by simp) _ (.inr ⟨rfl, rfl, rfl⟩)
    (fun n w0 st a w ow hd S hy hm => Src.of_els S (by rw [hy]; exact .row _ _ _ _ (hm (l', .row e s (Y.map f)) (by simp))) (all_fits hf))
  simpa [cpyR, List.map_take, List.map_drop] using this
end
end Go.Proofs.Ytdimcmpkhbfcnaa.pv
