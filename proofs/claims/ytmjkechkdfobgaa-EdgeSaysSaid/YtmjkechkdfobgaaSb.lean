/- Acts over private rows: a copy into a part of a row; min and max of three. -/
import Derived.Test.YtmjkechkdfobgaaSa
namespace Go.Proofs.Ytmjkechkdfobgaa.pv
set_option linter.all false
open Go.RowKit

def minI (a b : Int) : Int := if b < a then b else a
def maxI (a b : Int) : Int := if b > a then b else a
section
variable {P : Program} {T : List TI} {n : Nat} {w0 : Cx} {st : PS} {a : Act} {w : World} {ow : Ow} {hd : Nat → Value}
/-- what may be copied from: where its elements lie -/
def Src (ow : Ow) (w : World) (s : Nat) (v : Value) (ys : List PV) : Prop :=
  ∃ (ad : Option Addr) (cap : Nat), v = .slice ad ys.length cap ∧ (ys = [] ∨ ∃ (b off : Nat) (cells : List Value), ad = some ⟨b, off, none⟩ ∧ w.rangeAt b off cells ∧ RE ow w s ys cells)
/-- what may be copied from, told by what the machine asks of it -/
def SrcB (P : Program) (ow : Ow) (w : World) (s : Nat) (v : Value) (ys : List PV) : Prop :=
  (Builtin.lenOf v).run P w = .ok ys.length w ∧ ∀ m, m ≤ ys.length → ∃ news : List Value, (Builtin.firstCells s m v).run P w = .ok news.toArray w ∧ RE ow w s (ys.take m) news
theorem addr_add (b o k : Nat) : (⟨b, o, none⟩ : Addr).add k = ⟨b, o + k, none⟩ := by unfold Addr.add; split <;> simp_all
theorem rangeAt_take {b off k : Nat} {cells : List Value} (h : w.rangeAt b off cells) : w.rangeAt b off (cells.take k) := fun j v hv => by
  rw [List.getElem?_take] at hv
  split at hv
  · exact h j v hv
  · cases hv
theorem Src.toB {s : Nat} {v : Value} {ys : List PV} (h : Src ow w s v ys) : SrcB P ow w s v ys := by
  obtain ⟨adS, capS, rfl, y2⟩ := h
  refine ⟨by simp [Builtin.lenOf], fun m hmin => ?_⟩
  rcases y2 with rfl | ⟨b, off, cells, rfl, g1, g2⟩
  · have : m = 0 := by simpa using hmin
    subst this
    refine ⟨[], ?_, by simp [RE]⟩
    cases adS with
    | none => simp [Builtin.firstCells]
    | some ad => simpa using run_firstCells_some (P := P) w s 0 ad 0 capS [] (by simp) (by simp)
  · have g3 := RE.take m g2
    refine ⟨cells.take (m * s), run_firstCells_some (P := P) w s m _ _ _ _ (by rw [g3.length, List.length_take, Nat.min_eq_left hmin]) (fun k u hk => ?_), g3⟩
    rw [addr_add]
    exact rangeAt_take g1 k u hk
/-- copy into a part of a private row -/
theorem copy_core (hT : TOk P T) (S : SimW n w0 st a w ow hd) {t t' e s l i j : Nat} {ti : TI} {xs ys : List PV} {x y : Operand} (h1 : tsl T t = some (e, s)) (h2 : T[e]? = some ti) (hx : RF (al st.m) hd ow w (.ssl l i j s) (a.eval x)) (hml : st.m[l]? = some (.row e s xs)) (hj : j ≤ xs.length) (hsrc : SrcB P ow w s (a.eval y) ys) (ty : TypeId) :
    ∃ w', (Builtin.copy_ #[t, t'] ty #[a.eval x, a.eval y]).run P w = .ok (.int .i64 (Nat.min ys.length (j - i) : Nat)) w' ∧
      SimW n w0 ⟨st.f, st.m.set l (.row e s (xs.take i ++ ys.take (j - i) ++ xs.drop (i + Nat.min ys.length (j - i))))⟩ a w' ow hd := by
  obtain ⟨i', dd, e1, e2, e3, e4, e5, e6⟩ := hT.info h2
  obtain ⟨hu, hs⟩ := tsl_und hT h1
  have hsi := tsz_info hT hs
  rw [e1] at hsi
  simp at hsi
  simp only [RF] at hx
  obtain ⟨hA, ad, N, cap, x1, x2, x3, x4⟩ := hx
  obtain ⟨y1, y2⟩ := hsrc
  have hmin : Nat.min ys.length (j - i) ≤ ys.length := Nat.min_le_left _ _
  have hmin2 : Nat.min ys.length (j - i) ≤ j - i := Nat.min_le_right _ _
  have htk : ys.take (j - i) = ys.take (Nat.min ys.length (j - i)) := by
    rcases Nat.le_total ys.length (j - i) with h | h
    · rw [show Nat.min ys.length (j - i) = ys.length from Nat.min_eq_left h, List.take_length, List.take_of_length_le h]
    · rw [show Nat.min ys.length (j - i) = j - i from Nat.min_eq_right h]
  have hlen : (ys.take (Nat.min ys.length (j - i))).length = Nat.min ys.length (j - i) := by rw [List.length_take]; exact Nat.min_eq_left hmin
  rw [htk]
  generalize hm : Nat.min ys.length (j - i) = m at *
  obtain ⟨news, f1, f2⟩ := y2 m hmin
  rw [← hsi] at f1
  have hnl := f2.length
  rw [hlen] at hnl
  obtain ⟨cells, ⟨g1, g2⟩, h4, h5⟩ := S.objs l _ hml
  rcases g2 with ⟨g2, g3⟩ | ⟨b, cap', cur, g2, g3, g4, g5, g6, g7, g8⟩
  · rw [x1] at g2
    simp at g2
    obtain ⟨rfl, rfl, rfl⟩ := g2
    have hi0 : i = 0 := by omega
    have hj0 : j = 0 := by omega
    subst hi0 hj0
    have hm0 : m = 0 := by omega
    subst hm0
    have hn0 : news = [] := List.eq_nil_of_length_eq_zero (by simpa using hnl)
    subst hn0
    refine ⟨w, ?_, ?_⟩
    · simp only [x4]
      simp [Builtin.copy_, run_underlying hu, y1, sizeOf, typeInfo, e1, hm, f1, goInt]
    · have e0 : st.m.set l (.row e s (xs.take 0 ++ ys.take 0 ++ xs.drop (0 + 0))) = st.m := by
        apply List.ext_getElem?
        intro k
        rw [List.getElem?_set]
        split
        · rename_i hk; subst hk
          rw [hml, if_pos (List.getElem?_eq_some_iff.1 hml).1]
          simp
        · rfl
      rw [e0]
      exact S
  · rw [x1] at g2
    simp at g2
    obtain ⟨rfl, rfl, rfl⟩ := g2
    obtain ⟨p1, p2, p3, _, S'⟩ := S.putEls (i := i) hml x1 (by rw [hlen]; omega) f2
    rw [hlen] at S'
    have hst := run_storeCells_cells (P := P) b (i * s) news 0 w (fun k hk => by rw [Nat.add_zero]; exact (p1 k hk).1) (fun k hk => by rw [Nat.add_zero]; exact (p1 k hk).2) (RE.one f2)
    rw [Nat.add_zero] at hst
    refine ⟨_, ?_, S'⟩
    by_cases hc : cap = i
    · have hm0 : m = 0 := by omega
      subst hm0
      have hn0 : news = [] := List.eq_nil_of_length_eq_zero (by simpa using hnl)
      subst hn0
      have hji : j - i = 0 := by omega
      simp only [x4, if_pos hc]
      rw [hji] at hm ⊢
      simp [Builtin.copy_, run_underlying hu, y1, sizeOf, typeInfo, e1, hm, f1, goInt, storeCells, World.setCells]
    · simp only [x4, if_neg hc, Option.map_some, addr_add0]
      simp [Builtin.copy_, run_underlying hu, y1, sizeOf, typeInfo, e1, hm, f1, goInt, hst]
theorem Src.of_els {s : Nat} (S : SimW n w0 st a w ow hd) {y : Operand} {ys : List PV} {ls : List Nat} (h : Els st.m (ev st.f y) ys ls) (hf : ys.all (fits s) = true) : Src ow w s (a.eval y) ys := by
  obtain ⟨ad, cap, y1, y2⟩ := h.spec S
  refine ⟨ad, cap, y1, ?_⟩
  rcases y2 with rfl | ⟨b, off, sz, cells, k1, k2, k3⟩
  · exact .inl rfl
  · exact .inr ⟨b, off, cells, k1, k2, RE.resize k3 hf⟩
/-- a part of a private row as a source -/
theorem Src.of_ssl (S : SimW n w0 st a w ow hd) {y : Operand} {l e s p q : Nat} {xs : List PV} (hy : ev st.f y = .ssl l p q s) (hml : st.m[l]? = some (.row e s xs)) (hq : q ≤ xs.length) : Src ow w s (a.eval y) ((xs.take q).drop p) := by
  have hx := S.eval y
  rw [hy] at hx
  simp only [RF] at hx
  obtain ⟨hA, ad, N, cap, x1, x2, x3, x4⟩ := hx
  have hlen : ((xs.take q).drop p).length = q - p := by simp; omega
  refine ⟨_, _, by rw [hlen]; exact x4, ?_⟩
  obtain ⟨cells, ⟨g1, g2⟩, h4, h5⟩ := S.objs l _ hml
  rcases g2 with ⟨g2, g3⟩ | ⟨b, cap', cur, g2, g3, g4, g5, g6, g7, g8⟩
  · left; apply List.eq_nil_of_length_eq_zero; rw [hlen]; omega
  · rw [x1] at g2
    simp at g2
    obtain ⟨rfl, rfl, rfl⟩ := g2
    by_cases hc : cap = p
    · left; apply List.eq_nil_of_length_eq_zero; rw [hlen]; omega
    · refine .inr ⟨b, p * s, (cells.take (q * s)).drop (p * s), by rw [if_neg hc, Option.map_some, addr_add0], fun k u hk => ?_, RE.drop _ (RE.take _ h5)⟩
      rw [List.getElem?_drop, List.getElem?_take] at hk
      split at hk
      · rw [← g8, List.getElem?_take] at hk
        split at hk
        · unfold World.cell?
          simp only [g4]
          simpa using hk
        · cases hk
      · cases hk
end
section
variable {P : Program} {T : List TI} {α : Type} {f : α → PV} {L Y : List α} {t t' e e' s l l' i j p q : Nat} {x y : Operand} {ti : TI}
/-- a private row as the part of all of it -/
theorem srf_ssl {n : Nat} {w0 : Cx} {st : PS} {a : Act} {w : World} {ow : Ow} {hd : Nat → Value} (S : SimW n w0 st a w ow hd) {xs : List PV} {u : Value} (hx : RF (al st.m) hd ow w (.srf l) u) (hml : st.m[l]? = some (.row e s xs)) : RF (al st.m) hd ow w (.ssl l 0 xs.length s) u := by
  simp only [RF] at hx ⊢
  obtain ⟨h1, h2, _⟩ := hx
  obtain ⟨cells, ⟨g1, g2⟩, _⟩ := S.objs l _ hml
  rcases g2 with ⟨g2, g3⟩ | ⟨b, cap, cur, g2, g3, g4, g5, g6, g7, g8⟩
  · exact ⟨h1, none, 0, 0, g2, Nat.zero_le _, by omega, by rw [h2, g2, g3]; rfl⟩
  · exact ⟨h1, some ⟨b, 0, none⟩, xs.length, cap, g2, Nat.zero_le _, g5, by rw [h2, g2]; simp [Addr.add]⟩
theorem ext_copyB {vs : List FV} {m0 : List (Nat × PO)} {xs ys : List PV} (h1 : tsl T t = some (e, s)) (h2 : T[e]? = some ti) (hj : j ≤ xs.length) (hm0 : (l, .row e s xs) ∈ m0) (fy : FV) (hvs : vs = [.ssl l i j s, fy] ∨ vs = [.srf l, fy] ∧ i = 0 ∧ j = xs.length)
    (hs : ∀ (n : Nat) (w0 : Cx) (st : PS) (a : Act) (w : World) (ow : Ow) (hd : Nat → Value), SimW n w0 st a w ow hd → ev st.f y = fy → (∀ q ∈ m0, st.m[q.1]? = some q.2) → SrcB P ow w s (a.eval y) ys) :
    Ext P T (.call ⟨.builtin .copy, #[x, y], #[t, t']⟩) vs m0 (.d (.v (.int .i64 (Nat.min ys.length (j - i) : Nat)))) [(l, .row e s (xs.take i ++ ys.take (j - i) ++ xs.drop (i + Nat.min ys.length (j - i))))] := by
  intro n w0 st a w o hT hS ho hn hv hm K Q hK
  obtain ⟨ow, hd, hold, S⟩ := hS
  obtain ⟨d, op, ty, pos, af, gd⟩ := o
  simp only at ho hn hK
  subst ho
  have hml := hm _ hm0
  obtain ⟨hv1, hv2⟩ : RF (al st.m) hd ow w (.ssl l i j s) (a.eval x) ∧ ev st.f y = fy := by
    rcases hvs with hvs | ⟨hvs, rfl, rfl⟩
    · subst hvs
      simp [Op.operands, Call.operands] at hv
      exact ⟨by rw [← hv.1]; exact S.eval x, hv.2⟩
    · subst hvs
      simp [Op.operands, Call.operands] at hv
      refine ⟨srf_ssl S ?_ hml, hv.2⟩
      rw [← hv.1]; exact S.eval x
  obtain ⟨w', r1, S'⟩ := copy_core hT S (x := x) (y := y) (t' := t') h1 h2 hv1 hml hj (hs _ _ _ _ _ _ _ S hv2 hm) ty
  have hrun : (execOp a.eval ⟨d, .call ⟨.builtin .copy, #[x, y], #[t, t']⟩, ty, pos, af, gd⟩).run P w = .ok (.value (.int .i64 (Nat.min ys.length (j - i) : Nat))) w' := by
    simp [execOp, resolve, invoke, builtin, r1]
  unfold Oper.wp
  rw [hrun]
  exact hK _ _ ⟨ow, hd, hold, S'.put hn (x := .d (.v _)) (by simp only [RF, R]; exact ⟨trivial, rfl⟩)⟩
theorem ext_copy {vs : List FV} {m0 : List (Nat × PO)} {xs ys : List PV} (h1 : tsl T t = some (e, s)) (h2 : T[e]? = some ti) (hj : j ≤ xs.length) (hm0 : (l, .row e s xs) ∈ m0) (fy : FV) (hvs : vs = [.ssl l i j s, fy] ∨ vs = [.srf l, fy] ∧ i = 0 ∧ j = xs.length)
    (hs : ∀ (n : Nat) (w0 : Cx) (st : PS) (a : Act) (w : World) (ow : Ow) (hd : Nat → Value), SimW n w0 st a w ow hd → ev st.f y = fy → (∀ q ∈ m0, st.m[q.1]? = some q.2) → Src ow w s (a.eval y) ys) :
    Ext P T (.call ⟨.builtin .copy, #[x, y], #[t, t']⟩) vs m0 (.d (.v (.int .i64 (Nat.min ys.length (j - i) : Nat)))) [(l, .row e s (xs.take i ++ ys.take (j - i) ++ xs.drop (i + Nat.min ys.length (j - i))))] := by
  exact ext_copyB h1 h2 hj hm0 fy hvs fun n w0 st a w ow hd S hy hm => (hs n w0 st a w ow hd S hy hm).toB
/-- min and max of more than two -/
theorem xmin3 {z : Operand} {t1 t2 t3 : Nat} {k : IntKind} {a b c : Int} : Ext P T (.call ⟨.builtin .min, #[x, y, z], #[t1, t2, t3]⟩) [.d (.v (.int k a)), .d (.v (.int k b)), .d (.v (.int k c))] [] (.d (.v (.int k (minI (minI a b) c)))) [] := by
  intro n w0 st a' w o hT hS ho hn hv hm K Q hK
  obtain ⟨ow, hd, hold, S⟩ := hS
  obtain ⟨d, op, ty, pos, af, gd⟩ := o
  simp only at ho hn hK
  subst ho
  simp [Op.operands, Call.operands] at hv
  obtain ⟨e1, _⟩ := S.v hv.1
  obtain ⟨e2, _⟩ := S.v hv.2.1
  obtain ⟨e3, _⟩ := S.v hv.2.2
  have hrun : (execOp a'.eval ⟨d, .call ⟨.builtin .min, #[x, y, z], #[t1, t2, t3]⟩, ty, pos, af, gd⟩).run P w = .ok (.value (.int k (minI (minI a b) c))) w := by
    simp [execOp, resolve, invoke, builtin, e1, e2, e3, Builtin.min_, Builtin.min2, minI] <;> rfl
  exact wp_val hrun (hK _ _ ⟨ow, hd, hold, S.put hn (x := .d (.v _)) (by simp only [RF, R]; exact ⟨trivial, rfl⟩)⟩)
theorem xmax3 {z : Operand} {t1 t2 t3 : Nat} {k : IntKind} {a b c : Int} : Ext P T (.call ⟨.builtin .max, #[x, y, z], #[t1, t2, t3]⟩) [.d (.v (.int k a)), .d (.v (.int k b)), .d (.v (.int k c))] [] (.d (.v (.int k (maxI (maxI a b) c)))) [] := by
  intro n w0 st a' w o hT hS ho hn hv hm K Q hK
  obtain ⟨ow, hd, hold, S⟩ := hS
  obtain ⟨d, op, ty, pos, af, gd⟩ := o
  simp only at ho hn hK
  subst ho
  simp [Op.operands, Call.operands] at hv
  obtain ⟨e1, _⟩ := S.v hv.1
  obtain ⟨e2, _⟩ := S.v hv.2.1
  obtain ⟨e3, _⟩ := S.v hv.2.2
  have hrun : (execOp a'.eval ⟨d, .call ⟨.builtin .max, #[x, y, z], #[t1, t2, t3]⟩, ty, pos, af, gd⟩).run P w = .ok (.value (.int k (maxI (maxI a b) c))) w := by
    simp [execOp, resolve, invoke, builtin, e1, e2, e3, Builtin.max_, Builtin.max2, maxI] <;> rfl
  exact wp_val hrun (hK _ _ ⟨ow, hd, hold, S.put hn (x := .d (.v _)) (by simp only [RF, R]; exact ⟨trivial, rfl⟩)⟩)
end
end Go.Proofs.Ytmjkechkdfobgaa.pv
