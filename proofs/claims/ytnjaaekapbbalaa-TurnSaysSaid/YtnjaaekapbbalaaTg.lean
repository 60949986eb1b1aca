/- copy into an array of one's own. -/
import Derived.Test.YtnjaaekapbbalaaSv
import Derived.Test.YtnjaaekapbbalaaSb
namespace Go.Proofs.Ytnjaaekapbbalaa.pv
set_option linter.all false
open Go.RowKit

section
variable {P : Program} {T : List TI} {n : Nat} {w0 : Cx} {st : PS} {a : Act} {w : World} {ow : Nat → Bool} {hd : Nat → Value}
theorem RFL.app {A : Nat → Bool} {hd : Nat → Value} {ow : Nat → Bool} {w : World} : ∀ {x y : List FV} {a b : List Value}, RFL A hd ow w x a → RFL A hd ow w y b → RFL A hd ow w (x ++ y) (a ++ b)
  | [], y, a, b, h, k => by simp only [RFL] at h; subst h; exact k
  | q :: x, y, a, b, h, k => by
    simp only [RFL] at h
    obtain ⟨v, r, rfl, h1, h2, h3⟩ := h
    simp only [List.cons_append, RFL]
    exact ⟨v, r ++ b, rfl, h1, h2, RFL.app h3 k⟩
/-- plain cells -/
def isV : PV → Bool
  | .v _ => true
  | _ => false
theorem all_isV {α : Type} {f : α → PV} (h : ∀ x, isV (f x) = true) {l : List α} : (l.map f).all isV = true := by
  rw [List.all_eq_true]; intro y hy
  obtain ⟨x, _, rfl⟩ := List.mem_map.1 hy
  exact h x
theorem RE_RFL {A : Nat → Bool} {hd : Nat → Value} {ow : Nat → Bool} {w : World} : ∀ {ys : List PV} {news : List Value}, ys.all isV = true → RE ow w 1 ys news → RFL A hd ow w (ys.map .d) news
  | [], news, _, h => by simp only [RE] at h; subst h; simp only [List.map_nil, RFL]
  | y :: ys, news, hv, h => by
    simp only [List.all_cons, Bool.and_eq_true] at hv
    simp only [RE] at h
    obtain ⟨u, r, rfl, h1, h2, h3, h4⟩ := h
    cases y with
    | v x =>
      simp only [R] at h3
      obtain ⟨rfl, h5⟩ := h3
      have hc : u.cells = #[u] := by cases u <;> simp_all [Value.cells, Value.oneCell']
      rw [hc]
      simp only [List.map_cons, RFL]
      exact ⟨u, r, rfl, by simp only [RF, R]; exact ⟨trivial, h5⟩, h5, RE_RFL hv.2 h4⟩
    | _ => simp [isV] at hv
theorem SimW.putBox {l b : Nat} {cs : List FV} {ys : List PV} {news : List Value} (S : SimW n w0 st a w ow hd) (hm : st.m[l]? = some (.box cs)) (hh : hd l = .pointer (some ⟨b, 0, none⟩)) (hk : ys.length ≤ cs.length) (hv : ys.all isV = true) (hr : RE ow w 1 ys news) :
    w.there b 0 news.length ∧ SimW n w0 ⟨st.f, st.m.set l (.box (ys.map .d ++ cs.drop ys.length))⟩ a (w.setCells b 0 news) ow hd := by
  obtain ⟨b', vals, t, h1, h2, h3, h4, h5⟩ := S.objs l _ hm
  rw [hh] at h1
  simp at h1
  subst h1
  have hnl := hr.length
  have hcl := RFL.length h5
  have hvl : vals.size = cs.length := by simpa using hcl
  obtain ⟨cur', q1, q2, q3⟩ := setCells_block b t (0, 0) news 0 w vals h4 (by omega)
  have ho := fun j hj => setCells_other b news 0 w j hj
  have hkp : Kp ow w ow (w.setCells b 0 news) := ⟨by rw [setCells_size]; exact Nat.le_refl _, fun _ _ h => h, fun j _ hj => ho j (fun e => by rw [e, h3] at hj; cases hj)⟩
  refine ⟨there_of_block h4 (by omega), ?_⟩
  refine S.set (o' := .box _) hm rfl rfl (b := b) (by rw [hh]; simp [blocksOf, blockOf]) ho (setCells_size b _ _ w) (Kt.of_one (setCells_below b _ (Nat.le_refl _) _ _ w) h2 ho)
    ⟨b, cur', t, hh, h2, h3, q1, ?_⟩
  rw [q2]
  have hA : ∀ l', al st.m l' = true → al (st.m.set l (.box (ys.map .d ++ cs.drop ys.length))) l' = true ∧ hd l' = hd l' := fun l' h => ⟨by
    unfold al at h ⊢
    rw [List.getElem?_set]
    by_cases e : l = l'
    · subst e
      rw [if_pos rfl]
      have := (List.getElem?_eq_some_iff.1 hm).1
      rw [if_pos this]; rfl
    · rw [if_neg e]; exact h, rfl⟩
  have g1 := RFL.mono hkp hA _ _ (RE_RFL (A := al st.m) (hd := hd) hv hr)
  have g2 := RFL.mono hkp hA _ _ (RFL.drop news.length h5)
  rw [Nat.zero_add, List.take_zero, List.nil_append]
  have e : news.length = ys.length := by omega
  rw [e] at g2 ⊢
  exact RFL.app g1 g2
theorem RE_take1 {ys : List PV} {cells : List Value} {m : Nat} (h : RE ow w 1 ys cells) : RE ow w 1 (ys.take m) (cells.take m) := by
  have := RE.take m h
  rwa [Nat.mul_one] at this
/-- copy(a[:], data), a an array of one's own -/
theorem xcpA {t t' e l k c : Nat} {ti : TI} {cs cs' : List FV} {ys : List PV} {x y : Operand} (h1 : tsl T t = some (e, 1)) (h2 : T[e]? = some ti) (hk : cs.length = k) (hv : ys.all isV = true) (hf : ys.all (fits 1) = true) (hc : (ys.take k).map .d ++ cs.drop (Nat.min ys.length k) = cs') :
    Ext P T (.call ⟨.builtin .copy, #[x, y], #[t, t']⟩) [.asl l 0 k c 1 false, .d (.sl ys)] [(l, .box cs)] (.d (.v (.int .i64 (Nat.min ys.length k : Nat)))) [(l, .box cs')] := by
  intro n w0 st a w o hT hS ho hn hvs hm K Q hK
  obtain ⟨ow, hd, hold, S⟩ := hS
  obtain ⟨d, op, ty, pos, af, gd⟩ := o
  simp only at ho hn hK
  subst ho
  have hml := hm (l, .box cs) (by simp)
  simp only at hml
  simp [Op.operands, Call.operands] at hvs
  have hx : RF (al st.m) hd ow w (.asl l 0 k c 1 false) (a.eval x) := by rw [← hvs.1]; exact S.eval x
  obtain ⟨adS, capS, y1, y2⟩ := Src.of_els (s := 1) S (y := y) (ys := ys) (ls := []) (by rw [hvs.2]; exact .sl _) hf
  obtain ⟨i', dd, e1, e2, e3, e4, e5, e6⟩ := hT.info h2
  obtain ⟨hu, hs⟩ := tsl_und hT h1
  have hsi := tsz_info hT hs
  rw [e1] at hsi
  simp at hsi
  simp only [RF] at hx
  obtain ⟨hA, b, x1, x4, hkc, hcm⟩ := hx
  have hmin : Nat.min ys.length k ≤ ys.length := Nat.min_le_left _ _
  have hmin2 : Nat.min ys.length k ≤ k := Nat.min_le_right _ _
  have htk : ys.take k = ys.take (Nat.min ys.length k) := by
    rcases Nat.le_total ys.length k with h | h
    · rw [show Nat.min ys.length k = ys.length from Nat.min_eq_left h, List.take_length, List.take_of_length_le h]
    · rw [show Nat.min ys.length k = k from Nat.min_eq_right h]
  have hlen : (ys.take (Nat.min ys.length k)).length = Nat.min ys.length k := by rw [List.length_take]; exact Nat.min_eq_left hmin
  rw [htk] at hc
  generalize hmm : Nat.min ys.length k = m at *
  have hfc : ∃ news : List Value, (∀ n' c', (Builtin.firstCells i'.size m (.slice adS n' c')).run P w = .ok news.toArray w) ∧ RE ow w 1 (ys.take m) news := by
    rcases y2 with rfl | ⟨b, off, cells, rfl, g1, g2⟩
    · have : m = 0 := by simpa using hmin
      subst this
      refine ⟨[], fun n' c' => ?_, by simp [RE]⟩
      cases adS with
      | none => simp [Builtin.firstCells]
      | some ad => simpa using run_firstCells_some (P := P) w i'.size 0 ad n' c' [] (by simp) (by simp)
    · have g3 := RE.take m g2
      refine ⟨cells.take (m * 1), fun n' c' => run_firstCells_some (P := P) w i'.size m _ n' c' _ (by rw [g3.length, hsi, List.length_take, Nat.min_eq_left hmin]) (fun k u hk => ?_), g3⟩
      rw [addr_add]
      exact rangeAt_take g1 k u hk
  obtain ⟨news, f1, f2⟩ := hfc
  have hnl := f2.length
  rw [hlen] at hnl
  have hv' : (ys.take m).all isV = true := by
    rw [List.all_eq_true] at hv ⊢
    exact fun y hy => hv y (List.mem_of_mem_take hy)
  obtain ⟨p1, S'⟩ := S.putBox hml x1 (ys := ys.take m) (by rw [hlen]; omega) hv' f2
  rw [hlen, hc] at S'
  have hst := run_storeCells_cells (P := P) b 0 news 0 w (fun k hk => by rw [Nat.add_zero]; exact (p1 k hk).1) (fun k hk => by rw [Nat.add_zero]; exact (p1 k hk).2) (RE.one f2)
  rw [Nat.add_zero] at hst
  have r1 : (Builtin.copy_ #[t, t'] ty #[a.eval x, a.eval y]).run P w = .ok (.int .i64 (m : Nat)) (w.setCells b 0 news) := by
    simp [x4, y1, Builtin.copy_, run_underlying hu, Builtin.lenOf, sizeOf, typeInfo, e1, hmm, f1, goInt, hst]
  have hrun : (execOp a.eval ⟨d, .call ⟨.builtin .copy, #[x, y], #[t, t']⟩, ty, pos, af, gd⟩).run P w = .ok (.value (.int .i64 (m : Nat))) (w.setCells b 0 news) := by
    simp [execOp, resolve, invoke, builtin, r1]
  unfold Oper.wp
  rw [hrun]
  exact hK _ _ ⟨ow, hd, hold, S'.put hn (x := .d (.v _)) (by simp only [RF, R]; exact ⟨trivial, rfl⟩)⟩
/-- the first elements of an array are those of a list -/
def cpA {α : Type} {k : Nat} (A : Fin k → α) (Y : List α) : Fin k → α := fun i => (Y[i.val]?).getD (A i)
theorem cpA_ob {α : Type} {k : Nat} {A : Fin k → α} {Y : List α} (g : α → PV) : ((Y.map g).take k).map FV.d ++ (List.ofFn (fun i => FV.d (g (A i)))).drop (Nat.min (Y.map g).length k) = List.ofFn (fun i => FV.d (g (cpA A Y i))) := by
  apply List.ext_getElem?
  intro i
  have hm : (List.map FV.d (List.take k (List.map g Y))).length = Nat.min (Y.map g).length k := by simp [Nat.min_comm]
  by_cases h1 : i < Nat.min (Y.map g).length k
  · have h2 : i < k := Nat.lt_of_lt_of_le h1 (Nat.min_le_right _ _)
    have h3 : i < Y.length := by have := Nat.lt_of_lt_of_le h1 (Nat.min_le_left _ _); simpa using this
    rw [List.getElem?_append_left (by rw [hm]; exact h1)]
    simp [List.getElem?_take, h2, h3, List.getElem?_ofFn, cpA]
  · rw [List.getElem?_append_right (by rw [hm]; omega), hm, List.getElem?_drop, Nat.add_sub_cancel' (by omega)]
    by_cases h2 : i < k
    · have h3 : Y.length ≤ i := by
        rcases Nat.le_total (Y.map g).length k with h | h
        · rw [show Nat.min (Y.map g).length k = (Y.map g).length from Nat.min_eq_left h] at h1; simpa using h1
        · rw [show Nat.min (Y.map g).length k = k from Nat.min_eq_right h] at h1; omega
      simp [List.getElem?_ofFn, h2, cpA, h3]
    · simp [List.getElem?_ofFn, h2]
end
end Go.Proofs.Ytnjaaekapbbalaa.pv
