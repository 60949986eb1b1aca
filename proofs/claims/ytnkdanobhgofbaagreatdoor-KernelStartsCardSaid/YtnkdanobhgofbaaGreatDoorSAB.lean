/- Acts told by what they do: parts of a private row moved and cleared in place. -/
import Derived.Test.YtnkdanobhgofbaaGreatDoorQi
import Derived.ArgAppend
namespace Go.Proofs.YtnkdanobhgofbaaGreatDoor.pv
set_option linter.all false
open Go.RowKit

theorem addr_add0 (b k : Nat) : (⟨b, 0, none⟩ : Addr).add k = ⟨b, k, none⟩ := by unfold Addr.add; split <;> simp_all
section
variable {P : Program} {T : List TI} {n : Nat} {w0 : Cx} {st : PS} {a : Act} {w : World} {ow : Ow} {hd : Nat → Value}
/-- elements of a private row, written anew -/
theorem SimW.putEls (S : SimW n w0 st a w ow hd) {l e s i b N cap : Nat} {xs ys : List PV} {news : List Value} (hm : st.m[l]? = some (.row e s xs)) (hh : hd l = .slice (some ⟨b, 0, none⟩) N cap) (hi : i + ys.length ≤ xs.length) (hr : RE ow w s ys news) :
    w.there b (i * s) news.length ∧ N = xs.length ∧ xs.length ≤ cap ∧ (∃ cur : Array Value, w.heap[b]? = some (.cells cur e (0, 0)) ∧ cur.size = cap * s ∧ RE ow w s xs (cur.toList.take (xs.length * s))) ∧
      SimW n w0 ⟨st.f, st.m.set l (.row e s (xs.take i ++ ys ++ xs.drop (i + ys.length)))⟩ a (w.setCells b (i * s) news) ow hd := by
  obtain ⟨cells, ⟨g1, g2⟩, h4, h5⟩ := S.objs l _ hm
  rcases g2 with ⟨g2, _⟩ | ⟨g, cap', cur, g2, g3, g4, g5, g6, g7, g8⟩
  · rw [hh] at g2; simp at g2
  rw [hh] at g2
  simp at g2
  obtain ⟨rfl, rfl, rfl⟩ := g2
  obtain ⟨e3, e4⟩ := h4 b (by rw [hh]; first | rfl | simp [blocksOf, blockOf])
  have hnl := hr.length
  have hmul : i * s + ys.length * s ≤ xs.length * s := by rw [← Nat.add_mul]; exact Nat.mul_le_mul_right _ hi
  have hmul2 : xs.length * s ≤ cap * s := Nat.mul_le_mul_right _ g5
  obtain ⟨cur', q1, q2, q3⟩ := setCells_block b e (0, 0) news (i * s) w cur g4 (by omega)
  have ho := fun j hj => setCells_other b news (i * s) w j hj
  have hkp : Kp ow w ow (w.setCells b (i * s) news) := ⟨by rw [setCells_size]; exact Nat.le_refl _, fun _ _ h => h, fun j _ hj => ho j (fun e => by rw [e, e4] at hj; cases hj)⟩
  refine ⟨there_of_block g4 (by omega), rfl, g5, ⟨cur, g4, g7, by rw [g8]; exact h5⟩, ?_⟩
  have hlen : (xs.take i ++ ys ++ xs.drop (i + ys.length)).length = xs.length := by simp; omega
  have hcl : cells.length = xs.length * s := g1
  have hcur : cur.toList.length = cap * s := by simpa using g7
  refine S.set (o' := .row e s _) hm rfl rfl (b := b) (by rw [hh]; first | rfl | simp [blocksOf, blockOf]) ho (setCells_size b _ _ w) (Kt.of_one (setCells_below b _ (Nat.le_refl _) _ _ w) e3 ho)
    ⟨cells.take (i * s) ++ news ++ cells.drop ((i + ys.length) * s), ⟨?_, .inr ⟨b, cap, cur', by rw [hh, hlen], Nat.zero_le _, q1, by rw [hlen]; exact g5, g6, by rw [q3]; exact g7, ?_⟩⟩, fun b' hb' => by rw [hh] at hb'; simp [blocksOf, blockOf] at hb'; rw [hb']; exact ⟨e3, e4⟩, RE.mono hkp _ _ _ ((RE.append (RE.append (RE.take _ h5) hr) (RE.drop _ h5)))⟩
  · rw [hlen]
    simp only [List.length_append, List.length_take, List.length_drop, hcl, hnl, Nat.add_mul]
    omega
  · rw [q2, hlen, hnl, ← g8, Nat.add_mul]
    apply List.ext_getElem?
    intro k
    have hl1 : (List.take (i * s) cur.toList).length = i * s := by rw [List.length_take]; omega
    have hl2 : (List.take (i * s) (List.take (xs.length * s) cur.toList)).length = i * s := by rw [List.length_take, List.length_take]; omega
    rw [List.getElem?_take]
    by_cases hk : k < xs.length * s
    · rw [if_pos hk]
      by_cases h1 : k < i * s
      · rw [List.append_assoc, List.append_assoc, List.getElem?_append_left (by omega), List.getElem?_append_left (by omega), List.getElem?_take, List.getElem?_take, List.getElem?_take, if_pos h1, if_pos h1, if_pos hk]
      · rw [List.append_assoc, List.append_assoc, List.getElem?_append_right (l₁ := List.take (i * s) cur.toList) (by omega), List.getElem?_append_right (l₁ := List.take (i * s) (List.take (xs.length * s) cur.toList)) (by omega), hl1, hl2]
        by_cases h2 : k - i * s < news.length
        · rw [List.getElem?_append_left h2, List.getElem?_append_left h2]
        · rw [List.getElem?_append_right (l₂ := List.drop _ cur.toList) (by omega), List.getElem?_append_right (l₂ := List.drop _ (List.take _ cur.toList)) (by omega), List.getElem?_drop, List.getElem?_drop, List.getElem?_take, if_pos (by omega)]
    · rw [if_neg hk]
      symm
      apply List.getElem?_eq_none
      simp only [List.length_append, List.length_take, List.length_drop, hcur, hnl]
      omega
/-- append(s[:i], s[j:q]...), i ≤ j: in place -/
theorem ext_appendSS {t e s l i j q : Nat} {ti : TI} {xs : List PV} {x y : Operand} (h1 : tsl T t = some (e, s)) (h2 : T[e]? = some ti) (hij : i ≤ j) (hjq : j ≤ q) (hq : q ≤ xs.length) :
    Ext P T (.call ⟨.builtin .append, #[x, y], #[t, t]⟩) [.ssl l 0 i s, .ssl l j q s] [(l, .row e s xs)] (.ssl l 0 (i + (q - j)) s) [(l, .row e s (xs.take i ++ (xs.take q).drop j ++ xs.drop (i + (q - j))))] := by
  intro n w0 st a w o hT hS ho hn hv hm K Q hK
  obtain ⟨ow, hd, hold, S⟩ := hS
  obtain ⟨d, op, ty, pos, af, gd⟩ := o
  simp only at ho hn hK
  subst ho
  simp [Op.operands, Call.operands] at hv
  obtain ⟨hv1, hv2⟩ := hv
  have hml := hm (l, .row e s xs) (by simp)
  simp only at hml
  obtain ⟨i', dd, e1, e2, e3, e4, e5, e6⟩ := hT.info h2
  obtain ⟨hu, hs⟩ := tsl_und hT h1
  have hsi := tsz_info hT hs
  rw [e1] at hsi
  simp at hsi
  have hx := S.eval x
  have hy := S.eval y
  rw [hv1] at hx
  rw [hv2] at hy
  simp only [RF] at hx hy
  obtain ⟨hA, ad, N, cap, x1, x2, x3, x4⟩ := hx
  obtain ⟨_, ad', N', cap', y1, y2, y3, y4⟩ := hy
  rw [x1] at y1
  simp at y1
  obtain ⟨rfl, rfl, rfl⟩ := y1
  obtain ⟨cells, ⟨g1, g2⟩, h4, h5⟩ := S.objs l _ hml
  rcases g2 with ⟨g2, g3⟩ | ⟨b, cap', cur, g2, g3, g4, g5, g6, g7, g8⟩
  · rw [x1] at g2
    simp at g2
    obtain ⟨rfl, rfl, rfl⟩ := g2
    have ei : i = 0 := by omega
    have ej : j = 0 := by omega
    have eq : q = 0 := by omega
    subst ei ej eq
    have hrun : (execOp a.eval ⟨d, .call ⟨.builtin .append, #[x, y], #[t, t]⟩, ty, pos, af, gd⟩).run P w = .ok (.value (.slice none 0 0)) w := by
      simp at x4 y4
      simp [execOp, resolve, invoke, builtin, x4, y4, Builtin.append_, run_underlying hu, sizeOf, typeInfo, e1, Builtin.lenOf, run_firstCells_none]
    have hxs : xs = [] := List.eq_nil_of_length_eq_zero g3
    subst hxs
    refine wp_val hrun (hK _ _ ⟨ow, hd, hold, ?_⟩)
    have e0 : st.m.set l (.row e s (([] : List PV).take 0 ++ (([] : List PV).take 0).drop 0 ++ ([] : List PV).drop (0 + (0 - 0)))) = st.m := by
      apply List.ext_getElem?
      intro k
      rw [List.getElem?_set]
      split
      · rename_i hk; subst hk
        rw [hml]
        rw [if_pos (List.getElem?_eq_some_iff.1 hml).1]
        simp
      · rfl
    have hput := S.put hn (x := .ssl l 0 (0 + (0 - 0)) s) (v := .slice none 0 0) (by simp only [RF]; exact ⟨hA, none, 0, 0, x1, Nat.le_refl _, Nat.le_refl _, by simp⟩)
    simp only [PS.act, updM]
    rw [e0]
    exact hput
  · rw [x1] at g2
    simp at g2
    obtain ⟨rfl, rfl, rfl⟩ := g2
    have hRE := RE.drop j (RE.take q h5)
    have hyl : ((xs.take q).drop j).length = q - j := by simp; omega
    have hx4 : a.eval x = .slice (some ⟨b, 0, none⟩) i cap := by
      rw [x4]; simp [Addr.add]
    obtain ⟨p1, p2, p3, ⟨cur0, p4, p5, p6⟩, S'⟩ := S.putEls (i := i) hml x1 (by rw [hyl]; omega) hRE
    rw [hyl] at S'
    have hnl : ((cells.take (q * s)).drop (j * s)).length = (q - j) * i'.size := by
      rw [hRE.length, hyl, hsi]
    have hA0 : ∃ A : Addr, a.eval y = .slice (some A) (q - j) (cap - j) ∧ ∀ k u, ((cells.take (q * s)).drop (j * s))[k]? = some u → w.cell? (A.add k) = some u := by
      by_cases hc : cap = j
      · refine ⟨⟨b, 0, none⟩, by rw [y4, if_pos hc], fun k u hk => ?_⟩
        have : ((cells.take (q * s)).drop (j * s)).length = 0 := by rw [hnl]; rw [show q - j = 0 by omega]; simp
        rw [List.eq_nil_of_length_eq_zero this] at hk
        simp at hk
      · refine ⟨⟨b, j * s, none⟩, by rw [y4, if_neg hc, Option.map_some, addr_add0], fun k u hk => ?_⟩
        rw [List.getElem?_drop, List.getElem?_take] at hk
        split at hk
        · rename_i hlt
          rw [← g8, List.getElem?_take] at hk
          split at hk
          · have : (⟨b, j * s, none⟩ : Addr).add k = ⟨b, j * s + k, none⟩ := by simp [Addr.add]
            rw [this]
            unfold World.cell?
            simp only [g4]
            simpa using hk
          · cases hk
        · cases hk
    obtain ⟨A, y5, hnews⟩ := hA0
    have hroom := run_append_room_cells (P := P) w t ty e i' hu e1 b 0 i cap A (q - j) (cap - j) ((cells.take (q * s)).drop (j * s)) hnl hnews (RE.one hRE) (by omega)
      (fun k hk => by rw [Nat.zero_add, hsi]; exact (p1 k hk).1) (fun k hk => by rw [Nat.zero_add, hsi]; exact (p1 k hk).2)
    rw [Nat.zero_add, hsi] at hroom
    have hrun : (execOp a.eval ⟨d, .call ⟨.builtin .append, #[x, y], #[t, t]⟩, ty, pos, af, gd⟩).run P w = .ok (.value (.slice (some ⟨b, 0, none⟩) (i + (q - j)) cap)) (w.setCells b (i * s) ((cells.take (q * s)).drop (j * s))) := by
      simp [execOp, resolve, invoke, builtin, hx4, y5, hroom]
    unfold Oper.wp
    rw [hrun]
    refine hK _ _ ⟨ow, hd, hold, S'.put hn (x := .ssl l 0 (i + (q - j)) s) ?_⟩
    simp only [RF]
    exact ⟨al_set_mono (.inr rfl) l hA, some ⟨b, 0, none⟩, xs.length, cap, x1, Nat.zero_le _, by omega, by simp [Addr.add]⟩
/-- clear(s[i:j]) -/
theorem ext_clearSS {t e s l i j : Nat} {ti : TI} {z : PV} {xs : List PV} {x : Operand} (h1 : tsl T t = some (e, s)) (h2 : T[e]? = some ti) (hz : zeroPV ti = some z) (hs1 : ti.zero.length = s) (hs0 : 0 < s) (hij : i ≤ j) (hj : j ≤ xs.length) :
    Ext P T (.call ⟨.builtin .clear, #[x], #[t]⟩) [.ssl l i j s] [(l, .row e s xs)] .dead [(l, .row e s (xs.take i ++ List.replicate (j - i) z ++ xs.drop j))] := by
  intro n w0 st a w o hT hS ho hn hv hm K Q hK
  obtain ⟨ow, hd, hold, S⟩ := hS
  obtain ⟨d, op, ty, pos, af, gd⟩ := o
  simp only at ho hn hK
  subst ho
  simp [Op.operands, Call.operands] at hv
  have hml := hm (l, .row e s xs) (by simp)
  simp only at hml
  obtain ⟨i', zv, u, e1, e2, e3, e4, e5, e6, e7, e8⟩ := zeroPV_spec hT h2 hz
  obtain ⟨hu, hs⟩ := tsl_und hT h1
  have hzs : zv.cells.size = s := by rw [e5, hs1]
  have hzc : ∀ n : Nat, (Builtin.zeroCells zv.cells n).toList = (List.replicate n u.cells.toList).flatten := by
    intro n
    have := made_cells zv.cells (by omega) n
    rw [e6, ← this]
    simp [Builtin.zeroCells, madeCells]
  have hx := S.eval x
  rw [hv] at hx
  simp only [RF] at hx
  obtain ⟨hA, ad, N, cap, x1, x2, x3, x4⟩ := hx
  by_cases h0 : j - i = 0
  · have hrun : (execOp a.eval ⟨d, .call ⟨.builtin .clear, #[x], #[t]⟩, ty, pos, af, gd⟩).run P w = .ok (.value (.tuple #[])) w := by
      rw [h0] at x4
      have : ∀ A : Option Addr, (Builtin.clear_ #[t] ty #[.slice A 0 (cap - i)]).run P w = .ok (.tuple #[]) w := by
        intro A
        cases A <;> simp [Builtin.clear_, run_underlying hu]
      simp [execOp, resolve, invoke, builtin, x4, this]
    refine wp_val hrun (hK _ _ ⟨ow, hd, hold, ?_⟩)
    have e0 : st.m.set l (.row e s (xs.take i ++ List.replicate (j - i) z ++ xs.drop j)) = st.m := by
      have : xs.take i ++ List.replicate (j - i) z ++ xs.drop j = xs := by
        rw [h0, show j = i by omega]; simp
      rw [this]
      apply List.ext_getElem?
      intro k
      rw [List.getElem?_set]
      split
      · rename_i hk; subst hk
        rw [hml, if_pos (List.getElem?_eq_some_iff.1 hml).1]
      · rfl
    simp only [PS.act, updM]
    rw [e0]
    exact S.put hn (x := .dead) (by simp only [RF])
  · obtain ⟨cells, ⟨g1, g2⟩, h4, h5⟩ := S.objs l _ hml
    rcases g2 with ⟨g2, g3⟩ | ⟨b, cap', cur, g2, g3, g4, g5, g6, g7, g8⟩
    · omega
    rw [x1] at g2
    simp at g2
    obtain ⟨rfl, rfl, rfl⟩ := g2
    have hRE : RE ow w s (List.replicate (j - i) z) (Builtin.zeroCells zv.cells (j - i)).toList := by
      rw [hzc]; exact RE_zero (by rw [e6]; exact hzs) e7 (e8 _ _) _
    obtain ⟨p1, p2, p3, _, S'⟩ := S.putEls (i := i) hml x1 (by rw [List.length_replicate]; omega) hRE
    rw [List.length_replicate, show i + (j - i) = j by omega] at S'
    have hst := run_storeCells_cells (P := P) b (i * s) (Builtin.zeroCells zv.cells (j - i)).toList 0 w (fun k hk => by rw [Nat.add_zero]; exact (p1 k hk).1) (fun k hk => by rw [Nat.add_zero]; exact (p1 k hk).2) (RE.one hRE)
    rw [Nat.add_zero] at hst
    have hx4 : a.eval x = .slice (some ⟨b, i * s, none⟩) (j - i) (cap - i) := by
      rw [x4, if_neg (by omega), Option.map_some, addr_add0]
    have hzv : (zeroValue e).run P w = .ok zv w := by simp [zeroValue, typeInfo, e1, e2]
    obtain ⟨m, hm'⟩ : ∃ m, j - i = m + 1 := ⟨j - i - 1, by omega⟩
    rw [hm'] at hst hx4 S'
    have hrun : (execOp a.eval ⟨d, .call ⟨.builtin .clear, #[x], #[t]⟩, ty, pos, af, gd⟩).run P w = .ok (.value (.tuple #[])) (w.setCells b (i * s) (Builtin.zeroCells zv.cells (m + 1)).toList) := by
      have : (Builtin.clear_ #[t] ty #[.slice (some ⟨b, i * s, none⟩) (m + 1) (cap - i)]).run P w = .ok (.tuple #[]) (w.setCells b (i * s) (Builtin.zeroCells zv.cells (m + 1)).toList) := by
        simp [Builtin.clear_, run_underlying hu, hzv, hst]
      simp [execOp, resolve, invoke, builtin, hx4, this]
    unfold Oper.wp
    rw [hrun]
    simp only [hm'] at hK
    exact hK _ _ ⟨ow, hd, hold, S'.put hn (x := .dead) (by simp only [RF])⟩
end
end Go.Proofs.YtnkdanobhgofbaaGreatDoor.pv
namespace Go.Proofs.YtnkdanobhgofbaaGreatDoor.pv
set_option linter.all false
open Go.RowKit

def minI (a b : Int) : Int := if b < a then b else a
def maxI (a b : Int) : Int := if b > a then b else a
section
variable {P : Program} {T : List TI} {n : Nat} {w0 : Cx} {st : PS} {a : Act} {w : World} {ow : Ow} {hd : Nat → Value}
/-- what may be copied from: where its elements lie -/
def Src (ow : Ow) (w : World) (s : Nat) (v : Value) (ys : List PV) : Prop :=
  ∃ (ad : Option Addr) (cap : Nat), v = .slice ad ys.length cap ∧ (ys = [] ∨ ∃ (b off : Nat) (cells : List Value), ad = some ⟨b, off, none⟩ ∧ w.rangeAt b off cells ∧ RE ow w s ys cells)
/-- what may be copied from, told by what the machine asks of it -/
def SrcB (P : Program) (ow : Ow) (w : World) (s : Nat) (v : Value) (ys : List PV) : Prop :=
  (Builtin.lenOf v).run P w = .ok ys.length w ∧ ∀ m, m ≤ ys.length → ∃ news : List Value, (Builtin.firstCells s m v).run P w = .ok news.toArray w ∧ RE ow w s (ys.take m) news
theorem addr_add (b o k : Nat) : (⟨b, o, none⟩ : Addr).add k = ⟨b, o + k, none⟩ := by unfold Addr.add; split <;> simp_all
theorem rangeAt_take {b off k : Nat} {cells : List Value} (h : w.rangeAt b off cells) : w.rangeAt b off (cells.take k) := fun j v hv => by
  rw [List.getElem?_take] at hv
  split at hv
  · exact h j v hv
  · cases hv
theorem Src.toB {s : Nat} {v : Value} {ys : List PV} (h : Src ow w s v ys) : SrcB P ow w s v ys := by
  obtain ⟨adS, capS, rfl, y2⟩ := h
  refine ⟨by simp [Builtin.lenOf], fun m hmin => ?_⟩
  rcases y2 with rfl | ⟨b, off, cells, rfl, g1, g2⟩
  · have : m = 0 := by simpa using hmin
    subst this
    refine ⟨[], ?_, by simp [RE]⟩
    cases adS with
    | none => simp [Builtin.firstCells]
    | some ad => simpa using run_firstCells_some (P := P) w s 0 ad 0 capS [] (by simp) (by simp)
  · have g3 := RE.take m g2
    refine ⟨cells.take (m * s), run_firstCells_some (P := P) w s m _ _ _ _ (by rw [g3.length, List.length_take, Nat.min_eq_left hmin]) (fun k u hk => ?_), g3⟩
    rw [addr_add]
    exact rangeAt_take g1 k u hk
/-- copy into a part of a private row -/
theorem copy_core (hT : TOk P T) (S : SimW n w0 st a w ow hd) {t t' e s l i j : Nat} {ti : TI} {xs ys : List PV} {x y : Operand} (h1 : tsl T t = some (e, s)) (h2 : T[e]? = some ti) (hx : RF (al st.m) hd ow w (.ssl l i j s) (a.eval x)) (hml : st.m[l]? = some (.row e s xs)) (hj : j ≤ xs.length) (hsrc : SrcB P ow w s (a.eval y) ys) (ty : TypeId) :
    ∃ w', (Builtin.copy_ #[t, t'] ty #[a.eval x, a.eval y]).run P w = .ok (.int .i64 (Nat.min ys.length (j - i) : Nat)) w' ∧
      SimW n w0 ⟨st.f, st.m.set l (.row e s (xs.take i ++ ys.take (j - i) ++ xs.drop (i + Nat.min ys.length (j - i))))⟩ a w' ow hd := by
  obtain ⟨i', dd, e1, e2, e3, e4, e5, e6⟩ := hT.info h2
  obtain ⟨hu, hs⟩ := tsl_und hT h1
  have hsi := tsz_info hT hs
  rw [e1] at hsi
  simp at hsi
  simp only [RF] at hx
  obtain ⟨hA, ad, N, cap, x1, x2, x3, x4⟩ := hx
  obtain ⟨y1, y2⟩ := hsrc
  have hmin : Nat.min ys.length (j - i) ≤ ys.length := Nat.min_le_left _ _
  have hmin2 : Nat.min ys.length (j - i) ≤ j - i := Nat.min_le_right _ _
  have htk : ys.take (j - i) = ys.take (Nat.min ys.length (j - i)) := by
    rcases Nat.le_total ys.length (j - i) with h | h
    · rw [show Nat.min ys.length (j - i) = ys.length from Nat.min_eq_left h, List.take_length, List.take_of_length_le h]
    · rw [show Nat.min ys.length (j - i) = j - i from Nat.min_eq_right h]
  have hlen : (ys.take (Nat.min ys.length (j - i))).length = Nat.min ys.length (j - i) := by rw [List.length_take]; exact Nat.min_eq_left hmin
  rw [htk]
  generalize hm : Nat.min ys.length (j - i) = m at *
  obtain ⟨news, f1, f2⟩ := y2 m hmin
  rw [← hsi] at f1
  have hnl := f2.length
  rw [hlen] at hnl
  obtain ⟨cells, ⟨g1, g2⟩, h4, h5⟩ := S.objs l _ hml
  rcases g2 with ⟨g2, g3⟩ | ⟨b, cap', cur, g2, g3, g4, g5, g6, g7, g8⟩
  · rw [x1] at g2
    simp at g2
    obtain ⟨rfl, rfl, rfl⟩ := g2
    have hi0 : i = 0 := by omega
    have hj0 : j = 0 := by omega
    subst hi0 hj0
    have hm0 : m = 0 := by omega
    subst hm0
    have hn0 : news = [] := List.eq_nil_of_length_eq_zero (by simpa using hnl)
    subst hn0
    refine ⟨w, ?_, ?_⟩
    · simp only [x4]
      simp [Builtin.copy_, run_underlying hu, y1, sizeOf, typeInfo, e1, hm, f1, goInt]
    · have e0 : st.m.set l (.row e s (xs.take 0 ++ ys.take 0 ++ xs.drop (0 + 0))) = st.m := by
        apply List.ext_getElem?
        intro k
        rw [List.getElem?_set]
        split
        · rename_i hk; subst hk
          rw [hml, if_pos (List.getElem?_eq_some_iff.1 hml).1]
          simp
        · rfl
      rw [e0]
      exact S
  · rw [x1] at g2
    simp at g2
    obtain ⟨rfl, rfl, rfl⟩ := g2
    obtain ⟨p1, p2, p3, _, S'⟩ := S.putEls (i := i) hml x1 (by rw [hlen]; omega) f2
    rw [hlen] at S'
    have hst := run_storeCells_cells (P := P) b (i * s) news 0 w (fun k hk => by rw [Nat.add_zero]; exact (p1 k hk).1) (fun k hk => by rw [Nat.add_zero]; exact (p1 k hk).2) (RE.one f2)
    rw [Nat.add_zero] at hst
    refine ⟨_, ?_, S'⟩
    by_cases hc : cap = i
    · have hm0 : m = 0 := by omega
      subst hm0
      have hn0 : news = [] := List.eq_nil_of_length_eq_zero (by simpa using hnl)
      subst hn0
      have hji : j - i = 0 := by omega
      simp only [x4, if_pos hc]
      rw [hji] at hm ⊢
      simp [Builtin.copy_, run_underlying hu, y1, sizeOf, typeInfo, e1, hm, f1, goInt, storeCells, World.setCells]
    · simp only [x4, if_neg hc, Option.map_some, addr_add0]
      simp [Builtin.copy_, run_underlying hu, y1, sizeOf, typeInfo, e1, hm, f1, goInt, hst]
theorem Src.of_els {s : Nat} (S : SimW n w0 st a w ow hd) {y : Operand} {ys : List PV} {ls : List Nat} (h : Els st.m (ev st.f y) ys ls) (hf : ys.all (fits s) = true) : Src ow w s (a.eval y) ys := by
  obtain ⟨ad, cap, y1, y2⟩ := h.spec S
  refine ⟨ad, cap, y1, ?_⟩
  rcases y2 with rfl | ⟨b, off, sz, cells, k1, k2, k3⟩
  · exact .inl rfl
  · exact .inr ⟨b, off, cells, k1, k2, RE.resize k3 hf⟩
/-- a part of a private row as a source -/
theorem Src.of_ssl (S : SimW n w0 st a w ow hd) {y : Operand} {l e s p q : Nat} {xs : List PV} (hy : ev st.f y = .ssl l p q s) (hml : st.m[l]? = some (.row e s xs)) (hq : q ≤ xs.length) : Src ow w s (a.eval y) ((xs.take q).drop p) := by
  have hx := S.eval y
  rw [hy] at hx
  simp only [RF] at hx
  obtain ⟨hA, ad, N, cap, x1, x2, x3, x4⟩ := hx
  have hlen : ((xs.take q).drop p).length = q - p := by simp; omega
  refine ⟨_, _, by rw [hlen]; exact x4, ?_⟩
  obtain ⟨cells, ⟨g1, g2⟩, h4, h5⟩ := S.objs l _ hml
  rcases g2 with ⟨g2, g3⟩ | ⟨b, cap', cur, g2, g3, g4, g5, g6, g7, g8⟩
  · left; apply List.eq_nil_of_length_eq_zero; rw [hlen]; omega
  · rw [x1] at g2
    simp at g2
    obtain ⟨rfl, rfl, rfl⟩ := g2
    by_cases hc : cap = p
    · left; apply List.eq_nil_of_length_eq_zero; rw [hlen]; omega
    · refine .inr ⟨b, p * s, (cells.take (q * s)).drop (p * s), by rw [if_neg hc, Option.map_some, addr_add0], fun k u hk => ?_, RE.drop _ (RE.take _ h5)⟩
      rw [List.getElem?_drop, List.getElem?_take] at hk
      split at hk
      · rw [← g8, List.getElem?_take] at hk
        split at hk
        · unfold World.cell?
          simp only [g4]
          simpa using hk
        · cases hk
      · cases hk
end
section
variable {P : Program} {T : List TI} {α : Type} {f : α → PV} {L Y : List α} {t t' e e' s l l' i j p q : Nat} {x y : Operand} {ti : TI}
/-- a private row as the part of all of it -/
theorem srf_ssl {n : Nat} {w0 : Cx} {st : PS} {a : Act} {w : World} {ow : Ow} {hd : Nat → Value} (S : SimW n w0 st a w ow hd) {xs : List PV} {u : Value} (hx : RF (al st.m) hd ow w (.srf l) u) (hml : st.m[l]? = some (.row e s xs)) : RF (al st.m) hd ow w (.ssl l 0 xs.length s) u := by
  simp only [RF] at hx ⊢
  obtain ⟨h1, h2, _⟩ := hx
  obtain ⟨cells, ⟨g1, g2⟩, _⟩ := S.objs l _ hml
  rcases g2 with ⟨g2, g3⟩ | ⟨b, cap, cur, g2, g3, g4, g5, g6, g7, g8⟩
  · exact ⟨h1, none, 0, 0, g2, Nat.zero_le _, by omega, by rw [h2, g2, g3]; rfl⟩
  · exact ⟨h1, some ⟨b, 0, none⟩, xs.length, cap, g2, Nat.zero_le _, g5, by rw [h2, g2]; simp [Addr.add]⟩
theorem ext_copyB {vs : List FV} {m0 : List (Nat × PO)} {xs ys : List PV} (h1 : tsl T t = some (e, s)) (h2 : T[e]? = some ti) (hj : j ≤ xs.length) (hm0 : (l, .row e s xs) ∈ m0) (fy : FV) (hvs : vs = [.ssl l i j s, fy] ∨ vs = [.srf l, fy] ∧ i = 0 ∧ j = xs.length)
    (hs : ∀ (n : Nat) (w0 : Cx) (st : PS) (a : Act) (w : World) (ow : Ow) (hd : Nat → Value), SimW n w0 st a w ow hd → ev st.f y = fy → (∀ q ∈ m0, st.m[q.1]? = some q.2) → SrcB P ow w s (a.eval y) ys) :
    Ext P T (.call ⟨.builtin .copy, #[x, y], #[t, t']⟩) vs m0 (.d (.v (.int .i64 (Nat.min ys.length (j - i) : Nat)))) [(l, .row e s (xs.take i ++ ys.take (j - i) ++ xs.drop (i + Nat.min ys.length (j - i))))] := by
  intro n w0 st a w o hT hS ho hn hv hm K Q hK
  obtain ⟨ow, hd, hold, S⟩ := hS
  obtain ⟨d, op, ty, pos, af, gd⟩ := o
  simp only at ho hn hK
  subst ho
  have hml := hm _ hm0
  obtain ⟨hv1, hv2⟩ : RF (al st.m) hd ow w (.ssl l i j s) (a.eval x) ∧ ev st.f y = fy := by
    rcases hvs with hvs | ⟨hvs, rfl, rfl⟩
    · subst hvs
      simp [Op.operands, Call.operands] at hv
      exact ⟨by rw [← hv.1]; exact S.eval x, hv.2⟩
    · subst hvs
      simp [Op.operands, Call.operands] at hv
      refine ⟨srf_ssl S ?_ hml, hv.2⟩
      rw [← hv.1]; exact S.eval x
  obtain ⟨w', r1, S'⟩ := copy_core hT S (x := x) (y := y) (t' := t') h1 h2 hv1 hml hj (hs _ _ _ _ _ _ _ S hv2 hm) ty
  have hrun : (execOp a.eval ⟨d, .call ⟨.builtin .copy, #[x, y], #[t, t']⟩, ty, pos, af, gd⟩).run P w = .ok (.value (.int .i64 (Nat.min ys.length (j - i) : Nat))) w' := by
    simp [execOp, resolve, invoke, builtin, r1]
  unfold Oper.wp
  rw [hrun]
  exact hK _ _ ⟨ow, hd, hold, S'.put hn (x := .d (.v _)) (by simp only [RF, R]; exact ⟨trivial, rfl⟩)⟩
theorem ext_copy {vs : List FV} {m0 : List (Nat × PO)} {xs ys : List PV} (h1 : tsl T t = some (e, s)) (h2 : T[e]? = some ti) (hj : j ≤ xs.length) (hm0 : (l, .row e s xs) ∈ m0) (fy : FV) (hvs : vs = [.ssl l i j s, fy] ∨ vs = [.srf l, fy] ∧ i = 0 ∧ j = xs.length)
    (hs : ∀ (n : Nat) (w0 : Cx) (st : PS) (a : Act) (w : World) (ow : Ow) (hd : Nat → Value), SimW n w0 st a w ow hd → ev st.f y = fy → (∀ q ∈ m0, st.m[q.1]? = some q.2) → Src ow w s (a.eval y) ys) :
    Ext P T (.call ⟨.builtin .copy, #[x, y], #[t, t']⟩) vs m0 (.d (.v (.int .i64 (Nat.min ys.length (j - i) : Nat)))) [(l, .row e s (xs.take i ++ ys.take (j - i) ++ xs.drop (i + Nat.min ys.length (j - i))))] := by
  exact ext_copyB h1 h2 hj hm0 fy hvs fun n w0 st a w ow hd S hy hm => (hs n w0 st a w ow hd S hy hm).toB
/-- min and max of more than two -/
theorem xmin3 {z : Operand} {t1 t2 t3 : Nat} {k : IntKind} {a b c : Int} : Ext P T (.call ⟨.builtin .min, #[x, y, z], #[t1, t2, t3]⟩) [.d (.v (.int k a)), .d (.v (.int k b)), .d (.v (.int k c))] [] (.d (.v (.int k (minI (minI a b) c)))) [] := by
  intro n w0 st a' w o hT hS ho hn hv hm K Q hK
  obtain ⟨ow, hd, hold, S⟩ := hS
  obtain ⟨d, op, ty, pos, af, gd⟩ := o
  simp only at ho hn hK
  subst ho
  simp [Op.operands, Call.operands] at hv
  obtain ⟨e1, _⟩ := S.v hv.1
  obtain ⟨e2, _⟩ := S.v hv.2.1
  obtain ⟨e3, _⟩ := S.v hv.2.2
  have hrun : (execOp a'.eval ⟨d, .call ⟨.builtin .min, #[x, y, z], #[t1, t2, t3]⟩, ty, pos, af, gd⟩).run P w = .ok (.value (.int k (minI (minI a b) c))) w := by
    simp [execOp, resolve, invoke, builtin, e1, e2, e3, Builtin.min_, Builtin.min2, minI] <;> rfl
  exact wp_val hrun (hK _ _ ⟨ow, hd, hold, S.put hn (x := .d (.v _)) (by simp only [RF, R]; exact ⟨trivial, rfl⟩)⟩)
theorem xmax3 {z : Operand} {t1 t2 t3 : Nat} {k : IntKind} {a b c : Int} : Ext P T (.call ⟨.builtin .max, #[x, y, z], #[t1, t2, t3]⟩) [.d (.v (.int k a)), .d (.v (.int k b)), .d (.v (.int k c))] [] (.d (.v (.int k (maxI (maxI a b) c)))) [] := by
  intro n w0 st a' w o hT hS ho hn hv hm K Q hK
  obtain ⟨ow, hd, hold, S⟩ := hS
  obtain ⟨d, op, ty, pos, af, gd⟩ := o
  simp only at ho hn hK
  subst ho
  simp [Op.operands, Call.operands] at hv
  obtain ⟨e1, _⟩ := S.v hv.1
  obtain ⟨e2, _⟩ := S.v hv.2.1
  obtain ⟨e3, _⟩ := S.v hv.2.2
  have hrun : (execOp a'.eval ⟨d, .call ⟨.builtin .max, #[x, y, z], #[t1, t2, t3]⟩, ty, pos, af, gd⟩).run P w = .ok (.value (.int k (maxI (maxI a b) c))) w := by
    simp [execOp, resolve, invoke, builtin, e1, e2, e3, Builtin.max_, Builtin.max2, maxI] <;> rfl
  exact wp_val hrun (hK _ _ ⟨ow, hd, hold, S.put hn (x := .d (.v _)) (by simp only [RF, R]; exact ⟨trivial, rfl⟩)⟩)
end
end Go.Proofs.YtnkdanobhgofbaaGreatDoor.pv
