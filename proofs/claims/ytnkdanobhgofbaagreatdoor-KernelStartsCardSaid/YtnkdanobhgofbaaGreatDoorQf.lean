/- Each act of a pure run is what the machine does. -/
import Derived.Test.YtnkdanobhgofbaaGreatDoorQe
namespace Go.Proofs.YtnkdanobhgofbaaGreatDoor.pv
set_option linter.all false
open Go.RowKit

section
variable {P : Program} {T : List TI} {n : Nat} {w0 : Cx} {st : PS} {a : Act} {w : World} {ow : Ow} {hd : Nat → Value}

theorem SimW.d (S : SimW n w0 st a w ow hd) {x : Operand} {y : PV} (h : ev st.f x = .d y) : R ow w y (a.eval x) := by
  have := S.eval x; rw [h] at this; simpa only [RF] using this
theorem SimW.v (S : SimW n w0 st a w ow hd) {x : Operand} {y : Value} (h : ev st.f x = .d (.v y)) : a.eval x = y ∧ y.oneCell' = true := by
  have := S.d h; simp only [R] at this; exact this
theorem SimW.box (S : SimW n w0 st a w ow hd) {x : Operand} {l off : Nat} {cs : List FV} (h : ev st.f x = .ref l off) (hm : st.m[l]? = some (.box cs)) :
    ∃ (b : Nat) (vals : Array Value) (t : TypeId), hd l = .pointer (some ⟨b, 0, none⟩) ∧ a.eval x = .pointer (some ⟨b, off, none⟩) ∧ w0.New b ∧ ow b = true ∧ w.heap[b]? = some (.cells vals t (0, 0)) ∧ RFL (al st.m) hd ow w cs vals.toList := by
  have := S.eval x
  rw [h] at this
  simp only [RF] at this
  obtain ⟨_, b, h1, h2⟩ := this
  obtain ⟨b', vals, t, h3, h4, h5, h6, h7⟩ := S.objs l _ hm
  rw [h1] at h3
  simp at h3
  subst h3
  exact ⟨b, vals, t, h1, h2, h4, h5, h6, h7⟩
theorem SimW.row (S : SimW n w0 st a w ow hd) {x : Operand} {l ty sz i off : Nat} {xs : List PV} (h : ev st.f x = .ept l sz i off) (hm : st.m[l]? = some (.row ty sz xs)) :
    ∃ (b cap : Nat) (cur : Array Value) (cells : List Value), hd l = .slice (some ⟨b, 0, none⟩) xs.length cap ∧ a.eval x = .pointer (some ⟨b, i * sz + off, none⟩) ∧ w0.New b ∧ ow b = true ∧ w.heap[b]? = some (.cells cur ty (0, 0)) ∧
      xs.length ≤ cap ∧ cap ≤ maxLen ∧ cur.size = cap * sz ∧ cur.toList.take (xs.length * sz) = cells ∧ cells.length = xs.length * sz ∧ RE ow w sz xs cells := by
  have := S.eval x
  rw [h] at this
  simp only [RF] at this
  obtain ⟨_, b, nn, c, h1, h2⟩ := this
  obtain ⟨cells, ⟨g1, g2⟩, h4, h5⟩ := S.objs l _ hm
  rcases g2 with ⟨g2, _⟩ | ⟨g, cap, cur, g2, g3, g4, g5, g6, g7, g8⟩
  · rw [h1] at g2; simp at g2
  · rw [h1] at g2
    simp at g2
    obtain ⟨rfl, rfl, rfl⟩ := g2
    exact ⟨b, _, cur, cells, h1, h2, (h4 b (by rw [h1]; first | rfl | simp [blocksOf, blockOf])).1, (h4 b (by rw [h1]; first | rfl | simp [blocksOf, blockOf])).2, g4, g5, g6, g7, g8, g1, h5⟩
/-- an element of a private row, in its cells -/
theorem row_elem {sz i : Nat} {xs : List PV} {y : PV} {b : Nat} {cur : Array Value} {ty : TypeId} {cells : List Value} (hb : w.heap[b]? = some (.cells cur ty (0, 0))) (hc : cur.toList.take (xs.length * sz) = cells) (hr : RE ow w sz xs cells) (hy : xs[i]? = some y) (hf : fits sz y = true) :
    ∃ u : Value, u.cells.size = sz ∧ (∀ v ∈ u.cells.toList, v.oneCell' = true) ∧ RL ow w (pcells y) u.cells.toList ∧ w.rangeAt b (i * sz) u.cells.toList ∧ i < xs.length := by
  obtain ⟨u, k1, k2, k3, k4⟩ := hr.get i y hy
  have hlt : i < xs.length := (List.getElem?_eq_some_iff.1 hy).1
  refine ⟨u, k1, k2, R.cells k3 (fits_spec hf).1, fun q v hv => ?_, hlt⟩
  have hq : q < sz := by
    have := (List.getElem?_eq_some_iff.1 hv).1
    simpa [k1] using this
  rw [← k4 q hq, ← hc, List.getElem?_take] at hv
  split at hv
  · unfold World.cell?
    simp only [hb]
    simpa using hv
  · cases hv

section
theorem RE.resize {sz s : Nat} {xs : List PV} {cells : List Value} (h : RE ow w sz xs cells) (hf : xs.all (fits s) = true) : RE ow w s xs cells := by
  cases xs with
  | nil => simpa only [RE] using h
  | cons x xs =>
    have h' := h
    simp only [RE] at h
    obtain ⟨u, r, e, h0, h1, h2, h3⟩ := h
    simp only [List.all_cons, Bool.and_eq_true] at hf
    obtain ⟨f1, f2⟩ := fits_spec hf.1
    have : sz = s := by rw [← h0, R.size h2 f1, f2]
    subst this; exact h'
end
def isBS : Op → Bool
  | .buildSlice .. => true
  | _ => false
theorem str_und (hT : TOk P T) {t : Nat} (h1 : tk T t = some .str) : P.underlying t = some .string := by
  unfold tk at h1
  cases hq : T[t]? with
  | none => simp [hq] at h1
  | some ti =>
    obtain ⟨i, d, g1, g2, g3, g4, g5, _⟩ := hT.info hq
    simp [hq] at h1
    rw [h1] at g5
    cases d <;> simp [kOk] at g5
    exact g2
theorem bound_opt (S : SimW n w0 st a w ow hd) {o : Operand} {j : Int} {y : Nat} {code : BoundsCode} {df : Int} (h : optInt (ev st.f) df (some o) = some j) (h0 : 0 ≤ j) (h1 : j ≤ y) : (Instr.sliceBound (a.eval o) y code).run P w = .ok j.toNat w := by
  simp only [optInt] at h
  split at h
  · rename_i k j' hj
    simp at h; subst h
    obtain ⟨e1, _⟩ := S.v hj
    simp [e1, Instr.sliceBound, asIntOf]
    omega
  · cases h
theorem sliceBounds_opt (S : SimW n w0 st a w ow hd) {lo hi : Option Operand} {len cap : Nat} {i h : Int} (h4 : optInt (ev st.f) 0 lo = some i) (h5 : optInt (ev st.f) len hi = some h) (h6 : 0 ≤ i) (h7 : i ≤ h) (h8 : h ≤ cap) :
    (Instr.sliceBounds true len cap (lo.map a.eval) (hi.map a.eval) none).run P w = .ok (i.toNat, h.toNat, cap) w := by
  have hlo : (match lo.map a.eval with | some v => Instr.sliceBound v h.toNat .sliceB | none => pure 0 : Sem Nat).run P w = .ok i.toNat w := by
    cases lo with
    | none => simp [optInt] at h4; subst h4; rfl
    | some o => exact bound_opt S h4 h6 (by omega)
  have hhi : (match hi.map a.eval with | some v => Instr.sliceBound v cap .sliceAcap | none => pure len : Sem Nat).run P w = .ok h.toNat w := by
    cases hi with
    | none => simp [optInt] at h5; subst h5; simp
    | some o => exact bound_opt S h5 (by omega) (by omega)
  unfold Instr.sliceBounds
  cases hl : lo.map a.eval <;> cases hh : hi.map a.eval <;> rw [hl] at hlo <;> rw [hh] at hhi <;> simp_all
theorem sliceBounds_opt3 (S : SimW n w0 st a w ow hd) {lo : Option Operand} {ho mo : Operand} {len cap : Nat} {i h q df df' : Int} (h4 : optInt (ev st.f) 0 lo = some i) (h5 : optInt (ev st.f) df (some ho) = some h) (hq : optInt (ev st.f) df' (some mo) = some q) (h6 : 0 ≤ i) (h7 : i ≤ h) (h8 : h ≤ q) (h9 : q ≤ cap) :
    (Instr.sliceBounds true len cap (lo.map a.eval) ((some ho).map a.eval) (some (a.eval mo))).run P w = .ok (i.toNat, h.toNat, q.toNat) w := by
  have hlo : (match lo.map a.eval with | some v => Instr.sliceBound v h.toNat .slice3C | none => pure 0 : Sem Nat).run P w = .ok i.toNat w := by
    cases lo with
    | none => simp [optInt] at h4; subst h4; rfl
    | some o => exact bound_opt S h4 h6 (by omega)
  have hhi := bound_opt (P := P) (code := .slice3B) (y := q.toNat) S h5 (by omega) (by omega)
  have hmx := bound_opt (P := P) (code := .slice3Acap) (y := cap) S hq (by omega) (by omega)
  unfold Instr.sliceBounds
  cases hl : lo.map a.eval <;> rw [hl] at hlo <;> simp_all
/-- the acts that only compute: the value, in the world as it is -/
theorem act_val (hT : TOk P T) (S : SimW n w0 st a w ow hd) {d : Option Nat} {op : Op} {r : FV} {U : List (Nat × PO)} {F : List Nat} {nl : Nat} {ty : TypeId} {pos : String} {af : Array Edge} {gd : Option (Nat × Bool)}
    (h : PAct0 P T (ev st.f) st.m nl op r U F) (hc : ∀ c, op ≠ .call c) (hnb : isBS op = false) (hU : U = []) :
    ∃ v, (execOp a.eval ⟨d, op, ty, pos, af, gd⟩).run P w = .ok (.value v) w ∧ RF (al st.m) hd ow w r v := by
  cases h with
  | move x => exact ⟨a.eval x, rfl, S.eval x⟩
  | assign x => exact ⟨a.eval x, rfl, S.eval x⟩
  | pick c x y t hc' =>
    obtain ⟨e, _⟩ := S.v hc'
    refine ⟨if t then a.eval x else a.eval y, by simp [execOp, e, asBool], ?_⟩
    cases t
    · exact S.eval y
    · exact S.eval x
  | alloc => cases hU
  | box => cases hU
  | loadS t x l off cs r h1 h2 h3 h4 =>
    obtain ⟨b, vals, t', e1, e2, e3, e4, e5, e6⟩ := S.box h2 h3
    obtain ⟨u, hu, hr, _⟩ := e6.get off r h4
    exact ⟨u, by simp [execOp, e2, run_loadAt_one hT h1 (cell_of_block e5 hu)], hr⟩
  | loadA t x l off cs sz h1 h2 h3 h4 h5 =>
    obtain ⟨b, vals, t', e1, e2, e3, e4, e5, e6⟩ := S.box h3 h4
    have hl := (RFL.length e6)
    have hr := RFL.take sz (RFL.drop off e6)
    refine ⟨.agg ((vals.toList.drop off).take sz).toArray, ?_, RF.mkAgg hr⟩
    simp [execOp, e2, run_loadAt_agg hT h1 h2 (range_of_block e5 off sz) (by rw [List.length_take, List.length_drop, hl]; omega)]
  | loadIS t x off cs r h1 h2 h3 =>
    have := S.d h2
    simp only [R] at this
    obtain ⟨b, o, cells, e1, e2, e3, e4, e5⟩ := this
    obtain ⟨u, hu, hr, _⟩ := e5.get off r h3
    exact ⟨u, by simp [execOp, e1, run_loadAt_one hT h1 (e4 _ _ hu)], by simpa only [RF] using hr⟩
  | loadIA t x off cs sz h1 h2 h3 h4 =>
    have := S.d h3
    simp only [R] at this
    obtain ⟨b, o, cells, e1, e2, e3, e4, e5⟩ := this
    have hl := (RL.length e5)
    have hr := RL.take sz (RL.drop off e5)
    have hrange : w.rangeAt b (o + off) ((cells.drop off).take sz) := by
      intro j v hv
      rw [List.getElem?_take] at hv
      split at hv
      · rw [List.getElem?_drop] at hv
        have := e4 _ _ hv
        rw [Nat.add_assoc]; exact this
      · cases hv
    refine ⟨.agg ((cells.drop off).take sz).toArray, ?_, ?_⟩
    · simp [execOp, e1, run_loadAt_agg hT h1 h2 hrange (by rw [List.length_take, List.length_drop, hl]; omega)]
    · simp only [RF, R]; exact ⟨_, rfl, hr⟩
  | loadES t x l ty' sz i off xs y r h1 h2 h3 h4 h5 h6 =>
    obtain ⟨b, cap, cur, cells, e1, e2, e3, e4, e5, e6, e7, e8, e9, e10, e11⟩ := S.row h2 h3
    obtain ⟨u, k1, k2, k3, k4, k5⟩ := row_elem e5 e9 e11 h4 h5
    obtain ⟨v, hv, hr, _⟩ := k3.get off r h6
    exact ⟨v, by simp [execOp, e2, run_loadAt_one hT h1 (k4 _ _ hv)], by simpa only [RF] using hr⟩
  | loadEA t x l ty' sz i off xs y k h1 h2 h3 h4 h5 h6 h7 =>
    obtain ⟨b, cap, cur, cells, e1, e2, e3, e4, e5, e6, e7, e8, e9, e10, e11⟩ := S.row h3 h4
    obtain ⟨u, k1, k2, k3, k4, k5⟩ := row_elem e5 e9 e11 h5 h6
    have hr := RL.take k (RL.drop off k3)
    have hrange : w.rangeAt b (i * sz + off) ((u.cells.toList.drop off).take k) := by
      intro j v hv
      rw [List.getElem?_take] at hv
      split at hv
      · rw [List.getElem?_drop] at hv
        have := k4 _ _ hv
        rw [Nat.add_assoc]; exact this
      · cases hv
    refine ⟨.agg ((u.cells.toList.drop off).take k).toArray, ?_, ?_⟩
    · simp [execOp, e2, run_loadAt_agg hT h1 h2 hrange (by rw [List.length_take, List.length_drop, Array.length_toList, k1]; omega)]
    · simp only [RF, R]; exact ⟨_, rfl, hr⟩
  | store => cases hU
  | storeE => cases hU
  | fieldP s x f o ft l off h1 h2 =>
    have := S.eval x
    rw [h2] at this
    simp only [RF] at this
    obtain ⟨e0, b, e1, e2⟩ := this
    exact ⟨.pointer (some ⟨b, off + o, none⟩), by simp [execOp, e2, run_fieldAt hT h1], by simp only [RF]; exact ⟨e0, b, e1, rfl⟩⟩
  | fieldE s x f o ft l sz i off h1 h2 =>
    have := S.eval x
    rw [h2] at this
    simp only [RF] at this
    obtain ⟨e0, b, nn, c, e1, e2⟩ := this
    exact ⟨.pointer (some ⟨b, i * sz + off + o, none⟩), by simp [execOp, e2, run_fieldAt hT h1], by simp only [RF]; exact ⟨e0, b, nn, c, e1, by rw [Nat.add_assoc]⟩⟩
  | fieldI s x f o ft off cs h1 h2 =>
    have := S.d h2
    simp only [R] at this
    obtain ⟨b, o', cells, e1, e2, e3, e4, e5⟩ := this
    refine ⟨_, by simp [execOp, e1, run_fieldAt hT h1]; rfl, ?_⟩
    simp only [RF, R]
    exact ⟨b, o', cells, by rw [Nat.add_assoc], e2, e3, e4, e5⟩
  | fieldS s x f o ft cs r h1 h2 h3 h4 =>
    obtain ⟨vs, e1, e2⟩ := aggCells_spec h3 (S.eval x)
    obtain ⟨u, hu, hr, _⟩ := e2.get o r h4
    exact ⟨u, by simp [execOp, e1, run_field_one hT h1 h2 hu], hr⟩
  | fieldA s x f o ft cs sz h1 h2 h3 h4 h5 =>
    obtain ⟨vs, e1, e2⟩ := aggCells_spec h4 (S.eval x)
    have hl := RFL.length e2
    exact ⟨_, by simp [execOp, e1, run_field_agg hT h1 h2 h3 (by rw [hl]; exact h5)], RF.mkAgg (RFL.take sz (RFL.drop o e2))⟩
  | idxP t x i n' e s l off ik j h1 h2 h3 h4 h5 =>
    have := S.eval x
    rw [h2] at this
    simp only [RF] at this
    obtain ⟨e0, b, e1, e2⟩ := this
    obtain ⟨e3, _⟩ := S.v h3
    exact ⟨.pointer (some ⟨b, off + j.toNat * s, none⟩), by simp [execOp, e2, e3, run_indexAt_arr hT h1 h4 h5], by simp only [RF]; exact ⟨e0, b, e1, rfl⟩⟩
  | idxE t x i n' e s l sz q off ik j h1 h2 h3 h4 h5 =>
    have := S.eval x
    rw [h2] at this
    simp only [RF] at this
    obtain ⟨e0, b, nn, c, e1, e2⟩ := this
    obtain ⟨e3, _⟩ := S.v h3
    exact ⟨.pointer (some ⟨b, q * sz + off + j.toNat * s, none⟩), by simp [execOp, e2, e3, run_indexAt_arr hT h1 h4 h5], by simp only [RF]; exact ⟨e0, b, nn, c, e1, by rw [Nat.add_assoc]⟩⟩
  | idxI t x i n' e s off cs ik j h1 h2 h3 h4 h5 =>
    have := S.d h2
    simp only [R] at this
    obtain ⟨b, o', cells, e1, e2, e3, e4, e5⟩ := this
    obtain ⟨e6, _⟩ := S.v h3
    refine ⟨_, by simp [execOp, e1, e6, run_indexAt_arr hT h1 h4 h5]; rfl, ?_⟩
    simp only [RF, R]
    exact ⟨b, o', cells, by rw [Nat.add_assoc], e2, e3, e4, e5⟩
  | idxS t x i e s xs y ik j h1 h2 h3 h4 h5 h6 =>
    have := S.d h2
    simp only [R] at this
    obtain ⟨ad, cap, e1, e2, e3, e4⟩ := this
    obtain ⟨e6, _⟩ := S.v h3
    have hlt : j.toNat < xs.length := (List.getElem?_eq_some_iff.1 h5).1
    rcases e4 with e4 | ⟨b, off, sz, cells, rfl, g2, g3, g4, g5⟩
    · subst e4; simp at hlt
    obtain ⟨u, k1, k2, k3, k4⟩ := g5.get j.toNat y h5
    obtain ⟨f1, f2⟩ := fits_spec h6
    have hsz : sz = s := by rw [← k1, R.size k3 f1, f2]
    subst hsz
    refine ⟨_, by simp [execOp, e1, e6, run_indexAt_sl hT h1 h4 (show j < (xs.length : Int) by omega)]; rfl, ?_⟩
    simp only [RF, R]
    refine ⟨b, off + j.toNat * sz, u.cells.toList, rfl, g2, g3, fun q v hv => ?_, R.cells k3 f1⟩
    have hq : q < sz := by
      have := (List.getElem?_eq_some_iff.1 hv).1
      simpa [k1] using this
    rw [Nat.add_assoc]
    exact g4 _ _ (by rw [k4 q hq]; exact hv)
  | idxR t x i e s l xs ik j h1 h2 h3 h4 h5 h6 =>
    have := S.eval x
    rw [h2] at this
    simp only [RF] at this
    obtain ⟨e0, e1, _⟩ := this
    obtain ⟨e6, _⟩ := S.v h4
    obtain ⟨cells, ⟨g1, g2⟩, _, _⟩ := S.objs l _ h3
    rcases g2 with ⟨g2, g3⟩ | ⟨g, cap, cur, g2, _⟩
    · rw [g3] at h6; omega
    · rw [g2] at e1
      refine ⟨_, by simp [execOp, e1, e6, run_indexAt_sl hT h1 h5 (show j < (xs.length : Int) by omega)]; rfl, ?_⟩
      simp only [RF]
      exact ⟨e0, g, _, cap, g2, by simp⟩
  | idxVS t x i n' e s cs ik j r h1 h2 h3 h4 h5 h6 h7 =>
    obtain ⟨vs, e1, e2⟩ := aggCells_spec h3 (S.eval x)
    obtain ⟨e3, _⟩ := S.v h4
    obtain ⟨u, hu, hr, _⟩ := e2.get _ r h7
    exact ⟨u, by simp [execOp, e1, e3, run_index_one hT h1 h2 h5 h6 hu], hr⟩
  | idxVA t x i n' e s cs ik j h1 h2 h3 h4 h5 h6 h7 =>
    obtain ⟨vs, e1, e2⟩ := aggCells_spec h3 (S.eval x)
    obtain ⟨e3, _⟩ := S.v h4
    have hl := RFL.length e2
    exact ⟨_, by simp [execOp, e1, e3, run_index_agg hT h1 h2 h5 h6 (by rw [hl]; exact h7)], RF.mkAgg (RFL.take s (RFL.drop _ e2))⟩
  | extract x i cs r h1 h2 =>
    obtain ⟨us, e1, e2⟩ := tupCells_spec h1 (S.eval x)
    obtain ⟨u, hu, hr⟩ := e2.get i r h2
    exact ⟨u, by simp [execOp, e1, Instr.extract, hu], hr⟩
  | bin op t x y yt p q z h1 h2 h3 =>
    obtain ⟨e1, _⟩ := S.v h1
    obtain ⟨e2, _⟩ := S.v h2
    obtain ⟨e3, e4⟩ := pbin_run (P := P) (t := t) (xo := x) (yo := y) h3 w
    refine ⟨z, ?_, by simp only [RF, R]; exact ⟨trivial, e4⟩⟩
    simp only [execOp, e1, e2]
    rw [Sem.run_bind, e3]
    rfl
  | shl t x y yt k k' p q h1 h2 h3 =>
    obtain ⟨e1, _⟩ := S.v h1
    obtain ⟨e2, _⟩ := S.v h2
    refine ⟨_, by simp [execOp, e1, e2, eqGuard, binOp, Op.shift, Int.not_lt.2 h3]; rfl, by simp only [RF, R]; exact ⟨trivial, rfl⟩⟩
  | shr t x y yt k k' p q h1 h2 h3 =>
    obtain ⟨e1, _⟩ := S.v h1
    obtain ⟨e2, _⟩ := S.v h2
    refine ⟨_, by simp [execOp, e1, e2, eqGuard, binOp, Op.shift, Int.not_lt.2 h3]; rfl, by simp only [RF, R]; exact ⟨trivial, rfl⟩⟩
  | quo t x y yt k p q h1 h2 h3 =>
    obtain ⟨e1, _⟩ := S.v h1
    obtain ⟨e2, _⟩ := S.v h2
    refine ⟨_, by simp [execOp, e1, e2, eqGuard, binOp, Op.intDiv, h3]; rfl, by simp only [RF, R]; exact ⟨trivial, rfl⟩⟩
  | rem t x y yt k p q h1 h2 h3 =>
    obtain ⟨e1, _⟩ := S.v h1
    obtain ⟨e2, _⟩ := S.v h2
    refine ⟨_, by simp [execOp, e1, e2, eqGuard, binOp, Op.intDiv, h3]; rfl, by simp only [RF, R]; exact ⟨trivial, rfl⟩⟩
  | un op t x p z h1 h2 =>
    obtain ⟨e1, _⟩ := S.v h1
    obtain ⟨e3, e4⟩ := pun_run (P := P) h2 w
    refine ⟨z, by simp [execOp, e1, e3], by simp only [RF, R]; exact ⟨trivial, e4⟩⟩
  | conv s t x k k' ti q h1 h2 h3 =>
    obtain ⟨e1, _⟩ := S.v h3
    obtain ⟨ds, hds⟩ := Option.isSome_iff_exists.1 (t_und hT h1)
    refine ⟨_, by simp [execOp, e1, convert, run_underlying hds, run_underlying (tint_und hT h2), Conv.intToInt]; rfl, by simp only [RF, R]; exact ⟨trivial, rfl⟩⟩
  | len => exact absurd rfl (hc _)
  | min2 => exact absurd rfl (hc _)
  | lenStr => exact absurd rfl (hc _)
  | lenSS => exact absurd rfl (hc _)
  | moveC => cases hU
  | sliceS t x lo hi e s l xs i h h1 h2 h3 h4 h5 h6 h7 h8 =>
    have hx := S.eval x
    rw [h2] at hx
    simp only [RF] at hx
    obtain ⟨hx0, hx1, _⟩ := hx
    obtain ⟨cells, g1, g2, g3⟩ := S.objs l _ h3
    obtain ⟨ad, nn, cap, hx2⟩ : ∃ ad nn cap, hd l = .slice ad nn cap := by
      rcases g1.2 with ⟨q1, _⟩ | ⟨g, cap', cur, q1, _⟩
      · exact ⟨_, _, _, q1⟩
      · exact ⟨_, _, _, q1⟩
    have hnn : nn = xs.length ∧ xs.length ≤ cap := by
      rcases g1.2 with ⟨q1, q2⟩ | ⟨g, cap', cur, q1, _, _, q4, _⟩
      · rw [hx2] at q1; simp at q1; omega
      · rw [hx2] at q1; simp at q1; obtain ⟨_, rfl, rfl⟩ := q1; exact ⟨rfl, q4⟩
    obtain ⟨rfl, hcap⟩ := hnn
    obtain ⟨hu, hs⟩ := tsl_und hT h1
    have hb := sliceBounds_opt (P := P) (w := w) S h4 h5 h6 h7 (show h ≤ cap by omega)
    refine ⟨.slice (if cap = i.toNat then ad else ad.map (·.add (i.toNat * s))) (h.toNat - i.toNat) (cap - i.toNat), ?_, ?_⟩
    · simp [execOp, Instr.sliceAt, Instr.slice, run_underlying hu, hx1, hx2, hb, tsz_run hT hs]
    · simp only [RF]
      exact ⟨hx0, ad, _, cap, hx2, by omega, by omega, rfl⟩
  | sliceSS t x lo hi e s l k xs i h h1 h2 h3 h4 h5 h6 h7 h8 =>
    have hx := S.eval x
    rw [h2] at hx
    simp only [RF] at hx
    obtain ⟨hx0, ad, nn, cap, hx2, _, hkc, hx1⟩ := hx
    obtain ⟨cells, g1, g2, g3⟩ := S.objs l _ h3
    have hnn : nn = xs.length ∧ xs.length ≤ cap := by
      rcases g1.2 with ⟨q1, q2⟩ | ⟨g, cap', cur, q1, _, _, q4, _⟩
      · rw [hx2] at q1; simp at q1; omega
      · rw [hx2] at q1; simp at q1; obtain ⟨_, rfl, rfl⟩ := q1; exact ⟨rfl, q4⟩
    obtain ⟨rfl, hcap⟩ := hnn
    have had : (if cap = 0 then ad else ad.map (·.add (0 * s))) = ad := by
      split
      · rfl
      · cases ad with
        | none => rfl
        | some p => simp [Addr.add]
    rw [had, Nat.sub_zero, Nat.sub_zero] at hx1
    obtain ⟨hu, hs⟩ := tsl_und hT h1
    have hb := sliceBounds_opt (P := P) (w := w) S h4 h5 h6 h7 (show h ≤ cap by omega)
    refine ⟨.slice (if cap = i.toNat then ad else ad.map (·.add (i.toNat * s))) (h.toNat - i.toNat) (cap - i.toNat), ?_, ?_⟩
    · simp [execOp, Instr.sliceAt, Instr.slice, run_underlying hu, hx1, hb, tsz_run hT hs]
    · simp only [RF]
      exact ⟨hx0, ad, _, cap, hx2, by omega, by omega, rfl⟩
  | slice3 t x lo hi mx h0 e s l xs i h q hh h1 h2 h3 h4 h5 hq h6 h7 h8 h9 =>
    have hx := S.eval x
    rw [h2] at hx
    simp only [RF] at hx
    obtain ⟨hx0, hx1, _⟩ := hx
    obtain ⟨cells, g1, g2, g3⟩ := S.objs l _ h3
    obtain ⟨ad, nn, cap, hx2⟩ : ∃ ad nn cap, hd l = .slice ad nn cap := by
      rcases g1.2 with ⟨q1, _⟩ | ⟨g, cap', cur, q1, _⟩
      · exact ⟨_, _, _, q1⟩
      · exact ⟨_, _, _, q1⟩
    have hnn : nn = xs.length ∧ xs.length ≤ cap := by
      rcases g1.2 with ⟨q1, q2⟩ | ⟨g, cap', cur, q1, _, _, q4, _⟩
      · rw [hx2] at q1; simp at q1; omega
      · rw [hx2] at q1; simp at q1; obtain ⟨_, rfl, rfl⟩ := q1; exact ⟨rfl, q4⟩
    obtain ⟨rfl, hcap⟩ := hnn
    obtain ⟨hu, hs⟩ := tsl_und hT h1
    subst hh
    have hb := sliceBounds_opt3 (P := P) (w := w) (len := xs.length) S h4 h5 hq h6 h7 h8 (show q ≤ cap by omega)
    refine ⟨.slice (if q.toNat = i.toNat then ad else ad.map (·.add (i.toNat * s))) (h.toNat - i.toNat) (q.toNat - i.toNat), ?_, by simp only [RF]⟩
    simp only [Option.map_some] at hb
    simp [execOp, Instr.sliceAt, Instr.slice, run_underlying hu, hx1, hx2, hb, tsz_run hT hs]
  | idxStr t x i s ik j b h1 h2 h3 h4 h5 =>
    obtain ⟨e1, _⟩ := S.v h2
    obtain ⟨e2, _⟩ := S.v h3
    exact ⟨.int .u8 b.toNat, by simp [execOp, e1, e2, Instr.index, asIntOf, run_underlying (str_und hT h1), h4, h5], by simp only [RF, R]; exact ⟨trivial, rfl⟩⟩
  | max2 => exact absurd rfl (hc _)
  | build t parts ti pl cs h1 h2 h3 h4 =>
    obtain ⟨vals, k1, k2⟩ := built_of (A := al st.m) (hd := hd) hT h1 h2 h3 h4 (ow := ow) (w := w) (parts.toList.map fun p => (p.1, a.eval p.2)) (by
      refine ⟨by simp, fun j p q hp hq => ?_⟩
      rw [List.getElem?_map] at hq hp
      cases hpj : parts.toList[j]? with
      | none => simp [hpj] at hq
      | some pr =>
        simp [hpj] at hq hp
        subst hq hp
        exact ⟨rfl, S.eval pr.2⟩)
    refine ⟨.agg vals, ?_, ?_⟩
    · have := run_build (P := P) w t (parts.map fun p => (p.1, a.eval p.2)) vals (by simpa using k1)
      simp [execOp, this]
    · have := RF.mkAgg k2; simpa using this
  | makeFunc g caps cs h1 h2 =>
    refine ⟨.func (.func g) #[] (caps.map a.eval), by simp [execOp, Instr.makeFunc], ?_⟩
    have : RFL (al st.m) hd ow w cs (caps.toList.map a.eval) := by
      subst h1
      have go : ∀ (l : List Operand), (l.map (ev st.f)).all oneFV = true → RFL (al st.m) hd ow w (l.map (ev st.f)) (l.map a.eval) := by
        intro l
        induction l with
        | nil => intro _; simp [RFL]
        | cons x l ih =>
          intro h
          simp only [List.map_cons, List.all_cons, Bool.and_eq_true] at h
          simp only [List.map_cons, RFL]
          exact ⟨_, _, rfl, S.eval x, RF.one h.1 (S.eval x), ih h.2⟩
      exact go _ h2
    have := RF.mkClo (f := g) this
    have e : (caps.toList.map a.eval).toArray = caps.map a.eval := by apply Array.toList_inj.1; simp
    rw [e] at this
    exact this
  | binB op t x y yt p q h1 h2 h3 h4 =>
    obtain ⟨e1, _⟩ := S.v h3
    obtain ⟨e2, _⟩ := S.v h4
    have hu : P.underlying t = some .bool := by
      unfold tk at h1
      cases hq : T[t]? with
      | none => simp [hq] at h1
      | some ti =>
        obtain ⟨i, d, g1, g2, g3, g4, g5, _⟩ := hT.info hq
        simp [hq] at h1
        rw [h1] at g5
        cases d <;> simp [kOk] at g5
        exact g2
    refine ⟨.bool (eqRes op (p == q)), ?_, by simp only [RF, R]; exact ⟨trivial, rfl⟩⟩
    have he : (Op.equal t (.bool p) (.bool q)).run P w = .ok (p == q) w := by
      show (Op.equalIn (_ + 1) t (.bool p) (.bool q)).run P w = _
      rw [Op.equalIn, Sem.run_bind, run_underlying hu]
      rfl
    have h6 : (do eqGuard op t x y (.bool p) (.bool q); binOp op t (.bool p) (.bool q) : Sem Value).run P w = .ok (.bool (eqRes op (p == q))) w := by
      cases op <;> simp [eqlOp] at h2 <;> simp [eqGuard, binOp, he, eqRes]
    simp only [execOp, e1, e2]
    rw [Sem.run_bind, h6]
    rfl
  | binA op t x y yt xs ys us vs z h1 h2 h3 h4 h5 h6 =>
    have pl : ∀ (xs : List PV) (us vs : List Value), plain xs = some us → RL ow w xs vs → vs = us := by
      intro xs
      induction xs with
      | nil => intro us vs h h'; simp [plain] at h; simp only [RL] at h'; rw [h, h']
      | cons x xs ih =>
        intro us vs h h'
        cases x with
        | v x =>
          simp [plain] at h
          obtain ⟨r, h, rfl⟩ := h
          simp only [RL, R] at h'
          obtain ⟨v, r', rfl, ⟨rfl, _⟩, _, h'⟩ := h'
          rw [ih _ _ h h']
        | _ => simp [plain] at h
    have e1 := S.d h2
    have e2 := S.d h3
    simp only [R] at e1 e2
    obtain ⟨us', e1, r1⟩ := e1
    obtain ⟨vs', e2, r2⟩ := e2
    rw [pl _ _ _ h4 r1] at e1
    rw [pl _ _ _ h5 r2] at e2
    refine ⟨.bool (eqRes op z), ?_, by simp only [RF, R]; exact ⟨trivial, rfl⟩⟩
    have := h6 op x y w h1
    simp only [execOp, e1, e2]
    rw [Sem.run_bind, this]
    rfl
  | nilC x h1 =>
    refine ⟨a.eval x, ?_, S.eval x⟩
    have := S.eval x
    cases hx : ev st.f x with
    | ref l off => rw [hx] at this; simp only [RF] at this; obtain ⟨_, b, _, e⟩ := this; simp [execOp, e]
    | ept l sz i off => rw [hx] at this; simp only [RF] at this; obtain ⟨_, b, _, _, _, e⟩ := this; simp [execOp, e]
    | clo f cs => rw [hx] at this; simp only [RF] at this; obtain ⟨vs, e, _⟩ := this; simp [execOp, e]
    | d y =>
      rw [hx] at this h1
      simp only [RF] at this
      cases y with
      | iptr cs off => simp only [R] at this; obtain ⟨b, o, cells, e, _⟩ := this; simp [execOp, e]
      | clo f cs => simp only [R] at this; obtain ⟨vs, e, _⟩ := this; simp [execOp, e]
      | ifc t z => simp only [R] at this; obtain ⟨v, e, _⟩ := this; simp [execOp, e]
      | vp g i o => simp only [R] at this; obtain ⟨_, _, e⟩ := this; simp [execOp, e]
      | _ => simp [ptrLike] at h1
    | _ => rw [hx] at h1; simp [ptrLike] at h1
  | bslice => cases hU
  | mkSl => cases hU
  | appz => simp at hU
  | sliceD t x lo hi e s xs l h h1 h2 h3 h4 h5 h6 h7 h8 =>
    have hx := S.d h2
    simp only [R] at hx
    obtain ⟨ad, cap, ex, g1, g2, g3⟩ := hx
    obtain ⟨hu, hs⟩ := tsl_und hT h1
    have hlo : (match lo.map a.eval with | some v => Instr.sliceBound v h.toNat .sliceB | none => pure 0 : Sem Nat).run P w = .ok l.toNat w := by
      cases lo with
      | none => simp [optInt] at h3; subst h3; rfl
      | some o =>
        simp only [optInt] at h3
        split at h3
        · rename_i k j hj
          simp at h3; subst h3
          obtain ⟨e1, _⟩ := S.v hj
          simp [e1, Instr.sliceBound, asIntOf]
          omega
        · cases h3
    have hhi : (match hi.map a.eval with | some v => Instr.sliceBound v cap .sliceAcap | none => pure xs.length : Sem Nat).run P w = .ok h.toNat w := by
      cases hi with
      | none => simp [optInt] at h4; subst h4; simp
      | some o =>
        simp only [optInt] at h4
        split at h4
        · rename_i k j hj
          simp at h4; subst h4
          obtain ⟨e1, _⟩ := S.v hj
          simp [e1, Instr.sliceBound, asIntOf]
          omega
        · cases h4
    have hb : (Instr.sliceBounds true xs.length cap (lo.map a.eval) (hi.map a.eval) none).run P w = .ok (l.toNat, h.toNat, cap) w := by
      unfold Instr.sliceBounds
      cases hl : lo.map a.eval <;> cases hh : hi.map a.eval <;> rw [hl] at hlo <;> rw [hh] at hhi <;> simp_all
    refine ⟨.slice (if cap = l.toNat then ad else ad.map (·.add (l.toNat * s))) (h.toNat - l.toNat) (cap - l.toNat), ?_, ?_⟩
    · simp [execOp, Instr.sliceAt, Instr.slice, run_underlying hu, ex, hb, tsz_run hT hs]
    · simp only [RF, R]
      have hlen : ((xs.take h.toNat).drop l.toNat).length = h.toNat - l.toNat := by simp; omega
      refine ⟨_, _, by rw [hlen], by rw [hlen]; omega, by omega, ?_⟩
      by_cases he : h.toNat = l.toNat
      · left; apply List.eq_nil_of_length_eq_zero; omega
      · right
        rcases g3 with g3 | ⟨b, off, sz, cells, rfl, k1, k2, k3, k4⟩
        · rw [g3] at h7; simp at h7; omega
        · have k5 := k4.resize h8
          have k6 := RE.drop l.toNat (RE.take h.toNat k5)
          refine ⟨b, off + l.toNat * s, s, _, ?_, k1, k2, ?_, k6⟩
          · rw [if_neg (by omega)]; simp [Addr.add_mid]
          · intro j v hv
            rw [List.getElem?_drop, List.getElem?_take] at hv
            split at hv
            · have := k3 _ _ hv
              rw [Nat.add_assoc]; exact this
            · cases hv
  | sliceR => cases hU
  | bsliceD => simp [isBS] at hnb
  | capN => exact absurd rfl (hc _)
  | appendZ => exact absurd rfl (hc _)
  | sliceN t x lo hi e s h1 h2 h3 h4 =>
    obtain ⟨ex, _⟩ := S.v h2
    obtain ⟨hu, hs⟩ := tsl_und hT h1
    have hlo : (match lo.map a.eval with | some v => Instr.sliceBound v 0 .sliceB | none => pure 0 : Sem Nat).run P w = .ok 0 w := by
      cases lo with
      | none => rfl
      | some o =>
        simp only [optInt] at h3
        split at h3
        · rename_i k j hj
          simp at h3; subst h3
          obtain ⟨e1, _⟩ := S.v hj
          simp [e1, Instr.sliceBound, asIntOf]
        · cases h3
    have hhi : (match hi.map a.eval with | some v => Instr.sliceBound v 0 .sliceAcap | none => pure 0 : Sem Nat).run P w = .ok 0 w := by
      cases hi with
      | none => rfl
      | some o =>
        simp only [optInt] at h4
        split at h4
        · rename_i k j hj
          simp at h4; subst h4
          obtain ⟨e1, _⟩ := S.v hj
          simp [e1, Instr.sliceBound, asIntOf]
        · cases h4
    have hb : (Instr.sliceBounds true 0 0 (lo.map a.eval) (hi.map a.eval) none).run P w = .ok (0, 0, 0) w := by
      unfold Instr.sliceBounds
      cases hl : lo.map a.eval <;> cases hh : hi.map a.eval <;> rw [hl] at hlo <;> rw [hh] at hhi <;> simp_all
    exact ⟨.slice none 0 0, by simp [execOp, Instr.sliceAt, Instr.slice, run_underlying hu, ex, hb, tsz_run hT hs], by simp only [vnil, RF, R]; exact ⟨trivial, rfl⟩⟩
  | bslice0 => cases hU
  | callH => exact absurd rfl (hc _)
  | eqNil op t x y yt z h1 h2 h3 h4 =>
    obtain ⟨b, n', c, e1, e2⟩ := nilness_spec h3 (S.eval x)
    obtain ⟨e3, _⟩ := S.v h4
    obtain ⟨e, hu⟩ := tslB_und hT h2
    have he : (Op.equal t (.slice b n' c) (.slice none 0 0)).run P w = .ok z w := by
      show (Op.equalIn (_ + 1) t (.slice b n' c) (.slice none 0 0)).run P w = _
      rw [Op.equalIn, Sem.run_bind, run_underlying hu]
      cases b with
      | none => simp at e2; subst e2; rfl
      | some b => simp at e2; subst e2; rfl
    refine ⟨.bool (eqRes op z), ?_, by simp only [RF, R]; exact ⟨trivial, rfl⟩⟩
    have h6 : (do eqGuard op t x y (.slice b n' c) (.slice none 0 0); binOp op t (.slice b n' c) (.slice none 0 0) : Sem Value).run P w = .ok (.bool (eqRes op z)) w := by
      cases op <;> simp [eqlOp] at h1 <;> simp [eqGuard, binOp, he, eqRes]
    simp only [execOp, e1, e3]
    rw [Sem.run_bind, h6]
    rfl
  | idxA t x i e s l off k c ag ik j h1 h2 h3 h4 h5 =>
    have := S.eval x
    rw [h2] at this
    simp only [RF] at this
    obtain ⟨e0, b, e1, e2, _, _⟩ := this
    obtain ⟨e6, _⟩ := S.v h3
    refine ⟨_, by simp [execOp, e2, e6, run_indexAt_sl hT h1 h4 h5]; rfl, ?_⟩
    simp only [RF]
    exact ⟨e0, b, e1, rfl⟩
  | sliceA t x lo hi n' e s l off ag i h h1 h2 h3 h4 h5 h6 h7 h8 h9 h10 =>
    have hx := S.eval x
    rw [h3] at hx
    simp only [RF] at hx
    obtain ⟨e0, b, e1, e2⟩ := hx
    obtain ⟨hu, hs⟩ := tarr_und hT h1
    have hlo : (match lo.map a.eval with | some v => Instr.sliceBound v h.toNat .sliceB | none => pure 0 : Sem Nat).run P w = .ok i.toNat w := by
      cases lo with
      | none => simp [optInt] at h4; subst h4; rfl
      | some o =>
        simp only [optInt] at h4
        split at h4
        · rename_i k j hj
          simp at h4; subst h4
          obtain ⟨e1, _⟩ := S.v hj
          simp [e1, Instr.sliceBound, asIntOf]
          omega
        · cases h4
    have hhi : (match hi.map a.eval with | some v => Instr.sliceBound v n' .sliceAlen | none => pure n' : Sem Nat).run P w = .ok h.toNat w := by
      cases hi with
      | none => simp [optInt] at h5; subst h5; simp
      | some o =>
        simp only [optInt] at h5
        split at h5
        · rename_i k j hj
          simp at h5; subst h5
          obtain ⟨e1, _⟩ := S.v hj
          simp [e1, Instr.sliceBound, asIntOf]
          omega
        · cases h5
    have hb : (Instr.sliceBounds false n' n' (lo.map a.eval) (hi.map a.eval) none).run P w = .ok (i.toNat, h.toNat, n') w := by
      unfold Instr.sliceBounds
      cases hl : lo.map a.eval <;> cases hh : hi.map a.eval <;> rw [hl] at hlo <;> rw [hh] at hhi <;> simp_all
    refine ⟨.slice (some ⟨b, off + i.toNat * s, none⟩) (h.toNat - i.toNat) (n' - i.toNat), ?_, ?_⟩
    · have hne : ¬ n' = i.toNat := by omega
      simp [execOp, Instr.sliceAt, run_underlying hu, e2, Instr.sureAddr, hb, tsz_run hT hs, hne, Addr.add_mid]
    · simp only [RF]
      exact ⟨e0, b, e1, rfl, by omega, by omega⟩
  | call => exact absurd rfl (hc _)
  | callF => exact absurd rfl (hc _)
  | append => exact absurd rfl (hc _)
end
end Go.Proofs.YtnkdanobhgofbaaGreatDoor.pv
