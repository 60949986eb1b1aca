/- Small machine facts for the acts: loads, stores, fields, indexes, built values, append. -/
import Derived.Test.YtnkdanobhgofbaaGreatDoorQd
namespace Go.Proofs.YtnkdanobhgofbaaGreatDoor.pv
set_option linter.all false
open Go.RowKit

theorem setCells_other (b : Nat) : ∀ (vs : List Value) (o : Nat) (w : World) (k : Nat), k ≠ b → (w.setCells b o vs).heap[k]? = w.heap[k]?
  | [], _, _, _, _ => rfl
  | v :: r, o, w, k, h => by rw [World.setCells, setCells_other b r (o + 1) _ k h, Below.heap_setCell _ _ _ _ h]
theorem setCells_size (b : Nat) : ∀ (vs : List Value) (o : Nat) (w : World), (w.setCells b o vs).heap.size = w.heap.size
  | [], _, _ => rfl
  | v :: r, o, w => by rw [World.setCells, setCells_size b r (o + 1)]; simp [World.setCell]
theorem setCells_below (b B : Nat) (hb : B ≤ b) : ∀ (vs : List Value) (o : Nat) (w : World), Below B w (w.setCells b o vs)
  | [], _, _ => Below.refl _ _
  | v :: r, o, w => by
    rw [World.setCells]
    exact ((Below.refl B w).setCell (p := ⟨b, o, none⟩) hb v).trans (setCells_below b B hb r (o + 1) _)
theorem setCells_block (b : Nat) (t : TypeId) (fr : Nat × Nat) : ∀ (vs : List Value) (o : Nat) (w : World) (cur : Array Value), w.heap[b]? = some (.cells cur t fr) → o + vs.length ≤ cur.size →
    ∃ cur' : Array Value, (w.setCells b o vs).heap[b]? = some (.cells cur' t fr) ∧ cur'.toList = cur.toList.take o ++ vs ++ cur.toList.drop (o + vs.length) ∧ cur'.size = cur.size
  | [], o, w, cur, h, _ => ⟨cur, h, by simp, rfl⟩
  | v :: r, o, w, cur, h, hl => by
    simp only [List.length_cons] at hl
    have h1 : (w.setCell ⟨b, o, none⟩ v).heap[b]? = some (.cells (cur.setIfInBounds o v) t fr) := by simp [World.setCell, Array.getElem?_modify, h]
    obtain ⟨cur', e1, e2, e3⟩ := setCells_block b t fr r (o + 1) _ _ h1 (by simp; omega)
    refine ⟨cur', e1, ?_, by rw [e3]; simp⟩
    rw [e2]
    have hlt : o < cur.toList.length := by simp; omega
    simp only [Array.toList_setIfInBounds, List.length_cons]
    rw [List.take_set, List.drop_set, if_pos (by omega), List.take_succ_eq_append_getElem hlt, List.set_append_right _ _ (by simp; omega)]
    simp
    have e : min o cur.size = o := by simp at hlt; omega
    rw [e]
    simp
    congr 1
    omega
theorem there_of_block {w : World} {b : Nat} {vals : Array Value} {t : TypeId} (h : w.heap[b]? = some (.cells vals t (0, 0))) {off k : Nat} (hl : off + k ≤ vals.size) : w.there b off k := by
  intro j hj
  unfold World.cell? World.frozen?
  simp only [h]
  constructor
  · have : off + j < vals.size := by omega
    simp [this]
  · simp

section
variable {P : Program} {T : List TI} {n : Nat} {w0 : Cx} {st : PS} {a : Act} {w : World} {ow : Ow} {hd : Nat → Value} {A : Nat → Bool}
theorem wp_val {o : Oper} {a : Act} {w : World} {v : Value} {K : Act → World → Prop} {Q : Exit → Act → World → Prop} (hrun : (execOp a.eval o).run P w = .ok (.value v) w) (h : K (a.put o.dst v) w) : o.wp P a w K Q := by
  unfold Oper.wp; rw [hrun]; exact h
mutual
theorem R.flat {ow ow' : Ow} {w w' : World} : ∀ (x : PV) (u : Value), flat x = true → R ow w x u → R ow' w' x u
  | .v _, _, _, h => by simpa only [R] using h
  | .sl _, _, hf, _ => by simp [pv.flat] at hf
  | .iptr _ _, _, hf, _ => by simp [pv.flat] at hf
  | .clo _ _, _, hf, _ => by simp [pv.flat] at hf
  | .ifc _ _, _, hf, _ => by simp [pv.flat] at hf
  | .vp _ _ _, _, hf, _ => by simp [pv.flat] at hf
  | .vm _ _, _, hf, _ => by simp [pv.flat] at hf
  | .agg cs, u, hf, h => by
    simp only [R] at h ⊢
    obtain ⟨vs, e, h1⟩ := h
    exact ⟨vs, e, RL.flat cs vs (by simpa [pv.flat] using hf) h1⟩
  | .tup cs, u, hf, h => by
    simp only [R] at h ⊢
    obtain ⟨vs, e, h1⟩ := h
    exact ⟨vs, e, RT.flat cs vs (by simpa [pv.flat] using hf) h1⟩
theorem RL.flat {ow ow' : Ow} {w w' : World} : ∀ (xs : List PV) (us : List Value), flatL xs = true → RL ow w xs us → RL ow' w' xs us
  | [], _, _, h => by simpa only [RL] using h
  | x :: xs, us, hf, h => by
    simp only [RL] at h ⊢
    simp only [flatL, Bool.and_eq_true] at hf
    obtain ⟨v, r, e, h1, h2, h3⟩ := h
    exact ⟨v, r, e, R.flat x v hf.1 h1, h2, RL.flat xs r hf.2 h3⟩
theorem RT.flat {ow ow' : Ow} {w w' : World} : ∀ (xs : List PV) (us : List Value), flatL xs = true → RT ow w xs us → RT ow' w' xs us
  | [], _, _, h => by simpa only [RT] using h
  | x :: xs, us, hf, h => by
    simp only [RT] at h ⊢
    simp only [flatL, Bool.and_eq_true] at hf
    obtain ⟨v, r, e, h1, h3⟩ := h
    exact ⟨v, r, e, R.flat x v hf.1 h1, RT.flat xs r hf.2 h3⟩
end

theorem range_of_block {b : Nat} {vals : Array Value} {t : TypeId} (h : w.heap[b]? = some (.cells vals t (0, 0))) (off sz : Nat) : w.rangeAt b off ((vals.toList.drop off).take sz) := by
  intro j v hv
  unfold World.cell?
  simp only [h]
  rw [List.getElem?_take] at hv
  split at hv
  · rw [List.getElem?_drop] at hv
    simpa using hv
  · cases hv
theorem cell_of_block {b : Nat} {vals : Array Value} {t : TypeId} (h : w.heap[b]? = some (.cells vals t (0, 0))) {off : Nat} {v : Value} (hv : vals.toList[off]? = some v) : w.cell? ⟨b, off, none⟩ = some v := by
  unfold World.cell?
  simp only [h]
  simpa using hv
theorem run_loadAt_one (h : TOk P T) {t b off : Nat} {v : Value} (ht : tagg T t = some false) (hc : w.cell? ⟨b, off, none⟩ = some v) : (Instr.loadAt t (.pointer (some ⟨b, off, none⟩))).run P w = .ok v w := by
  simp [Instr.loadAt, Instr.sureAddr, loadVar, Sem.run_bind, tagg_run h ht, load, Sem.run, hc]
theorem run_loadAt_agg (h : TOk P T) {t b off sz : Nat} {vs : List Value} (ht : tagg T t = some true) (hs : tsz T t = some sz) (hc : w.rangeAt b off vs) (hl : vs.length = sz) : (Instr.loadAt t (.pointer (some ⟨b, off, none⟩))).run P w = .ok (.agg vs.toArray) w := by
  obtain ⟨d, hu, hd⟩ := tagg_und h ht
  exact run_loadAt_mid w b off t vs d hc hu hd (by rw [tsz_info h hs, hl])
theorem run_storeAt_any (hT : TOk P T) {t b off : Nat} {v : Value} (hs : tsz T t = some v.cells.size) (ht : w.there b off v.cells.size) (h1 : ∀ x ∈ v.cells.toList, x.oneCell' = true) :
    (Instr.storeAt t (.pointer (some ⟨b, off, none⟩)) v).run P w = .ok () (w.setCells b off v.cells.toList) := by
  have := run_storeCells_cells (P := P) b off v.cells.toList 0 w (fun j hj => by simpa using (ht j (by simpa using hj)).1) (fun j hj => by simpa using (ht j (by simpa using hj)).2) h1
  simp only [Nat.add_zero] at this
  simp [Instr.storeAt, Instr.sureAddr, storeVar, tsz_run hT hs, this]

theorem run_fieldAt (hT : TOk P T) {s f o ft b off : Nat} (h : tfo T s f = some (o, ft)) : (Instr.fieldAt s (.pointer (some ⟨b, off, none⟩)) f).run P w = .ok (.pointer (some ⟨b, off + o, none⟩)) w := by
  obtain ⟨fs, fd, z, h1, h2, h3, h4, h5⟩ := tfo_und hT h
  subst h3 h4
  simp [Instr.fieldAt, run_underlying h1, h2, Instr.sureAddr, fieldPlace, tsz_run hT h5, Addr.add_mid]
theorem run_indexAt_arr (hT : TOk P T) {t n e s b off : Nat} {ik : IntKind} {j : Int} (h : tarr T t = some (n, e, s)) (h0 : 0 ≤ j) (h1 : j < n) :
    (Instr.indexAt t (.pointer (some ⟨b, off, none⟩)) (.int ik j)).run P w = .ok (.pointer (some ⟨b, off + j.toNat * s, none⟩)) w := by
  obtain ⟨h2, h3⟩ := tarr_und hT h
  simp [Instr.indexAt, run_underlying h2, Instr.sureAddr, asIntOf, h0, h1, tsz_run hT h3, Addr.add_mid]
theorem run_indexAt_sl (hT : TOk P T) {t e s b off len cap : Nat} {ik : IntKind} {j : Int} (h : tsl T t = some (e, s)) (h0 : 0 ≤ j) (h1 : j < len) :
    (Instr.indexAt t (.slice (some ⟨b, off, none⟩) len cap) (.int ik j)).run P w = .ok (.pointer (some ⟨b, off + j.toNat * s, none⟩)) w := by
  obtain ⟨h2, h3⟩ := tsl_und hT h
  simp [Instr.indexAt, run_underlying h2, asIntOf, h0, h1, tsz_run hT h3, Addr.add_mid]
theorem run_part_one (hT : TOk P T) {t off : Nat} {cs : List Value} {v : Value} (ht : tagg T t = some false) (hv : cs[off]? = some v) : (part t cs.toArray off).run P w = .ok v w := by
  simp [part, Sem.run_bind, tagg_run hT ht, hv]
theorem run_field_one (hT : TOk P T) {s f o ft : Nat} {cs : List Value} {v : Value} (h : tfo T s f = some (o, ft)) (ht : tagg T ft = some false) (hv : cs[o]? = some v) : (Instr.field s (.agg cs.toArray) f).run P w = .ok v w := by
  obtain ⟨fs, fd, z, h1, h2, h3, h4, _⟩ := tfo_und hT h
  subst h3 h4
  simp [Instr.field, run_underlying h1, h2, asAgg, run_part_one hT ht hv]

theorem foldl_set (off : Nat) : ∀ (new : List Value) (k : Nat) (cs : Array Value), off + k + new.length ≤ cs.size →
    ((new.zipIdx k).foldl (fun (cs : Array Value) (p : Value × Nat) => cs.setIfInBounds (off + p.2) p.1) cs).toList = cs.toList.take (off + k) ++ new ++ cs.toList.drop (off + k + new.length)
  | [], k, cs, h => by simp
  | v :: new, k, cs, h => by
    rw [List.zipIdx_cons, List.foldl_cons, foldl_set off new (k + 1) _ (by simp at h ⊢; omega)]
    simp only [Array.toList_setIfInBounds, List.length_cons]
    simp only [List.length_cons] at h
    have hlt : off + k < cs.toList.length := by simp; omega
    rw [show off + (k + 1) = off + k + 1 by omega]
    rw [List.take_set, List.drop_set, if_pos (by omega), List.take_succ_eq_append_getElem hlt, List.set_append_right _ _ (by simp; omega)]
    simp
    have e : min (off + k) cs.size = off + k := by simp at hlt; omega
    rw [e]
    simp
    congr 1
    omega
theorem run_part_agg (hT : TOk P T) {t off sz : Nat} {cs : List Value} (ht : tagg T t = some true) (hs : tsz T t = some sz) (hl : off + sz ≤ cs.length) : (part t cs.toArray off).run P w = .ok (.agg ((cs.drop off).take sz).toArray) w := by
  have he : (cs.toArray.extract off (off + sz)) = ((cs.drop off).take sz).toArray := by
    apply Array.toList_inj.1
    simp [List.extract_eq_take_drop]
  simp [part, Sem.run_bind, tagg_run hT ht, tsz_run hT hs, he, hl]
theorem run_field_agg (hT : TOk P T) {s f o ft sz : Nat} {cs : List Value} (h : tfo T s f = some (o, ft)) (ht : tagg T ft = some true) (hs : tsz T ft = some sz) (hl : o + sz ≤ cs.length) : (Instr.field s (.agg cs.toArray) f).run P w = .ok (.agg ((cs.drop o).take sz).toArray) w := by
  obtain ⟨fs, fd, z, h1, h2, h3, h4, _⟩ := tfo_und hT h
  subst h3 h4
  simp [Instr.field, run_underlying h1, h2, asAgg, run_part_agg hT ht hs hl]
theorem run_index_one (hT : TOk P T) {t n e s : Nat} {ik : IntKind} {j : Int} {cs : List Value} {v : Value} (h : tarr T t = some (n, e, s)) (ht : tagg T e = some false) (h0 : 0 ≤ j) (h1 : j < n) (hv : cs[j.toNat * s]? = some v) :
    (Instr.index t (.agg cs.toArray) (.int ik j)).run P w = .ok v w := by
  obtain ⟨h2, h3⟩ := tarr_und hT h
  simp [Instr.index, asIntOf, run_underlying h2, h0, h1, tsz_run hT h3, run_part_one hT ht hv]
theorem run_index_agg (hT : TOk P T) {t n e s : Nat} {ik : IntKind} {j : Int} {cs : List Value} (h : tarr T t = some (n, e, s)) (ht : tagg T e = some true) (h0 : 0 ≤ j) (h1 : j < n) (hl : j.toNat * s + s ≤ cs.length) :
    (Instr.index t (.agg cs.toArray) (.int ik j)).run P w = .ok (.agg ((cs.drop (j.toNat * s)).take s).toArray) w := by
  obtain ⟨h2, h3⟩ := tarr_und hT h
  simp [Instr.index, asIntOf, run_underlying h2, h0, h1, tsz_run hT h3, run_part_agg hT ht h3 hl]
theorem splice_RFL {cs new : List FV} {vs us : List Value} (off : Nat) (h : RFL A hd ow w cs vs) (h' : RFL A hd ow w new us) : RFL A hd ow w (splice cs off new) (vs.take off ++ us ++ vs.drop (off + us.length)) := by
  unfold splice
  have hl := h'.length
  rw [hl]
  exact ((h.take off).append h').append (h.drop _)
theorem splice_RL {cs new : List PV} {vs us : List Value} (off : Nat) (h : RL ow w cs vs) (h' : RL ow w new us) : RL ow w (splice cs off new) (vs.take off ++ us ++ vs.drop (off + us.length)) := by
  unfold splice
  have hl := h'.length
  rw [hl]
  exact ((h.take off).append h').append (h.drop _)
theorem fill_RFL {pl : Nat → Option (Nat × Nat)} : ∀ (ps : List (Nat × FV)) (qs : List (Nat × Value)) (cs cs' : List FV) (vals : Array Value), pfill pl cs ps = some cs' → RFL A hd ow w cs vals.toList →
    (qs.length = ps.length ∧ ∀ (j : Nat) (p : Nat × FV) (q : Nat × Value), ps[j]? = some p → qs[j]? = some q → p.1 = q.1 ∧ RF A hd ow w p.2 q.2) → ∃ vals' : Array Value, Instr.fill pl vals qs = some vals' ∧ RFL A hd ow w cs' vals'.toList
  | [], qs, cs, cs', vals, h, hr, hq => by
    simp [pfill] at h; subst h
    have : qs = [] := List.eq_nil_of_length_eq_zero (by simpa using hq.1)
    subst this
    exact ⟨vals, rfl, hr⟩
  | (i, x) :: ps, qs, cs, cs', vals, h, hr, hq => by
    cases qs with
    | nil => simp at hq
    | cons q qs =>
      obtain ⟨hq1, hq2⟩ := hq
      have h0 := hq2 0 (i, x) q rfl rfl
      obtain ⟨e1, e2⟩ := h0
      obtain ⟨i', v⟩ := q
      simp only at e1 e2
      subst e1
      simp only [pfill] at h
      split at h
      · rename_i o s zs hpl hz
        cases hb : (Nat.beq zs.length s && Nat.ble (o + zs.length) cs.length) with
        | false => rw [hb] at h; simp at h
        | true =>
          rw [hb] at h
          simp only [cond_true] at h
          simp only [Bool.and_eq_true] at hb
          obtain ⟨b1, b2⟩ := hb
          have b1 := Nat.eq_of_beq_eq_true b1
          have b2 := Nat.le_of_ble_eq_true b2
          have hcells := RF.cells e2 hz
          have hsz := hcells.length
          simp only [Array.length_toList] at hsz
          have hlen := hr.length
          simp only [Array.length_toList] at hlen
          have hf := foldl_set o v.cells.toList 0 vals (by simp; omega)
          have hnext := splice_RFL o hr hcells
          simp only [Nat.add_zero, Array.length_toList] at hf
          simp only [Array.length_toList] at hnext
          have hfold : (v.cells.zipIdx.foldl (fun cs (c, j) => cs.setIfInBounds (o + j) c) vals).toList = vals.toList.take o ++ v.cells.toList ++ vals.toList.drop (o + v.cells.size) := by
            rw [← Array.foldl_toList, Array.toList_zipIdx]; exact hf
          rw [← hfold] at hnext
          obtain ⟨vals', k1, k2⟩ := fill_RFL ps qs _ cs' _ h hnext ⟨by simpa using hq1, fun j p q hp hq => hq2 (j + 1) p q (by simpa using hp) (by simpa using hq)⟩
          refine ⟨vals', ?_, k2⟩
          simp only [Instr.fill, hpl]
          rw [if_neg (by simp; omega)]
          exact k1
      · cases h
theorem tpl_mapM (hT : TOk P T) : ∀ (fs : List Field) (q : List (Nat × Nat)), tpl T (fs.map fun f => (f.offset, f.type)) = some q → fs.mapM (fun f => (P.info? f.type).map fun i => (f.offset, i.size)) = some q
  | [], q, h => by simp [tpl] at h; subst h; rfl
  | f :: fs, q, h => by
    simp only [List.map_cons, tpl] at h
    split at h
    · rename_i s l h1 h2
      simp at h
      subst h
      have hi := tsz_info hT h1
      cases hq : P.info? f.type with
      | none => simp [hq] at hi
      | some i =>
        simp [hq] at hi
        simp [List.mapM_cons, hq, hi, tpl_mapM hT fs l h2]
    · cases h
theorem zero_RFL {z : Value} {zs : List Z} (h : zsOk z.cells.toList zs = true) : RFL A hd ow w (zs.map fun z => FV.d z.pv) z.cells.toList := by
  obtain ⟨z1, z2⟩ := zsOk_pv h
  have := RFL.of_RL (A := A) (hd := hd) (ofCells_RL (ow := ow) (w := w) _ z2)
  rw [z1, List.map_map] at this
  exact this
theorem built_of (hT : TOk P T) {t : Nat} {ti : TI} {pl : Nat → Option (Nat × Nat)} {ps : List (Nat × FV)} {cs : List FV} (h1 : T[t]? = some ti) (h2 : ti.zero ≠ []) (h3 : tplaces T t = some pl) (h4 : pfill pl (ti.zero.map fun z => .d z.pv) ps = some cs)
    (qs : List (Nat × Value)) (hq : qs.length = ps.length ∧ ∀ (j : Nat) (p : Nat × FV) (q : Nat × Value), ps[j]? = some p → qs[j]? = some q → p.1 = q.1 ∧ RF A hd ow w p.2 q.2) : ∃ vals : Array Value, P.built t qs = some vals ∧ RFL A hd ow w cs vals.toList := by
  obtain ⟨i, d, e1, e2, e3, e4, e5, e6⟩ := hT.info h1
  obtain ⟨z, hz, e6⟩ := e6 h2
  · skip
    obtain ⟨vals, k1, k2⟩ := fill_RFL ps qs _ cs z.cells h4 (zero_RFL e6) hq
    refine ⟨vals, ?_, k2⟩
    unfold tplaces tk at h3
    rw [h1] at h3
    simp only [Option.map_some] at h3
    unfold Program.built
    cases hk : ti.kind <;> rw [hk] at h3 e5 <;> simp at h3
    case arr n' e =>
      obtain ⟨s, hs, rfl⟩ := h3
      cases d <;> simp [kOk] at e5
      obtain ⟨rfl, rfl⟩ := e5
      have hi := tsz_info hT hs
      rename_i ne ee
      cases hq' : P.info? ee with
      | none => simp [hq'] at hi
      | some ie =>
        simp [hq'] at hi
        simp only [e1, e2, hz, hq', hi]
        exact k1
    case st l =>
      obtain ⟨q, hq', rfl⟩ := h3
      cases d <;> simp [kOk] at e5
      rename_i fs
      rw [← e5] at hq'
      have hm := tpl_mapM hT fs.toList q hq'
      simp only [e1, e2, hz, hm]
      simpa using k1
theorem fits_spec {s : Nat} {x : PV} (h : fits s x = true) : isTup x = false ∧ psz x = s := by
  simp only [fits, Bool.and_eq_true, Bool.not_eq_true'] at h
  exact ⟨h.1, Nat.eq_of_beq_eq_true h.2⟩
theorem aggCells_spec {x : FV} {cs : List FV} {u : Value} (h : aggCells x = some cs) (hr : RF A hd ow w x u) : ∃ vs : List Value, u = .agg vs.toArray ∧ RFL A hd ow w cs vs := by
  unfold aggCells at h
  split at h
  · simp at h; subst h
    simp only [RF, R] at hr
    obtain ⟨vs, e, hr⟩ := hr
    exact ⟨vs, e, RFL.of_RL hr⟩
  · simp at h; subst h
    simpa only [RF] using hr
  · cases h
theorem tupCells_spec {x : FV} {cs : List FV} {u : Value} (h : tupCells x = some cs) (hr : RF A hd ow w x u) : ∃ vs : List Value, u = .tuple vs.toArray ∧ RFT A hd ow w cs vs := by
  unfold tupCells at h
  split at h
  · simp at h; subst h
    simp only [RF, R] at hr
    obtain ⟨vs, e, hr⟩ := hr
    exact ⟨vs, e, RFT.of_RT hr⟩
  · simp at h; subst h
    simpa only [RF] using hr
  · cases h
theorem RF.one {x : FV} {u : Value} (h : oneFV x = true) (hr : RF A hd ow w x u) : u.oneCell' = true := by
  cases x with
  | d y =>
    simp only [RF] at hr
    cases y with
    | v z => simp only [R] at hr; rw [hr.1]; exact hr.2
    | sl _ => simp only [R] at hr; obtain ⟨_, _, rfl, _⟩ := hr; rfl
    | agg _ => simp [oneFV] at h
    | tup _ => simp [oneFV] at h
    | iptr _ _ => simp only [R] at hr; obtain ⟨_, _, _, rfl, _⟩ := hr; rfl
    | clo _ _ => simp only [R] at hr; obtain ⟨_, rfl, _⟩ := hr; rfl
    | ifc _ _ => simp only [R] at hr; obtain ⟨_, rfl, _⟩ := hr; rfl
    | vp _ _ _ => simp only [R] at hr; obtain ⟨_, _, rfl⟩ := hr; rfl
    | vm _ _ => simp only [R] at hr; obtain ⟨_, _, rfl⟩ := hr; rfl
  | agg _ => simp [oneFV] at h
  | tup _ => simp [oneFV] at h
  | ref _ _ => simp only [RF] at hr; obtain ⟨_, _, _, rfl⟩ := hr; rfl
  | ept _ _ _ _ => simp only [RF] at hr; obtain ⟨_, _, _, _, _, rfl⟩ := hr; rfl
  | asl _ _ _ _ _ _ => simp only [RF] at hr; obtain ⟨_, _, _, rfl, _⟩ := hr; rfl
  | ssl _ _ _ _ => simp only [RF] at hr; obtain ⟨_, _, _, _, _, _, _, rfl⟩ := hr; rfl
  | srf _ => simp only [RF] at hr; obtain ⟨_, rfl, h3⟩ := hr; exact h3
  | clo _ _ => simp only [RF] at hr; obtain ⟨_, rfl, _⟩ := hr; rfl
  | ifc _ _ => simp only [RF] at hr; obtain ⟨_, rfl, _⟩ := hr; rfl
  | dead => simp [oneFV] at h
theorem RF.mkClo {f : FuncId} {cs : List FV} {vs : List Value} (h : RFL A hd ow w cs vs) : RF A hd ow w (pv.mkClo f cs) (.func (.func f) #[] vs.toArray) := by
  unfold pv.mkClo
  split
  · rename_i xs hx
    rw [allD_eq hx] at h
    simp only [RF, R]
    exact ⟨vs, rfl, RFL.to_RL h⟩
  · simp only [RF]
    exact ⟨vs, rfl, h⟩
/-- cells that are a value's -/
theorem R_of_cells {y : PV} {cells : List Value} (h : RL ow w (pcells y) cells) (ht : isTup y = false) : ∃ u : Value, u.cells.toList = cells ∧ R ow w y u := by
  cases y with
  | tup _ => simp [isTup] at ht
  | agg cs => exact ⟨.agg cells.toArray, by simp [Value.cells], by simp only [R]; exact ⟨cells, rfl, h⟩⟩
  | _ =>
    simp only [pcells, RL] at h
    obtain ⟨v, r, rfl, h1, h2, rfl⟩ := h
    have : v.cells = #[v] := by cases v <;> simp_all [Value.cells, Value.oneCell']
    exact ⟨v, by rw [this], h1⟩
/-- an element changed -/
theorem RE.set {sz : Nat} : ∀ {xs : List PV} {cells : List Value} (i : Nat) (y' : PV) (u' : Value), RE ow w sz xs cells → i < xs.length → u'.cells.size = sz → (∀ v ∈ u'.cells.toList, v.oneCell' = true) → R ow w y' u' →
    RE ow w sz (xs.set i y') (cells.take (i * sz) ++ u'.cells.toList ++ cells.drop (i * sz + sz))
  | [], cells, i, y', u', h, hi, _, _, _ => by simp at hi
  | x :: xs, cells, 0, y', u', h, hi, h1, h2, h3 => by
    simp only [RE] at h
    obtain ⟨u, r, rfl, g0, g1, g2, g3⟩ := h
    simp only [List.set_cons_zero, RE]
    refine ⟨u', r, ?_, h1, h2, h3, g3⟩
    have hl : u.cells.toList.length = sz := by simpa using g0
    simp [List.drop_append, hl]
  | x :: xs, cells, i + 1, y', u', h, hi, h1, h2, h3 => by
    simp only [RE] at h
    obtain ⟨u, r, rfl, g0, g1, g2, g3⟩ := h
    simp only [List.set_cons_succ, RE]
    refine ⟨u, r.take (i * sz) ++ u'.cells.toList ++ r.drop (i * sz + sz), ?_, g0, g1, g2, RE.set i y' u' g3 (by simpa using hi) h1 h2 h3⟩
    have hl : u.cells.toList.length = sz := by simpa using g0
    rw [List.take_append, List.drop_append, hl, List.take_of_length_le (l := u.cells.toList) (by rw [hl, Nat.succ_mul]; omega), List.drop_of_length_le (l := u.cells.toList) (by rw [hl, Nat.succ_mul]; omega)]
    have e1 : (i + 1) * sz - sz = i * sz := by rw [Nat.succ_mul]; omega
    have e2 : (i + 1) * sz + sz - sz = i * sz + sz := by rw [Nat.succ_mul]; omega
    rw [e1, e2]
    simp
theorem run_append_none (base : Nat) (t ty e : TypeId) (i : TypeInfo) (size c : Nat) (ht : P.underlying t = some (.slice e)) (hi : P.info? e = some i)
    (v : Value) (n : Nat) (xs : List Value) (hown : w.ownsRow base e size v n xs) :
    (Builtin.append_ #[t, t] ty #[v, .slice none 0 c]).run P w = .ok v w := by
  rcases hown.2 with ⟨rfl, rfl⟩ | ⟨g, cap, cur, rfl, _, _, hnc, _⟩
  · simp [Builtin.append_, run_underlying ht, sizeOf, typeInfo, hi, Builtin.lenOf, Builtin.firstCells]
  · simp [Builtin.append_, run_underlying ht, sizeOf, typeInfo, hi, Builtin.lenOf, Builtin.firstCells, hnc, storeCells]
theorem nilness_spec {x : FV} {z : Bool} {u : Value} (h : nilness x = some z) (hr : RF A hd ow w x u) : ∃ (b : Option Addr) (n c : Nat), u = .slice b n c ∧ b.isNone = z := by
  unfold nilness at h
  split at h
  · simp at h; subst h
    simp only [RF, R] at hr
    exact ⟨_, _, _, hr.1, rfl⟩
  · simp at h; subst h
    simp only [RF, R] at hr
    exact ⟨_, _, _, hr.1, rfl⟩
  · simp at h; subst h
    simp only [RF, R] at hr
    obtain ⟨a, cap, e, _, _, h⟩ := hr
    rcases h with h | ⟨b, off, sz, cells, ha, _⟩
    · cases h
    · exact ⟨_, _, _, e, by rw [ha]; rfl⟩
  · cases h
theorem tslB_und (hT : TOk P T) {t : Nat} (h : tsl? T t = true) : ∃ e, P.underlying t = some (.slice e) := by
  unfold tsl? at h
  split at h
  · rename_i e hl
    unfold tk at hl
    cases hq : T[t]? with
    | none => simp [hq] at hl
    | some ti =>
      obtain ⟨i, d, h1, h2, h3, h4, h5, _⟩ := hT.info hq
      simp [hq] at hl
      rw [hl] at h5
      cases d <;> simp [kOk] at h5
      subst h5
      exact ⟨_, h2⟩
  · cases h
end
end Go.Proofs.YtnkdanobhgofbaaGreatDoor.pv
