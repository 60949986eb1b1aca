/- The interpreter's operations are acts: maps (continued). -/
import Derived.Test.YtmjkechkdfobgaaVO
namespace Go.Proofs.Ytmjkechkdfobgaa.pv
set_option linter.all false
open Go.RowKit Go.MapKept
/-- where a map lies, as a value -/
structure MAt (S : Prop) (fm : FV) (l : Nat) (o : PO) (a b : Ty) (D : List (a.den × b.den)) (o' : List (a.den × b.den) → PO) : Prop where
  at' : ∀ {n : Nat} {w0 : Cx} {st : PS} {ac : Act} {w : World} {ow : Ow} {hd : Nat → Value} {x : Operand}, SimW n w0 st ac w ow hd → ev st.f x = fm → st.m[l]? = some o →
    ∃ blk clock es, ac.eval x = .map (some blk) ∧ w.heap[blk]? = some (.map es clock) ∧ EnL a b ow w D es.toList ∧ Stp es.toList clock ∧
      ∀ (es' : Array MapEntry) (clock' : Nat) (D' : List (a.den × b.den)), EnL a b ow w D' es'.toList → Stp es'.toList clock' → SimW n w0 ⟨st.f, st.m.set l (o' D')⟩ ac { w with heap := w.heap.setIfInBounds blk (.map es' clock') } ow hd
theorem mat_own {l : Nat} {a b : Ty} {D : List (a.den × b.den)} : MAt True (.srf l) l (.cu (mpC a b D) []) a b D (fun D => .cu (mpC a b D) []) := by
  refine ⟨fun {n w0 st ac w ow hd x} S hx hm => ?_⟩
  have hro := S.objs l _ hm
  obtain ⟨g1, vs, g2, blk, q1, clock, es, q2, q3, q4⟩ := hro
  have hv := S.eval x
  rw [hx] at hv
  simp only [RF] at hv
  refine ⟨blk, clock, es, hv.2.1.trans q1, q2, q3, q4, fun es' clock' D' h1 h2 => ?_⟩
  obtain ⟨h3, h4⟩ := heap_set (o' := .map es' clock') q2
  have hbl : blk ∈ blocksOf (hd l) := by rw [q1]; simp [blocksOf, blockOf]
  obtain ⟨hnw, how⟩ := g1 blk hbl
  have hbel : Below 0 w { w with heap := w.heap.setIfInBounds blk (.map es' clock') } := ⟨rfl, rfl, rfl, by simp, fun j hj => by omega⟩
  have hk : Kp ow w ow { w with heap := w.heap.setIfInBounds blk (.map es' clock') } := ⟨by simp, fun _ _ h => h, fun j _ hj => h4 j (fun e => by rw [e, how] at hj; cases hj)⟩
  exact S.set (l := l) (b := blk) (o' := .cu (mpC a b D') []) hm rfl rfl hbl h4 (by simp) (Kt.of_one hbel hnw h4)
    ⟨g1, [], by simp [RFL], blk, q1, clock', es', h3, EnL.mono hk _ _ h1, h2⟩
theorem mat_grp {l g i : Nat} {a b : Ty} {Ds : List (List (a.den × b.den))} {D : List (a.den × b.den)} (hD : Ds[i]? = some D) : MAt True (.d (.vm g i)) l (.cu (amC g a b Ds) []) a b D (fun D => .cu (amC g a b (Ds.set i D)) []) := by
  refine ⟨fun {n w0 st ac w ow hd x} S hx hm => ?_⟩
  have hv := S.d hx
  simp only [R] at hv
  obtain ⟨blk, hb, hv⟩ := hv
  obtain ⟨c, hc, hP, hbl, hnw, how⟩ := S.arAt hm hb
  rw [List.getElem?_map, hD] at hc
  cases hc
  obtain ⟨clock, es, q2, q3, q4⟩ := hP
  refine ⟨blk, clock, es, hv, q2, q3, q4, fun es' clock' D' h1 h2 => ?_⟩
  obtain ⟨h3, h4⟩ := heap_set (o' := .map es' clock') q2
  have hbel : Below 0 w { w with heap := w.heap.setIfInBounds blk (.map es' clock') } := ⟨rfl, rfl, rfl, by simp, fun j hj => by omega⟩
  have hk : Kp ow w ow { w with heap := w.heap.setIfInBounds blk (.map es' clock') } := ⟨by simp, fun _ _ h => h, fun j _ hj => h4 j (fun e => by rw [e, how] at hj; cases hj)⟩
  have := S.arSet (c' := mapBC a b D') hm hb h4 (by simp) (Kt.of_one hbel hnw h4) ⟨clock', es', h3, EnL.mono hk _ _ h1, h2⟩
  have e : arC g ((List.map (fun D => mapBC a b D) Ds).set i (mapBC a b D')) = amC g a b (Ds.set i D') := by unfold amC; rw [List.map_set]
  rw [e] at this
  exact this
section
variable {P : Program} {T : List TI} {a b : Ty} {t kt et l : Nat} {fm : FV} {o : PO} {D : List (a.den × b.den)} {o' : List (a.den × b.den) → PO}
/-- what a look finds -/
def lookF (q : PV) (found c : Bool) : FV := if c then .tup [.d q, .d (.v (.bool found))] else .d q
theorem lookF_RF {A : Nat → Bool} {hd : Nat → Value} {ow : Ow} {w : World} {q : PV} {u : Value} {found c : Bool} (h : R ow w q u) : RF A hd ow w (lookF q found c) (if c then .tuple #[u, .bool found] else u) := by
  unfold lookF
  cases c
  · simp only [Bool.false_eq_true, if_false, RF]; exact h
  · simp only [if_true, RF, RFT]
    exact ⟨_, rfl, _, _, rfl, h, _, _, rfl, by simp only [R]; exact ⟨trivial, rfl⟩, rfl⟩
theorem ext_look (M : MAt True fm l o a b D o') (hu : P.underlying t = some (.map kt et)) (hk : keyB P kt a = true) {z : XV} (hz : zX b = some z) (h1 : cdB T et b = true) (h2 : zshB P et b = true) {x y : Operand} (k : a.den) (c : Bool) {q : PV}
    (hq : match mlook (eqT a) D k with | some y => q = (rep b y).pv | none => q = (rep z.t z.x).pv) : Ext P T (.lookup t x y c) [fm, .d (.v (keyV a k))] [(l, o)] (lookF q (mlook (eqT a) D k).isSome c) [] := by
  intro n w0 st ac w oo hT hS ho hn hv hm K Q hK
  obtain ⟨ow, hd, hold, S⟩ := hS
  obtain ⟨dst, op, ty, pos, af, gd⟩ := oo
  simp only at ho hn hK
  subst ho
  simp [Op.operands] at hv
  obtain ⟨blk, clock, es, e1, e2, e3, e4, _⟩ := M.at' S hv.1 (hm (l, o) (by simp))
  obtain ⟨e5, _⟩ := S.v hv.2
  obtain ⟨u, r1, r2⟩ := look_run hT hu hk hz h1 h2 e2 e3 k c
  have hrun : (execOp ac.eval ⟨dst, .lookup t x y c, ty, pos, af, gd⟩).run P w = .ok (.value (if c then .tuple #[u, .bool (mlook (eqT a) D k).isSome] else u)) w := by
    simp only [execOp, e1, e5, Sem.run_bind, r1, Result.andThen_ok, Sem.run_pure]
  refine wp_val' hrun (hK _ _ ⟨ow, hd, hold, S.put hn (lookF_RF ?_)⟩)
  cases hp : mlook (eqT a) D k with
  | none => rw [hp] at r2 hq; rw [hq]; exact r2
  | some y => rw [hp] at r2 hq; rw [hq]; exact r2
theorem ext_lookN (hu : P.underlying t = some (.map kt et)) (hk : keyB P kt a = true) {z : XV} (hz : zX b = some z) (h1 : cdB T et b = true) (h2 : zshB P et b = true) {x y : Operand} (k : a.den) (c : Bool) : Ext P T (.lookup t x y c) [.d (.v (.map none)), .d (.v (keyV a k))] [] (lookF (rep z.t z.x).pv false c) [] := by
  intro n w0 st ac w oo hT hS ho hn hv hm K Q hK
  obtain ⟨ow, hd, hold, S⟩ := hS
  obtain ⟨dst, op, ty, pos, af, gd⟩ := oo
  simp only at ho hn hK
  subst ho
  simp [Op.operands] at hv
  obtain ⟨e1, _⟩ := S.v hv.1
  obtain ⟨e5, _⟩ := S.v hv.2
  obtain ⟨u, r1, r2⟩ := look_nil_run (P := P) (T := T) (ow := ow) (w := w) hT hu hk hz h1 h2 k c
  have hrun : (execOp ac.eval ⟨dst, .lookup t x y c, ty, pos, af, gd⟩).run P w = .ok (.value (if c then .tuple #[u, .bool false] else u)) w := by
    simp only [execOp, e1, e5, Sem.run_bind, r1, Result.andThen_ok, Sem.run_pure]
  exact wp_val' hrun (hK _ _ ⟨ow, hd, hold, S.put hn (lookF_RF r2)⟩)
theorem ext_put (M : MAt True fm l o a b D o') (hu : P.underlying t = some (.map kt et)) (hk : keyB P kt a = true) {x y z : Operand} (k : a.den) (v : b.den) {zv : PV} (hz : ∀ ow w u, R ow w zv u → R ow w (rep b v).pv u) :
    Ext P T (.mapUpdate t x y z) [fm, .d (.v (keyV a k)), .d zv] [(l, o)] .dead [(l, o' (mput (eqT a) D k v))] := by
  intro n w0 st ac w oo hT hS ho hn hv hm K Q hK
  obtain ⟨ow, hd, hold, S⟩ := hS
  obtain ⟨dst, op, ty, pos, af, gd⟩ := oo
  simp only at ho hn hK
  subst ho
  simp [Op.operands] at hv
  obtain ⟨blk, clock, es, e1, e2, e3, e4, e6⟩ := M.at' S hv.1 (hm (l, o) (by simp))
  obtain ⟨e5, _⟩ := S.v hv.2.1
  have hzz := hz _ _ _ (S.d hv.2.2)
  obtain ⟨es', clock', r1, r2, r3⟩ := put_run hu hk e2 e3 e4 k v hzz
  have hrun : (execOp ac.eval ⟨dst, .mapUpdate t x y z, ty, pos, af, gd⟩).run P w = .ok .skip { w with heap := w.heap.setIfInBounds blk (.map es' clock') } := by
    simp only [execOp, e1, e5, Sem.run_bind, r1, Result.andThen_ok, Sem.run_pure]
  exact wp_skip' hrun (hK _ _ ⟨ow, hd, hold, (e6 es' clock' _ r2 r3).put hn (x := .dead) (v := undef) (by simp only [RF])⟩)
theorem ext_del (M : MAt True fm l o a b D o') (hu : P.underlying t = some (.map kt et)) (hk : keyB P kt a = true) {x y : Operand} {t' : Nat} (k : a.den) :
    Ext P T (.call ⟨.builtin .delete, #[x, y], #[t, t']⟩) [fm, .d (.v (keyV a k))] [(l, o)] .dead [(l, o' (mdel (eqT a) D k))] := by
  intro n w0 st ac w oo hT hS ho hn hv hm K Q hK
  obtain ⟨ow, hd, hold, S⟩ := hS
  obtain ⟨dst, op, ty, pos, af, gd⟩ := oo
  simp only at ho hn hK
  subst ho
  simp [Op.operands, Call.operands] at hv
  obtain ⟨blk, clock, es, e1, e2, e3, e4, e6⟩ := M.at' S hv.1 (hm (l, o) (by simp))
  obtain ⟨e5, _⟩ := S.v hv.2
  obtain ⟨es', r1, r2, r3⟩ := del_run (t' := t') (ty := ty) hu hk e2 e3 e4 k
  have hrun : (execOp ac.eval ⟨dst, .call ⟨.builtin .delete, #[x, y], #[t, t']⟩, ty, pos, af, gd⟩).run P w = .ok (.value (.tuple #[])) { w with heap := w.heap.setIfInBounds blk (.map es' clock) } := by
    simp [execOp, resolve, invoke, builtin, e1, e5, r1]
  exact wp_val' hrun (hK _ _ ⟨ow, hd, hold, (e6 es' clock _ r2 r3).put hn (x := .dead) (by simp only [RF])⟩)
theorem ext_delN (hu : P.underlying t = some (.map kt et)) (hk : keyB P kt a = true) {x y : Operand} {t' : Nat} (k : a.den) :
    Ext P T (.call ⟨.builtin .delete, #[x, y], #[t, t']⟩) [.d (.v (.map none)), .d (.v (keyV a k))] [] .dead [] := by
  intro n w0 st ac w oo hT hS ho hn hv hm K Q hK
  obtain ⟨ow, hd, hold, S⟩ := hS
  obtain ⟨dst, op, ty, pos, af, gd⟩ := oo
  simp only at ho hn hK
  subst ho
  simp [Op.operands, Call.operands] at hv
  obtain ⟨e1, _⟩ := S.v hv.1
  obtain ⟨e5, _⟩ := S.v hv.2
  have hrun : (execOp ac.eval ⟨dst, .call ⟨.builtin .delete, #[x, y], #[t, t']⟩, ty, pos, af, gd⟩).run P w = .ok (.value (.tuple #[])) w := by
    simp [execOp, resolve, invoke, builtin, e1, e5, del_nil_run hu hk k]
  exact wp_val' hrun (hK _ _ ⟨ow, hd, hold, S.put hn (x := .dead) (by simp only [RF])⟩)
theorem ext_len (M : MAt True fm l o a b D o') (hu : P.underlying t = some (.map kt et)) {x : Operand} : Ext P T (.call ⟨.builtin .len, #[x], #[t]⟩) [fm] [(l, o)] (.d (.v (.int .i64 D.length))) [] := by
  intro n w0 st ac w oo hT hS ho hn hv hm K Q hK
  obtain ⟨ow, hd, hold, S⟩ := hS
  obtain ⟨dst, op, ty, pos, af, gd⟩ := oo
  simp only at ho hn hK
  subst ho
  simp [Op.operands, Call.operands] at hv
  obtain ⟨blk, clock, es, e1, e2, e3, e4, e6⟩ := M.at' S hv (hm (l, o) (by simp))
  have hl := e3.length
  rw [Array.length_toList] at hl
  have hrun : (execOp ac.eval ⟨dst, .call ⟨.builtin .len, #[x], #[t]⟩, ty, pos, af, gd⟩).run P w = .ok (.value (.int .i64 D.length)) w := by
    simp [execOp, resolve, invoke, builtin, e1, Builtin.len_, run_underlying hu, MapKept.run_getObj_map e2, goInt, hl]
  exact wp_val' hrun (hK _ _ ⟨ow, hd, hold, S.put hn (x := .d (.v (.int .i64 D.length))) (by simp only [RF, R]; exact ⟨trivial, rfl⟩)⟩)
theorem ext_lenN (hu : P.underlying t = some (.map kt et)) {x : Operand} : Ext P T (.call ⟨.builtin .len, #[x], #[t]⟩) [.d (.v (.map none))] [] (.d (.v (.int .i64 0))) [] := by
  intro n w0 st ac w oo hT hS ho hn hv hm K Q hK
  obtain ⟨ow, hd, hold, S⟩ := hS
  obtain ⟨dst, op, ty, pos, af, gd⟩ := oo
  simp only at ho hn hK
  subst ho
  simp [Op.operands, Call.operands] at hv
  obtain ⟨e1, _⟩ := S.v hv
  have hrun : (execOp ac.eval ⟨dst, .call ⟨.builtin .len, #[x], #[t]⟩, ty, pos, af, gd⟩).run P w = .ok (.value (.int .i64 0)) w := by
    simp [execOp, resolve, invoke, builtin, e1, Builtin.len_, run_underlying hu, goInt]
  exact wp_val' hrun (hK _ _ ⟨ow, hd, hold, S.put hn (x := .d (.v (.int .i64 0))) (by simp only [RF, R]; exact ⟨trivial, rfl⟩)⟩)
theorem ext_mkOwn {nl : Nat} (a b : Ty) : Ext P T (.makeMap t none) [] [(nl, .free)] (.srf nl) [(nl, .cu (mpC a b []) [])] := by
  intro n w0 st ac w oo hT hS ho hn hv hm K Q hK
  obtain ⟨ow, hd, hold, S⟩ := hS
  obtain ⟨dst, op, ty, pos, af, gd⟩ := oo
  simp only at ho hn hK
  subst ho
  have hl := hm (nl, .free) (by simp)
  simp only at hl
  have hrun : (execOp ac.eval ⟨dst, .makeMap t none, ty, pos, af, gd⟩).run P w = .ok (.value (.map (some w.heap.size))) (w.alloc (.map #[] 0)) := by
    have : (Instr.makeMap t none).run P w = .ok (.map (some w.heap.size)) (w.alloc (.map #[] 0)) := rfl
    simp only [execOp, Option.map_none, Sem.run_bind, this, Result.andThen_ok, Sem.run_pure]
  have hsz : (w.alloc (.map #[] 0)).heap.size = w.heap.size + 1 := by simp
  have hk : Kp ow w (ow.set fun b => if b = w.heap.size then true else ow b) (w.alloc (.map #[] 0)) :=
    ⟨by rw [hsz]; omega, fun b hb h => by show (if b = w.heap.size then true else ow b) = false; rw [if_neg (by omega)]; exact h, fun b hb _ => Below.heap_alloc w _ b hb⟩
  have hal : al st.m nl = false := by simp [al, hl, PO.made]
  have hlt : nl < st.m.length := (List.getElem?_eq_some_iff.1 hl).1
  have S' := S.obj (l := nl) (hv := .map (some w.heap.size)) (o := .cu (mpC a b []) []) hk (Kt.of_below ((Below.refl _ _).alloc S.below.size _) (Nat.le_refl _))
    (fun b hb => by rw [hsz] at hb; show (if b = w.heap.size then true else ow b) = false; rw [if_neg (by omega)]; exact S.fresh b (by omega)) (.inl hal) (.inr rfl)
    ⟨fun b hb => by
        simp [blocksOf, blockOf] at hb; subst hb
        exact ⟨.inl S.below.size, by simp⟩,
      [], by simp [RFL], w.heap.size, rfl, 0, #[], heap_alloc_new w _, by simp [EnL], by simp [Stp]⟩
    (fun j oj b e hj hl hbk => by
      have := ((S.objs j oj hj).lt hl b hbk).1
      refine ⟨Below.heap_alloc w _ b this, if_neg (by omega), fun _ he => ?_⟩
      simp [blocksOf, blockOf] at he
      omega)
  refine wp_val' hrun (hK _ _ ⟨ow.set fun b => if b = w.heap.size then true else ow b, _, hold.step (p := Ph.set _ _) (fun b hb _ => ?_), S'.put hn ?_⟩)
  · show (if b = w.heap.size then true else ow b) = ow b
    rw [if_neg (by have := S.below.size; omega)]
  · simp only [RF]
    exact ⟨by rw [al_set_same hlt]; rfl, by rw [upd_same], by rw [upd_same]; rfl⟩
theorem ext_mkGrp {g : Nat} (a b : Ty) {Ds : List (List (a.den × b.den))} : Ext P T (.makeMap t none) [] [(l, .cu (amC g a b Ds) [])] (.d (.vm g Ds.length)) [(l, .cu (amC g a b (Ds ++ [[]])) [])] := by
  intro n w0 st ac w oo hT hS ho hn hv hm K Q hK
  obtain ⟨ow, hd, hold, S⟩ := hS
  obtain ⟨dst, op, ty, pos, af, gd⟩ := oo
  simp only at ho hn hK
  subst ho
  have hml := hm (l, .cu (amC g a b Ds) []) (by simp)
  simp only at hml
  have hrun : (execOp ac.eval ⟨dst, .makeMap t none, ty, pos, af, gd⟩).run P w = .ok (.value (.map (some w.heap.size))) (w.alloc (.map #[] 0)) := by
    have : (Instr.makeMap t none).run P w = .ok (.map (some w.heap.size)) (w.alloc (.map #[] 0)) := rfl
    simp only [execOp, Option.map_none, Sem.run_bind, this, Result.andThen_ok, Sem.run_pure]
  obtain ⟨ow', hd', g1, g2, g3, g4⟩ := S.arNew (c := mapBC a b []) (ob := .map #[] 0) hml (fun ow' hk => ⟨0, #[], heap_alloc_new w _, by simp [EnL], by simp [Stp]⟩)
  have e : arC g ((List.map (fun D => mapBC a b D) Ds) ++ [mapBC a b []]) = amC g a b (Ds ++ [[]]) := by unfold amC; rw [List.map_append]; rfl
  rw [e] at g3
  rw [List.length_map] at g4
  refine wp_val' hrun (hK _ _ ⟨ow', hd', hold.step (p := g1.1) (fun b hb _ => g1.2.1 b (Nat.lt_of_lt_of_le hb S.below.size)) g1.2.2, g3.put hn ?_⟩)
  simp only [RF, R]; exact ⟨_, g4, rfl⟩
end
section
variable {α : Type} {E : Env} {N : Nat} {f : List (Nat × XV)} {m : List (Nat × XO)} {ps : PS} {nl : Nat} {K : KT α} {out : α}
theorem getM_spec {g l : Nat} {a b : Ty} {xs : List (List (a.den × b.den))} (h : getM m g = some (l, ⟨a, b, xs⟩)) : lom m l = .ob (.am g a b) xs := by
  unfold getM at h
  split at h
  · rename_i l' hl
    split at h
    · rename_i g' a' b' xs' ho
      obtain ⟨h1, h2⟩ := cond_some h
      have e := Nat.eq_of_beq_eq_true h1
      subst e
      cases h2
      exact ho
    · cases h
  · cases h
/-- a map that is looked into -/
theorem withMap_spec (C : Ctx E N f m ps nl) {x : Operand} {γ : Type} {KM : (l : Nat) → (a b : Ty) → Option (List (a.den × b.den)) → (List (a.den × b.den) → XO) → Option γ} {out : γ} (h : withMap m (evX f x) KM = some out) :
    (∃ l a b D F, KM l a b (some D) F = some out ∧ l < nl + 16 ∧ ∃ fm o, ev ps.f x = fm ∧ ps.m[l]? = some o ∧ MAt True fm l o a b D (fun D => absO (F D))) ∨ (∃ l a b F, KM l a b none F = some out ∧ ev ps.f x = .d (.v (.map none))) := by
  generalize hv : evX f x = v at h
  unfold withMap at h
  split at h
  · rename_i l d
    split at h
    · rename_i a b D ho
      exact .inl ⟨l, a, b, D, _, h, C.old ho (by simp), _, _, ev_of (t := .sr l) (y := d) C.toAbs hv rfl, C.at ho (by simp), mat_own⟩
    · cases h
  · rename_i g y
    split at h
    · rename_i l a b xs hq
      have ho := getM_spec hq
      unfold oc at h
      split at h
      · rename_i i hi
        obtain ⟨D, hD, hK⟩ := bind_some h
        have hi : y = (some i : Option Nat) := hi
        subst hi
        exact .inl ⟨l, a, b, D, _, hK, C.old ho (by simp), _, _, ev_of (t := .vm g) (y := (some i : Option Nat)) C.toAbs hv rfl, C.at ho (by simp), mat_grp (lget_some hD)⟩
      · rename_i hi
        have hi : y = (none : Option Nat) := hi
        subst hi
        exact .inr ⟨l, a, b, _, h, ev_of (t := .vm g) (y := (none : Option Nat)) C.toAbs hv rfl⟩
    · cases h
  · cases h
theorem mtOk_spec {t : Nat} {a b : Ty} (hE : EnvOk E) (h : mtOk E t a b = true) : ∃ kt et, E.P.underlying t = some (.map kt et) ∧ keyB E.P kt a = true ∧ cdB E.T et b = true ∧ zshB E.P et b = true := by
  unfold mtOk at h
  split at h
  · rename_i a' b' hm
    simp only [Bool.and_eq_true] at h
    have e1 := Ty.eq_of h.1
    have e2 := Ty.eq_of h.2
    subst e1; subst e2
    exact mpB_und (hE.mp _ _ _ hm)
  · cases h
theorem xLook_good (C : Ctx E N f m ps nl) {t : Nat} {x y : Operand} {c : Bool} (h : xLook E m t (evX f x) (evX f y) c K = some out) : Good E ps nl (.lookup t x y c) K out := by
  generalize hu : evX f y = u at h
  unfold xLook at h
  rcases withMap_spec C h with ⟨l, a, b, D, F, h, hlt, fm, o, hx, ho, M⟩ | ⟨l, a, b, F, h, hx⟩
  · split at h
    · rename_i k z hk hz
      obtain ⟨hb, hK⟩ := cond_some h
      clear h
      simp only [Bool.and_eq_true] at hb
      obtain ⟨kt, et, u1, u2, u3, u4⟩ := mtOk_spec C.hE hb.1
      obtain ⟨d, hd, k1, k2, k3, k4, k5⟩ := keyB_spec u2
      obtain ⟨z1, z2, z3, z4, z5⟩ := zX_spec hz
      obtain ⟨ut, ux⟩ := u
      obtain ⟨e1, e2⟩ := castT_rep hk
      have e1 : ut = a := e1
      subst e1
      have hy : ev ps.f y = .d (.v (keyV ut k)) := by
        have hfv : (rep ut ux).fv = .d (.v (keyV ut k)) := by rw [← k5 k]; exact (congrArg Rp.fv e2).symm
        rw [ev_of C.toAbs hu (by
          cases ut <;> first | rfl | simp [keyB] at u2), hfv]
      have key : ∀ (v : XV) (q : PV), (match mlook (eqT ut) D k with | some y => q = (rep b y).pv | none => q = (rep z.t z.x).pv) → v.fv = lookF q (mlook (eqT ut) D k).isSome c → K v [] [l] = some out → Good E ps nl (.lookup t x y c) K out := by
        intro v q hq hv hK
        refine good_ext (r := lookF q (mlook (eqT ut) D k).isSome c) [(l, o)] (fun q hq => by rw [List.mem_singleton.1 hq]; exact ho) (by simp [absU]) ?_ (.inr hv.symm) (by simp) (by simp) hK
        rw [ops2 rfl hx hy]
        exact ext_look M u1 u2 hz u3 u4 k c hq
      have hfb : ∀ y : b.den, (rep b y).fv = .d (rep b y).pv := fun y => (rep_dat b y hb.2).2.1
      have hfz : z.fv = .d (rep z.t z.x).pv := (rep_dat z.t z.x z3).2.1
      simp only at hK
      split at hK
      · rename_i hzb
        have ez := Ty.eq_of hzb
        obtain ⟨zt, zx⟩ := z
        have ez : zt = b := ez
        subst ez
        cases c with
        | true =>
          simp only [cond_true] at hK
          refine key _ ((rep zt ((mlook (eqT ut) D k).getD zx)).pv) ?_ ?_ hK
          · cases mlook (eqT ut) D k with
            | none => rfl
            | some y => rfl
          · show FV.tup [(rep zt _).fv, FV.d (.v (.bool _))] = _
            rw [hfb]; rfl
        | false =>
          simp only [cond_false] at hK
          refine key _ ((rep zt ((mlook (eqT ut) D k).getD zx)).pv) ?_ ?_ hK
          · cases mlook (eqT ut) D k with
            | none => rfl
            | some y => rfl
          · show (rep zt _).fv = _
            rw [hfb]; rfl
      · unfold oc at hK
        cases hl : mlook (eqT ut) D k with
        | some y =>
          rw [hl] at hK key
          simp only at hK
          cases c with
          | true =>
            simp only [cond_true] at hK
            refine key _ ((rep b y).pv) rfl ?_ hK
            show FV.tup [(rep b y).fv, FV.d (.v (.bool _))] = _
            rw [hfb]; rfl
          | false =>
            simp only [cond_false] at hK
            refine key _ ((rep b y).pv) rfl ?_ hK
            show (rep b y).fv = _
            rw [hfb]; rfl
        | none =>
          rw [hl] at hK key
          simp only at hK
          cases c with
          | true =>
            simp only [cond_true] at hK
            refine key _ ((rep z.t z.x).pv) rfl ?_ hK
            show FV.tup [z.fv, FV.d (.v (.bool _))] = _
            rw [hfz]; rfl
          | false =>
            simp only [cond_false] at hK
            exact key _ ((rep z.t z.x).pv) rfl hfz hK
    · cases h
  · split at h
    · rename_i k z hk hz
      obtain ⟨hb, hK⟩ := cond_some h
      clear h
      simp only [Bool.and_eq_true] at hb
      obtain ⟨kt, et, u1, u2, u3, u4⟩ := mtOk_spec C.hE hb.1
      obtain ⟨d, hd, k1, k2, k3, k4, k5⟩ := keyB_spec u2
      obtain ⟨z1, z2, z3, z4, z5⟩ := zX_spec hz
      obtain ⟨ut, ux⟩ := u
      obtain ⟨e1, e2⟩ := castT_rep hk
      have e1 : ut = a := e1
      subst e1
      have hy : ev ps.f y = .d (.v (keyV ut k)) := by
        have hfv : (rep ut ux).fv = .d (.v (keyV ut k)) := by rw [← k5 k]; exact (congrArg Rp.fv e2).symm
        rw [ev_of C.toAbs hu (by
          cases ut <;> first | rfl | simp [keyB] at u2), hfv]
      have hfz : z.fv = .d (rep z.t z.x).pv := (rep_dat z.t z.x z3).2.1
      have key : ∀ (v : XV), v.fv = lookF (rep z.t z.x).pv false c → K v [] [l] = some out → Good E ps nl (.lookup t x y c) K out := by
        intro v hv hK
        refine good_ext (r := lookF (rep z.t z.x).pv false c) [] (by simp) (by simp [absU]) ?_ (.inr hv.symm) (by simp) (by simp) hK
        rw [ops2 rfl hx hy]
        exact ext_lookN u1 u2 hz u3 u4 k c
      simp only at hK
      cases c with
      | true =>
        simp only [cond_true] at hK
        refine key _ ?_ hK
        show FV.tup [z.fv, FV.d (.v (.bool _))] = _
        rw [hfz]; rfl
      | false =>
        simp only [cond_false] at hK
        exact key _ hfz hK
    · cases h
theorem key_ev (C : Ctx E N f m ps nl) {y : Operand} {u : XV} {a : Ty} {k : a.den} {kt : Nat} (hu : evX f y = u) (hk : castT u.t a u.x = some k) (u2 : keyB E.P kt a = true) : ev ps.f y = .d (.v (keyV a k)) := by
  obtain ⟨d, hd, k1, k2, k3, k4, k5⟩ := keyB_spec u2
  obtain ⟨ut, ux⟩ := u
  obtain ⟨e1, e2⟩ := castT_rep hk
  have e1 : ut = a := e1
  subst e1
  have hfv : (rep ut ux).fv = .d (.v (keyV ut k)) := by rw [← k5 k]; exact (congrArg Rp.fv e2).symm
  rw [ev_of C.toAbs hu (by cases ut <;> first | rfl | simp [keyB] at u2), hfv]
theorem xMapUp_good (C : Ctx E N f m ps nl) {t : Nat} {x y z : Operand} (h : xMapUp E m t (evX f x) (evX f y) (evX f z) K = some out) : Good E ps nl (.mapUpdate t x y z) K out := by
  generalize hu : evX f y = u at h
  generalize hw : evX f z = w at h
  unfold xMapUp at h
  rcases withMap_spec C h with ⟨l, a, b, D, F, h, hlt, fm, o, hx, ho, M⟩ | ⟨l, a, b, F, h, hx⟩
  · split at h
    · rename_i k v hk hv
      obtain ⟨hb, hK⟩ := cond_some h
      clear h
      simp only [Bool.and_eq_true] at hb
      obtain ⟨kt, et, u1, u2, u3, u4⟩ := mtOk_spec C.hE hb.1.1
      have hy := key_ev C hu hk u2
      have hrw := rep_dat w.t w.x hb.2
      have hz : ev ps.f z = .d (rep w.t w.x).pv := (ev_fv C.toAbs hw (told_dat hb.2)).trans hrw.2.1
      obtain ⟨c1, _⟩ := conv_spec _ _ _ _ hv
      simp only [Option.bind_some] at hK
      refine good_ext (r := .dead) [(l, o)] (fun q hq => by rw [List.mem_singleton.1 hq]; exact ho) (by simp [absU]) ?_ (.inl rfl) (by simp) (by simpa using hlt) hK
      rw [ops3 rfl hx hy hz]
      exact ext_put M u1 u2 k v (fun ow w u hr => by rw [c1]; exact hr)
    · cases h
  · split at h
    · obtain ⟨hb, hK⟩ := cond_some h
      cases hK
    · cases h
theorem xMapDel_good (C : Ctx E N f m ps nl) {t t' : Nat} {x y : Operand} (h : xMapDel E m t (evX f x) (evX f y) K = some out) : Good E ps nl (.call ⟨.builtin .delete, #[x, y], #[t, t']⟩) K out := by
  generalize hu : evX f y = u at h
  unfold xMapDel at h
  rcases withMap_spec C h with ⟨l, a, b, D, F, h, hlt, fm, o, hx, ho, M⟩ | ⟨l, a, b, F, h, hx⟩
  · split at h
    · rename_i k hk
      obtain ⟨hb, hK⟩ := cond_some h
      clear h
      simp only [Bool.and_eq_true] at hb
      obtain ⟨kt, et, u1, u2, u3, u4⟩ := mtOk_spec C.hE hb.1
      have hy := key_ev C hu hk u2
      refine good_ext (r := .dead) [(l, o)] (fun q hq => by rw [List.mem_singleton.1 hq]; exact ho) (by simp [absU]) ?_ (.inl rfl) (by simp) (by simpa using hlt) hK
      rw [ops2 (x := x) (x' := y) (by simp [Op.operands, Call.operands]) hx hy]
      exact ext_del M u1 u2 k
    · cases h
  · split at h
    · rename_i k hk
      obtain ⟨hb, hK⟩ := cond_some h
      clear h
      simp only [Bool.and_eq_true] at hb
      obtain ⟨kt, et, u1, u2, u3, u4⟩ := mtOk_spec C.hE hb.1
      have hy := key_ev C hu hk u2
      refine good_ext (r := .dead) [] (by simp) (by simp [absU]) ?_ (.inl rfl) (by simp) (by simp) hK
      rw [ops2 (x := x) (x' := y) (by simp [Op.operands, Call.operands]) hx hy]
      exact ext_delN u1 u2 k
    · cases h
theorem xMapLen_good (C : Ctx E N f m ps nl) {t : Nat} {x : Operand} (h : xMapLen E m t (evX f x) K = some out) : Good E ps nl (.call ⟨.builtin .len, #[x], #[t]⟩) K out := by
  have hops : (Op.call ⟨.builtin .len, #[x], #[t]⟩).operands.toList.map (ev ps.f) = [ev ps.f x] := by simp [Op.operands, Call.operands]
  unfold xMapLen at h
  rcases withMap_spec C h with ⟨l, a, b, D, F, h, hlt, fm, o, hx, ho, M⟩ | ⟨l, a, b, F, h, hx⟩
  · obtain ⟨hb, hK⟩ := cond_some h
    obtain ⟨kt, et, u1, u2, u3, u4⟩ := mtOk_spec C.hE hb
    refine good_ext (v := ⟨.i .i64, ((List.length (α := a.den × b.den) D : Nat) : Int)⟩) (F := [l]) (r := .d (.v (.int .i64 (D.length : Nat)))) [(l, o)] (fun q hq => by rw [List.mem_singleton.1 hq]; exact ho) (by simp [absU]) ?_ (.inr rfl) (by simp) (by simp) hK
    rw [hops, hx]
    exact ext_len M u1
  · obtain ⟨hb, hK⟩ := cond_some h
    obtain ⟨kt, et, u1, u2, u3, u4⟩ := mtOk_spec C.hE hb
    refine good_ext (v := ⟨.i .i64, (0 : Int)⟩) (F := [l]) (r := .d (.v (.int .i64 0))) [] (by simp) (by simp [absU]) ?_ (.inr rfl) (by simp) (by simp) hK
    rw [hops, hx]
    exact ext_lenN u1
theorem xMkMap_good (C : Ctx E N f m ps nl) {t : Nat} (h : xMkMap E m nl t K = some out) : Good E ps nl (.makeMap t none) K out := by
  unfold xMkMap at h
  split at h
  · rename_i g hg
    split at h
    · rename_i l a b xs hq
      have ho := getM_spec hq
      have hm : ps.m[l]? = some (.cu (amC g a b xs) []) := C.at ho (by simp)
      refine good_ext (v := ⟨.vm g, some xs.length⟩) (r := .d (.vm g xs.length)) [(l, .cu (amC g a b xs) [])] (fun q hq => by rw [List.mem_singleton.1 hq]; exact hm) (by simp [absU]) ?_ (Le.refl _) (by simp) (by simpa using C.old ho (by simp)) h
      exact ext_mkGrp a b
    · cases h
  · split at h
    · rename_i a b hm
      refine good_ext (v := ⟨.sr nl, ()⟩) (r := .srf nl) [(nl, .free)] (fun q hq => by rw [List.mem_singleton.1 hq]; exact C.free0) (by simp [absU]) ?_ (Le.refl _) (by simp) (by simp) h
      exact ext_mkOwn a b
    · cases h
end
end Go.Proofs.Ytmjkechkdfobgaa.pv
