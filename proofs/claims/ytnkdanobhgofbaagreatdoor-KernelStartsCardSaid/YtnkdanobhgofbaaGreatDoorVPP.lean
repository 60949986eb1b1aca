/- The interpreter's operations are acts: maps (continued). -/
import Derived.Test.YtnkdanobhgofbaaGreatDoorVOO
import Derived.Maps.RangeRun
namespace Go.Proofs.YtnkdanobhgofbaaGreatDoor.pv
set_option linter.all false
open Go.RowKit Go.MapKept
/-- where a map lies, as a value -/
structure MAt (S : Prop) (fm : FV) (l : Nat) (o : PO) (a b : Ty) (D : List (a.den × b.den)) (o' : List (a.den × b.den) → PO) : Prop where
  at' : ∀ {n : Nat} {w0 : Cx} {st : PS} {ac : Act} {w : World} {ow : Ow} {hd : Nat → Value} {x : Operand}, SimW n w0 st ac w ow hd → ev st.f x = fm → st.m[l]? = some o →
    ∃ blk clock es, ac.eval x = .map (some blk) ∧ w.heap[blk]? = some (.map es clock) ∧ MpOk a b D ow w es clock ∧
      ∀ (es' : Array MapEntry) (clock' : Nat) (D' : List (a.den × b.den)), MpOk a b D' ow w es' clock' → SimW n w0 ⟨st.f, st.m.set l (o' D')⟩ ac { w with heap := w.heap.setIfInBounds blk (.map es' clock') } ow hd
theorem mat_own {l : Nat} {a b : Ty} {D : List (a.den × b.den)} : MAt True (.srf l) l (.cu (mpC a b D) []) a b D (fun D => .cu (mpC a b D) []) := by
  refine ⟨fun {n w0 st ac w ow hd x} S hx hm => ?_⟩
  have hro := S.objs l _ hm
  obtain ⟨g1, vs, g2, blk, q1, clock, es, q2, q3⟩ := hro
  have hv := S.eval x
  rw [hx] at hv
  simp only [RF] at hv
  refine ⟨blk, clock, es, hv.2.1.trans q1, q2, q3, fun es' clock' D' h1 => ?_⟩
  obtain ⟨h3, h4⟩ := heap_set (o' := .map es' clock') q2
  have hbl : blk ∈ blocksOf (hd l) := by rw [q1]; simp [blocksOf, blockOf]
  obtain ⟨hnw, how⟩ := g1 blk hbl
  have hbel : Below 0 w { w with heap := w.heap.setIfInBounds blk (.map es' clock') } := ⟨rfl, rfl, rfl, by simp, fun j hj => by omega⟩
  have hk : Kp ow w ow { w with heap := w.heap.setIfInBounds blk (.map es' clock') } := ⟨by simp, fun _ _ h => h, fun j _ hj => h4 j (fun e => by rw [e, how] at hj; cases hj)⟩
  exact S.set (l := l) (b := blk) (o' := .cu (mpC a b D') []) hm rfl rfl hbl h4 (by simp) (Kt.of_one hbel hnw h4)
    ⟨g1, [], by simp [RFL], blk, q1, clock', es', h3, h1.mono hk⟩
theorem mat_grp {l g i : Nat} {a b : Ty} {Ds : List (List (a.den × b.den))} {D : List (a.den × b.den)} (hD : Ds[i]? = some D) : MAt True (.d (.vm g i)) l (.cu (amC g a b Ds) []) a b D (fun D => .cu (amC g a b (Ds.set i D)) []) := by
  refine ⟨fun {n w0 st ac w ow hd x} S hx hm => ?_⟩
  have hv := S.d hx
  simp only [R] at hv
  obtain ⟨blk, hb, hv⟩ := hv
  obtain ⟨c, hc, hP, hbl, hnw, how⟩ := S.arAt hm hb
  rw [List.getElem?_map, hD] at hc
  cases hc
  obtain ⟨clock, es, q2, q3⟩ := hP
  refine ⟨blk, clock, es, hv, q2, q3, fun es' clock' D' h1 => ?_⟩
  obtain ⟨h3, h4⟩ := heap_set (o' := .map es' clock') q2
  have hbel : Below 0 w { w with heap := w.heap.setIfInBounds blk (.map es' clock') } := ⟨rfl, rfl, rfl, by simp, fun j hj => by omega⟩
  have hk : Kp ow w ow { w with heap := w.heap.setIfInBounds blk (.map es' clock') } := ⟨by simp, fun _ _ h => h, fun j _ hj => h4 j (fun e => by rw [e, how] at hj; cases hj)⟩
  have := S.arSet (c' := mapBC a b D') hm hb h4 (by simp) (Kt.of_one hbel hnw h4) ⟨clock', es', h3, h1.mono hk⟩
  have e : arC g ((List.map (fun D => mapBC a b D) Ds).set i (mapBC a b D')) = amC g a b (Ds.set i D') := by unfold amC; rw [List.map_set]
  rw [e] at this
  exact this
theorem mat_ah {l g i j lg : Nat} {a b : Ty} {Ds : List (List (a.den × b.den))} {D : List (a.den × b.den)} (hD : Ds[j]? = some D) (hne : j ≠ i) : MAt True (.d (.vm g j)) l (.cu (ahC g a b i Ds) [.srf lg]) a b D (fun D => .cu (ahC g a b i (Ds.set j D)) [.srf lg]) := by
  refine ⟨fun {n w0 st ac w ow hd x} S hx hm => ?_⟩
  have hv := S.d hx
  simp only [R] at hv
  obtain ⟨blk, hb, hv⟩ := hv
  obtain ⟨g1, vs, g2, ⟨bs, e1, e2, e3, e4, e5⟩, blk0, es0, clock0, p1, p2, p3⟩ := S.objs l _ hm
  rw [e1] at hb p1
  obtain ⟨clock, es, q2, q3⟩ := e5 j blk (mapBC a b D) hb (by rw [List.getElem?_map, hD]; rfl)
  have hbl : blk ∈ blocksOf (hd l) := by rw [e4, bunH_blocks]; exact List.mem_of_getElem? hb
  obtain ⟨hnw, how⟩ := g1 blk hbl
  have inj : ∀ {k b1 b2 : Nat} {k' : Nat}, bs[k]? = some b1 → bs[k']? = some b2 → b1 = b2 → k = k' := fun {k b1 b2 k'} h1 h2 h3 => by
    subst h3
    obtain ⟨r1, r2⟩ := List.getElem?_eq_some_iff.1 h1
    obtain ⟨r3, r4⟩ := List.getElem?_eq_some_iff.1 h2
    exact (List.getElem_inj e3).1 (r2.trans r4.symm)
  refine ⟨blk, clock, es, hv, q2, q3, fun es' clock' D' h1 => ?_⟩
  obtain ⟨h3, h4⟩ := heap_set (o' := .map es' clock') q2
  have hbel : Below 0 w { w with heap := w.heap.setIfInBounds blk (.map es' clock') } := ⟨rfl, rfl, rfl, by simp, fun j hj => by omega⟩
  have hk : Kp ow w ow { w with heap := w.heap.setIfInBounds blk (.map es' clock') } := ⟨by simp, fun _ _ h => h, fun j _ hj => h4 j (fun e => by rw [e, how] at hj; cases hj)⟩
  refine S.set (l := l) (b := blk) (o' := .cu (ahC g a b i (Ds.set j D')) [.srf lg]) hm rfl rfl hbl h4 (by simp) (Kt.of_one hbel hnw h4)
    ⟨g1, vs, ?_, ⟨bs, e1, by rw [List.length_map, List.length_set, ← List.length_map (f := fun D => mapBC a b D)]; exact e2, e3, e4, fun k b' c2 hj hc2 => ?_⟩, blk0, es0, clock0, by rw [e1]; exact p1, p2, ?_⟩ (fun g' e => e)
  · simp only [RFL, RF] at g2 ⊢
    obtain ⟨v, r, e, ⟨u1, u2, u3⟩, u4, u5⟩ := g2
    refine ⟨v, r, e, ⟨?_, u2, u3⟩, u4, u5⟩
    by_cases el : lg = l
    · subst el
      rw [al_tag hm rfl] at u1; cases u1
    · rw [al_set_ne el]; exact u1
  · rw [List.map_set, List.getElem?_set] at hc2
    split at hc2
    · rename_i e
      subst e
      split at hc2
      · cases hc2
        rw [hb] at hj; cases hj
        exact ⟨clock', es', h3, h1.mono hk⟩
      · cases hc2
    · rename_i hnk
      exact c2.kp hk (h4 b' fun e => hnk (inj hb hj e.symm)) (e5 k b' c2 hj hc2)
  · rw [h4 blk0 fun e => hne (inj hb p1 e.symm)]; exact p3
section
variable {P : Program} {T : List TI} {a b : Ty} {t kt et l : Nat} {fm : FV} {o : PO} {D : List (a.den × b.den)} {o' : List (a.den × b.den) → PO}
/-- what a look finds -/
def lookF (q : PV) (found c : Bool) : FV := if c then .tup [.d q, .d (.v (.bool found))] else .d q
theorem lookF_RF {A : Nat → Bool} {hd : Nat → Value} {ow : Ow} {w : World} {q : PV} {u : Value} {found c : Bool} (h : R ow w q u) : RF A hd ow w (lookF q found c) (if c then .tuple #[u, .bool found] else u) := by
  unfold lookF
  cases c
  · simp only [Bool.false_eq_true, if_false, RF]; exact h
  · simp only [if_true, RF, RFT]
    exact ⟨_, rfl, _, _, rfl, h, _, _, rfl, by simp only [R]; exact ⟨trivial, rfl⟩, rfl⟩
theorem ext_look (M : MAt True fm l o a b D o') (hu : P.underlying t = some (.map kt et)) (hk : keyB P kt a = true) {z : XV} (hz : zX b = some z) (h1 : cdB T et b = true) (h2 : zshB P et b = true) {x y : Operand} (k : a.den) (c : Bool) {q : PV}
    (hq : match mlook (eqT a) D k with | some y => q = (rep b y).pv | none => q = (rep z.t z.x).pv) : Ext P T (.lookup t x y c) [fm, .d (.v (keyV a k))] [(l, o)] (lookF q (mlook (eqT a) D k).isSome c) [] := by
  intro n w0 st ac w oo hT hS ho hn hv hm K Q hK
  obtain ⟨ow, hd, hold, S⟩ := hS
  obtain ⟨dst, op, ty, pos, af, gd⟩ := oo
  simp only at ho hn hK
  subst ho
  simp [Op.operands] at hv
  obtain ⟨blk, clock, es, e1, e2, ⟨Dm, e31, e32, e3, e4⟩, _⟩ := M.at' S hv.1 (hm (l, o) (by simp))
  obtain ⟨e5, _⟩ := S.v hv.2
  have O := ky_ord (keyB_ky hk)
  obtain ⟨u, r1, r2⟩ := look_run hT hu hk hz h1 h2 e2 e3 k c
  rw [mlook_perm O ((O.nd e32).perm e31.symm) e31] at r1 r2
  have hrun : (execOp ac.eval ⟨dst, .lookup t x y c, ty, pos, af, gd⟩).run P w = .ok (.value (if c then .tuple #[u, .bool (mlook (eqT a) D k).isSome] else u)) w := by
    simp only [execOp, e1, e5, Sem.run_bind, r1, Result.andThen_ok, Sem.run_pure]
  refine wp_val' hrun (hK _ _ ⟨ow, hd, hold, S.put hn (lookF_RF ?_)⟩)
  cases hp : mlook (eqT a) D k with
  | none => rw [hp] at r2 hq; rw [hq]; exact r2
  | some y => rw [hp] at r2 hq; rw [hq]; exact r2
theorem ext_lookN (hu : P.underlying t = some (.map kt et)) (hk : keyB P kt a = true) {z : XV} (hz : zX b = some z) (h1 : cdB T et b = true) (h2 : zshB P et b = true) {x y : Operand} (k : a.den) (c : Bool) : Ext P T (.lookup t x y c) [.d (.v (.map none)), .d (.v (keyV a k))] [] (lookF (rep z.t z.x).pv false c) [] := by
  intro n w0 st ac w oo hT hS ho hn hv hm K Q hK
  obtain ⟨ow, hd, hold, S⟩ := hS
  obtain ⟨dst, op, ty, pos, af, gd⟩ := oo
  simp only at ho hn hK
  subst ho
  simp [Op.operands] at hv
  obtain ⟨e1, _⟩ := S.v hv.1
  obtain ⟨e5, _⟩ := S.v hv.2
  obtain ⟨u, r1, r2⟩ := look_nil_run (P := P) (T := T) (ow := ow) (w := w) hT hu hk hz h1 h2 k c
  have hrun : (execOp ac.eval ⟨dst, .lookup t x y c, ty, pos, af, gd⟩).run P w = .ok (.value (if c then .tuple #[u, .bool false] else u)) w := by
    simp only [execOp, e1, e5, Sem.run_bind, r1, Result.andThen_ok, Sem.run_pure]
  exact wp_val' hrun (hK _ _ ⟨ow, hd, hold, S.put hn (lookF_RF r2)⟩)
theorem ext_put (M : MAt True fm l o a b D o') (hu : P.underlying t = some (.map kt et)) (hk : keyB P kt a = true) {x y z : Operand} (k : a.den) (v : b.den) {zv : PV} (hz : ∀ ow w u, R ow w zv u → R ow w (rep b v).pv u) :
    Ext P T (.mapUpdate t x y z) [fm, .d (.v (keyV a k)), .d zv] [(l, o)] .dead [(l, o' (mput (ltT a) (eqT a) D k v))] := by
  intro n w0 st ac w oo hT hS ho hn hv hm K Q hK
  obtain ⟨ow, hd, hold, S⟩ := hS
  obtain ⟨dst, op, ty, pos, af, gd⟩ := oo
  simp only at ho hn hK
  subst ho
  simp [Op.operands] at hv
  obtain ⟨blk, clock, es, e1, e2, ⟨Dm, e31, e32, e3, e4⟩, e6⟩ := M.at' S hv.1 (hm (l, o) (by simp))
  obtain ⟨e5, _⟩ := S.v hv.2.1
  have O := ky_ord (keyB_ky hk)
  have hzz := hz _ _ _ (S.d hv.2.2)
  obtain ⟨es', clock', r1, r2, r3⟩ := put_run hu hk e2 e3 e4 k v hzz
  have hrun : (execOp ac.eval ⟨dst, .mapUpdate t x y z, ty, pos, af, gd⟩).run P w = .ok .skip { w with heap := w.heap.setIfInBounds blk (.map es' clock') } := by
    simp only [execOp, e1, e5, Sem.run_bind, r1, Result.andThen_ok, Sem.run_pure]
  exact wp_skip' hrun (hK _ _ ⟨ow, hd, hold, (e6 es' clock' _ ⟨_, O.put_perm e31 e32 k v, sorted_put O e32 k v, r2, r3⟩).put hn (x := .dead) (v := undef) (by simp only [RF])⟩)
theorem ext_del (M : MAt True fm l o a b D o') (hu : P.underlying t = some (.map kt et)) (hk : keyB P kt a = true) {x y : Operand} {t' : Nat} (k : a.den) :
    Ext P T (.call ⟨.builtin .delete, #[x, y], #[t, t']⟩) [fm, .d (.v (keyV a k))] [(l, o)] .dead [(l, o' (mdel (eqT a) D k))] := by
  intro n w0 st ac w oo hT hS ho hn hv hm K Q hK
  obtain ⟨ow, hd, hold, S⟩ := hS
  obtain ⟨dst, op, ty, pos, af, gd⟩ := oo
  simp only at ho hn hK
  subst ho
  simp [Op.operands, Call.operands] at hv
  obtain ⟨blk, clock, es, e1, e2, ⟨Dm, e31, e32, e3, e4⟩, e6⟩ := M.at' S hv.1 (hm (l, o) (by simp))
  obtain ⟨e5, _⟩ := S.v hv.2
  have O := ky_ord (keyB_ky hk)
  obtain ⟨es', r1, r2, r3⟩ := del_run (t' := t') (ty := ty) hu hk e2 e3 e4 k
  have hrun : (execOp ac.eval ⟨dst, .call ⟨.builtin .delete, #[x, y], #[t, t']⟩, ty, pos, af, gd⟩).run P w = .ok (.value (.tuple #[])) { w with heap := w.heap.setIfInBounds blk (.map es' clock) } := by
    simp [execOp, resolve, invoke, builtin, e1, e5, r1]
  exact wp_val' hrun (hK _ _ ⟨ow, hd, hold, (e6 es' clock _ ⟨_, O.del_perm e31 e32 k, e32.sublist (mdel_sub _ _), r2, r3⟩).put hn (x := .dead) (by simp only [RF])⟩)
theorem ext_delN (hu : P.underlying t = some (.map kt et)) (hk : keyB P kt a = true) {x y : Operand} {t' : Nat} (k : a.den) :
    Ext P T (.call ⟨.builtin .delete, #[x, y], #[t, t']⟩) [.d (.v (.map none)), .d (.v (keyV a k))] [] .dead [] := by
  intro n w0 st ac w oo hT hS ho hn hv hm K Q hK
  obtain ⟨ow, hd, hold, S⟩ := hS
  obtain ⟨dst, op, ty, pos, af, gd⟩ := oo
  simp only at ho hn hK
  subst ho
  simp [Op.operands, Call.operands] at hv
  obtain ⟨e1, _⟩ := S.v hv.1
  obtain ⟨e5, _⟩ := S.v hv.2
  have hrun : (execOp ac.eval ⟨dst, .call ⟨.builtin .delete, #[x, y], #[t, t']⟩, ty, pos, af, gd⟩).run P w = .ok (.value (.tuple #[])) w := by
    simp [execOp, resolve, invoke, builtin, e1, e5, del_nil_run hu hk k]
  exact wp_val' hrun (hK _ _ ⟨ow, hd, hold, S.put hn (x := .dead) (by simp only [RF])⟩)
theorem ext_len (M : MAt True fm l o a b D o') (hu : P.underlying t = some (.map kt et)) {x : Operand} : Ext P T (.call ⟨.builtin .len, #[x], #[t]⟩) [fm] [(l, o)] (.d (.v (.int .i64 D.length))) [] := by
  intro n w0 st ac w oo hT hS ho hn hv hm K Q hK
  obtain ⟨ow, hd, hold, S⟩ := hS
  obtain ⟨dst, op, ty, pos, af, gd⟩ := oo
  simp only at ho hn hK
  subst ho
  simp [Op.operands, Call.operands] at hv
  obtain ⟨blk, clock, es, e1, e2, ⟨Dm, e31, e32, e3, e4⟩, e6⟩ := M.at' S hv (hm (l, o) (by simp))
  have hl := e3.length
  rw [Array.length_toList, e31.length_eq] at hl
  have hrun : (execOp ac.eval ⟨dst, .call ⟨.builtin .len, #[x], #[t]⟩, ty, pos, af, gd⟩).run P w = .ok (.value (.int .i64 D.length)) w := by
    simp [execOp, resolve, invoke, builtin, e1, Builtin.len_, run_underlying hu, MapKept.run_getObj_map e2, goInt, hl]
  exact wp_val' hrun (hK _ _ ⟨ow, hd, hold, S.put hn (x := .d (.v (.int .i64 D.length))) (by simp only [RF, R]; exact ⟨trivial, rfl⟩)⟩)
theorem ext_lenN (hu : P.underlying t = some (.map kt et)) {x : Operand} : Ext P T (.call ⟨.builtin .len, #[x], #[t]⟩) [.d (.v (.map none))] [] (.d (.v (.int .i64 0))) [] := by
  intro n w0 st ac w oo hT hS ho hn hv hm K Q hK
  obtain ⟨ow, hd, hold, S⟩ := hS
  obtain ⟨dst, op, ty, pos, af, gd⟩ := oo
  simp only at ho hn hK
  subst ho
  simp [Op.operands, Call.operands] at hv
  obtain ⟨e1, _⟩ := S.v hv
  have hrun : (execOp ac.eval ⟨dst, .call ⟨.builtin .len, #[x], #[t]⟩, ty, pos, af, gd⟩).run P w = .ok (.value (.int .i64 0)) w := by
    simp [execOp, resolve, invoke, builtin, e1, Builtin.len_, run_underlying hu, goInt]
  exact wp_val' hrun (hK _ _ ⟨ow, hd, hold, S.put hn (x := .d (.v (.int .i64 0))) (by simp only [RF, R]; exact ⟨trivial, rfl⟩)⟩)
theorem ext_mkOwn {nl : Nat} (a b : Ty) : Ext P T (.makeMap t none) [] [(nl, .free)] (.srf nl) [(nl, .cu (mpC a b []) [])] := by
  intro n w0 st ac w oo hT hS ho hn hv hm K Q hK
  obtain ⟨ow, hd, hold, S⟩ := hS
  obtain ⟨dst, op, ty, pos, af, gd⟩ := oo
  simp only at ho hn hK
  subst ho
  have hl := hm (nl, .free) (by simp)
  simp only at hl
  have hrun : (execOp ac.eval ⟨dst, .makeMap t none, ty, pos, af, gd⟩).run P w = .ok (.value (.map (some w.heap.size))) (w.alloc (.map #[] 0)) := by
    have : (Instr.makeMap t none).run P w = .ok (.map (some w.heap.size)) (w.alloc (.map #[] 0)) := rfl
    simp only [execOp, Option.map_none, Sem.run_bind, this, Result.andThen_ok, Sem.run_pure]
  have hsz : (w.alloc (.map #[] 0)).heap.size = w.heap.size + 1 := by simp
  have hk : Kp ow w (ow.set fun b => if b = w.heap.size then true else ow b) (w.alloc (.map #[] 0)) :=
    ⟨by rw [hsz]; omega, fun b hb h => by show (if b = w.heap.size then true else ow b) = false; rw [if_neg (by omega)]; exact h, fun b hb _ => Below.heap_alloc w _ b hb⟩
  have hal : al st.m nl = false := by simp [al, hl, PO.made]
  have hlt : nl < st.m.length := (List.getElem?_eq_some_iff.1 hl).1
  have S' := S.obj (l := nl) (hv := .map (some w.heap.size)) (o := .cu (mpC a b []) []) hk (Kt.of_below ((Below.refl _ _).alloc S.below.size _) (Nat.le_refl _))
    (fun b hb => by rw [hsz] at hb; show (if b = w.heap.size then true else ow b) = false; rw [if_neg (by omega)]; exact S.fresh b (by omega)) (.inl hal) (.inr rfl)
    ⟨fun b hb => by
        simp [blocksOf, blockOf] at hb; subst hb
        exact ⟨.inl S.below.size, by simp⟩,
      [], by simp [RFL], w.heap.size, rfl, 0, #[], heap_alloc_new w _, MpOk.nil⟩
    (fun j oj b e hj hl hbk => by
      have := ((S.objs j oj hj).lt hl b hbk).1
      refine ⟨Below.heap_alloc w _ b this, if_neg (by omega), fun _ he => ?_⟩
      simp [blocksOf, blockOf] at he
      omega)
  refine wp_val' hrun (hK _ _ ⟨ow.set fun b => if b = w.heap.size then true else ow b, _, hold.step (p := Ph.set _ _) (fun b hb _ => ?_), S'.put hn ?_⟩)
  · show (if b = w.heap.size then true else ow b) = ow b
    rw [if_neg (by have := S.below.size; omega)]
  · simp only [RF]
    exact ⟨by rw [al_set_same hlt]; rfl, by rw [upd_same], by rw [upd_same]; rfl⟩
theorem ext_mkGrp {g : Nat} (a b : Ty) {Ds : List (List (a.den × b.den))} : Ext P T (.makeMap t none) [] [(l, .cu (amC g a b Ds) [])] (.d (.vm g Ds.length)) [(l, .cu (amC g a b (Ds ++ [[]])) [])] := by
  intro n w0 st ac w oo hT hS ho hn hv hm K Q hK
  obtain ⟨ow, hd, hold, S⟩ := hS
  obtain ⟨dst, op, ty, pos, af, gd⟩ := oo
  simp only at ho hn hK
  subst ho
  have hml := hm (l, .cu (amC g a b Ds) []) (by simp)
  simp only at hml
  have hrun : (execOp ac.eval ⟨dst, .makeMap t none, ty, pos, af, gd⟩).run P w = .ok (.value (.map (some w.heap.size))) (w.alloc (.map #[] 0)) := by
    have : (Instr.makeMap t none).run P w = .ok (.map (some w.heap.size)) (w.alloc (.map #[] 0)) := rfl
    simp only [execOp, Option.map_none, Sem.run_bind, this, Result.andThen_ok, Sem.run_pure]
  obtain ⟨ow', hd', g1, g2, g3, g4⟩ := S.arNew (c := mapBC a b []) (ob := .map #[] 0) hml (fun ow' hk => ⟨0, #[], heap_alloc_new w _, MpOk.nil⟩)
  have e : arC g ((List.map (fun D => mapBC a b D) Ds) ++ [mapBC a b []]) = amC g a b (Ds ++ [[]]) := by unfold amC; rw [List.map_append]; rfl
  rw [e] at g3
  rw [List.length_map] at g4
  refine wp_val' hrun (hK _ _ ⟨ow', hd', hold.step (p := g1.1) (fun b hb _ => g1.2.1 b (Nat.lt_of_lt_of_le hb S.below.size)) g1.2.2, g3.put hn ?_⟩)
  simp only [RF, R]; exact ⟨_, g4, rfl⟩
end
section
variable {α : Type} {E : Env} {N : Nat} {f : List (Nat × XV)} {m : List (Nat × XO)} {ps : PS} {nl : Nat} {K : KT α} {out : α}
theorem getM_spec {g l : Nat} {a b : Ty} {xs : List (List (a.den × b.den))} (h : getM m g = some (l, ⟨a, b, xs⟩)) : lom m l = .ob (.am g a b) xs := by
  unfold getM at h
  split at h
  · rename_i l' hl
    split at h
    · rename_i g' a' b' xs' ho
      obtain ⟨h1, h2⟩ := cond_some h
      have e := Nat.eq_of_beq_eq_true h1
      subst e
      cases h2
      exact ho
    · cases h
  · cases h
theorem getA_spec {g l i lg : Nat} {a b : Ty} {xs : List (List (a.den × b.den))} (h : getA m g = some (l, ⟨a, b, i, lg, xs⟩)) : lom m l = .ex (.ah g a b i lg xs) := by
  unfold getA at h
  split at h
  · rename_i l' hl
    split at h
    · rename_i g' a' b' i' lg' xs' ho
      obtain ⟨h1, h2⟩ := cond_some h
      have e := Nat.eq_of_beq_eq_true h1
      subst e
      cases h2
      exact ho
    · cases h
  · cases h
theorem ncond_some {β : Type} {c : Bool} {x : Option β} {y : β} (h : (bif c then none else x) = some y) : c = false ∧ x = some y := by
  cases c with
  | true => cases h
  | false => exact ⟨rfl, h⟩
/-- a map that is looked into -/
theorem withMap_spec (C : Ctx E N f m ps nl) {x : Operand} {γ : Type} {KM : (l : Nat) → (a b : Ty) → Option (List (a.den × b.den)) → (List (a.den × b.den) → XO) → Option γ} {out : γ} (h : withMap m (evX f x) KM = some out) :
    (∃ l a b D F, KM l a b (some D) F = some out ∧ l < nl + 16 ∧ ∃ fm o, ev ps.f x = fm ∧ ps.m[l]? = some o ∧ MAt True fm l o a b D (fun D => absO (F D))) ∨ (∃ l a b F, KM l a b none F = some out ∧ ev ps.f x = .d (.v (.map none))) := by
  generalize hv : evX f x = v at h
  unfold withMap at h
  split at h
  · rename_i l d
    split at h
    · rename_i a b D ho
      exact .inl ⟨l, a, b, D, _, h, C.old ho (by simp), _, _, ev_of (t := .sr l) (y := d) C.toAbs hv rfl, C.at ho (by simp), mat_own⟩
    · cases h
  · rename_i g y
    split at h
    · rename_i l a b xs hq
      have ho := getM_spec hq
      unfold oc at h
      split at h
      · rename_i i hi
        obtain ⟨D, hD, hK⟩ := bind_some h
        have hi : y = (some i : Option Nat) := hi
        subst hi
        exact .inl ⟨l, a, b, D, _, hK, C.old ho (by simp), _, _, ev_of (t := .vm g) (y := (some i : Option Nat)) C.toAbs hv rfl, C.at ho (by simp), mat_grp (lget_some hD)⟩
      · rename_i hi
        have hi : y = (none : Option Nat) := hi
        subst hi
        exact .inr ⟨l, a, b, _, h, ev_of (t := .vm g) (y := (none : Option Nat)) C.toAbs hv rfl⟩
    · split at h
      · rename_i l a b i lg xs hq
        have ho := getA_spec hq
        unfold oc at h
        split at h
        · rename_i j hj
          obtain ⟨hne, h⟩ := ncond_some h
          obtain ⟨D, hD, hK⟩ := bind_some h
          have hj : y = (some j : Option Nat) := hj
          subst hj
          exact .inl ⟨l, a, b, D, _, hK, C.old ho (by simp), _, _, ev_of (t := .vm g) (y := (some j : Option Nat)) C.toAbs hv rfl, C.at ho (by simp), mat_ah (lget_some hD) (fun e => by rw [e] at hne; simp at hne)⟩
        · cases h
      · cases h
  · cases h
theorem mtOk_spec {t : Nat} {a b : Ty} (hE : EnvOk E) (h : mtOk E t a b = true) : ∃ kt et, E.P.underlying t = some (.map kt et) ∧ keyB E.P kt a = true ∧ cdB E.T et b = true ∧ zshB E.P et b = true := by
  unfold mtOk at h
  split at h
  · rename_i a' b' hm
    simp only [Bool.and_eq_true] at h
    have e1 := Ty.eq_of h.1
    have e2 := Ty.eq_of h.2
    subst e1; subst e2
    exact mpB_und (hE.mp _ _ _ hm)
  · cases h
theorem xLook_good (C : Ctx E N f m ps nl) {t : Nat} {x y : Operand} {c : Bool} (h : xLook E m t (evX f x) (evX f y) c K = some out) : Good E ps nl (.lookup t x y c) K out := by
  generalize hu : evX f y = u at h
  unfold xLook at h
  rcases withMap_spec C h with ⟨l, a, b, D, F, h, hlt, fm, o, hx, ho, M⟩ | ⟨l, a, b, F, h, hx⟩
  · split at h
    · rename_i k z hk hz
      obtain ⟨hb, hK⟩ := cond_some h
      clear h
      simp only [Bool.and_eq_true] at hb
      obtain ⟨kt, et, u1, u2, u3, u4⟩ := mtOk_spec C.hE hb.1
      obtain ⟨d, hd, k1, k2, k3, k4, k5⟩ := keyB_spec u2
      obtain ⟨z1, z2, z3, z4, z5⟩ := zX_spec hz
      obtain ⟨ut, ux⟩ := u
      obtain ⟨e1, e2⟩ := castT_rep hk
      have e1 : ut = a := e1
      subst e1
      have hy : ev ps.f y = .d (.v (keyV ut k)) := by
        have hfv : (rep ut ux).fv = .d (.v (keyV ut k)) := by rw [← k5 k]; exact (congrArg Rp.fv e2).symm
        rw [ev_of C.toAbs hu (by
          cases ut <;> first | rfl | simp [keyB] at u2), hfv]
      have key : ∀ (v : XV) (q : PV), (match mlook (eqT ut) D k with | some y => q = (rep b y).pv | none => q = (rep z.t z.x).pv) → v.fv = lookF q (mlook (eqT ut) D k).isSome c → K v [] [l] = some out → Good E ps nl (.lookup t x y c) K out := by
        intro v q hq hv hK
        refine good_ext (r := lookF q (mlook (eqT ut) D k).isSome c) [(l, o)] (fun q hq => by rw [List.mem_singleton.1 hq]; exact ho) (by simp [absU]) ?_ (.inr hv.symm) (by simp) (by simp) hK
        rw [ops2 rfl hx hy]
        exact ext_look M u1 u2 hz u3 u4 k c hq
      have hfb : ∀ y : b.den, (rep b y).fv = .d (rep b y).pv := fun y => (rep_dat b y hb.2).2.1
      have hfz : z.fv = .d (rep z.t z.x).pv := (rep_dat z.t z.x z3).2.1
      simp only at hK
      split at hK
      · rename_i hzb
        have ez := Ty.eq_of hzb
        obtain ⟨zt, zx⟩ := z
        have ez : zt = b := ez
        subst ez
        cases c with
        | true =>
          simp only [cond_true] at hK
          refine key _ ((rep zt ((mlook (eqT ut) D k).getD zx)).pv) ?_ ?_ hK
          · cases mlook (eqT ut) D k with
            | none => rfl
            | some y => rfl
          · show FV.tup [(rep zt _).fv, FV.d (.v (.bool _))] = _
            rw [hfb]; rfl
        | false =>
          simp only [cond_false] at hK
          refine key _ ((rep zt ((mlook (eqT ut) D k).getD zx)).pv) ?_ ?_ hK
          · cases mlook (eqT ut) D k with
            | none => rfl
            | some y => rfl
          · show (rep zt _).fv = _
            rw [hfb]; rfl
      · unfold oc at hK
        cases hl : mlook (eqT ut) D k with
        | some y =>
          rw [hl] at hK key
          simp only at hK
          cases c with
          | true =>
            simp only [cond_true] at hK
            refine key _ ((rep b y).pv) rfl ?_ hK
            show FV.tup [(rep b y).fv, FV.d (.v (.bool _))] = _
            rw [hfb]; rfl
          | false =>
            simp only [cond_false] at hK
            refine key _ ((rep b y).pv) rfl ?_ hK
            show (rep b y).fv = _
            rw [hfb]; rfl
        | none =>
          rw [hl] at hK key
          simp only at hK
          cases c with
          | true =>
            simp only [cond_true] at hK
            refine key _ ((rep z.t z.x).pv) rfl ?_ hK
            show FV.tup [z.fv, FV.d (.v (.bool _))] = _
            rw [hfz]; rfl
          | false =>
            simp only [cond_false] at hK
            exact key _ ((rep z.t z.x).pv) rfl hfz hK
    · cases h
  · split at h
    · rename_i k z hk hz
      obtain ⟨hb, hK⟩ := cond_some h
      clear h
      simp only [Bool.and_eq_true] at hb
      obtain ⟨kt, et, u1, u2, u3, u4⟩ := mtOk_spec C.hE hb.1
      obtain ⟨d, hd, k1, k2, k3, k4, k5⟩ := keyB_spec u2
      obtain ⟨z1, z2, z3, z4, z5⟩ := zX_spec hz
      obtain ⟨ut, ux⟩ := u
      obtain ⟨e1, e2⟩ := castT_rep hk
      have e1 : ut = a := e1
      subst e1
      have hy : ev ps.f y = .d (.v (keyV ut k)) := by
        have hfv : (rep ut ux).fv = .d (.v (keyV ut k)) := by rw [← k5 k]; exact (congrArg Rp.fv e2).symm
        rw [ev_of C.toAbs hu (by
          cases ut <;> first | rfl | simp [keyB] at u2), hfv]
      have hfz : z.fv = .d (rep z.t z.x).pv := (rep_dat z.t z.x z3).2.1
      have key : ∀ (v : XV), v.fv = lookF (rep z.t z.x).pv false c → K v [] [l] = some out → Good E ps nl (.lookup t x y c) K out := by
        intro v hv hK
        refine good_ext (r := lookF (rep z.t z.x).pv false c) [] (by simp) (by simp [absU]) ?_ (.inr hv.symm) (by simp) (by simp) hK
        rw [ops2 rfl hx hy]
        exact ext_lookN u1 u2 hz u3 u4 k c
      simp only at hK
      cases c with
      | true =>
        simp only [cond_true] at hK
        refine key _ ?_ hK
        show FV.tup [z.fv, FV.d (.v (.bool _))] = _
        rw [hfz]; rfl
      | false =>
        simp only [cond_false] at hK
        exact key _ hfz hK
    · cases h
theorem key_ev (C : Ctx E N f m ps nl) {y : Operand} {u : XV} {a : Ty} {k : a.den} {kt : Nat} (hu : evX f y = u) (hk : castT u.t a u.x = some k) (u2 : keyB E.P kt a = true) : ev ps.f y = .d (.v (keyV a k)) := by
  obtain ⟨d, hd, k1, k2, k3, k4, k5⟩ := keyB_spec u2
  obtain ⟨ut, ux⟩ := u
  obtain ⟨e1, e2⟩ := castT_rep hk
  have e1 : ut = a := e1
  subst e1
  have hfv : (rep ut ux).fv = .d (.v (keyV ut k)) := by rw [← k5 k]; exact (congrArg Rp.fv e2).symm
  rw [ev_of C.toAbs hu (by cases ut <;> first | rfl | simp [keyB] at u2), hfv]
theorem xMapUp_good (C : Ctx E N f m ps nl) {t : Nat} {x y z : Operand} (h : xMapUp E m t (evX f x) (evX f y) (evX f z) K = some out) : Good E ps nl (.mapUpdate t x y z) K out := by
  generalize hu : evX f y = u at h
  generalize hw : evX f z = w at h
  unfold xMapUp at h
  rcases withMap_spec C h with ⟨l, a, b, D, F, h, hlt, fm, o, hx, ho, M⟩ | ⟨l, a, b, F, h, hx⟩
  · split at h
    · rename_i k v hk hv
      obtain ⟨hb, hK⟩ := cond_some h
      clear h
      simp only [Bool.and_eq_true] at hb
      obtain ⟨kt, et, u1, u2, u3, u4⟩ := mtOk_spec C.hE hb.1.1
      have hy := key_ev C hu hk u2
      have hrw := rep_dat w.t w.x hb.2
      have hz : ev ps.f z = .d (rep w.t w.x).pv := (ev_fv C.toAbs hw (told_dat hb.2)).trans hrw.2.1
      obtain ⟨c1, _⟩ := conv_spec _ _ _ _ hv
      simp only [Option.bind_some] at hK
      refine good_ext (r := .dead) [(l, o)] (fun q hq => by rw [List.mem_singleton.1 hq]; exact ho) (by simp [absU]) ?_ (.inl rfl) (by simp) (by simpa using hlt) hK
      rw [ops3 rfl hx hy hz]
      exact ext_put M u1 u2 k v (fun ow w u hr => by rw [c1]; exact hr)
    · cases h
  · split at h
    · obtain ⟨hb, hK⟩ := cond_some h
      cases hK
    · cases h
theorem xMapDel_good (C : Ctx E N f m ps nl) {t t' : Nat} {x y : Operand} (h : xMapDel E m t (evX f x) (evX f y) K = some out) : Good E ps nl (.call ⟨.builtin .delete, #[x, y], #[t, t']⟩) K out := by
  generalize hu : evX f y = u at h
  unfold xMapDel at h
  rcases withMap_spec C h with ⟨l, a, b, D, F, h, hlt, fm, o, hx, ho, M⟩ | ⟨l, a, b, F, h, hx⟩
  · split at h
    · rename_i k hk
      obtain ⟨hb, hK⟩ := cond_some h
      clear h
      simp only [Bool.and_eq_true] at hb
      obtain ⟨kt, et, u1, u2, u3, u4⟩ := mtOk_spec C.hE hb.1
      have hy := key_ev C hu hk u2
      refine good_ext (r := .dead) [(l, o)] (fun q hq => by rw [List.mem_singleton.1 hq]; exact ho) (by simp [absU]) ?_ (.inl rfl) (by simp) (by simpa using hlt) hK
      rw [ops2 (x := x) (x' := y) (by simp [Op.operands, Call.operands]) hx hy]
      exact ext_del M u1 u2 k
    · cases h
  · split at h
    · rename_i k hk
      obtain ⟨hb, hK⟩ := cond_some h
      clear h
      simp only [Bool.and_eq_true] at hb
      obtain ⟨kt, et, u1, u2, u3, u4⟩ := mtOk_spec C.hE hb.1
      have hy := key_ev C hu hk u2
      refine good_ext (r := .dead) [] (by simp) (by simp [absU]) ?_ (.inl rfl) (by simp) (by simp) hK
      rw [ops2 (x := x) (x' := y) (by simp [Op.operands, Call.operands]) hx hy]
      exact ext_delN u1 u2 k
    · cases h
theorem xMapLen_good (C : Ctx E N f m ps nl) {t : Nat} {x : Operand} (h : xMapLen E m t (evX f x) K = some out) : Good E ps nl (.call ⟨.builtin .len, #[x], #[t]⟩) K out := by
  have hops : (Op.call ⟨.builtin .len, #[x], #[t]⟩).operands.toList.map (ev ps.f) = [ev ps.f x] := by simp [Op.operands, Call.operands]
  unfold xMapLen at h
  rcases withMap_spec C h with ⟨l, a, b, D, F, h, hlt, fm, o, hx, ho, M⟩ | ⟨l, a, b, F, h, hx⟩
  · obtain ⟨hb, hK⟩ := cond_some h
    obtain ⟨kt, et, u1, u2, u3, u4⟩ := mtOk_spec C.hE hb
    refine good_ext (v := ⟨.i .i64, ((List.length (α := a.den × b.den) D : Nat) : Int)⟩) (F := [l]) (r := .d (.v (.int .i64 (D.length : Nat)))) [(l, o)] (fun q hq => by rw [List.mem_singleton.1 hq]; exact ho) (by simp [absU]) ?_ (.inr rfl) (by simp) (by simp) hK
    rw [hops, hx]
    exact ext_len M u1
  · obtain ⟨hb, hK⟩ := cond_some h
    obtain ⟨kt, et, u1, u2, u3, u4⟩ := mtOk_spec C.hE hb
    refine good_ext (v := ⟨.i .i64, (0 : Int)⟩) (F := [l]) (r := .d (.v (.int .i64 0))) [] (by simp) (by simp [absU]) ?_ (.inr rfl) (by simp) (by simp) hK
    rw [hops, hx]
    exact ext_lenN u1
theorem xMkMap_good (C : Ctx E N f m ps nl) {t : Nat} (h : xMkMap E m nl t K = some out) : Good E ps nl (.makeMap t none) K out := by
  unfold xMkMap at h
  split at h
  · rename_i g hg
    split at h
    · rename_i l a b xs hq
      have ho := getM_spec hq
      have hm : ps.m[l]? = some (.cu (amC g a b xs) []) := C.at ho (by simp)
      refine good_ext (v := ⟨.vm g, some xs.length⟩) (r := .d (.vm g xs.length)) [(l, .cu (amC g a b xs) [])] (fun q hq => by rw [List.mem_singleton.1 hq]; exact hm) (by simp [absU]) ?_ (Le.refl _) (by simp) (by simpa using C.old ho (by simp)) h
      exact ext_mkGrp a b
    · cases h
  · split at h
    · rename_i a b hm
      refine good_ext (v := ⟨.sr nl, ()⟩) (r := .srf nl) [(nl, .free)] (fun q hq => by rw [List.mem_singleton.1 hq]; exact C.free0) (by simp [absU]) ?_ (Le.refl _) (by simp) (by simp) h
      exact ext_mkOwn a b
    · cases h
end
end Go.Proofs.YtnkdanobhgofbaaGreatDoor.pv
namespace Go.Proofs.YtnkdanobhgofbaaGreatDoor.pv
set_option linter.all false
open Go.RowKit Go.MapKept
theorem filter_none (es : List MapEntry) : (es.filter fun e => !(#[] : Array Nat).toList.contains e.born) = es := by
  rw [List.filter_eq_self]; intro x _; rfl
/-- a loop's object, made anew: the ghost, the loop -/
theorem SimW.newIt {n : Nat} {w0 : Cx} {st : PS} {ac : Act} {w : World} {ow : Ow} {hd : Nat → Value} (S : SimW n w0 st ac w ow hd) {nl blk clock : Nat} {es : Array MapEntry} {a b : Ty} {D : List (a.den × b.den)}
    (h1 : st.m[nl]? = some .free) (h2 : st.m[nl + 1]? = some .free) (hM : MpOk a b D ow w es clock) :
    ∃ ow' hd', (Ph ow ow' ∧ (∀ k, k < w.heap.size → ow' k = ow k) ∧ ∀ g, ow'.phi g = ow.phi g) ∧ Kp ow w ow' (w.alloc (.mapIter (some blk) clock #[] clock)) ∧ (∀ j, al st.m j = true → hd' j = hd j) ∧
      (∀ j, j ≠ nl → j ≠ nl + 1 → hd' j = hd j) ∧ hd' nl = .pointer (some ⟨w.heap.size, 0, none⟩) ∧ hd' (nl + 1) = ghV blk es clock ∧
      SimW n w0 ⟨st.f, (st.m.set (nl + 1) (.cu gsC [])).set nl (.cu (itC a b D none) [.srf (nl + 1)])⟩ ac (w.alloc (.mapIter (some blk) clock #[] clock)) ow' hd' := by
  have hal1 : al st.m (nl + 1) = false := by simp [al, h2, PO.made]
  have hal0 : al st.m nl = false := by simp [al, h1, PO.made]
  have hlt1 : nl + 1 < st.m.length := (List.getElem?_eq_some_iff.1 h2).1
  have hlt0 : nl < st.m.length := (List.getElem?_eq_some_iff.1 h1).1
  -- the ghost
  have S1 := S.obj (l := nl + 1) (hv := ghV blk es clock) (o := .cu gsC []) (Kp.refl ow w) (Kt.refl _ _) S.fresh (.inl hal1) (.inr rfl)
    ⟨fun q hq => by simp [ghV, blocksOf, blockOf] at hq, [], by simp [RFL], rfl, rfl⟩
    (fun j oj q e hj hl hbk => ⟨rfl, rfl, fun _ hq => by simp [ghV, blocksOf, blockOf] at hq⟩)
  -- the loop
  have hsz : (w.alloc (.mapIter (some blk) clock #[] clock)).heap.size = w.heap.size + 1 := by simp
  have hk : Kp ow w (ow.set fun q => if q = w.heap.size then true else ow q) (w.alloc (.mapIter (some blk) clock #[] clock)) :=
    ⟨by rw [hsz]; omega, fun q hq h => by show (if q = w.heap.size then true else ow q) = false; rw [if_neg (by omega)]; exact h, fun q hq _ => Below.heap_alloc w _ q hq⟩
  have hal2 : al (st.m.set (nl + 1) (.cu gsC [])) nl = false := by
    unfold al
    rw [List.getElem?_set_ne (by omega), h1]; rfl
  have S2 := S1.obj (l := nl) (hv := .pointer (some ⟨w.heap.size, 0, none⟩)) (o := .cu (itC a b D none) [.srf (nl + 1)]) hk (Kt.of_below ((Below.refl _ _).alloc S.below.size _) (Nat.le_refl _))
    (fun q hq => by rw [hsz] at hq; show (if q = w.heap.size then true else ow q) = false; rw [if_neg (by omega)]; exact S.fresh q (by omega)) (.inl hal2) (.inr rfl)
    ⟨fun q hq => by
        simp [blocksOf, blockOf] at hq; subst hq
        exact ⟨.inl S.below.size, by simp⟩,
      [ghV blk es clock], by
        simp only [RFL, RF]
        refine ⟨_, _, rfl, ⟨?_, ?_, ?_⟩, rfl, rfl⟩
        · unfold al
          rw [List.getElem?_set_ne (by omega), List.getElem?_set_self hlt1]; rfl
        · rw [upd_ne _ _ (show nl + 1 ≠ nl by omega), upd_same]
        · rw [upd_ne _ _ (show nl + 1 ≠ nl by omega), upd_same]; rfl,
      w.heap.size, blk, clock, #[], clock, es, clock, rfl, rfl, heap_alloc_new w _, {
        stp := by obtain ⟨Dm, _, _, _, h⟩ := hM; exact h
        lo := Nat.le_refl _
        l0 := Nat.le_refl _
        old := by obtain ⟨Dm, _, _, _, h⟩ := hM; exact h.1
        left := by
          obtain ⟨Dm, g1, g2, g3, g4⟩ := hM
          exact ⟨Dm, by rw [filter_none]; exact EnL.mono hk _ _ g3, g1⟩
        srt := by obtain ⟨Dm, _, h, _, _⟩ := hM; exact h
        cur := fun p hp => by cases hp }⟩
    (fun j oj q e hj hl hbk => by
      have hjm : st.m[j]? = some oj ∨ j = nl + 1 := by
        by_cases ej : j = nl + 1
        · exact .inr ej
        · rw [List.getElem?_set_ne (Ne.symm ej)] at hj; exact .inl hj
      have hlt := ((S1.objs j oj hj).lt hl q hbk).1
      refine ⟨Below.heap_alloc w _ q hlt, if_neg (by omega), fun _ hq => ?_⟩
      simp [blocksOf, blockOf] at hq
      omega)
  refine ⟨_, _, ⟨Ph.set _ _, fun q hq => if_neg (by omega), fun _ => rfl⟩, hk, fun j hj => ?_, fun j e1 e2 => by rw [upd_ne _ _ e1, upd_ne _ _ e2], by rw [upd_same], by rw [upd_ne _ _ (show nl + 1 ≠ nl by omega), upd_same], S2⟩
  have n1 : j ≠ nl := fun e => by rw [e, hal0] at hj; cases hj
  have n2 : j ≠ nl + 1 := fun e => by rw [e, hal1] at hj; cases hj
  rw [upd_ne _ _ n1, upd_ne _ _ n2]
section
variable {P : Program} {T : List TI} {a b : Ty} {t kt et l nl : Nat} {D : List (a.den × b.den)}
theorem ext_rangeOwn (hu : P.underlying t = some (.map kt et)) (hl0 : l ≠ nl) (hl1 : l ≠ nl + 1) {x : Operand} :
    Ext P T (.range t x) [.srf l] [(l, .cu (mpC a b D) []), (nl, .free), (nl + 1, .free)] (.srf nl) [(nl + 1, .cu gsC []), (nl, .cu (itC a b D none) [.srf (nl + 1)]), (l, .cu (lkC a b D) [.srf (nl + 1)])] := by
  intro n w0 st ac w oo hT hS ho hn hv hm K Q hK
  obtain ⟨ow, hd, hold, S⟩ := hS
  obtain ⟨dst, op, ty, pos, af, gd⟩ := oo
  simp only at ho hn hK
  subst ho
  simp [Op.operands] at hv
  have hml := hm (l, .cu (mpC a b D) []) (by simp)
  have hf0 := hm (nl, .free) (by simp)
  have hf1 := hm (nl + 1, .free) (by simp)
  simp only at hml hf0 hf1
  obtain ⟨g1, vs, g2, blk, q1, clock, es, q2, q3⟩ := S.objs l _ hml
  have hx := S.eval x
  rw [hv] at hx
  simp only [RF] at hx
  obtain ⟨ow', hd', ⟨k1, k2, k3⟩, hk, k4, k5, k6, k7, S2⟩ := S.newIt (blk := blk) hf0 hf1 q3
  have hblt := (Array.getElem?_eq_some_iff.1 q2).1
  have hlb : hd' l = .map (some blk) := by rw [k5 l hl0 hl1, q1]
  have hml2 : ((st.m.set (nl + 1) (.cu gsC [])).set nl (.cu (itC a b D none) [.srf (nl + 1)]))[l]? = some (.cu (mpC a b D) []) := by
    rw [List.getElem?_set_ne (Ne.symm hl0), List.getElem?_set_ne (Ne.symm hl1)]; exact hml
  have hlt1 : nl + 1 < st.m.length := (List.getElem?_eq_some_iff.1 hf1).1
  have hlt0 : nl < st.m.length := (List.getElem?_eq_some_iff.1 hf0).1
  have hlt : l < st.m.length := (List.getElem?_eq_some_iff.1 hml).1
  have hblk : blk ∈ blocksOf (hd' l) := by rw [hlb]; simp [blocksOf, blockOf]
  obtain ⟨g1', _, _, _⟩ := S2.objs l _ hml2
  have S3 := S2.set (l := l) (b := blk) (o := .cu (mpC a b D) []) (o' := .cu (lkC a b D) [.srf (nl + 1)]) (w' := w.alloc (.mapIter (some blk) clock #[] clock)) hml2 rfl rfl hblk (fun _ _ => rfl) rfl (Kt.refl _ _)
    ⟨g1', [ghV blk es clock], by
      simp only [RFL, RF]
      refine ⟨_, _, rfl, ⟨?_, k7.symm, by rw [k7]; rfl⟩, rfl, rfl⟩
      unfold al
      rw [List.getElem?_set_ne hl1, List.getElem?_set_ne (by omega), List.getElem?_set_self hlt1]; rfl,
      blk, es, clock, hlb, rfl, by rw [Below.heap_alloc w _ blk hblt]; exact q2, q3.mono hk⟩
  have hrun : (execOp ac.eval ⟨dst, .range t x, ty, pos, af, gd⟩).run P w = .ok (.value (.pointer (some ⟨w.heap.size, 0, none⟩))) (w.alloc (.mapIter (some blk) clock #[] clock)) := by
    simp only [execOp, hx.2.1, q1, Sem.run_bind, run_range_map w t kt et blk es clock hu q2, Result.andThen_ok, Sem.run_pure]
  refine wp_val' hrun (hK _ _ ⟨ow', hd', hold.step (p := k1) (fun q hq _ => k2 q (Nat.lt_of_lt_of_le hq S.below.size)) (fun g _ => k3 g), S3.put hn ?_⟩)
  simp only [RF]
  refine ⟨?_, k6.symm, by rw [k6]; rfl⟩
  unfold al
  rw [List.getElem?_set_ne hl0, List.getElem?_set_self (by rw [List.length_set]; exact hlt0)]; rfl
theorem ext_rangeGrp {g i : Nat} {Ds : List (List (a.den × b.den))} (hD : Ds[i]? = some D) (hu : P.underlying t = some (.map kt et)) (hl0 : l ≠ nl) (hl1 : l ≠ nl + 1) {x : Operand} :
    Ext P T (.range t x) [.d (.vm g i)] [(l, .cu (amC g a b Ds) []), (nl, .free), (nl + 1, .free)] (.srf nl) [(nl + 1, .cu gsC []), (nl, .cu (itC a b D none) [.srf (nl + 1)]), (l, .cu (ahC g a b i Ds) [.srf (nl + 1)])] := by
  intro n w0 st ac w oo hT hS ho hn hv hm K Q hK
  obtain ⟨ow, hd, hold, S⟩ := hS
  obtain ⟨dst, op, ty, pos, af, gd⟩ := oo
  simp only at ho hn hK
  subst ho
  simp [Op.operands] at hv
  have hml := hm (l, .cu (amC g a b Ds) []) (by simp)
  have hf0 := hm (nl, .free) (by simp)
  have hf1 := hm (nl + 1, .free) (by simp)
  simp only at hml hf0 hf1
  have hx := S.d hv
  simp only [R] at hx
  obtain ⟨blk, hb, hx⟩ := hx
  obtain ⟨c, hc, hP, hbl, hnw, how⟩ := S.arAt hml hb
  rw [List.getElem?_map, hD] at hc
  cases hc
  obtain ⟨clock, es, q2, q3⟩ := hP
  obtain ⟨ow', hd', ⟨k1, k2, k3⟩, hk, k4, k5, k6, k7, S2⟩ := S.newIt (blk := blk) hf0 hf1 q3
  have hblt := (Array.getElem?_eq_some_iff.1 q2).1
  have hlb : hd' l = hd l := k5 l hl0 hl1
  have hml2 : ((st.m.set (nl + 1) (.cu gsC [])).set nl (.cu (itC a b D none) [.srf (nl + 1)]))[l]? = some (.cu (amC g a b Ds) []) := by
    rw [List.getElem?_set_ne (Ne.symm hl0), List.getElem?_set_ne (Ne.symm hl1)]; exact hml
  have hlt1 : nl + 1 < st.m.length := (List.getElem?_eq_some_iff.1 hf1).1
  have hlt0 : nl < st.m.length := (List.getElem?_eq_some_iff.1 hf0).1
  have hlt : l < st.m.length := (List.getElem?_eq_some_iff.1 hml).1
  have hblk : blk ∈ blocksOf (hd' l) := by rw [hlb]; exact hbl
  obtain ⟨g1', vs', g2', gI⟩ := S2.objs l _ hml2
  have gI : (arC g (Ds.map fun D => mapBC a b D)).I ow' (w.alloc (.mapIter (some blk) clock #[] clock)) (hd' l) [] := by
    obtain ⟨bs, e1, e2, e3, e4, e5⟩ := gI
    exact ⟨bs, e1, e2, e3, e4, e5⟩
  have S3 := S2.set (l := l) (b := blk) (o := .cu (amC g a b Ds) []) (o' := .cu (ahC g a b i Ds) [.srf (nl + 1)]) (w' := w.alloc (.mapIter (some blk) clock #[] clock)) hml2 rfl rfl hblk (fun _ _ => rfl) rfl (Kt.refl _ _)
    ⟨g1', [ghV blk es clock], by
      simp only [RFL, RF]
      refine ⟨_, _, rfl, ⟨?_, k7.symm, by rw [k7]; rfl⟩, rfl, rfl⟩
      unfold al
      rw [List.getElem?_set_ne hl1, List.getElem?_set_ne (by omega), List.getElem?_set_self hlt1]; rfl,
      gI, blk, es, clock, by rw [k3]; exact hb, rfl, by rw [Below.heap_alloc w _ blk hblt]; exact q2⟩ (fun g' e => e)
  have hrun : (execOp ac.eval ⟨dst, .range t x, ty, pos, af, gd⟩).run P w = .ok (.value (.pointer (some ⟨w.heap.size, 0, none⟩))) (w.alloc (.mapIter (some blk) clock #[] clock)) := by
    simp only [execOp, hx, Sem.run_bind, run_range_map w t kt et blk es clock hu q2, Result.andThen_ok, Sem.run_pure]
  refine wp_val' hrun (hK _ _ ⟨ow', hd', hold.step (p := k1) (fun q hq _ => k2 q (Nat.lt_of_lt_of_le hq S.below.size)) (fun g _ => k3 g), S3.put hn ?_⟩)
  simp only [RF]
  refine ⟨?_, k6.symm, by rw [k6]; rfl⟩
  unfold al
  rw [List.getElem?_set_ne hl0, List.getElem?_set_self (by rw [List.length_set]; exact hlt0)]; rfl
theorem ky_rep {a : Ty} (h : a.ky = true) (k : a.den) : (rep a k).pv = .v (keyV a k) ∧ (keyV a k).oneCell' = true := by
  cases a <;> first | (simp [Ty.ky] at h; done) | exact ⟨rfl, rfl⟩
/-- a map that a loop goes through: what the ghost tells -/
def Lockd (o : PO) (lg : Nat) : Prop := ∀ {n : Nat} {w0 : Cx} {st : PS} {ac : Act} {w : World} {ow : Ow} {hd : Nat → Value} {l : Nat}, SimW n w0 st ac w ow hd → st.m[l]? = some o → ∃ blk es clock, hd lg = ghV blk es clock ∧ w.heap[blk]? = some (.map es clock)
theorem lockd_lk {a b : Ty} {D : List (a.den × b.den)} {lg : Nat} : Lockd (.cu (lkC a b D) [.srf lg]) lg := fun S hm => by
  obtain ⟨_, vs, g2, blk, es, clock, h1, h2, h3, _⟩ := S.objs _ _ hm
  simp only [RFL, RF] at g2
  obtain ⟨v, r, e, ⟨_, hh, _⟩, _, _⟩ := g2
  rw [h2] at e
  cases e
  exact ⟨blk, es, clock, hh.symm, h3⟩
theorem lockd_ah {g i : Nat} {a b : Ty} {Ds : List (List (a.den × b.den))} {lg : Nat} : Lockd (.cu (ahC g a b i Ds) [.srf lg]) lg := fun S hm => by
  obtain ⟨_, vs, g2, _, blk, es, clock, h1, h2, h3⟩ := S.objs _ _ hm
  simp only [RFL, RF] at g2
  obtain ⟨v, r, e, ⟨_, hh, _⟩, _, _⟩ := g2
  rw [h2] at e
  cases e
  exact ⟨blk, es, clock, hh.symm, h3⟩
theorem ext_entry {li lg : Nat} {o : PO} (ho : Lockd o lg) (hk : a.ky = true) {rest : List (a.den × b.den)} {p : a.den × b.den} {x : Operand} :
    Ext P T (.entry x) [.srf li] [(li, .cu (itC a b rest (some p)) [.srf lg]), (l, o)] (.tup [.d (rep a p.1).pv, .d (rep b p.2).pv]) [] := by
  intro n w0 st ac w oo hT hS ho' hn hv hm K Q hK
  obtain ⟨ow, hd, hold, S⟩ := hS
  obtain ⟨dst, op, ty, pos, af, gd⟩ := oo
  simp only at ho' hn hK
  subst ho'
  simp [Op.operands] at hv
  have hmi := hm (li, .cu (itC a b rest (some p)) [.srf lg]) (by simp)
  have hml := hm (l, o) (by simp)
  simp only at hmi hml
  obtain ⟨blk', es', clock', e1, e2⟩ := ho S hml
  obtain ⟨g1, vs, g2, r, blk, since, seen, c0, es, clock, q1, q2, q3, I⟩ := S.objs li _ hmi
  simp only [RFL, RF] at g2
  obtain ⟨v, rr, e, ⟨_, hh, _⟩, _, _⟩ := g2
  rw [q2] at e
  cases e
  rw [e1] at hh
  obtain ⟨rfl, rfl, rfl⟩ := ghV_inj hh
  obtain ⟨en, c1, ⟨s', rfl⟩, c3, c4, rfl⟩ := I.cur p rfl
  have hx := S.eval x
  rw [hv] at hx
  simp only [RF] at hx
  have hrun : (execOp ac.eval ⟨dst, .entry x, ty, pos, af, gd⟩).run P w = .ok (.value (.tuple #[en.key, en.val])) w := by
    simp only [execOp, hx.2.1, q1, Sem.run_bind, run_entry_at w r blk since s' es _ en q3 e2 c1 (List.pairwise_map.2 I.stp.2), Result.andThen_ok, Sem.run_pure]
  refine wp_val' hrun (hK _ _ ⟨ow, hd, hold, S.put hn ?_⟩)
  obtain ⟨k1, k2⟩ := ky_rep hk p.1
  simp only [RF, RFT]
  exact ⟨_, rfl, _, _, rfl, by rw [k1, c3]; simp only [R]; exact ⟨trivial, k2⟩, _, _, rfl, c4, rfl⟩
end
section
variable {α : Type} {E : Env} {N : Nat} {f : List (Nat × XV)} {m : List (Nat × XO)} {ps : PS} {nl : Nat} {K : KT α} {out : α}
theorem Ctx.old' (C : Ctx E N f m ps nl) {l : Nat} {o : XO} (h : lom m l = o) (ho : o ≠ .free) : l < nl := by
  rcases Nat.lt_or_ge l nl with hl | hl
  · exact hl
  · exact absurd (h.symm.trans (C.fresh l hl)) ho
theorem xRange_good (C : Ctx E N f m ps nl) {t : Nat} {x : Operand} (h : xRange E m nl t (evX f x) K = some out) : Good E ps nl (.range t x) K out := by
  have hops : (Op.range t x).operands.toList.map (ev ps.f) = [ev ps.f x] := by simp [Op.operands]
  generalize hv : evX f x = v at h
  unfold xRange at h
  split at h
  · rename_i l d
    split at h
    · rename_i a b D ho
      obtain ⟨hb, hK⟩ := cond_some h
      simp only [Bool.and_eq_true] at hb
      obtain ⟨kt, et, u1, u2, u3, u4⟩ := mtOk_spec C.hE hb.1
      have hml := C.at ho (by simp)
      have hlt : l < nl := C.old' ho (by simp)
      refine good_ext (v := ⟨.sr nl, ()⟩) (r := .srf nl) [(l, .cu (mpC a b D) []), (nl, .free), (nl + 1, .free)] (fun q hq => ?_) (by simp [absU, absO]) ?_ (Le.refl _) (by simp) (by simp; omega) hK
      · simp at hq
        rcases hq with rfl | rfl | rfl
        · exact hml
        · exact C.free0
        · exact C.free (j := 1) (by omega)
      · rw [hops, ev_of (t := .sr l) (y := d) C.toAbs hv rfl]
        exact ext_rangeOwn u1 (by omega) (by omega)
    · cases h
  · rename_i g y
    split at h
    · rename_i l a b xs hq
      have ho := getM_spec hq
      obtain ⟨i, hi, h⟩ := bind_some h
      obtain ⟨D, hD, h⟩ := bind_some h
      obtain ⟨hb, hK⟩ := cond_some h
      simp only [Bool.and_eq_true] at hb
      obtain ⟨kt, et, u1, u2, u3, u4⟩ := mtOk_spec C.hE hb.1
      have hi : y = (some i : Option Nat) := hi
      subst hi
      have hml := C.at ho (by simp)
      have hlt : l < nl := C.old' ho (by simp)
      refine good_ext (v := ⟨.sr nl, ()⟩) (r := .srf nl) [(l, .cu (amC g a b xs) []), (nl, .free), (nl + 1, .free)] (fun q hq => ?_) (by simp [absU, absO]) ?_ (Le.refl _) (by simp) (by simp; omega) hK
      · simp at hq
        rcases hq with rfl | rfl | rfl
        · exact hml
        · exact C.free0
        · exact C.free (j := 1) (by omega)
      · rw [hops, ev_of (t := .vm g) (y := (some i : Option Nat)) C.toAbs hv rfl]
        exact ext_rangeGrp (lget_some hD) u1 (by omega) (by omega)
    · cases h
  · cases h
theorem xEntry_good (C : Ctx E N f m ps nl) {x : Operand} (h : xEntry m (evX f x) K = some out) : Good E ps nl (.entry x) K out := by
  have hops : (Op.entry x).operands.toList.map (ev ps.f) = [ev ps.f x] := by simp [Op.operands]
  generalize hv : evX f x = v at h
  unfold xEntry at h
  split at h
  · rename_i li d
    split at h
    · rename_i a b own l lg rest p ho
      obtain ⟨hb, h⟩ := cond_some h
      simp only [Bool.and_eq_true] at hb
      have hmi := C.at ho (by simp)
      have key : ∀ (l' : Nat) (o : PO), Lockd o lg → ps.m[l']? = some o → K ⟨.tp (.pr a (.pr b .un)), pmk p.1 (pmk p.2 ())⟩ [] [li, l'] = some out → Good E ps nl (.entry x) K out := fun l' o hL hml hK => by
        refine good_ext (r := .tup [.d (rep a p.1).pv, .d (rep b p.2).pv]) [(li, .cu (itC a b rest (some p)) [.srf lg]), (l', o)] (fun q hq => ?_) (by simp [absU]) ?_ (.inr ?_) (by simp) (by simp) hK
        · simp at hq
          rcases hq with rfl | rfl
          · exact hmi
          · exact hml
        · rw [hops, ev_of (t := .sr li) (y := d) C.toAbs hv rfl]
          exact ext_entry hL hb.1
        · have e1 : (rep a p.1).fv = .d (rep a p.1).pv := (rep_dat a p.1 (by cases a <;> first | rfl | (simp [Ty.ky] at hb))).2.1
          have e2 : (rep b p.2).fv = .d (rep b p.2).pv := (rep_dat b p.2 hb.2).2.1
          show _ = FV.tup [(rep a p.1).fv, (rep b p.2).fv]
          rw [e1, e2]
      cases own with
      | true =>
        rw [cond_true] at h
        split at h
        · rename_i a' b' lg' D' ho'
          obtain ⟨he, hK⟩ := cond_some h
          have e := Nat.eq_of_beq_eq_true he
          subst e
          exact key l _ lockd_lk (C.at ho' (by simp)) hK
        · cases h
      | false =>
        rw [cond_false] at h
        split at h
        · rename_i l' a' b' i' lg' Ds' hq'
          obtain ⟨he, hK⟩ := cond_some h
          have e := Nat.eq_of_beq_eq_true he
          subst e
          exact key l' _ lockd_ah (C.at (getA_spec hq') (by simp)) hK
        · cases h
    · cases h
  · cases h
end
end Go.Proofs.YtnkdanobhgofbaaGreatDoor.pv
