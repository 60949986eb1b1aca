/- Maps whose values are data in memory, and loops over them: the order is whatever it is. -/
import Derived.Test.YtdimcmpkhbfcnaaSv
import Derived.Test.YtdimcmpkhbfcnaaSk
import Derived.Test.YtdimcmpkhbfcnaaSh
import Derived.Maps.RangeRun
namespace Go.Proofs.Ytdimcmpkhbfcnaa.pv
set_option linter.all false
open Go.RowKit Go.MapKept
section
variable {κ ν : Type} [DecidableEq κ] {f : κ → Value} {g : ν → PV}
/-- entries of a map as data -/
def RM (ow : Nat → Bool) (w : World) (f : κ → Value) (g : ν → PV) : List (κ × ν) → List MapEntry → Prop
  | [], [] => True
  | p :: r, e :: es => e.key = f p.1 ∧ R ow w (g p.2) e.val ∧ e.val.oneCell' = true ∧ RM ow w f g r es
  | _, _ => False
theorem RM.mono {ow ow' : Nat → Bool} {w w' : World} (k : Kp ow w ow' w') : ∀ {E : List (κ × ν)} {es : List MapEntry}, RM ow w f g E es → RM ow' w' f g E es
  | [], [], _ => trivial
  | p :: r, e :: es, ⟨h1, h2, h3, h4⟩ => ⟨h1, R.mono k _ _ h2, h3, RM.mono k h4⟩
  | [], _ :: _, h => h.elim
  | _ :: _, [], h => h.elim
theorem RM.app {ow : Nat → Bool} {w : World} : ∀ {E : List (κ × ν)} {es : List MapEntry} {E' : List (κ × ν)} {es' : List MapEntry}, RM ow w f g E es → RM ow w f g E' es' → RM ow w f g (E ++ E') (es ++ es')
  | [], [], _, _, _, h => h
  | p :: r, e :: es, _, _, ⟨h1, h2, h3, h4⟩, h => ⟨h1, h2, h3, RM.app h4 h⟩
  | [], _ :: _, _, _, h, _ => h.elim
  | _ :: _, [], _, _, h, _ => h.elim
theorem RM.len {ow : Nat → Bool} {w : World} : ∀ {E : List (κ × ν)} {es : List MapEntry}, RM ow w f g E es → es.length = E.length
  | [], [], _ => rfl
  | p :: r, e :: es, ⟨_, _, _, h⟩ => by simp [RM.len h]
  | [], _ :: _, h => h.elim
  | _ :: _, [], h => h.elim
theorem RM.mod {ow : Nat → Bool} {w : World} {k : κ} {v : ν} {u : Value} (hr : R ow w (g v) u) (ho : u.oneCell' = true) : ∀ {E : List (κ × ν)} {es : List MapEntry} (i : Nat), RM ow w f g E es → RM ow w f g (E.set i (k, v)) (es.modify i fun e => { e with key := f k, val := u })
  | [], [], i, _ => by rw [List.modify_nil]; trivial
  | p :: r, e :: es, 0, ⟨_, _, _, h⟩ => ⟨rfl, hr, ho, h⟩
  | p :: r, e :: es, i + 1, ⟨h1, h2, h3, h⟩ => ⟨h1, h2, h3, RM.mod hr ho i h⟩
  | [], _ :: _, _, h => h.elim
  | _ :: _, [], _, h => h.elim
/-- one entry taken out -/
theorem RM.out {ow : Nat → Bool} {w : World} : ∀ {E : List (κ × ν)} {es : List MapEntry}, RM ow w f g E es → ∀ (a : List MapEntry) (e : MapEntry) (b : List MapEntry), es = a ++ e :: b → ∃ A p B, E = A ++ p :: B ∧ e.key = f p.1 ∧ R ow w (g p.2) e.val ∧ e.val.oneCell' = true ∧ RM ow w f g (A ++ B) (a ++ b)
  | [], [], _, a, e, b, h => by cases a <;> cases h
  | p :: r, e0 :: es, ⟨h1, h2, h3, h4⟩, [], e, b, h => by
    obtain ⟨rfl, rfl⟩ := List.cons.inj h
    exact ⟨[], p, r, rfl, h1, h2, h3, h4⟩
  | p :: r, e0 :: es, ⟨h1, h2, h3, h4⟩, a0 :: a, e, b, h => by
    rw [List.cons_append] at h
    obtain ⟨rfl, hh⟩ := List.cons.inj h
    obtain ⟨A, q, B, rfl, q1, q2, q3, q4⟩ := RM.out h4 a e b hh
    exact ⟨p :: A, q, B, rfl, q1, q2, q3, h1, h2, h3, q4⟩
  | [], _ :: _, h, _, _, _, _ => h.elim
  | _ :: _, [], h, _, _, _, _ => h.elim
def zv : List (κ × ν) → List MapEntry → List (κ × Value)
  | p :: r, e :: es => (p.1, e.val) :: zv r es
  | _, _ => []
theorem zv_ok {ow : Nat → Bool} {w : World} : ∀ {E : List (κ × ν)} {es : List MapEntry}, RM ow w f g E es → es.map (fun e => (e.key, e.val)) = (zv E es).map (fun p => (f p.1, p.2))
  | [], [], _ => rfl
  | p :: r, e :: es, ⟨h1, _, _, h⟩ => by simp [zv, h1, zv_ok h]
  | [], _ :: _, h => h.elim
  | _ :: _, [], h => h.elim
theorem zv_plc {ow : Nat → Bool} {w : World} {k : κ} : ∀ {E : List (κ × ν)} {es : List MapEntry}, RM ow w f g E es → (mplc (zv E es) k).map (·.1) = (mplc E k).map (·.1)
  | [], [], _ => rfl
  | p :: r, e :: es, ⟨_, _, _, h⟩ => by
    have ih := zv_plc (k := k) h
    unfold zv mplc
    simp only
    by_cases q : k = p.1
    · simp [q]
    · simp only [q, if_false]
      cases h1 : mplc (zv r es) k <;> cases h2 : mplc r k <;> simp_all
  | [], _ :: _, h => h.elim
  | _ :: _, [], h => h.elim
/-- each entry has a stamp of its own -/
def Stp (es : List MapEntry) (clock : Nat) : Prop := (∀ e ∈ es, e.born < clock) ∧ es.Pairwise (fun x y => x.born ≠ y.born)
theorem Stp.push {es : List MapEntry} {clock : Nat} (h : Stp es clock) (k v : Value) : Stp (es ++ [{ key := k, val := v, born := clock }]) (clock + 1) := by
  refine ⟨fun e he => ?_, ?_⟩
  · rcases List.mem_append.1 he with he | he
    · have := h.1 e he; omega
    · rw [List.mem_singleton.1 he]; exact Nat.lt_succ_self _
  · rw [List.pairwise_append]
    refine ⟨h.2, by simp, fun a ha b hb => ?_⟩
    rw [List.mem_singleton.1 hb]
    have := h.1 a ha
    simp only
    omega
theorem mod_born (k v : Value) : ∀ (es : List MapEntry) (i : Nat), (es.modify i fun e => { e with key := k, val := v }).map (·.born) = es.map (·.born)
  | [], i => by rw [List.modify_nil]
  | e :: es, 0 => rfl
  | e :: es, i + 1 => by simp only [List.modify_succ_cons, List.map_cons, mod_born k v es i]
theorem Stp.of_born {es es' : List MapEntry} {clock : Nat} (h : Stp es clock) (e : es'.map (·.born) = es.map (·.born)) : Stp es' clock := by
  refine ⟨fun x hx => ?_, ?_⟩
  · have : x.born ∈ es.map (·.born) := by rw [← e]; exact List.mem_map.2 ⟨x, hx, rfl⟩
    obtain ⟨y, hy, hb⟩ := List.mem_map.1 this
    rw [← hb]; exact h.1 y hy
  · have h2 := (List.pairwise_map (f := fun x : MapEntry => x.born) (R := fun a b : Nat => a ≠ b)).2 h.2
    rw [← e] at h2
    exact List.pairwise_map.1 h2
/-- a map that one variable has, its values data -/
def mapR (f : κ → Value) (g : ν → PV) (E : List (κ × ν)) : Cust where
  I ow w h vs := ∃ b clock es, h = .map (some b) ∧ w.heap[b]? = some (.map es clock) ∧ RM ow w f g E es.toList ∧ Stp es.toList clock
  lt := by
    rintro ow w h vs ⟨b, clock, es, rfl, h2, _⟩ b' hb
    simp [blocksOf, blockOf] at hb
    subst hb
    exact (Array.getElem?_eq_some_iff.1 h2).1
  kp := by
    rintro ow ow' w w' h vs k hb ⟨b, clock, es, rfl, h2, h3, h4⟩
    exact ⟨b, clock, es, rfl, by rw [(hb b (by simp [blocksOf, blockOf])).1]; exact h2, h3.mono k, h4⟩
  one := by rintro ow w h vs ⟨b, clock, es, rfl, _⟩; rfl
/-- a loop over a map under way: what is still to come, and the entry that came last -/
def itR (f : κ → Value) (g : ν → PV) (rest : List (κ × ν)) (cur : Option (κ × ν)) : Cust where
  I ow w h vs := ∃ r b clock es since seen c0, h = .pointer (some ⟨r, 0, none⟩) ∧ w.heap[r]? = some (.mapIter (some b) since seen c0) ∧ b < w.heap.size ∧ ow b = false ∧ w.heap[b]? = some (.map es clock) ∧ Stp es.toList clock ∧ (∀ e ∈ es.toList, e.born < since) ∧ since ≤ c0 ∧ since ≤ clock ∧
    RM ow w f g rest (leftOf es seen).toList ∧ (∀ p, cur = some p → ∃ e ∈ es.toList, ∃ seen' : Array Nat, seen = seen'.push e.born ∧ c0 = clock ∧ e.key = f p.1 ∧ R ow w (g p.2) e.val ∧ e.val.oneCell' = true)
  lt := by
    rintro ow w h vs ⟨r, b, clock, es, since, seen, c0, rfl, h2, _⟩ b' hb
    simp [blocksOf, blockOf] at hb
    subst hb
    exact (Array.getElem?_eq_some_iff.1 h2).1
  kp := by
    rintro ow ow' w w' h vs k hb ⟨r, b, clock, es, since, seen, c0, rfl, h2, h3, h4, h5, h6, h7, h8, h9, h10, h11⟩
    refine ⟨r, b, clock, es, since, seen, c0, rfl, by rw [(hb r (by simp [blocksOf, blockOf])).1]; exact h2, Nat.lt_of_lt_of_le h3 k.size, k.pub b h3 h4, by rw [k.same b h3 h4]; exact h5, h6, h7, h8, h9, h10.mono k, fun p hp => ?_⟩
    obtain ⟨e, q1, s, q2, q3, q4, q5, q6⟩ := h11 p hp
    exact ⟨e, q1, s, q2, q3, q4, R.mono k _ _ q5, q6⟩
  one := by rintro ow w h vs ⟨r, b, clock, es, since, seen, c0, rfl, _⟩; rfl
end
section
variable {P : Program} {T : List TI} {n : Nat} {w0 : Cx} {st : PS} {a : Act} {w : World} {ow : Nat → Bool} {hd : Nat → Value}
variable {κ ν : Type} [DecidableEq κ] {f : κ → Value} {g : ν → PV} {E : List (κ × ν)}
/-- a new object at a new block -/
theorem SimW.newCu (S : SimW n w0 st a w ow hd) {l : Nat} (hl : st.m[l]? = some .free) (q : Cust) (o : Obj) (hv : Value) (hbl : ∀ b, b ∈ blocksOf hv → b = w.heap.size) (hob : hv.oneCell' = true)
    (hI : ∀ ow', ow' w.heap.size = true → Kp ow w ow' (w.alloc o) → q.I ow' (w.alloc o) hv []) :
    ∃ ow' hd', ((∀ b, b < w.heap.size → ow' b = ow b) ∧ ∀ j, al st.m j = true → al (st.m.set l (.cu q [])) j = true ∧ hd' j = hd j) ∧ hd' l = hv ∧ SimW n w0 ⟨st.f, st.m.set l (.cu q [])⟩ a (w.alloc o) ow' hd' ∧ al (st.m.set l (.cu q [])) l = true := by
  have hsz : (w.alloc o).heap.size = w.heap.size + 1 := by simp
  have hk : Kp ow w (fun b => if b = w.heap.size then true else ow b) (w.alloc o) :=
    ⟨by rw [hsz]; omega, fun b hb h => by show (if b = w.heap.size then true else ow b) = false; rw [if_neg (by omega)]; exact h, fun b hb _ => Below.heap_alloc w _ b hb⟩
  have hal : al st.m l = false := by simp [al, hl, PO.made]
  have hlt : l < st.m.length := (List.getElem?_eq_some_iff.1 hl).1
  have ha : ∀ j, al st.m j = true → al (st.m.set l (.cu q [])) j = true ∧ upd hd l hv j = hd j := by
    intro j hj
    refine ⟨al_set_mono rfl j hj, ?_⟩
    rw [upd_ne]
    intro e; rw [e, hal] at hj; cases hj
  have S' := S.obj (l := l) (hv := hv) (o := .cu q []) hk (Kt.of_below ((Below.refl _ _).alloc S.below.size _) (Nat.le_refl _))
    (fun b hb => by rw [hsz] at hb; show (if b = w.heap.size then true else ow b) = false; rw [if_neg (by omega)]; exact S.fresh b (by omega)) (.inl hal) rfl
    ⟨fun b hb => by
        rw [hbl b hb]
        exact ⟨.inl S.below.size, by simp⟩,
      [], by simp [RFL], hI _ (by simp) hk⟩
    (fun j oj b e hj hl hbk => by
      have := ((S.objs j oj hj).lt hl b hbk).1
      refine ⟨Below.heap_alloc w _ b this, if_neg (by omega), fun _ he => ?_⟩
      have := hbl b he
      omega)
  refine ⟨_, _, ⟨?_, ha⟩, by rw [upd_same], S', by rw [al_set_same hlt]; rfl⟩
  intro b hb
  show (if b = w.heap.size then true else ow b) = ow b
  rw [if_neg (by omega)]
theorem rmake {t nl : Nat} (f : κ → Value) (g : ν → PV) : Ext P T (.makeMap t none) [] [(nl, .free)] (.srf nl) [(nl, .cu (mapR f g []) [])] := by
  intro n w0 st a w o hT hS ho hn hv hm K Q hK
  obtain ⟨ow, hd, hold, S⟩ := hS
  obtain ⟨d, op, ty, pos, af, gd⟩ := o
  simp only at ho hn hK
  subst ho
  have hml := hm (nl, .free) (by simp)
  obtain ⟨ow', hd', ⟨h1, h2⟩, h3, S', h4⟩ := S.newCu hml (mapR f g []) (.map #[] 0) (.map (some w.heap.size)) (fun b hb => by simp [blocksOf, blockOf] at hb; exact hb) rfl
    (fun ow' _ _ => ⟨w.heap.size, 0, #[], rfl, heap_alloc_new w _, trivial, by simp, by simp⟩)
  have hrun : (execOp a.eval ⟨d, .makeMap t none, ty, pos, af, gd⟩).run P w = .ok (.value (.map (some w.heap.size))) (w.alloc (.map #[] 0)) := by
    have : (Instr.makeMap t none).run P w = .ok (.map (some w.heap.size)) (w.alloc (.map #[] 0)) := rfl
    simp only [execOp, Option.map_none, Sem.run_bind, this, Result.andThen_ok, Sem.run_pure]
  exact wp_val' hrun (hK _ _ ⟨ow', hd', hold.step fun b hb _ => h1 b (Nat.lt_of_lt_of_le hb S.below.size), S'.put hn (by simp only [RF]; exact ⟨h4, h3.symm, by rw [h3]; rfl⟩)⟩)
theorem rput {t kt et l : Nat} {x y z : Operand} {k : κ} {v : ν} {fk : FV} (hfk : KV fk (f k)) (h1 : P.underlying t = some (.map kt et)) (hk : KW P kt f) (hone : ∀ (ow : Nat → Bool) (w : World) (u : Value), R ow w (g v) u → u.oneCell' = true) :
    Ext P T (.mapUpdate t x y z) [.srf l, fk, .d (g v)] [(l, .cu (mapR f g E) [])] .dead [(l, .cu (mapR f g (mput E k v)) [])] := by
  intro n w0 st a w o hT hS ho hn hv hm K Q hK
  obtain ⟨ow, hd, hold, S⟩ := hS
  obtain ⟨dst, op, ty, pos, af, gd⟩ := o
  simp only at ho hn hK
  subst ho
  simp [Op.operands] at hv
  obtain ⟨hv1, hv2, hv3⟩ := hv
  have hml := hm (l, .cu (mapR f g E) []) (by simp)
  simp only at hml
  obtain ⟨g1, vs, g2, b, clock, es, q1, q2, q3, q4⟩ := S.objs l _ hml
  have hx := S.eval x
  rw [hv1] at hx
  simp only [RF] at hx
  obtain ⟨_, hx, _⟩ := hx
  have hy : a.eval y = f k := by have := S.eval y; rw [hv2] at this; exact hfk _ _ _ _ _ this
  have hz := S.d hv3
  have hzo := hone _ _ _ hz
  generalize hzu : a.eval z = u at hz hzo
  have q3' := zv_ok q3
  have hf := hk.find (fun q : Value => q) k es.toList (zv E es.toList) w q3'
  have hpl := zv_plc (k := k) q3
  have hgo : ∃ es' clock', (Instr.mapUpdate t (.map (some b)) (f k) u).run P w = .ok () { w with heap := w.heap.setIfInBounds b (.map es' clock') } ∧ RM ow w f g (mput E k v) es'.toList ∧ Stp es'.toList clock' := by
    cases hq : mplc (zv E es.toList) k with
    | none =>
      rw [hq] at hf hpl
      have hq' : mplc E k = none := by cases h : mplc E k with | none => rfl | some _ => rw [h] at hpl; cases hpl
      refine ⟨es.push { key := f k, val := u, born := clock }, clock + 1, ?_, ?_, ?_⟩
      · simp [Instr.mapUpdate, run_underlying h1, MapKept.run_getObj_map q2, hk.chk, hf, run_setObj_map _ q2, Result.andThen]
      · simp only [mput, hq', Array.toList_push]
        exact q3.app ⟨rfl, hz, hzo, trivial⟩
      · rw [Array.toList_push]; exact q4.push _ _
    | some q =>
      obtain ⟨i, v0⟩ := q
      rw [hq] at hf hpl
      have he := mplc_some hq
      have hi : (es.toList.map (fun e => (e.key, e.val)))[i]? = some (f k, v0) := by rw [q3', List.getElem?_map, he]; rfl
      rw [List.getElem?_map] at hi
      cases hq' : mplc E k with
      | none => rw [hq'] at hpl; cases hpl
      | some q' =>
        obtain ⟨i', v1⟩ := q'
        rw [hq'] at hpl
        simp at hpl
        subst hpl
        cases hj : es.toList[i]? with
        | none => simp [hj] at hi
        | some e =>
          simp [hj] at hi
          have hj' : es[i]? = some e := by simpa using hj
          refine ⟨es.modify i fun e => { e with key := f k, val := u }, clock, ?_, ?_, ?_⟩
          · simp [Instr.mapUpdate, run_underlying h1, MapKept.run_getObj_map q2, hk.chk, hf, hj', hi.1, hk.stay, run_setObj_map _ q2, Result.andThen]
          · simp only [mput, hq', Array.toList_modify]
            exact q3.mod hz hzo i
          · rw [Array.toList_modify]
            exact q4.of_born (mod_born _ _ _ _)
  obtain ⟨es', clock', hrun, hes, hst⟩ := hgo
  have hrun' : (execOp a.eval ⟨dst, .mapUpdate t x y z, ty, pos, af, gd⟩).run P w = .ok .skip { w with heap := w.heap.setIfInBounds b (.map es' clock') } := by
    simp only [execOp, hx, q1, hy, hzu, Sem.run_bind, hrun, Result.andThen_ok, Sem.run_pure]
  obtain ⟨h2, h3⟩ := heap_set (o' := .map es' clock') q2
  obtain ⟨hnw, how⟩ := g1 b (by rw [q1]; first | rfl | simp [blocksOf, blockOf])
  have hbel : Below 0 w { w with heap := w.heap.setIfInBounds b (.map es' clock') } := ⟨rfl, rfl, rfl, by simp, fun j hj => by omega⟩
  have hkp : Kp ow w ow { w with heap := w.heap.setIfInBounds b (.map es' clock') } := ⟨by simp, fun _ _ h => h, fun j _ hj => h3 j (fun e => by rw [e, how] at hj; cases hj)⟩
  have S' := S.set (l := l) (b := b) (o' := .cu (mapR f g (mput E k v)) []) hml rfl rfl (by rw [q1]; first | rfl | simp [blocksOf, blockOf]) h3 (by simp) (Kt.of_one hbel hnw h3)
    ⟨fun b' hb' => g1 b' hb', [], by simp [RFL], b, clock', es', q1, h2, hes.mono hkp, hst⟩
  exact wp_skip' hrun' (hK _ _ ⟨ow, hd, hold, by
    have := S'.put hn (x := .dead) (v := undef) (by simp only [RF])
    exact this⟩)
theorem leftOf_nil (es : Array MapEntry) : leftOf es #[] = es := by
  unfold leftOf
  rw [Array.filter_eq_self]
  intro e _; simp
/-- range over such a map: nothing more is put into it -/
theorem rrange {t kt et l nl : Nat} {x : Operand} (h1 : P.underlying t = some (.map kt et)) (hne : l ≠ nl) :
    Ext P T (.range t x) [.srf l] [(l, .cu (mapR f g E) []), (nl, .free)] (.ref nl 0) [(l, .none), (nl, .cu (itR f g E none) [])] := by
  intro n w0 st a w o hT hS ho hn hv hm K Q hK
  obtain ⟨ow, hd, hold, S⟩ := hS
  obtain ⟨dst, op, ty, pos, af, gd⟩ := o
  simp only at ho hn hK
  subst ho
  simp [Op.operands] at hv
  have hml := hm (l, .cu (mapR f g E) []) (by simp)
  have hmn := hm (nl, .free) (by simp)
  simp only at hml hmn
  obtain ⟨g1, vs, g2, b, clock, es, q1, q2, q3, q4⟩ := S.objs l _ hml
  have hx := S.eval x
  rw [hv] at hx
  simp only [RF] at hx
  obtain ⟨_, hx, _⟩ := hx
  obtain ⟨hnw, how⟩ := g1 b (by rw [q1]; first | rfl | simp [blocksOf, blockOf])
  have hbl := (Array.getElem?_eq_some_iff.1 q2).1
  have hlt : l < st.m.length := (List.getElem?_eq_some_iff.1 hml).1
  -- the map is nobody's any more
  have S1 := S.kill l
  obtain ⟨hk1, hold1, S2⟩ := S1.publ hold (fun j => j == b) (fun j hj => (show j = b by simpa using hj) ▸ hnw) (fun j oj b' hj hl hb' => by
    by_cases e : j = l
    · subst e
      rw [List.getElem?_set, if_pos rfl, if_pos hlt] at hj
      obtain rfl := Option.some.inj hj
      cases hl
    · rw [List.getElem?_set, if_neg (fun q => e q.symm)] at hj
      by_cases q : b' = b
      · subst q
        exact absurd hb' (S.dist l j _ oj b' (fun z => e z.symm) hml hj rfl hl (by rw [q1]; first | rfl | simp [blocksOf, blockOf]))
      · simpa using q)
  have hmn' : (st.m.set l .none)[nl]? = some .free := by rw [List.getElem?_set, if_neg hne]; exact hmn
  obtain ⟨ow', hd', ⟨h2, h3⟩, h4, S3, h5⟩ := S2.newCu hmn' (itR f g E none) (.mapIter (some b) clock #[] clock) (.pointer (some ⟨w.heap.size, 0, none⟩)) (fun b' hb' => by simp [blocksOf, blockOf] at hb'; exact hb') rfl
    (fun ow' _ hkp => ⟨w.heap.size, b, clock, es, clock, #[], clock, rfl, heap_alloc_new w _, by simp; omega, hkp.pub b hbl (by simp), by rw [hkp.same b hbl (by simp)]; exact q2, q4, q4.1, Nat.le_refl _, Nat.le_refl _, by rw [leftOf_nil]; exact (q3.mono hk1).mono hkp, fun p hp => by cases hp⟩)
  have hrun : (execOp a.eval ⟨dst, .range t x, ty, pos, af, gd⟩).run P w = .ok (.value (.pointer (some ⟨w.heap.size, 0, none⟩))) (w.alloc (.mapIter (some b) clock #[] clock)) := by
    simp only [execOp, hx, q1, Sem.run_bind, run_range_map w t kt et b es clock h1 q2, Result.andThen_ok, Sem.run_pure]
  refine wp_val' hrun (hK _ _ ⟨ow', hd', hold1.step fun b hb _ => h2 b (Nat.lt_of_lt_of_le hb S.below.size), ?_⟩)
  exact S3.put hn (by simp only [RF]; exact ⟨h5, w.heap.size, h4, rfl⟩)
/-- the entry that came last -/
theorem rentry {l : Nat} {x : Operand} {rest : List (κ × ν)} {k : κ} {v : ν} (hone : (f k).oneCell' = true) :
    Ext P T (.entry x) [.ref l 0] [(l, .cu (itR f g rest (some (k, v))) [])] (.d (.tup [.v (f k), g v])) [(l, .cu (itR f g rest none) [])] := by
  intro n w0 st a w o hT hS ho hn hv hm K Q hK
  obtain ⟨ow, hd, hold, S⟩ := hS
  obtain ⟨dst, op, ty, pos, af, gd⟩ := o
  simp only at ho hn hK
  subst ho
  simp [Op.operands] at hv
  have hml := hm (l, .cu (itR f g rest (some (k, v))) []) (by simp)
  simp only at hml
  obtain ⟨g1, vs, g2, r, b, clock, es, since, seen, c0, q1, q2, q3, q4, q5, q6, q7, q8, q9, q10, q11⟩ := S.objs l _ hml
  obtain ⟨e, e1, s', rfl, rfl, e4, e5, e6⟩ := q11 _ rfl
  have hx := S.eval x
  rw [hv] at hx
  simp only [RF] at hx
  obtain ⟨_, b', hb', hx⟩ := hx
  rw [q1] at hb'
  simp at hb'
  subst hb'
  have hnd : (es.toList.map (·.born)).Nodup := List.pairwise_map.2 q6.2
  have hrun : (execOp a.eval ⟨dst, .entry x, ty, pos, af, gd⟩).run P w = .ok (.value (.tuple #[e.key, e.val])) w := by
    simp only [execOp, hx, Sem.run_bind, run_entry_at w r b since s' es c0 e q2 q5 e1 hnd, Result.andThen_ok, Sem.run_pure]
  obtain ⟨hnw, how⟩ := g1 r (by rw [q1]; first | rfl | simp [blocksOf, blockOf])
  have S' := S.set (l := l) (b := r) (o' := .cu (itR f g rest none) []) hml rfl rfl (by rw [q1]; first | rfl | simp [blocksOf, blockOf]) (fun _ _ => rfl) rfl (Kt.refl _ _)
    ⟨fun b' hb' => g1 b' hb', [], by simp [RFL], r, b, c0, es, since, s'.push e.born, c0, q1, q2, q3, q4, q5, q6, q7, q8, q9, q10, fun p hp => by cases hp⟩
  refine wp_val' hrun (hK _ _ ⟨ow, hd, hold, S'.put hn ?_⟩)
  simp only [RF, R, RT]
  simp only at e4 e5
  exact ⟨_, rfl, _, _, rfl, ⟨e4, hone⟩, _, _, rfl, e5, rfl⟩
/-- a region that asks a loop over a map for its next entry: where the loop stands, the two slots -/
def ndReg : Code → Option (Nat × Nat × Nat)
  | .region _ ops false => match ops.toList with
    | [⟨some d1, .next (.tmp it) false, _, _, _, none⟩, ⟨some d2, .extract (.tmp d1') 0, _, _, _, none⟩] => if d1 = d1' then some (it, d1, d2) else none
    | _ => none
  | _ => none
theorem eval_put {a : Act} {d : Nat} {v : Value} (h : d < a.tmps.size) : (a.put (some d) v).eval (.tmp d) = v := by
  simp [Act.put, Act.eval, Array.getElem?_set, h]
/-- the next entry: none, or any that is left -/
theorem nd_next {κ ν : Type} [DecidableEq κ] {f : κ → Value} {g : ν → PV} {Fin : Ex → PS → Prop} {c : Code} {it d1 d2 l : Nat} {rest : List (κ × ν)} {cur : Option (κ × ν)} {ks : List Fr} (hc : ndReg c = some (it, d1, d2)) (hn : (Nat.blt d1 n && Nat.blt d2 n) = true)
    (hit : st.f[it]? = some (.ref l 0)) (hm : st.m[l]? = some (.cu (itR f g rest cur) []))
    (done : rest = [] → RunE P n Fin ks .normal ⟨putF (putF st.f (some d1) .dead) (some d2) (.d (.v (.bool false))), st.m⟩)
    (more : ∀ A p B, rest = A ++ p :: B → RunE P n Fin ks .normal ⟨putF (putF st.f (some d1) .dead) (some d2) (.d (.v (.bool true))), st.m.set l (.cu (itR f g (A ++ B) (some p)) [])⟩) :
    RunE P n Fin (.s c :: ks) .normal st := by
  unfold ndReg at hc
  split at hc
  · rename_i id ops
    split at hc
    · rename_i d1' it' t1 p1 a1 d2' d1'' t2 p2 a2 hops
      split at hc
      · rename_i hd
        subst hd
        simp only [Option.some.injEq, Prod.mk.injEq] at hc
        obtain ⟨rfl, rfl, rfl⟩ := hc
        simp only [Bool.and_eq_true] at hn
        have hn1 := Nat.le_of_ble_eq_true hn.1
        have hn2 := Nat.le_of_ble_eq_true hn.2
        intro w0 a w hS
        obtain ⟨ow, hd, hold, S⟩ := hS
        refine wp_region_list ?_
        rw [hops]
        obtain ⟨g1, vs, g2, r, b, clock, es, since, seen, c0, q1, q2, q3, q4, q5, q6, q7, q8, q9, q10, q11⟩ := S.objs l _ hm
        have hx : RF (al st.m) hd ow w (.ref l 0) (a.eval (.tmp it')) := by
          have := S.slots it'
          rw [List.getD_eq_getElem?_getD, hit] at this
          exact this
        simp only [RF] at hx
        obtain ⟨_, b', hb', hx⟩ := hx
        rw [q1] at hb'
        simp at hb'
        subst hb'
        have hz1 : d1' < a.tmps.size := by rw [S.size]; exact hn1
        refine wpList_plain rfl fun K1 hK1 => ?_
        rcases run_next_at (P := P) w t1 r b since c0 seen es clock q2 q5 q7 q8 with ⟨h0, hrun⟩ | ⟨e, he, w1, hw1, hrun⟩
        · have hr0 : rest = [] := by
            have := q10.len
            simp at this
            exact List.eq_nil_of_length_eq_zero (by omega)
          have hrun' : (execOp a.eval ⟨some d1', .next (.tmp it') false, t1, p1, a1, none⟩).run P w = .ok (.value (.tuple #[.bool false])) w := by
            simp only [execOp, hx, Sem.run_bind, hrun, Result.andThen_ok, Sem.run_pure]
          refine wp_val' hrun' (hK1 _ _ ?_)
          refine wpList_plain rfl fun K2 hK2 => ?_
          have hrun2 : (execOp (a.put (some d1') (.tuple #[.bool false])).eval ⟨some d2', .extract (.tmp d1') 0, t2, p2, a2, none⟩).run P w = .ok (.value (.bool false)) w := by
            simp [execOp, eval_put hz1, Instr.extract]
          refine wp_val' hrun2 (hK2 _ _ ?_)
          have S1 := S.put (d := some d1') (fun k hk => by cases hk; exact hn1) (x := .dead) (v := .tuple #[.bool false]) (by simp only [RF])
          have S2 := S1.put (d := some d2') (fun k hk => by cases hk; exact hn2) (x := .d (.v (.bool false))) (v := .bool false) (by simp only [RF, R]; exact ⟨trivial, rfl⟩)
          exact ⟨.normal, _, rfl, done hr0, ow, hd, hold, S2⟩
        · obtain ⟨X, Y, hXY⟩ := List.append_of_mem he
          obtain ⟨A, p, B, hE, p1', p2', p3', p4'⟩ := q10.out X e Y hXY
          have hrun' : (execOp a.eval ⟨some d1', .next (.tmp it') false, t1, p1, a1, none⟩).run P w = .ok (.value (.tuple #[.bool true, e.key, e.val])) (Go.ChangeMaps.setBlock w1 r (.mapIter (some b) since (seen.push e.born) clock)) := by
            simp only [execOp, hx, Sem.run_bind, hrun, Result.andThen_ok, Sem.run_pure]
          refine wp_val' hrun' (hK1 _ _ ?_)
          refine wpList_plain rfl fun K2 hK2 => ?_
          generalize hw' : Go.ChangeMaps.setBlock w1 r (.mapIter (some b) since (seen.push e.born) clock) = w'
          have hrun2 : (execOp (a.put (some d1') (.tuple #[.bool true, e.key, e.val])).eval ⟨some d2', .extract (.tmp d1') 0, t2, p2, a2, none⟩).run P w' = .ok (.value (.bool true)) w' := by
            simp [execOp, eval_put hz1, Instr.extract]
          refine wp_val' hrun2 (hK2 _ _ ?_)
          obtain ⟨hnw, how⟩ := g1 r (by rw [q1]; first | rfl | simp [blocksOf, blockOf])
          have hrw : r < w.heap.size := (Array.getElem?_eq_some_iff.1 q2).1
          have hh : w'.heap = w.heap.setIfInBounds r (.mapIter (some b) since (seen.push e.born) clock) := by
            rw [← hw']; rcases hw1 with rfl | rfl <;> rfl
          have hos : w'.os = w.os ∧ w'.tape = w.tape ∧ w'.output = w.output := by
            rw [← hw']; rcases hw1 with rfl | rfl <;> exact ⟨rfl, rfl, rfl⟩
          have ho : ∀ j, j ≠ r → w'.heap[j]? = w.heap[j]? := fun j hj => by rw [hh, Array.getElem?_setIfInBounds, if_neg (fun e => hj e.symm)]
          have hr2 : w'.heap[r]? = some (.mapIter (some b) since (seen.push e.born) clock) := by rw [hh, Array.getElem?_setIfInBounds, if_pos rfl, if_pos hrw]
          have hsz' : w'.heap.size = w.heap.size := by rw [hh]; simp
          have hkp : Kp ow w ow w' := ⟨by omega, fun _ _ h => h, fun j _ hj => ho j (fun e => by rw [e, how] at hj; cases hj)⟩
          have hbr : b ≠ r := fun e => by rw [e, how] at q4; cases q4
          have heE : e ∈ es.toList := by
            have := he
            unfold leftOf at this
            simp at this
            simpa using this.1
          have hleft : (leftOf es (seen.push e.born)).toList = X ++ Y := by
            have e0 : (leftOf es (seen.push e.born)).toList = (leftOf es seen).toList.filter (fun x => !(x.born == e.born)) := by
              unfold leftOf
              simp only [Array.toList_filter, List.filter_filter]
              refine List.filter_congr fun x _ => ?_
              rw [Array.contains_push]
              cases seen.contains x.born <;> cases h : (x.born == e.born) <;> simp_all
            rw [e0, hXY, List.filter_append, List.filter_cons]
            have hpw : (leftOf es seen).toList.Pairwise (fun x y => x.born ≠ y.born) := by
              unfold leftOf
              rw [Array.toList_filter]
              exact q6.2.filter _
            rw [hXY, List.pairwise_append] at hpw
            obtain ⟨_, w2, w3⟩ := hpw
            have w4 := (List.pairwise_cons.1 w2).1
            have fX : X.filter (fun x => !(x.born == e.born)) = X := List.filter_eq_self.2 fun x hx => by have := w3 x hx e (by simp); simpa using this
            have fY : Y.filter (fun x => !(x.born == e.born)) = Y := List.filter_eq_self.2 fun x hx => by have := w4 x hx; simpa using fun z => this z.symm
            rw [fX, fY]
            simp
          have S0 := S.set (l := l) (b := r) (o' := .cu (itR f g (A ++ B) (some p)) []) hm rfl rfl (by rw [q1]; first | rfl | simp [blocksOf, blockOf]) ho hsz' (Kt.of_one ⟨hos.1, hos.2.1, hos.2.2, by omega, fun j hj => by omega⟩ hnw ho (B := 0))
            ⟨fun b' hb' => g1 b' hb', [], by simp [RFL], r, b, clock, es, since, seen.push e.born, clock, q1, hr2, by omega, q4, by rw [ho b hbr]; exact q5, q6, q7, q9, q9, by rw [hleft]; exact p4'.mono hkp, fun p0 hp0 => by
              cases hp0
              exact ⟨e, heE, seen, rfl, rfl, p1', R.mono hkp _ _ p2', p3'⟩⟩
          have S1 := S0.put (d := some d1') (fun k hk => by cases hk; exact hn1) (x := .dead) (v := .tuple #[.bool true, e.key, e.val]) (by simp only [RF])
          have S2 := S1.put (d := some d2') (fun k hk => by cases hk; exact hn2) (x := .d (.v (.bool true))) (v := .bool true) (by simp only [RF, R]; exact ⟨trivial, rfl⟩)
          exact ⟨.normal, _, rfl, more A p B hE, ow, hd, hold, S2⟩
      · cases hc
    · cases hc
  · cases hc
theorem slone {xs : List PV} (ow : Nat → Bool) (w : World) (u : Value) (h : R ow w (.sl xs) u) : u.oneCell' = true := by
  simp only [R] at h
  obtain ⟨a, c, rfl, _⟩ := h
  rfl
end
/-- all orders of a list -/
def insAll {α : Type} (x : α) : List α → List (List α)
  | [] => [[x]]
  | y :: l => (x :: y :: l) :: (insAll x l).map (y :: ·)
def perms {α : Type} : List α → List (List α)
  | [] => [[]]
  | x :: l => (perms l).flatMap (insAll x)
theorem mem_ins {α : Type} {x : α} : ∀ {A B : List α}, A ++ x :: B ∈ insAll x (A ++ B)
  | [], [] => by simp [insAll]
  | [], y :: B => by simp [insAll]
  | a :: A, B => by
    simp only [List.cons_append, insAll, List.mem_cons, List.mem_map]
    exact .inr ⟨_, mem_ins, rfl⟩
theorem of_ins {α : Type} {x : α} : ∀ {l q : List α}, q ∈ insAll x l → q.Perm (x :: l)
  | [], q, h => by simp [insAll] at h; subst h; exact .refl _
  | y :: l, q, h => by
    simp only [insAll, List.mem_cons, List.mem_map] at h
    rcases h with rfl | ⟨z, hz, rfl⟩
    · exact .refl _
    · exact (List.Perm.cons y (of_ins hz)).trans (List.Perm.swap x y l)
theorem mem_perms {α : Type} : ∀ {l q : List α}, q.Perm l → q ∈ perms l
  | [], q, h => by rw [h.eq_nil]; simp [perms]
  | x :: l, q, h => by
    have hx : x ∈ q := h.symm.subset (by simp)
    obtain ⟨A, B, rfl⟩ := List.append_of_mem hx
    have h2 : (A ++ B).Perm l := (List.perm_middle.symm.trans h).cons_inv
    simp only [perms, List.mem_flatMap]
    exact ⟨_, mem_perms h2, mem_ins⟩
theorem of_perms {α : Type} : ∀ {l q : List α}, q ∈ perms l → q.Perm l
  | [], q, h => by simp [perms] at h; subst h; exact .refl _
  | x :: l, q, h => by
    simp only [perms, List.mem_flatMap] at h
    obtain ⟨z, hz, hq⟩ := h
    exact (of_ins hq).trans (List.Perm.cons x (of_perms hz))
end Go.Proofs.Ytdimcmpkhbfcnaa.pv
