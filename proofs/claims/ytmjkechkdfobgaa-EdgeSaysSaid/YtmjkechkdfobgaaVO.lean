/- The interpreter's operations are acts: maps. -/
import Derived.Test.YtmjkechkdfobgaaVN
namespace Go.Proofs.Ytmjkechkdfobgaa.pv
set_option linter.all false
open Go.RowKit Go.MapKept

theorem Stp.push {es : List MapEntry} {clock : Nat} (h : Stp es clock) (k v : Value) : Stp (es ++ [{ key := k, val := v, born := clock }]) (clock + 1) := by
  refine ⟨fun e he => ?_, ?_⟩
  · rcases List.mem_append.1 he with he | he
    · have := h.1 e he; omega
    · rw [List.mem_singleton.1 he]; exact Nat.lt_succ_self _
  · rw [List.pairwise_append]
    refine ⟨h.2, by simp, fun a ha b hb => ?_⟩
    rw [List.mem_singleton.1 hb]
    have := h.1 a ha
    simp only
    omega
theorem mod_born (k v : Value) : ∀ (es : List MapEntry) (i : Nat), (es.modify i fun e => { e with key := k, val := v }).map (·.born) = es.map (·.born)
  | [], i => by rw [List.modify_nil]
  | e :: es, 0 => rfl
  | e :: es, i + 1 => by simp only [List.modify_succ_cons, List.map_cons, mod_born k v es i]
theorem Stp.of_born {es es' : List MapEntry} {clock : Nat} (h : Stp es clock) (e : es'.map (·.born) = es.map (·.born)) : Stp es' clock := by
  refine ⟨fun x hx => ?_, ?_⟩
  · have : x.born ∈ es.map (·.born) := by rw [← e]; exact List.mem_map.2 ⟨x, hx, rfl⟩
    obtain ⟨y, hy, hb⟩ := List.mem_map.1 this
    rw [← hb]; exact h.1 y hy
  · have h2 := (List.pairwise_map (f := fun x : MapEntry => x.born) (R := fun a b : Nat => a ≠ b)).2 h.2
    rw [← e] at h2
    exact List.pairwise_map.1 h2
theorem Stp.sub {es es' : List MapEntry} {clock : Nat} (h : Stp es clock) (e : es'.Sublist es) : Stp es' clock :=
  ⟨fun x hx => h.1 x (e.subset hx), h.2.sublist e⟩
/-- a key's place and value -/
def mpos {κ ν : Type} (eq : κ → κ → Bool) : List (κ × ν) → κ → Option (Nat × ν)
  | [], _ => none
  | (k, v) :: r, x => bif eq k x then some (0, v) else (mpos eq r x).map fun q => (q.1 + 1, q.2)
theorem mlook_pos {κ ν : Type} (eq : κ → κ → Bool) : ∀ (D : List (κ × ν)) (x : κ), mlook eq D x = (mpos eq D x).map (·.2)
  | [], _ => rfl
  | (k, v) :: r, x => by
    simp only [mlook, mpos]
    cases eq k x with
    | true => rfl
    | false => simp only [cond_false]; rw [mlook_pos eq r x, Option.map_map]; rfl
theorem mput_pos {κ ν : Type} (eq : κ → κ → Bool) : ∀ (D : List (κ × ν)) (x : κ) (y : ν), (mpos eq D x = none → mput eq D x y = D ++ [(x, y)]) ∧ ∀ i y0, mpos eq D x = some (i, y0) → ∃ k, D[i]? = some (k, y0) ∧ eq k x = true ∧ mput eq D x y = D.set i (k, y)
  | [], _, _ => ⟨fun _ => rfl, fun _ _ h => by simp [mpos] at h⟩
  | (k, v) :: r, x, y => by
    simp only [mpos, mput]
    cases hk : eq k x with
    | true =>
      refine ⟨fun h => by simp at h, fun i y0 h => ?_⟩
      simp only [cond_true] at h
      cases h
      exact ⟨k, rfl, hk, rfl⟩
    | false =>
      simp only [cond_false]
      obtain ⟨h1, h2⟩ := mput_pos eq r x y
      refine ⟨fun h => ?_, fun i y0 h => ?_⟩
      · have : mpos eq r x = none := by
          cases hq : mpos eq r x with
          | none => rfl
          | some q => rw [hq] at h; simp at h
        rw [h1 this]; rfl
      · cases hq : mpos eq r x with
        | none => rw [hq] at h; simp at h
        | some q =>
          obtain ⟨j, z⟩ := q
          rw [hq] at h
          simp only [Option.map_some, Option.some.injEq, Prod.mk.injEq] at h
          obtain ⟨rfl, rfl⟩ := h
          obtain ⟨k', g1, g2, g3⟩ := h2 j z hq
          exact ⟨k', by simpa using g1, g2, by rw [g3]; rfl⟩
theorem mdel_pos {κ ν : Type} (eq : κ → κ → Bool) : ∀ (D : List (κ × ν)) (x : κ), (mpos eq D x = none → mdel eq D x = D) ∧ ∀ i y0, mpos eq D x = some (i, y0) → mdel eq D x = D.eraseIdx i ∧ i < D.length
  | [], _ => ⟨fun _ => rfl, fun _ _ h => by simp [mpos] at h⟩
  | (k, v) :: r, x => by
    simp only [mpos, mdel]
    cases hk : eq k x with
    | true =>
      refine ⟨fun h => by simp at h, fun i y0 h => ?_⟩
      simp only [cond_true] at h
      cases h
      exact ⟨rfl, by simp⟩
    | false =>
      simp only [cond_false]
      obtain ⟨h1, h2⟩ := mdel_pos eq r x
      refine ⟨fun h => ?_, fun i y0 h => ?_⟩
      · have : mpos eq r x = none := by
          cases hq : mpos eq r x with
          | none => rfl
          | some q => rw [hq] at h; simp at h
        rw [h1 this]
      · cases hq : mpos eq r x with
        | none => rw [hq] at h; simp at h
        | some q =>
          obtain ⟨j, z⟩ := q
          rw [hq] at h
          simp only [Option.map_some, Option.some.injEq, Prod.mk.injEq] at h
          obtain ⟨rfl, rfl⟩ := h
          obtain ⟨g1, g2⟩ := h2 j z hq
          exact ⟨by rw [g1]; rfl, by simpa using g2⟩
theorem ib_of (x y : Int) (h : (x == y) = true) : x = y := by simpa using h
theorem ib_comm (x y : Int) : (x == y) = (y == x) := by
  cases h : (x == y) with
  | true => rw [ib_of _ _ h]; simp
  | false =>
    cases h2 : (y == x) with
    | false => rfl
    | true => rw [ib_of _ _ h2] at h; simp at h
theorem lb_of (x y : List UInt8) (h : (x == y) = true) : x = y := by simpa using h
theorem ofL_inj (x y : List UInt8) (h : ofL x = ofL y) : x = y := by
  have := congrArg (fun b : ByteArray => b.data.toList) h
  simpa [ofL] using this
theorem ofL_beq (x y : List UInt8) : (ofL x == ofL y) = (y == x) := by
  rw [Bool.eq_iff_iff, bytes_beq]
  constructor
  · intro e
    have := ofL_inj _ _ e
    subst this
    simp
  · intro e
    rw [lb_of _ _ e]
/-- keys, as the machine compares them -/
theorem keyB_spec {P : Program} {kt : Nat} {a : Ty} (h : keyB P kt a = true) : ∃ d, P.underlying kt = some d ∧ (∀ x, IsKey d (keyV a x)) ∧ (∀ x y, Instr.sameNow d (keyV a x) (keyV a y) = some (eqT a y x)) ∧ (∀ x y, eqT a x y = true → keyV a x = keyV a y) ∧ (∀ x, (keyV a x).oneCell' = true) ∧ ∀ x, (rep a x).fv = .d (.v (keyV a x)) := by
  unfold keyB at h
  split at h
  · rename_i k
    split at h
    · rename_i k' hu
      have e := kEq_eq h
      subst e
      refine ⟨_, hu, fun _ => rfl, fun x y => ?_, fun x y hxy => ?_, fun _ => rfl, fun _ => rfl⟩
      · show Instr.sameNow (.int k) (.int k x) (.int k y) = some ((show Int from y) == (show Int from x))
        simp only [Instr.sameNow, if_true]
        exact congrArg some (ib_comm x y)
      · exact congrArg (Value.int k) (ib_of x y hxy)
    · cases h
  · split at h
    · rename_i hu
      refine ⟨_, hu, fun _ => trivial, fun x y => ?_, fun x y hxy => ?_, fun _ => rfl, fun _ => rfl⟩
      · show Instr.sameNow .string (.string (ofL x)) (.string (ofL y)) = some ((show List UInt8 from y) == (show List UInt8 from x))
        simp only [Instr.sameNow]
        exact congrArg some (ofL_beq x y)
      · exact congrArg (fun z => Value.string (ofL z)) (lb_of x y hxy)
    · cases h
  · cases h
section
variable {a b : Ty} {ow : Ow} {w : World}
theorem EnL.length : ∀ {D : List (a.den × b.den)} {es : List MapEntry}, EnL a b ow w D es → es.length = D.length
  | [], es, h => by simp only [EnL] at h; subst h; rfl
  | p :: D, es, h => by obtain ⟨e, r, rfl, _, _, h⟩ := h; simp [EnL.length h]
theorem EnL.get : ∀ {D : List (a.den × b.den)} {es : List MapEntry}, EnL a b ow w D es → ∀ (i : Nat) (p : a.den × b.den), D[i]? = some p → ∃ e, es[i]? = some e ∧ e.key = keyV a p.1 ∧ R ow w (rep b p.2).pv e.val
  | [], es, h, i, p, hp => by simp at hp
  | q :: D, es, h, i, p, hp => by
    obtain ⟨e, r, rfl, h1, h2, h3⟩ := h
    cases i with
    | zero => simp at hp; subst hp; exact ⟨e, rfl, h1, h2⟩
    | succ i => simp at hp; simpa using EnL.get h3 i p hp
theorem EnL.app : ∀ {D D' : List (a.den × b.den)} {es es' : List MapEntry}, EnL a b ow w D es → EnL a b ow w D' es' → EnL a b ow w (D ++ D') (es ++ es')
  | [], D', es, es', h, h' => by simp only [EnL] at h; subst h; simpa using h'
  | p :: D, D', es, es', h, h' => by
    obtain ⟨e, r, rfl, h1, h2, h3⟩ := h
    exact ⟨e, r ++ es', rfl, h1, h2, EnL.app h3 h'⟩
theorem EnL.mod : ∀ {D : List (a.den × b.den)} {es : List MapEntry}, EnL a b ow w D es → ∀ (i : Nat) (k : a.den) (y : b.den) (v : Value), R ow w (rep b y).pv v → EnL a b ow w (D.set i (k, y)) (es.modify i fun e => { e with key := keyV a k, val := v })
  | [], es, h, i, k, y, v, hv => by simp only [EnL] at h; subst h; simp only [List.set_nil, List.modify_nil, EnL]
  | q :: D, es, h, i, k, y, v, hv => by
    obtain ⟨e, r, rfl, h1, h2, h3⟩ := h
    cases i with
    | zero => exact ⟨_, r, rfl, rfl, hv, h3⟩
    | succ i => exact ⟨e, _, rfl, h1, h2, EnL.mod h3 i k y v hv⟩
theorem EnL.del : ∀ {D : List (a.den × b.den)} {es : List MapEntry}, EnL a b ow w D es → ∀ (i : Nat), EnL a b ow w (D.eraseIdx i) (es.eraseIdx i)
  | [], es, h, i => by simp only [EnL] at h; subst h; simp only [List.eraseIdx_nil, EnL]
  | q :: D, es, h, i => by
    obtain ⟨e, r, rfl, h1, h2, h3⟩ := h
    cases i with
    | zero => exact h3
    | succ i => exact ⟨e, _, rfl, h1, h2, EnL.del h3 i⟩
theorem findNow_en {d : TypeDesc} (hn : ∀ x y, Instr.sameNow d (keyV a x) (keyV a y) = some (eqT a y x)) (k : a.den) : ∀ (es : List MapEntry) (D : List (a.den × b.den)) (i : Nat), EnL a b ow w D es →
    ∃ r, Instr.findNow d (keyV a k) es i = some r ∧ (match mpos (eqT a) D k with | none => r = none | some (j, y) => ∃ e, es[j]? = some e ∧ r = some (i + j, e.val) ∧ R ow w (rep b y).pv e.val)
  | es, [], i, h => by simp only [EnL] at h; subst h; exact ⟨none, rfl, rfl⟩
  | es, p :: D, i, h => by
    obtain ⟨e, r, rfl, h1, h2, h3⟩ := h
    unfold Instr.findNow
    rw [h1, hn]
    simp only [mpos]
    cases hk : eqT a p.1 k with
    | true => exact ⟨some (i, e.val), rfl, e, rfl, rfl, h2⟩
    | false =>
      obtain ⟨q, hq, g⟩ := findNow_en hn k r D (i + 1) h3
      refine ⟨q, by simpa using hq, ?_⟩
      simp only [cond_false]
      cases hp : mpos (eqT a) D k with
      | none => rw [hp] at g; simpa using g
      | some z =>
        obtain ⟨j, y⟩ := z
        rw [hp] at g
        obtain ⟨e', g1, g2, g3⟩ := g
        exact ⟨e', by simpa using g1, by rw [g2]; congr 2; omega, g3⟩
end
section
variable {P : Program} {T : List TI} {ow : Ow} {w : World} {a b : Ty} {t kt et : Nat}
/-- a type's zero value, as data -/
theorem zero_R (hT : TOk P T) {z : XV} (hz : zX b = some z) (h1 : cdB T et b = true) (h2 : zshB P et b = true) : ∃ zv, (∀ w, (zeroValue et).run P w = .ok zv w) ∧ ∀ ow w, R ow w (rep z.t z.x).pv zv := by
  obtain ⟨ti, t1, t2, t3, t4, t5⟩ := cdB_spec h1
  obtain ⟨z1, z2, z3, z4, z5⟩ := zX_spec hz
  obtain ⟨i, dd, e1, e2, e3, e4, e5, e6⟩ := hT.info t1
  obtain ⟨zv, hzv, e6⟩ := e6 t3
  refine ⟨zv, fun w => by simp [zeroValue, typeInfo, e1, hzv], fun ow w => ?_⟩
  have hr := zero_RL (ow := ow) (w := w) e6
  rw [t2, ← z2] at hr
  unfold zshB at h2
  rw [e1] at h2
  simp only [hzv] at h2
  cases zv with
  | agg cs =>
    simp only at h2
    have ha : z.t.agg = true := z4.trans h2
    rw [dat_pv_agg ha]
    simp only [R]
    exact ⟨cs.toList, by simp, by simpa [Value.cells] using hr⟩
  | _ =>
    simp only [Bool.not_eq_true'] at h2
    have ha : z.t.agg = false := z4.trans h2
    rw [dat_pv_one z3 ha] at hr
    simp only [Value.cells, RL] at hr
    obtain ⟨v, r, hv, h3, _, _⟩ := hr
    simp only [List.cons.injEq] at hv
    rw [hv.1]; exact h3
theorem look_run (hT : TOk P T) (hu : P.underlying t = some (.map kt et)) (hk : keyB P kt a = true) {z : XV} (hz : zX b = some z) (h1 : cdB T et b = true) (h2 : zshB P et b = true) {blk clock : Nat} {es : Array MapEntry} {D : List (a.den × b.den)} (hb : w.heap[blk]? = some (.map es clock)) (hE : EnL a b ow w D es.toList) (k : a.den) (c : Bool) :
    ∃ u, (Instr.lookup t (.map (some blk)) (keyV a k) c).run P w = .ok (if c then .tuple #[u, .bool (mlook (eqT a) D k).isSome] else u) w ∧ (match mlook (eqT a) D k with | some y => R ow w (rep b y).pv u | none => R ow w (rep z.t z.x).pv u) := by
  obtain ⟨d, hd, k1, k2, k3, k4, k5⟩ := keyB_spec hk
  obtain ⟨r, hr, g⟩ := findNow_en k2 k es.toList D 0 hE
  have hf := run_findKey (P := P) (w := w) hd hr
  rw [mlook_pos]
  cases hp : mpos (eqT a) D k with
  | none =>
    rw [hp] at g
    simp only at g
    subst g
    obtain ⟨zv, z1, z2⟩ := zero_R hT hz h1 h2
    refine ⟨zv, ?_, z2 ow w⟩
    simp [Instr.lookup, run_underlying hu, MapKept.run_getObj_map hb, run_checkKey hd (k1 k) _ 9999, hf, Result.andThen, z1]
  | some q =>
    obtain ⟨j, y⟩ := q
    rw [hp] at g
    obtain ⟨e, g1, g2, g3⟩ := g
    subst g2
    refine ⟨e.val, ?_, g3⟩
    simp [Instr.lookup, run_underlying hu, MapKept.run_getObj_map hb, run_checkKey hd (k1 k) _ 9999, hf, Result.andThen]
theorem look_nil_run (hT : TOk P T) (hu : P.underlying t = some (.map kt et)) (hk : keyB P kt a = true) {z : XV} (hz : zX b = some z) (h1 : cdB T et b = true) (h2 : zshB P et b = true) (k : a.den) (c : Bool) :
    ∃ u, (Instr.lookup t (.map none) (keyV a k) c).run P w = .ok (if c then .tuple #[u, .bool false] else u) w ∧ R ow w (rep z.t z.x).pv u := by
  obtain ⟨d, hd, k1, k2, k3, k4, k5⟩ := keyB_spec hk
  obtain ⟨zv, z1, z2⟩ := zero_R hT hz h1 h2
  have hf := run_findKey (P := P) (w := w) (l := []) (a := none) (k := keyV a k) hd rfl
  refine ⟨zv, ?_, z2 ow w⟩
  simp [Instr.lookup, run_underlying hu, run_checkKey hd (k1 k) _ 9999, hf, Result.andThen, z1]
theorem put_run (hu : P.underlying t = some (.map kt et)) (hk : keyB P kt a = true) {blk clock : Nat} {es : Array MapEntry} {D : List (a.den × b.den)} (hb : w.heap[blk]? = some (.map es clock)) (hE : EnL a b ow w D es.toList) (hS : Stp es.toList clock) (k : a.den) (y : b.den) {v : Value} (hv : R ow w (rep b y).pv v) :
    ∃ es' clock', (Instr.mapUpdate t (.map (some blk)) (keyV a k) v).run P w = .ok () { w with heap := w.heap.setIfInBounds blk (.map es' clock') } ∧ EnL a b ow w (mput (eqT a) D k y) es'.toList ∧ Stp es'.toList clock' := by
  obtain ⟨d, hd, k1, k2, k3, k4, k5⟩ := keyB_spec hk
  obtain ⟨r, hr, g⟩ := findNow_en k2 k es.toList D 0 hE
  have hf := run_findKey (P := P) (w := w) hd hr
  obtain ⟨p1, p2⟩ := mput_pos (eqT a) D k y
  cases hp : mpos (eqT a) D k with
  | none =>
    rw [hp] at g
    simp only at g
    subst g
    refine ⟨es.push { key := keyV a k, val := v, born := clock }, clock + 1, ?_, ?_, by rw [Array.toList_push]; exact hS.push _ _⟩
    · simp [Instr.mapUpdate, run_underlying hu, MapKept.run_getObj_map hb, run_checkKey hd (k1 k) _ 9999, hf, run_setObj_map _ hb, Result.andThen]
    · rw [p1 hp, Array.toList_push]
      exact hE.app ⟨_, [], rfl, rfl, hv, rfl⟩
  | some q =>
    obtain ⟨i, y0⟩ := q
    rw [hp] at g
    obtain ⟨e, g1, g2, g3⟩ := g
    subst g2
    rw [Nat.zero_add] at hf
    obtain ⟨k', q1, q2, q3⟩ := p2 i y0 hp
    have hkk : keyV a k' = keyV a k := k3 _ _ q2
    obtain ⟨e', q4, q5, q6⟩ := hE.get i _ q1
    rw [g1] at q4; cases q4
    have hj : es[i]? = some e := by simpa using g1
    refine ⟨es.modify i fun e => { e with key := keyV a k, val := v }, clock, ?_, ?_, by rw [Array.toList_modify]; exact hS.of_born (mod_born _ _ _ _)⟩
    · have hst : (Instr.keyThatStays (keyV a k) (keyV a k)).run P w = .ok (keyV a k) w := run_keyThatStays (k1 k)
      simp [Instr.mapUpdate, run_underlying hu, MapKept.run_getObj_map hb, run_checkKey hd (k1 k) _ 9999, hf, hj, q5, hkk, hst, run_setObj_map _ hb, Result.andThen]
    · rw [q3, Array.toList_modify]
      have := hE.mod i k' y v hv
      rw [hkk] at this
      exact this
theorem del_run (hu : P.underlying t = some (.map kt et)) (hk : keyB P kt a = true) {t' ty : Nat} {blk clock : Nat} {es : Array MapEntry} {D : List (a.den × b.den)} (hb : w.heap[blk]? = some (.map es clock)) (hE : EnL a b ow w D es.toList) (hS : Stp es.toList clock) (k : a.den) :
    ∃ es', (Builtin.delete_ #[t, t'] ty #[.map (some blk), keyV a k]).run P w = .ok (.tuple #[]) { w with heap := w.heap.setIfInBounds blk (.map es' clock) } ∧ EnL a b ow w (mdel (eqT a) D k) es'.toList ∧ Stp es'.toList clock := by
  obtain ⟨d, hd, k1, k2, k3, k4, k5⟩ := keyB_spec hk
  obtain ⟨r, hr, g⟩ := findNow_en k2 k es.toList D 0 hE
  have hf := run_findKey (P := P) (w := w) hd hr
  obtain ⟨p1, p2⟩ := mdel_pos (eqT a) D k
  cases hp : mpos (eqT a) D k with
  | none =>
    rw [hp] at g
    simp only at g
    subst g
    refine ⟨es, ?_, by rw [p1 hp]; exact hE, hS⟩
    simp [Builtin.delete_, run_underlying hu, MapKept.run_getObj_map hb, run_checkKey hd (k1 k) _ 9999, hf, run_setObj_map _ hb, Result.andThen]
  | some q =>
    obtain ⟨i, y0⟩ := q
    rw [hp] at g
    obtain ⟨e, g1, g2, g3⟩ := g
    subst g2
    rw [Nat.zero_add] at hf
    obtain ⟨q1, q2⟩ := p2 i y0 hp
    have hlt : i < es.size := by
      have := hE.length
      simp only [Array.length_toList] at this
      omega
    refine ⟨es.eraseIdxIfInBounds i, ?_, ?_, ?_⟩
    · simp [Builtin.delete_, run_underlying hu, MapKept.run_getObj_map hb, run_checkKey hd (k1 k) _ 9999, hf, run_setObj_map _ hb, Result.andThen]
    · rw [q1]
      have := hE.del i
      simpa [Array.eraseIdxIfInBounds, hlt, Array.toList_eraseIdx] using this
    · have : (es.eraseIdxIfInBounds i).toList = es.toList.eraseIdx i := by simp [Array.eraseIdxIfInBounds, hlt, Array.toList_eraseIdx]
      rw [this]
      exact hS.sub (List.eraseIdx_sublist _ _)
theorem del_nil_run (hu : P.underlying t = some (.map kt et)) (hk : keyB P kt a = true) {t' ty : Nat} (k : a.den) : (Builtin.delete_ #[t, t'] ty #[.map none, keyV a k]).run P w = .ok (.tuple #[]) w := by
  obtain ⟨d, hd, k1, k2, k3, k4, k5⟩ := keyB_spec hk
  simp [Builtin.delete_, run_underlying hu, run_checkKey hd (k1 k) _ 9999, Result.andThen]
end
end Go.Proofs.Ytmjkechkdfobgaa.pv
