/- The interpreter's operations are acts: maps. -/
import Derived.Test.YtnkdanobhgofbaaGreatDoorVN
namespace Go.Proofs.YtnkdanobhgofbaaGreatDoor.pv
set_option linter.all false
open Go.RowKit Go.MapKept

theorem Stp.push {es : List MapEntry} {clock : Nat} (h : Stp es clock) (k v : Value) : Stp (es ++ [{ key := k, val := v, born := clock }]) (clock + 1) := by
  refine ⟨fun e he => ?_, ?_⟩
  · rcases List.mem_append.1 he with he | he
    · have := h.1 e he; omega
    · rw [List.mem_singleton.1 he]; exact Nat.lt_succ_self _
  · rw [List.pairwise_append]
    refine ⟨h.2, by simp, fun a ha b hb => ?_⟩
    rw [List.mem_singleton.1 hb]
    have := h.1 a ha
    simp only
    omega
theorem mod_born (k v : Value) : ∀ (es : List MapEntry) (i : Nat), (es.modify i fun e => { e with key := k, val := v }).map (·.born) = es.map (·.born)
  | [], i => by rw [List.modify_nil]
  | e :: es, 0 => rfl
  | e :: es, i + 1 => by simp only [List.modify_succ_cons, List.map_cons, mod_born k v es i]
theorem Stp.of_born {es es' : List MapEntry} {clock : Nat} (h : Stp es clock) (e : es'.map (·.born) = es.map (·.born)) : Stp es' clock := by
  refine ⟨fun x hx => ?_, ?_⟩
  · have : x.born ∈ es.map (·.born) := by rw [← e]; exact List.mem_map.2 ⟨x, hx, rfl⟩
    obtain ⟨y, hy, hb⟩ := List.mem_map.1 this
    rw [← hb]; exact h.1 y hy
  · have h2 := (List.pairwise_map (f := fun x : MapEntry => x.born) (R := fun a b : Nat => a ≠ b)).2 h.2
    rw [← e] at h2
    exact List.pairwise_map.1 h2
theorem Stp.sub {es es' : List MapEntry} {clock : Nat} (h : Stp es clock) (e : es'.Sublist es) : Stp es' clock :=
  ⟨fun x hx => h.1 x (e.subset hx), h.2.sublist e⟩
/-- behind all others -/
def mput0 {κ ν : Type} (eq : κ → κ → Bool) : List (κ × ν) → κ → ν → List (κ × ν)
  | [], x, y => [(x, y)]
  | (k, v) :: r, x, y => bif eq k x then (k, y) :: r else (k, v) :: mput0 eq r x y
/-- a key's place and value -/
def mpos {κ ν : Type} (eq : κ → κ → Bool) : List (κ × ν) → κ → Option (Nat × ν)
  | [], _ => none
  | (k, v) :: r, x => bif eq k x then some (0, v) else (mpos eq r x).map fun q => (q.1 + 1, q.2)
theorem mlook_pos {κ ν : Type} (eq : κ → κ → Bool) : ∀ (D : List (κ × ν)) (x : κ), mlook eq D x = (mpos eq D x).map (·.2)
  | [], _ => rfl
  | (k, v) :: r, x => by
    simp only [mlook, mpos]
    cases eq k x with
    | true => rfl
    | false => simp only [cond_false]; rw [mlook_pos eq r x, Option.map_map]; rfl
theorem mput0_pos {κ ν : Type} (eq : κ → κ → Bool) : ∀ (D : List (κ × ν)) (x : κ) (y : ν), (mpos eq D x = none → mput0 eq D x y = D ++ [(x, y)]) ∧ ∀ i y0, mpos eq D x = some (i, y0) → ∃ k, D[i]? = some (k, y0) ∧ eq k x = true ∧ mput0 eq D x y = D.set i (k, y)
  | [], _, _ => ⟨fun _ => rfl, fun _ _ h => by simp [mpos] at h⟩
  | (k, v) :: r, x, y => by
    simp only [mpos, mput0]
    cases hk : eq k x with
    | true =>
      refine ⟨fun h => by simp at h, fun i y0 h => ?_⟩
      simp only [cond_true] at h
      cases h
      exact ⟨k, rfl, hk, rfl⟩
    | false =>
      simp only [cond_false]
      obtain ⟨h1, h2⟩ := mput0_pos eq r x y
      refine ⟨fun h => ?_, fun i y0 h => ?_⟩
      · have : mpos eq r x = none := by
          cases hq : mpos eq r x with
          | none => rfl
          | some q => rw [hq] at h; simp at h
        rw [h1 this]; rfl
      · cases hq : mpos eq r x with
        | none => rw [hq] at h; simp at h
        | some q =>
          obtain ⟨j, z⟩ := q
          rw [hq] at h
          simp only [Option.map_some, Option.some.injEq, Prod.mk.injEq] at h
          obtain ⟨rfl, rfl⟩ := h
          obtain ⟨k', g1, g2, g3⟩ := h2 j z hq
          exact ⟨k', by simpa using g1, g2, by rw [g3]; rfl⟩
theorem mdel_pos {κ ν : Type} (eq : κ → κ → Bool) : ∀ (D : List (κ × ν)) (x : κ), (mpos eq D x = none → mdel eq D x = D) ∧ ∀ i y0, mpos eq D x = some (i, y0) → mdel eq D x = D.eraseIdx i ∧ i < D.length
  | [], _ => ⟨fun _ => rfl, fun _ _ h => by simp [mpos] at h⟩
  | (k, v) :: r, x => by
    simp only [mpos, mdel]
    cases hk : eq k x with
    | true =>
      refine ⟨fun h => by simp at h, fun i y0 h => ?_⟩
      simp only [cond_true] at h
      cases h
      exact ⟨rfl, by simp⟩
    | false =>
      simp only [cond_false]
      obtain ⟨h1, h2⟩ := mdel_pos eq r x
      refine ⟨fun h => ?_, fun i y0 h => ?_⟩
      · have : mpos eq r x = none := by
          cases hq : mpos eq r x with
          | none => rfl
          | some q => rw [hq] at h; simp at h
        rw [h1 this]
      · cases hq : mpos eq r x with
        | none => rw [hq] at h; simp at h
        | some q =>
          obtain ⟨j, z⟩ := q
          rw [hq] at h
          simp only [Option.map_some, Option.some.injEq, Prod.mk.injEq] at h
          obtain ⟨rfl, rfl⟩ := h
          obtain ⟨g1, g2⟩ := h2 j z hq
          exact ⟨by rw [g1]; rfl, by simpa using g2⟩
theorem ib_of (x y : Int) (h : (x == y) = true) : x = y := by simpa using h
theorem ib_comm (x y : Int) : (x == y) = (y == x) := by
  cases h : (x == y) with
  | true => rw [ib_of _ _ h]; simp
  | false =>
    cases h2 : (y == x) with
    | false => rfl
    | true => rw [ib_of _ _ h2] at h; simp at h
theorem lb_of (x y : List UInt8) (h : (x == y) = true) : x = y := by simpa using h
theorem ofL_inj (x y : List UInt8) (h : ofL x = ofL y) : x = y := by
  have := congrArg (fun b : ByteArray => b.data.toList) h
  simpa [ofL] using this
theorem ofL_beq (x y : List UInt8) : (ofL x == ofL y) = (y == x) := by
  rw [Bool.eq_iff_iff, bytes_beq]
  constructor
  · intro e
    have := ofL_inj _ _ e
    subst this
    simp
  · intro e
    rw [lb_of _ _ e]
/-- keys, as the machine compares them -/
theorem keyB_spec {P : Program} {kt : Nat} {a : Ty} (h : keyB P kt a = true) : ∃ d, P.underlying kt = some d ∧ (∀ x, IsKey d (keyV a x)) ∧ (∀ x y, Instr.sameNow d (keyV a x) (keyV a y) = some (eqT a y x)) ∧ (∀ x y, eqT a x y = true → keyV a x = keyV a y) ∧ (∀ x, (keyV a x).oneCell' = true) ∧ ∀ x, (rep a x).fv = .d (.v (keyV a x)) := by
  unfold keyB at h
  split at h
  · rename_i k
    split at h
    · rename_i k' hu
      have e := kEq_eq h
      subst e
      refine ⟨_, hu, fun _ => rfl, fun x y => ?_, fun x y hxy => ?_, fun _ => rfl, fun _ => rfl⟩
      · show Instr.sameNow (.int k) (.int k x) (.int k y) = some ((show Int from y) == (show Int from x))
        simp only [Instr.sameNow, if_true]
        exact congrArg some (ib_comm x y)
      · exact congrArg (Value.int k) (ib_of x y hxy)
    · cases h
  · split at h
    · rename_i hu
      refine ⟨_, hu, fun _ => trivial, fun x y => ?_, fun x y hxy => ?_, fun _ => rfl, fun _ => rfl⟩
      · show Instr.sameNow .string (.string (ofL x)) (.string (ofL y)) = some ((show List UInt8 from y) == (show List UInt8 from x))
        simp only [Instr.sameNow]
        exact congrArg some (ofL_beq x y)
      · exact congrArg (fun z => Value.string (ofL z)) (lb_of x y hxy)
    · cases h
  · cases h
section
variable {a b : Ty} {ow : Ow} {w : World}
theorem EnL.length : ∀ {D : List (a.den × b.den)} {es : List MapEntry}, EnL a b ow w D es → es.length = D.length
  | [], es, h => by simp only [EnL] at h; subst h; rfl
  | p :: D, es, h => by obtain ⟨e, r, rfl, _, _, h⟩ := h; simp [EnL.length h]
theorem EnL.get : ∀ {D : List (a.den × b.den)} {es : List MapEntry}, EnL a b ow w D es → ∀ (i : Nat) (p : a.den × b.den), D[i]? = some p → ∃ e, es[i]? = some e ∧ e.key = keyV a p.1 ∧ R ow w (rep b p.2).pv e.val
  | [], es, h, i, p, hp => by simp at hp
  | q :: D, es, h, i, p, hp => by
    obtain ⟨e, r, rfl, h1, h2, h3⟩ := h
    cases i with
    | zero => simp at hp; subst hp; exact ⟨e, rfl, h1, h2⟩
    | succ i => simp at hp; simpa using EnL.get h3 i p hp
theorem EnL.app : ∀ {D D' : List (a.den × b.den)} {es es' : List MapEntry}, EnL a b ow w D es → EnL a b ow w D' es' → EnL a b ow w (D ++ D') (es ++ es')
  | [], D', es, es', h, h' => by simp only [EnL] at h; subst h; simpa using h'
  | p :: D, D', es, es', h, h' => by
    obtain ⟨e, r, rfl, h1, h2, h3⟩ := h
    exact ⟨e, r ++ es', rfl, h1, h2, EnL.app h3 h'⟩
theorem EnL.mod : ∀ {D : List (a.den × b.den)} {es : List MapEntry}, EnL a b ow w D es → ∀ (i : Nat) (k : a.den) (y : b.den) (v : Value), R ow w (rep b y).pv v → EnL a b ow w (D.set i (k, y)) (es.modify i fun e => { e with key := keyV a k, val := v })
  | [], es, h, i, k, y, v, hv => by simp only [EnL] at h; subst h; simp only [List.set_nil, List.modify_nil, EnL]
  | q :: D, es, h, i, k, y, v, hv => by
    obtain ⟨e, r, rfl, h1, h2, h3⟩ := h
    cases i with
    | zero => exact ⟨_, r, rfl, rfl, hv, h3⟩
    | succ i => exact ⟨e, _, rfl, h1, h2, EnL.mod h3 i k y v hv⟩
theorem EnL.del : ∀ {D : List (a.den × b.den)} {es : List MapEntry}, EnL a b ow w D es → ∀ (i : Nat), EnL a b ow w (D.eraseIdx i) (es.eraseIdx i)
  | [], es, h, i => by simp only [EnL] at h; subst h; simp only [List.eraseIdx_nil, EnL]
  | q :: D, es, h, i => by
    obtain ⟨e, r, rfl, h1, h2, h3⟩ := h
    cases i with
    | zero => exact h3
    | succ i => exact ⟨e, _, rfl, h1, h2, EnL.del h3 i⟩
theorem findNow_en {d : TypeDesc} (hn : ∀ x y, Instr.sameNow d (keyV a x) (keyV a y) = some (eqT a y x)) (k : a.den) : ∀ (es : List MapEntry) (D : List (a.den × b.den)) (i : Nat), EnL a b ow w D es →
    ∃ r, Instr.findNow d (keyV a k) es i = some r ∧ (match mpos (eqT a) D k with | none => r = none | some (j, y) => ∃ e, es[j]? = some e ∧ r = some (i + j, e.val) ∧ R ow w (rep b y).pv e.val)
  | es, [], i, h => by simp only [EnL] at h; subst h; exact ⟨none, rfl, rfl⟩
  | es, p :: D, i, h => by
    obtain ⟨e, r, rfl, h1, h2, h3⟩ := h
    unfold Instr.findNow
    rw [h1, hn]
    simp only [mpos]
    cases hk : eqT a p.1 k with
    | true => exact ⟨some (i, e.val), rfl, e, rfl, rfl, h2⟩
    | false =>
      obtain ⟨q, hq, g⟩ := findNow_en hn k r D (i + 1) h3
      refine ⟨q, by simpa using hq, ?_⟩
      simp only [cond_false]
      cases hp : mpos (eqT a) D k with
      | none => rw [hp] at g; simpa using g
      | some z =>
        obtain ⟨j, y⟩ := z
        rw [hp] at g
        obtain ⟨e', g1, g2, g3⟩ := g
        exact ⟨e', by simpa using g1, by rw [g2]; congr 2; omega, g3⟩
end
section
variable {P : Program} {T : List TI} {ow : Ow} {w : World} {a b : Ty} {t kt et : Nat}
/-- a type's zero value, as data -/
theorem zero_R (hT : TOk P T) {z : XV} (hz : zX b = some z) (h1 : cdB T et b = true) (h2 : zshB P et b = true) : ∃ zv, (∀ w, (zeroValue et).run P w = .ok zv w) ∧ ∀ ow w, R ow w (rep z.t z.x).pv zv := by
  obtain ⟨ti, t1, t2, t3, t4, t5⟩ := cdB_spec h1
  obtain ⟨z1, z2, z3, z4, z5⟩ := zX_spec hz
  obtain ⟨i, dd, e1, e2, e3, e4, e5, e6⟩ := hT.info t1
  obtain ⟨zv, hzv, e6⟩ := e6 t3
  refine ⟨zv, fun w => by simp [zeroValue, typeInfo, e1, hzv], fun ow w => ?_⟩
  have hr := zero_RL (ow := ow) (w := w) e6
  rw [t2, ← z2] at hr
  unfold zshB at h2
  rw [e1] at h2
  simp only [hzv] at h2
  cases zv with
  | agg cs =>
    simp only at h2
    have ha : z.t.agg = true := z4.trans h2
    rw [dat_pv_agg ha]
    simp only [R]
    exact ⟨cs.toList, by simp, by simpa [Value.cells] using hr⟩
  | _ =>
    simp only [Bool.not_eq_true'] at h2
    have ha : z.t.agg = false := z4.trans h2
    rw [dat_pv_one z3 ha] at hr
    simp only [Value.cells, RL] at hr
    obtain ⟨v, r, hv, h3, _, _⟩ := hr
    simp only [List.cons.injEq] at hv
    rw [hv.1]; exact h3
theorem look_run (hT : TOk P T) (hu : P.underlying t = some (.map kt et)) (hk : keyB P kt a = true) {z : XV} (hz : zX b = some z) (h1 : cdB T et b = true) (h2 : zshB P et b = true) {blk clock : Nat} {es : Array MapEntry} {D : List (a.den × b.den)} (hb : w.heap[blk]? = some (.map es clock)) (hE : EnL a b ow w D es.toList) (k : a.den) (c : Bool) :
    ∃ u, (Instr.lookup t (.map (some blk)) (keyV a k) c).run P w = .ok (if c then .tuple #[u, .bool (mlook (eqT a) D k).isSome] else u) w ∧ (match mlook (eqT a) D k with | some y => R ow w (rep b y).pv u | none => R ow w (rep z.t z.x).pv u) := by
  obtain ⟨d, hd, k1, k2, k3, k4, k5⟩ := keyB_spec hk
  obtain ⟨r, hr, g⟩ := findNow_en k2 k es.toList D 0 hE
  have hf := run_findKey (P := P) (w := w) hd hr
  rw [mlook_pos]
  cases hp : mpos (eqT a) D k with
  | none =>
    rw [hp] at g
    simp only at g
    subst g
    obtain ⟨zv, z1, z2⟩ := zero_R hT hz h1 h2
    refine ⟨zv, ?_, z2 ow w⟩
    simp [Instr.lookup, run_underlying hu, MapKept.run_getObj_map hb, run_checkKey hd (k1 k) _ 9999, hf, Result.andThen, z1]
  | some q =>
    obtain ⟨j, y⟩ := q
    rw [hp] at g
    obtain ⟨e, g1, g2, g3⟩ := g
    subst g2
    refine ⟨e.val, ?_, g3⟩
    simp [Instr.lookup, run_underlying hu, MapKept.run_getObj_map hb, run_checkKey hd (k1 k) _ 9999, hf, Result.andThen]
theorem look_nil_run (hT : TOk P T) (hu : P.underlying t = some (.map kt et)) (hk : keyB P kt a = true) {z : XV} (hz : zX b = some z) (h1 : cdB T et b = true) (h2 : zshB P et b = true) (k : a.den) (c : Bool) :
    ∃ u, (Instr.lookup t (.map none) (keyV a k) c).run P w = .ok (if c then .tuple #[u, .bool false] else u) w ∧ R ow w (rep z.t z.x).pv u := by
  obtain ⟨d, hd, k1, k2, k3, k4, k5⟩ := keyB_spec hk
  obtain ⟨zv, z1, z2⟩ := zero_R hT hz h1 h2
  have hf := run_findKey (P := P) (w := w) (l := []) (a := none) (k := keyV a k) hd rfl
  refine ⟨zv, ?_, z2 ow w⟩
  simp [Instr.lookup, run_underlying hu, run_checkKey hd (k1 k) _ 9999, hf, Result.andThen, z1]
theorem put_run (hu : P.underlying t = some (.map kt et)) (hk : keyB P kt a = true) {blk clock : Nat} {es : Array MapEntry} {D : List (a.den × b.den)} (hb : w.heap[blk]? = some (.map es clock)) (hE : EnL a b ow w D es.toList) (hS : Stp es.toList clock) (k : a.den) (y : b.den) {v : Value} (hv : R ow w (rep b y).pv v) :
    ∃ es' clock', (Instr.mapUpdate t (.map (some blk)) (keyV a k) v).run P w = .ok () { w with heap := w.heap.setIfInBounds blk (.map es' clock') } ∧ EnL a b ow w (mput0 (eqT a) D k y) es'.toList ∧ Stp es'.toList clock' := by
  obtain ⟨d, hd, k1, k2, k3, k4, k5⟩ := keyB_spec hk
  obtain ⟨r, hr, g⟩ := findNow_en k2 k es.toList D 0 hE
  have hf := run_findKey (P := P) (w := w) hd hr
  obtain ⟨p1, p2⟩ := mput0_pos (eqT a) D k y
  cases hp : mpos (eqT a) D k with
  | none =>
    rw [hp] at g
    simp only at g
    subst g
    refine ⟨es.push { key := keyV a k, val := v, born := clock }, clock + 1, ?_, ?_, by rw [Array.toList_push]; exact hS.push _ _⟩
    · simp [Instr.mapUpdate, run_underlying hu, MapKept.run_getObj_map hb, run_checkKey hd (k1 k) _ 9999, hf, run_setObj_map _ hb, Result.andThen]
    · rw [p1 hp, Array.toList_push]
      exact hE.app ⟨_, [], rfl, rfl, hv, rfl⟩
  | some q =>
    obtain ⟨i, y0⟩ := q
    rw [hp] at g
    obtain ⟨e, g1, g2, g3⟩ := g
    subst g2
    rw [Nat.zero_add] at hf
    obtain ⟨k', q1, q2, q3⟩ := p2 i y0 hp
    have hkk : keyV a k' = keyV a k := k3 _ _ q2
    obtain ⟨e', q4, q5, q6⟩ := hE.get i _ q1
    rw [g1] at q4; cases q4
    have hj : es[i]? = some e := by simpa using g1
    refine ⟨es.modify i fun e => { e with key := keyV a k, val := v }, clock, ?_, ?_, by rw [Array.toList_modify]; exact hS.of_born (mod_born _ _ _ _)⟩
    · have hst : (Instr.keyThatStays (keyV a k) (keyV a k)).run P w = .ok (keyV a k) w := run_keyThatStays (k1 k)
      simp [Instr.mapUpdate, run_underlying hu, MapKept.run_getObj_map hb, run_checkKey hd (k1 k) _ 9999, hf, hj, q5, hkk, hst, run_setObj_map _ hb, Result.andThen]
    · rw [q3, Array.toList_modify]
      have := hE.mod i k' y v hv
      rw [hkk] at this
      exact this
theorem del_run (hu : P.underlying t = some (.map kt et)) (hk : keyB P kt a = true) {t' ty : Nat} {blk clock : Nat} {es : Array MapEntry} {D : List (a.den × b.den)} (hb : w.heap[blk]? = some (.map es clock)) (hE : EnL a b ow w D es.toList) (hS : Stp es.toList clock) (k : a.den) :
    ∃ es', (Builtin.delete_ #[t, t'] ty #[.map (some blk), keyV a k]).run P w = .ok (.tuple #[]) { w with heap := w.heap.setIfInBounds blk (.map es' clock) } ∧ EnL a b ow w (mdel (eqT a) D k) es'.toList ∧ Stp es'.toList clock := by
  obtain ⟨d, hd, k1, k2, k3, k4, k5⟩ := keyB_spec hk
  obtain ⟨r, hr, g⟩ := findNow_en k2 k es.toList D 0 hE
  have hf := run_findKey (P := P) (w := w) hd hr
  obtain ⟨p1, p2⟩ := mdel_pos (eqT a) D k
  cases hp : mpos (eqT a) D k with
  | none =>
    rw [hp] at g
    simp only at g
    subst g
    refine ⟨es, ?_, by rw [p1 hp]; exact hE, hS⟩
    simp [Builtin.delete_, run_underlying hu, MapKept.run_getObj_map hb, run_checkKey hd (k1 k) _ 9999, hf, run_setObj_map _ hb, Result.andThen]
  | some q =>
    obtain ⟨i, y0⟩ := q
    rw [hp] at g
    obtain ⟨e, g1, g2, g3⟩ := g
    subst g2
    rw [Nat.zero_add] at hf
    obtain ⟨q1, q2⟩ := p2 i y0 hp
    have hlt : i < es.size := by
      have := hE.length
      simp only [Array.length_toList] at this
      omega
    refine ⟨es.eraseIdxIfInBounds i, ?_, ?_, ?_⟩
    · simp [Builtin.delete_, run_underlying hu, MapKept.run_getObj_map hb, run_checkKey hd (k1 k) _ 9999, hf, run_setObj_map _ hb, Result.andThen]
    · rw [q1]
      have := hE.del i
      simpa [Array.eraseIdxIfInBounds, hlt, Array.toList_eraseIdx] using this
    · have : (es.eraseIdxIfInBounds i).toList = es.toList.eraseIdx i := by simp [Array.eraseIdxIfInBounds, hlt, Array.toList_eraseIdx]
      rw [this]
      exact hS.sub (List.eraseIdx_sublist _ _)
theorem del_nil_run (hu : P.underlying t = some (.map kt et)) (hk : keyB P kt a = true) {t' ty : Nat} (k : a.den) : (Builtin.delete_ #[t, t'] ty #[.map none, keyV a k]).run P w = .ok (.tuple #[]) w := by
  obtain ⟨d, hd, k1, k2, k3, k4, k5⟩ := keyB_spec hk
  simp [Builtin.delete_, run_underlying hu, run_checkKey hd (k1 k) _ 9999, Result.andThen]
end
end Go.Proofs.YtnkdanobhgofbaaGreatDoor.pv
namespace Go.Proofs.YtnkdanobhgofbaaGreatDoor.pv
set_option linter.all false
open Go.RowKit
/-- an order of keys -/
structure KOrd {κ : Type} (lt eq : κ → κ → Bool) : Prop where
  eq_iff : ∀ x y, eq x y = true ↔ x = y
  irr : ∀ x, lt x x = false
  tr : ∀ x y z, lt x y = true → lt y z = true → lt x z = true
  tri : ∀ x y, eq x y = false → lt x y = false → lt y x = true
theorem ltB_irr : ∀ x, ltB x x = false
  | [] => rfl
  | x :: r => by simp only [ltB, beq_self_eq_true, cond_true, ltB_irr r]
theorem ltB_tr : ∀ x y z, ltB x y = true → ltB y z = true → ltB x z = true
  | [], [], _, h, _ => by simp [ltB] at h
  | [], _ :: _, [], _, h => by simp [ltB] at h
  | [], _ :: _, _ :: _, _, _ => rfl
  | _ :: _, [], _, h, _ => by simp [ltB] at h
  | _ :: _, _ :: _, [], _, h => by simp [ltB] at h
  | x :: r, y :: s, z :: t, h, h' => by
    simp only [ltB] at h h' ⊢
    by_cases e1 : x = y
    · subst e1
      rw [beq_self_eq_true, cond_true] at h
      by_cases e2 : x = z
      · subst e2
        rw [beq_self_eq_true, cond_true] at h' ⊢
        exact ltB_tr r s t h h'
      · rw [show (x == z) = false by simpa using e2, cond_false] at h' ⊢
        exact h'
    · rw [show (x == y) = false by simpa using e1, cond_false] at h
      have h := of_decide_eq_true h
      by_cases e2 : y = z
      · subst e2
        rw [show (x == y) = false by simpa using e1, cond_false]
        exact decide_eq_true h
      · rw [show (y == z) = false by simpa using e2, cond_false] at h'
        have h' := of_decide_eq_true h'
        have : x ≠ z := fun e => by subst e; omega
        rw [show (x == z) = false by simpa using this, cond_false]
        exact decide_eq_true (by omega)
theorem ltB_tri : ∀ x y : List UInt8, x ≠ y → ltB x y = false → ltB y x = true
  | [], [], h, _ => absurd rfl h
  | [], _ :: _, _, h => by simp [ltB] at h
  | _ :: _, [], _, _ => rfl
  | x :: r, y :: s, h, h' => by
    simp only [ltB] at h' ⊢
    by_cases e : x = y
    · subst e
      rw [beq_self_eq_true, cond_true] at h' ⊢
      exact ltB_tri r s (fun e => h (by rw [e])) h'
    · rw [show (x == y) = false by simpa using e, cond_false] at h'
      rw [show (y == x) = false by simpa using (Ne.symm e), cond_false]
      have h' := of_decide_eq_false h'
      have : x.toNat ≠ y.toNat := fun q => e (UInt8.toNat_inj.1 q)
      exact decide_eq_true (by omega)
theorem ky_ord {a : Ty} (h : a.ky = true) : KOrd (ltT a) (eqT a) := by
  cases a <;> first | (simp [Ty.ky] at h; done) | skip
  · refine ⟨fun x y => ?_, fun x => ?_, fun x y z h1 h2 => ?_, fun x y h1 h2 => ?_⟩
    · exact ⟨ib_of x y, fun e => by subst e; exact (beq_self_eq_true (show Int from x) : _)⟩
    · exact decide_eq_false (Int.lt_irrefl _)
    · exact decide_eq_true (Int.lt_trans (of_decide_eq_true h1) (of_decide_eq_true h2))
    · have h1 : ((show Int from x) == (show Int from y)) = false := h1
      have h2 := of_decide_eq_false h2
      have h1 : (show Int from x) ≠ (show Int from y) := fun e => by
        rw [e] at h1
        rw [beq_self_eq_true] at h1; cases h1
      exact decide_eq_true (by omega)
  · refine ⟨fun x y => ?_, fun x => ltB_irr x, fun x y z => ltB_tr x y z, fun x y h1 h2 => ?_⟩
    · exact ⟨lb_of x y, fun e => by subst e; exact (beq_self_eq_true (show List UInt8 from x) : _)⟩
    · refine ltB_tri x y (fun e => ?_) h2
      subst e
      have h1 : ((show List UInt8 from x) == x) = false := h1
      rw [beq_self_eq_true] at h1; cases h1
theorem keyB_ky {P : Program} {kt : Nat} {a : Ty} (h : keyB P kt a = true) : a.ky = true := by
  cases a <;> first | rfl | (simp [keyB] at h; done)
section
variable {κ ν : Type} {lt eq : κ → κ → Bool}
/-- each key once -/
def KNd (D : List (κ × ν)) : Prop := D.Pairwise fun p q => p.1 ≠ q.1
theorem KOrd.nd (O : KOrd lt eq) {D : List (κ × ν)} (h : D.Pairwise fun p q => lt p.1 q.1 = true) : KNd D :=
  h.imp fun {p q} hpq e => by rw [e, O.irr] at hpq; cases hpq
theorem KNd.perm {D D' : List (κ × ν)} (h : KNd D) (p : D.Perm D') : KNd D' := p.pairwise h fun {x y} hxy => Ne.symm hxy
theorem KOrd.ne (O : KOrd lt eq) {x y : κ} (h : x ≠ y) : eq x y = false := by
  cases hb : eq x y with
  | false => rfl
  | true => exact absurd ((O.eq_iff x y).1 hb) h
theorem KOrd.rfl' (O : KOrd lt eq) (x : κ) : eq x x = true := (O.eq_iff x x).2 rfl
theorem mlook_mem (O : KOrd lt eq) : ∀ {D : List (κ × ν)}, KNd D → ∀ (k : κ) (v : ν), mlook eq D k = some v ↔ (k, v) ∈ D
  | [], _, k, v => by simp [mlook]
  | (k', v') :: r, h, k, v => by
    simp only [mlook]
    have h1 := List.pairwise_cons.1 h
    by_cases e : k' = k
    · subst e
      rw [O.rfl', cond_true]
      constructor
      · intro q; cases q; simp
      · intro q
        rcases List.mem_cons.1 q with q | q
        · cases q; rfl
        · exact absurd rfl (h1.1 (k', v) q)
    · rw [O.ne e, cond_false, mlook_mem O h1.2 k v]
      constructor
      · intro q; exact List.mem_cons_of_mem _ q
      · intro q
        rcases List.mem_cons.1 q with q | q
        · cases q; exact absurd rfl e
        · exact q
theorem mlook_perm (O : KOrd lt eq) {D D' : List (κ × ν)} (h : KNd D) (p : D.Perm D') (k : κ) : mlook eq D k = mlook eq D' k := by
  have h' := h.perm p
  cases e : mlook eq D k with
  | some v => exact ((mlook_mem O h' k v).2 (p.mem_iff.1 ((mlook_mem O h k v).1 e))).symm
  | none =>
    cases e' : mlook eq D' k with
    | none => rfl
    | some v =>
      have := (mlook_mem O h k v).2 (p.mem_iff.2 ((mlook_mem O h' k v).1 e'))
      rw [e] at this; cases this
theorem KNd.nodup {D : List (κ × ν)} (h : KNd D) : D.Nodup := h.imp fun {p q} hpq e => hpq (by rw [e])
/-- two maps that find the same are the same but for the order -/
theorem perm_of_look (O : KOrd lt eq) {D D' : List (κ × ν)} (h : KNd D) (h' : KNd D') (e : ∀ k, mlook eq D k = mlook eq D' k) : D.Perm D' := by
  rw [List.perm_ext_iff_of_nodup h.nodup h'.nodup]
  rintro ⟨k, v⟩
  rw [← mlook_mem O h, ← mlook_mem O h', e]
theorem mlook_put0 (O : KOrd lt eq) : ∀ (D : List (κ × ν)) (k : κ) (v : ν) (j : κ), mlook eq (mput0 eq D k v) j = bif eq k j then some v else mlook eq D j
  | [], k, v, j => rfl
  | (k', v') :: r, k, v, j => by
    simp only [mput0]
    by_cases e : k' = k
    · subst e
      rw [O.rfl', cond_true]
      simp only [mlook]
      cases eq k' j <;> rfl
    · rw [O.ne e, cond_false]
      simp only [mlook, mlook_put0 O r k v j]
      by_cases e2 : k' = j
      · subst e2
        rw [O.rfl', cond_true, O.ne (Ne.symm e), cond_false, cond_true]
      · rw [O.ne e2, cond_false, cond_false]
theorem mlook_put (O : KOrd lt eq) : ∀ (D : List (κ × ν)) (k : κ) (v : ν) (j : κ), mlook eq (mput lt eq D k v) j = bif eq k j then some v else mlook eq D j
  | [], k, v, j => rfl
  | (k', v') :: r, k, v, j => by
    simp only [mput]
    by_cases e : k' = k
    · subst e
      rw [O.rfl', cond_true]
      simp only [mlook]
      cases eq k' j <;> rfl
    · rw [O.ne e, cond_false]
      cases lt k k' with
      | true => rw [cond_true]; rfl
      | false =>
        rw [cond_false]
        simp only [mlook, mlook_put O r k v j]
        by_cases e2 : k' = j
        · subst e2
          rw [O.rfl', cond_true, O.ne (Ne.symm e), cond_false, cond_true]
        · rw [O.ne e2, cond_false, cond_false]
theorem mput0_key (O : KOrd lt eq) : ∀ (D : List (κ × ν)) (k : κ) (v : ν), ∀ p ∈ mput0 eq D k v, p.1 = k ∨ ∃ q ∈ D, q.1 = p.1
  | [], k, v, p, h => by simp [mput0] at h; exact .inl (by rw [h])
  | (k', v') :: r, k, v, p, h => by
    simp only [mput0] at h
    cases hb : eq k' k with
    | true =>
      rw [hb, cond_true] at h
      rcases List.mem_cons.1 h with h | h
      · exact .inr ⟨(k', v'), by simp, by rw [h]⟩
      · exact .inr ⟨p, List.mem_cons_of_mem _ h, rfl⟩
    | false =>
      rw [hb, cond_false] at h
      rcases List.mem_cons.1 h with h | h
      · exact .inr ⟨(k', v'), by simp, by rw [h]⟩
      · rcases mput0_key O r k v p h with h | ⟨q, h, e⟩
        · exact .inl h
        · exact .inr ⟨q, List.mem_cons_of_mem _ h, e⟩
theorem KNd.put0 (O : KOrd lt eq) : ∀ {D : List (κ × ν)}, KNd D → ∀ (k : κ) (v : ν), KNd (mput0 eq D k v)
  | [], _, k, v => by simp [mput0, KNd]
  | (k', v') :: r, h, k, v => by
    have h1 := List.pairwise_cons.1 h
    simp only [mput0]
    by_cases e : k' = k
    · subst e
      rw [O.rfl', cond_true]
      exact List.pairwise_cons.2 ⟨fun p hp => h1.1 p hp, h1.2⟩
    · rw [O.ne e, cond_false]
      refine List.pairwise_cons.2 ⟨fun p hp => ?_, KNd.put0 O h1.2 k v⟩
      rcases mput0_key O r k v p hp with h | ⟨q, h, e2⟩
      · rw [h]; exact e
      · rw [← e2]; exact h1.1 q h
theorem mput_key (O : KOrd lt eq) : ∀ (D : List (κ × ν)) (k : κ) (v : ν), ∀ p ∈ mput lt eq D k v, p.1 = k ∨ ∃ q ∈ D, q.1 = p.1
  | [], k, v, p, h => by simp [mput] at h; exact .inl (by rw [h])
  | (k', v') :: r, k, v, p, h => by
    simp only [mput] at h
    cases hb : eq k' k with
    | true =>
      rw [hb, cond_true] at h
      rcases List.mem_cons.1 h with h | h
      · exact .inr ⟨(k', v'), by simp, by rw [h]⟩
      · exact .inr ⟨p, List.mem_cons_of_mem _ h, rfl⟩
    | false =>
      rw [hb, cond_false] at h
      cases hl : lt k k' with
      | true =>
        rw [hl, cond_true] at h
        rcases List.mem_cons.1 h with h | h
        · exact .inl (by rw [h])
        · exact .inr ⟨p, h, rfl⟩
      | false =>
        rw [hl, cond_false] at h
        rcases List.mem_cons.1 h with h | h
        · exact .inr ⟨(k', v'), by simp, by rw [h]⟩
        · rcases mput_key O r k v p h with h | ⟨q, h, e⟩
          · exact .inl h
          · exact .inr ⟨q, List.mem_cons_of_mem _ h, e⟩
theorem sorted_put (O : KOrd lt eq) : ∀ {D : List (κ × ν)}, (D.Pairwise fun p q => lt p.1 q.1 = true) → ∀ (k : κ) (v : ν), (mput lt eq D k v).Pairwise fun p q => lt p.1 q.1 = true
  | [], _, k, v => by simp [mput]
  | (k', v') :: r, h, k, v => by
    have h1 := List.pairwise_cons.1 h
    simp only [mput]
    by_cases e : k' = k
    · subst e
      rw [O.rfl', cond_true]
      exact List.pairwise_cons.2 ⟨fun p hp => h1.1 p hp, h1.2⟩
    · rw [O.ne e, cond_false]
      cases hl : lt k k' with
      | true =>
        rw [cond_true]
        refine List.pairwise_cons.2 ⟨fun p hp => ?_, h⟩
        rcases List.mem_cons.1 hp with hp | hp
        · rw [hp]; exact hl
        · exact O.tr _ _ _ hl (h1.1 p hp)
      | false =>
        rw [cond_false]
        refine List.pairwise_cons.2 ⟨fun p hp => ?_, sorted_put O h1.2 k v⟩
        rcases mput_key O r k v p hp with h | ⟨q, h, e2⟩
        · rw [h]; exact O.tri _ _ (O.ne (Ne.symm e)) hl
        · rw [← e2]; exact h1.1 q h
theorem mdel_sub : ∀ (D : List (κ × ν)) (k : κ), (mdel eq D k).Sublist D
  | [], k => .refl _
  | (k', v') :: r, k => by
    simp only [mdel]
    cases eq k' k with
    | true => exact List.sublist_cons_self _ _
    | false => exact (mdel_sub r k).cons_cons _
theorem mlook_none (O : KOrd lt eq) : ∀ {D : List (κ × ν)} {k : κ}, (∀ p ∈ D, p.1 ≠ k) → mlook eq D k = none
  | [], _, _ => rfl
  | (k', v') :: r, k, h => by
    simp only [mlook]
    rw [O.ne (h (k', v') (by simp)), cond_false]
    exact mlook_none O fun p hp => h p (List.mem_cons_of_mem _ hp)
theorem mlook_del (O : KOrd lt eq) : ∀ {D : List (κ × ν)}, KNd D → ∀ (k j : κ), mlook eq (mdel eq D k) j = bif eq k j then none else mlook eq D j
  | [], _, k, j => by simp only [mdel, mlook]; cases eq k j <;> rfl
  | (k', v') :: r, h, k, j => by
    have h1 := List.pairwise_cons.1 h
    simp only [mdel]
    by_cases e : k' = k
    · subst e
      rw [O.rfl', cond_true]
      simp only [mlook]
      cases hb : eq k' j with
      | false => rw [cond_false, cond_false]
      | true =>
        rw [cond_true]
        have := (O.eq_iff _ _).1 hb
        subst this
        exact mlook_none O fun p hp => Ne.symm (h1.1 p hp)
    · rw [O.ne e, cond_false]
      simp only [mlook, mlook_del O h1.2 k j]
      by_cases e2 : k' = j
      · subst e2
        rw [O.rfl', cond_true, O.ne (Ne.symm e), cond_false, cond_true]
      · rw [O.ne e2, cond_false, cond_false]
theorem KOrd.put_perm (O : KOrd lt eq) {D Dm : List (κ × ν)} (p : Dm.Perm D) (h : D.Pairwise fun p q => lt p.1 q.1 = true) (k : κ) (v : ν) : (mput0 eq Dm k v).Perm (mput lt eq D k v) :=
  perm_of_look O (KNd.put0 O ((O.nd h).perm p.symm) k v) (O.nd (sorted_put O h k v)) fun j => by
    rw [mlook_put0 O, mlook_put O, mlook_perm O ((O.nd h).perm p.symm) p]
theorem KOrd.del_perm (O : KOrd lt eq) {D Dm : List (κ × ν)} (p : Dm.Perm D) (h : D.Pairwise fun p q => lt p.1 q.1 = true) (k : κ) : (mdel eq Dm k).Perm (mdel eq D k) :=
  perm_of_look O (((O.nd h).perm p.symm).sublist (mdel_sub _ _)) ((O.nd h).sublist (mdel_sub _ _)) fun j => by
    rw [mlook_del O ((O.nd h).perm p.symm), mlook_del O (O.nd h), mlook_perm O ((O.nd h).perm p.symm) p]
/-- an entry, and what is left -/
theorem KOrd.del_mem (O : KOrd lt eq) {D : List (κ × ν)} (h : KNd D) {k : κ} {v : ν} (hm : (k, v) ∈ D) : D.Perm ((k, v) :: mdel eq D k) := by
  have h2 : KNd ((k, v) :: mdel eq D k) := List.pairwise_cons.2 ⟨(fun p hp e => by
    have := (mlook_mem O (h.sublist (mdel_sub _ _)) p.1 p.2).2 hp
    rw [mlook_del O h, ← e, O.rfl', cond_true] at this
    cases this), h.sublist (mdel_sub _ _)⟩
  refine perm_of_look O h h2 fun j => ?_
  simp only [mlook, mlook_del O h]
  cases hb : eq k j with
  | false => rfl
  | true =>
    rw [cond_true]
    have := (O.eq_iff _ _).1 hb
    subst this
    exact (mlook_mem O h k v).2 hm
end
end Go.Proofs.YtnkdanobhgofbaaGreatDoor.pv
