/- Maps of keys of one kind (integers, strings, bools), whose values are one cell each, that one variable has: made, read, written. -/
import Derived.Test.YtdimcmpkhbfcnaaSg
import Derived.Test.YtdimcmpkhbfcnaaQp
import Derived.MapKept
import Derived.DeepKeys3
namespace Go.Proofs.Ytdimcmpkhbfcnaa.pv
set_option linter.all false
open Go.RowKit Go.MapKept

section
variable {κ ν : Type} [DecidableEq κ]
/-- a key's place and value -/
def mplc : List (κ × ν) → κ → Option (Nat × ν)
  | [], _ => none
  | p :: r, k => if k = p.1 then some (0, p.2) else (mplc r k).map fun q => (q.1 + 1, q.2)
def mget (E : List (κ × ν)) (k : κ) : Option ν := (mplc E k).map (·.2)
def mput (E : List (κ × ν)) (k : κ) (v : ν) : List (κ × ν) := match mplc E k with | some (i, _) => E.set i (k, v) | none => E ++ [(k, v)]
theorem mplc_some : ∀ {E : List (κ × ν)} {k : κ} {i : Nat} {v : ν}, mplc E k = some (i, v) → E[i]? = some (k, v)
  | p :: r, k, i, v, h => by
    unfold mplc at h
    split at h
    · rename_i e; simp at h; obtain ⟨rfl, rfl⟩ := h; subst e; rfl
    · cases hq : mplc r k with
      | none => simp [hq] at h
      | some q =>
        simp [hq] at h
        obtain ⟨rfl, rfl⟩ := h
        simpa using mplc_some hq
theorem mplc_nil (k : κ) : mplc ([] : List (κ × ν)) k = none := rfl
theorem mget_nil (k : κ) : mget ([] : List (κ × ν)) k = none := rfl
theorem mplc_set : ∀ {E : List (κ × ν)} {k : κ} {i : Nat} {v0 : ν} (v : ν) (j : κ), mplc E k = some (i, v0) → mplc (E.set i (k, v)) j = if j = k then some (i, v) else mplc E j
  | p :: r, k, i, v0, v, j, h => by
    unfold mplc at h
    split at h
    · rename_i e
      simp at h
      obtain ⟨rfl, rfl⟩ := h
      subst e
      simp only [List.set_cons_zero, mplc]
      split <;> simp_all
    · rename_i e
      cases hq : mplc r k with
      | none => simp [hq] at h
      | some q =>
        simp [hq] at h
        obtain ⟨rfl, rfl⟩ := h
        simp only [List.set_cons_succ, mplc]
        rw [mplc_set v j hq]
        split
        · rename_i e1
          have : j ≠ k := fun e2 => e (e2 ▸ e1)
          rw [if_neg this]
        · split <;> rfl
theorem mplc_app : ∀ {E : List (κ × ν)} {k : κ} (v : ν) (j : κ), mplc E k = none → mplc (E ++ [(k, v)]) j = if j = k then some (E.length, v) else mplc E j
  | [], k, v, j, h => by simp [mplc]
  | p :: r, k, v, j, h => by
    unfold mplc at h
    split at h
    · cases h
    · rename_i e
      have hq : mplc r k = none := by cases hq : mplc r k <;> simp_all
      simp only [List.cons_append, mplc, List.length_cons]
      rw [mplc_app v j hq]
      split
      · rename_i e1
        have : j ≠ k := fun e2 => e (e2 ▸ e1)
        rw [if_neg this]
      · split <;> rfl
theorem mget_mput (E : List (κ × ν)) (k : κ) (v : ν) (j : κ) : mget (mput E k v) j = if j = k then some v else mget E j := by
  unfold mget mput
  cases h : mplc E k with
  | none => simp only []; rw [mplc_app v j h]; split <;> rfl
  | some q => obtain ⟨i, v0⟩ := q; simp only []; rw [mplc_set v j h]; split <;> rfl
end

/-- a call that hands back a row of one's own: what it hands back, as data -/
theorem Ret.of_H {P : Program} {f : FuncId} {args : List PV} {e s : Nat} {xs : List PV} (h : RetH P f (args.map .d) [] (.srf 0) [.row e s xs]) : Ret P f args (.sl xs) := by
  refine ⟨h.1, fun ow w vs hf hr => ?_⟩
  have S0 : SimH ⟨w, fun _ => false, ow, fun _ => undef⟩ [] w ow (fun _ => undef) := ⟨Kt.refl _ _, hf, fun l o hl => by simp at hl, fun l l' o o' b _ hl => by simp at hl⟩
  refine (h.2 ⟨w, fun _ => false, ow, fun _ => undef⟩ (fun _ => undef) vs S0 (RFT.of_RT hr)).mono ?_
  rintro e' w' ⟨v, ow', hd', rfl, hk, S, _, hv⟩
  have hkt := S.below
  have hB : Below w.heap.size w w' := ⟨hkt.os, hkt.tape, hkt.output, hkt.size, fun k hk' => hkt.block k hk' rfl⟩
  refine ⟨v, rfl, hB, ?_⟩
  have hk1 : Kp ow' w' ow w' := ⟨Nat.le_refl _, fun b hb h0 => ?_, fun _ _ _ => rfl⟩
  · exact frz_sound S hk1 (fun b hb => by
      rcases hb with hb | hb
      · exact hf b hb
      · cases hb) (.srf 0) v (.sl xs) (by simp [frz]) hv
  · rcases Nat.lt_or_ge b w.heap.size with hlt | hge
    · have := hk b hlt rfl
      rw [h0] at this; exact this.symm
    · exact hf b hge
/-- keys of one kind -/
structure KOk (P : Program) (kt : Nat) {κ : Type} [DecidableEq κ] (d : TypeDesc) (f : κ → Value) : Prop where
  und : P.underlying kt = some d
  key : ∀ a, IsKey d (f a)
  now : ∀ a b, Instr.sameNow d (f a) (f b) = some (decide (a = b))
theorem KOk.int {P : Program} {kt : Nat} {k : IntKind} (h : P.underlying kt = some (.int k)) : KOk P kt (.int k) (fun a : Int => Value.int k a) :=
  ⟨h, fun _ => rfl, fun a b => by simp only [Instr.sameNow, if_true]; congr 1⟩
theorem KOk.str {P : Program} {kt : Nat} (h : P.underlying kt = some .string) : KOk P kt .string (fun a : ByteArray => Value.string a) :=
  ⟨h, fun _ => trivial, fun a b => by
    simp only [Instr.sameNow]; congr 1
    by_cases e : a = b
    · simp [e, (bytes_beq b b).2 rfl]
    · have : (a == b) = false := by
        cases q : (a == b)
        · rfl
        · exact absurd ((bytes_beq a b).1 q) e
      simp [e, this]⟩

section
variable {κ ν : Type} [DecidableEq κ] {f : κ → Value} {g : ν → Value} {d : TypeDesc}
theorem findNow_mix (hn : ∀ a b, Instr.sameNow d (f a) (f b) = some (decide (a = b))) (k : κ) : ∀ (es : List MapEntry) (E : List (κ × ν)) (i : Nat), es.map (fun e => (e.key, e.val)) = E.map (fun p => (f p.1, g p.2)) →
    Instr.findNow d (f k) es i = some ((mplc E k).map fun q => (i + q.1, g q.2))
  | [], E, i, h => by
    have : E = [] := by cases E with | nil => rfl | cons _ _ => simp at h
    subst this; rfl
  | e :: es, [], i, h => by simp at h
  | e :: es, p :: r, i, h => by
    simp only [List.map_cons, List.cons.injEq, Prod.mk.injEq] at h
    obtain ⟨⟨h1, h2⟩, h3⟩ := h
    unfold Instr.findNow mplc
    rw [h1, hn]
    by_cases e1 : k = p.1
    · simp [e1, h2]
    · simp only [e1, decide_false, if_false]
      rw [findNow_mix hn k es r (i + 1) h3]
      cases mplc r k <;> simp <;> omega
/-- what the machine wants to know of keys -/
structure KW (P : Program) (kt : Nat) {κ : Type} [DecidableEq κ] (f : κ → Value) : Prop where
  chk : ∀ a b (w : World), (Instr.checkKey b 10000 kt (f a)).run P w = .ok () w
  find : ∀ {ν : Type} (g : ν → Value) (k : κ) (es : List MapEntry) (E : List (κ × ν)) (w : World), es.map (fun e => (e.key, e.val)) = E.map (fun p => (f p.1, g p.2)) → (Instr.findKey kt (f k) es).run P w = .ok ((mplc E k).map fun q => (q.1, g q.2)) w
  stay : ∀ a (w : World), (Instr.keyThatStays (f a) (f a)).run P w = .ok (f a) w
theorem KOk.kw {P : Program} {kt : Nat} (h : KOk P kt d f) : KW P kt f :=
  ⟨fun a b w => run_checkKey h.und (h.key a) b 9999, fun g k es E w he => by
    have := run_findKey (w := w) h.und (findNow_mix (g := g) h.now k es E 0 he)
    simpa using this, fun a w => run_keyThatStays (h.key a)⟩
theorem findAsking_mix {P : Program} {kt : Nat} (he : ∀ a b (w : World), (Op.equal kt (f a) (f b)).run P w = .ok (decide (a = b)) w) (k : κ) (w : World) : ∀ (es : List MapEntry) (E : List (κ × ν)) (i : Nat), es.map (fun e => (e.key, e.val)) = E.map (fun p => (f p.1, g p.2)) →
    (Instr.findAsking kt (f k) es i).run P w = .ok ((mplc E k).map fun q => (i + q.1, g q.2)) w
  | [], E, i, h => by
    have : E = [] := by cases E with | nil => rfl | cons _ _ => simp at h
    subst this; rfl
  | e :: es, [], i, h => by simp at h
  | e :: es, p :: r, i, h => by
    simp only [List.map_cons, List.cons.injEq, Prod.mk.injEq] at h
    obtain ⟨⟨h1, h2⟩, h3⟩ := h
    unfold Instr.findAsking mplc
    rw [h1]
    simp only [Sem.run_bind, he, Result.andThen_ok]
    by_cases e1 : k = p.1
    · simp [e1, h2]
    · simp only [e1, decide_false, if_false, Bool.false_eq_true]
      rw [findAsking_mix he k w es r (i + 1) h3]
      cases mplc r k <;> simp <;> omega
def plainC : Value → Bool
  | .int _ _ => true
  | .bool _ => true
  | .string _ => true
  | _ => false
theorem sameBits_plain : ∀ (l : List Value), l.all plainC = true → ((l.zip l).all fun (x, y) => Instr.sameBits 9999 x y) = true
  | [], _ => rfl
  | v :: l, h => by
    simp only [List.all_cons, Bool.and_eq_true] at h
    rw [List.zip_cons_cons, List.all_cons, sameBits_plain l h.2, Bool.and_true]
    have hv := h.1
    cases v with
    | int k a => simp [Instr.sameBits]
    | bool b => simp [Instr.sameBits]
    | string b => exact (bytes_beq b b).2 rfl
    | _ => cases hv
/-- keys that are arrays of plain cells -/
theorem KW.agg {P : Program} {T : List TI} (hT : TOk P T) {kt n e : Nat} {de : TypeDesc} {c : κ → List Value} (hu : P.underlying kt = some (.array n e)) (hd : P.underlying e = some de) (ht : tagg T e = some false) (hsz : tsz T e = some 1) (ha : tagg T kt = some true) (hlen : ∀ a, (c a).length = n) (hik : ∀ a, ∀ v ∈ c a, IsKey de v)
    (he : ∀ a b, peq P T 20 kt (c a) (c b) = some (decide (a = b))) (hs : ∀ a, (c a).all plainC = true) : KW P kt (fun a => .agg (c a).toArray) := by
  have hee : ∀ a b (w : World), (Op.equal kt (.agg (c a).toArray) (.agg (c b).toArray)).run P w = .ok (decide (a = b)) w := by
    intro a b w
    obtain ⟨x, y, e1, e2, e3⟩ := peq_sound hT 20 kt (c a) (c b) _ (he a b) 9980
    unfold mkv at e1 e2
    rw [ha] at e1 e2
    simp only [Option.some.injEq] at e1 e2
    subst e1 e2
    exact e3 w
  refine ⟨fun a b w => ?_, fun g k es E w h => ?_, fun a w => ?_⟩
  · show (Instr.checkKey b (9999 + 1) kt (.agg (c a).toArray)).run P w = .ok () w
    rw [Instr.checkKey]
    simp only [Sem.run_bind, run_underlying hu, Result.andThen_ok]
    simp only [Std.Legacy.Range.forIn_eq_forIn_range', Std.Legacy.Range.size, Nat.sub_zero, Nat.add_one_sub_one, Nat.div_one]
    have each : ∀ j ∈ List.range' 0 n, ∃ v, (c a)[j]? = some v ∧ IsKey de v := by
      intro j hj
      have hj' : j < (c a).length := by rw [hlen]; simp at hj; omega
      exact ⟨_, List.getElem?_eq_getElem hj', hik a _ (List.getElem_mem hj')⟩
    generalize List.range' 0 n = is at each
    induction is with
    | nil => simp
    | cons j is ih =>
      obtain ⟨v, hv, hk⟩ := each j (by simp)
      have p1 : (part e (c a).toArray (j * 1)).run P w = .ok v w := run_part_one hT ht (by rw [Nat.mul_one]; exact hv)
      have p2 : (Instr.checkKey b 9999 e v).run P w = .ok () w := run_checkKey hd hk b 9998
      simp only [List.forIn_cons, Sem.run_bind, tsz_run hT hsz, Result.andThen_ok, p1, p2, Sem.run_pure]
      exact ih (fun y hy => each y (by simp [hy]))
  · rw [run_findKey_eq w (by rw [hu])]
    have := findAsking_mix (g := g) hee k w es E 0 h
    simpa using this
  · have : Instr.sameBits 10000 (.agg (c a).toArray) (.agg (c a).toArray) = true := by
      show (_ == _ && _) = true
      rw [beq_self_eq_true, Bool.true_and]
      exact sameBits_plain (c a) (hs a)
    simp [Instr.keyThatStays, this]
/-- a map that one variable has: its entries in the order in which they came -/
def mapC (f : κ → Value) (g : ν → Value) (E : List (κ × ν)) : Cust where
  I ow w h vs := ∃ b clock es, h = .map (some b) ∧ w.heap[b]? = some (.map es clock) ∧ es.toList.map (fun e => (e.key, e.val)) = E.map (fun p => (f p.1, g p.2))
  lt := by
    rintro ow w h vs ⟨b, clock, es, rfl, h2, _⟩ b' hb
    simp [blocksOf, blockOf] at hb
    subst hb
    exact (Array.getElem?_eq_some_iff.1 h2).1
  kp := by
    rintro ow ow' w w' h vs k hb ⟨b, clock, es, rfl, h2, h3⟩
    exact ⟨b, clock, es, rfl, by rw [(hb b (by simp [blocksOf, blockOf])).1]; exact h2, h3⟩
  one := by rintro ow w h vs ⟨b, clock, es, rfl, _⟩; rfl
end
section
variable {P : Program} {T : List TI} {n : Nat} {w0 : Cx} {st : PS} {a : Act} {w : World} {ow : Nat → Bool} {hd : Nat → Value}
variable {κ ν : Type} [DecidableEq κ] {f : κ → Value} {g : ν → Value} {E : List (κ × ν)}
theorem SimW.newMap (S : SimW n w0 st a w ow hd) {l : Nat} (hl : st.m[l]? = some .free) (f : κ → Value) (g : ν → Value) :
    ∃ ow' hd', ((∀ b, b < w.heap.size → ow' b = ow b) ∧ ∀ j, al st.m j = true → al (st.m.set l (.cu (mapC f g []) [])) j = true ∧ hd' j = hd j) ∧ SimW n w0 ⟨st.f, st.m.set l (.cu (mapC f g []) [])⟩ a (w.alloc (.map #[] 0)) ow' hd' ∧ RF (al (st.m.set l (.cu (mapC f g []) []))) hd' ow' (w.alloc (.map #[] 0)) (.srf l) (.map (some w.heap.size)) := by
  have hsz : (w.alloc (.map #[] 0)).heap.size = w.heap.size + 1 := by simp
  have hk : Kp ow w (fun b => if b = w.heap.size then true else ow b) (w.alloc (.map #[] 0)) :=
    ⟨by rw [hsz]; omega, fun b hb h => by show (if b = w.heap.size then true else ow b) = false; rw [if_neg (by omega)]; exact h, fun b hb _ => Below.heap_alloc w _ b hb⟩
  have hal : al st.m l = false := by simp [al, hl, PO.made]
  have hlt : l < st.m.length := (List.getElem?_eq_some_iff.1 hl).1
  have ha : ∀ j, al st.m j = true → al (st.m.set l (.cu (mapC f g []) [])) j = true ∧ upd hd l (.map (some w.heap.size)) j = hd j := by
    intro j hj
    refine ⟨al_set_mono rfl j hj, ?_⟩
    rw [upd_ne]
    intro e; rw [e, hal] at hj; cases hj
  have S' := S.obj (l := l) (hv := .map (some w.heap.size)) (o := .cu (mapC f g []) []) hk (Kt.of_below ((Below.refl _ _).alloc S.below.size _) (Nat.le_refl _))
    (fun b hb => by rw [hsz] at hb; show (if b = w.heap.size then true else ow b) = false; rw [if_neg (by omega)]; exact S.fresh b (by omega)) (.inl hal) rfl
    ⟨fun b hb => by
        simp [blocksOf, blockOf] at hb; subst hb
        exact ⟨.inl S.below.size, by simp⟩,
      [], by simp [RFL], w.heap.size, 0, #[], rfl, heap_alloc_new w _, by simp⟩
    (fun j oj b e hj hl hbk => by
      have := ((S.objs j oj hj).lt hl b hbk).1
      refine ⟨Below.heap_alloc w _ b this, if_neg (by omega), fun _ he => ?_⟩
      simp [blocksOf, blockOf] at he
      omega)
  refine ⟨_, _, ⟨?_, ha⟩, S', ?_⟩
  · intro b hb
    show (if b = w.heap.size then true else ow b) = ow b
    rw [if_neg (by omega)]
  · simp only [RF]
    exact ⟨by rw [al_set_same hlt]; rfl, by rw [upd_same], by rw [upd_same]; rfl⟩
theorem ymake {t nl : Nat} (f : κ → Value) (g : ν → Value) : Ext P T (.makeMap t none) [] [(nl, .free)] (.srf nl) [(nl, .cu (mapC f g []) [])] := by
  intro n w0 st a w o hT hS ho hn hv hm K Q hK
  obtain ⟨ow, hd, hold, S⟩ := hS
  obtain ⟨d, op, ty, pos, af, gd⟩ := o
  simp only at ho hn hK
  subst ho
  have hml := hm (nl, .free) (by simp)
  obtain ⟨ow', hd', ⟨h1, h2⟩, S', hr⟩ := S.newMap hml f g
  have hrun : (execOp a.eval ⟨d, .makeMap t none, ty, pos, af, gd⟩).run P w = .ok (.value (.map (some w.heap.size))) (w.alloc (.map #[] 0)) := by
    have : (Instr.makeMap t none).run P w = .ok (.map (some w.heap.size)) (w.alloc (.map #[] 0)) := rfl
    simp only [execOp, Option.map_none, Sem.run_bind, this, Result.andThen_ok, Sem.run_pure]
  exact wp_val' hrun (hK _ _ ⟨ow', hd', hold.step fun b hb _ => h1 b (Nat.lt_of_lt_of_le hb S.below.size), S'.put hn hr⟩)
theorem wp_skip' {o : Oper} {a : Act} {w w' : World} {K : Act → World → Prop} {Q : Exit → Act → World → Prop} (hrun : (execOp a.eval o).run P w = .ok .skip w') (h : K (a.put o.dst undef) w') : o.wp P a w K Q := by
  unfold Oper.wp; rw [hrun]; exact h
/-- the operand is the key -/
def KV (x : FV) (u : Value) : Prop := ∀ (A : Nat → Bool) (hd : Nat → Value) (ow : Nat → Bool) (w : World) (v : Value), RF A hd ow w x v → v = u
theorem kv_v (u : Value) : KV (.d (.v u)) u := fun A hd ow w v h => by simp only [RF, R] at h; exact h.1
theorem kv_cells {ow : Nat → Bool} {w : World} : ∀ (cs vs : List Value), RL ow w (cs.map fun c => .v c) vs → vs = cs
  | [], vs, h => by simpa only [List.map_nil, RL] using h
  | c :: cs, vs, h => by
    simp only [List.map_cons, RL, R] at h
    obtain ⟨v, r, rfl, h1, _, h3⟩ := h
    rw [h1.1, kv_cells cs r h3]
theorem kv_agg (cs : List Value) : KV (.d (.agg (cs.map fun c => .v c))) (.agg cs.toArray) := fun A hd ow w v h => by
  simp only [RF, R] at h
  obtain ⟨vs, rfl, h⟩ := h
  rw [kv_cells cs vs h]
instance decFin {n : Nat} {α : Type} [DecidableEq α] : DecidableEq (Fin n → α) := fun f g => decidable_of_iff (∀ i, f i = g i) ⟨funext, fun h i => h ▸ rfl⟩
theorem ylook {t kt et l : Nat} {x y : Operand} {k : κ} {z : ν} {r : FV} {fk : FV} (hfk : KV fk (f k)) (c : Bool) (h1 : P.underlying t = some (.map kt et)) (hk : KW P kt f) (hz : ∀ w, (zeroValue et).run P w = .ok (g z) w) (hg : ∀ v, (g v).oneCell' = true)
    (hr : r = if c then .d (.tup [.v (g ((mget E k).getD z)), .v (.bool (mget E k).isSome)]) else .d (.v (g ((mget E k).getD z)))) :
    Ext P T (.lookup t x y c) [.srf l, fk] [(l, .cu (mapC f g E) [])] r [] := by
  intro n w0 st a w o hT hS ho hn hv hm K Q hK
  obtain ⟨ow, hd, hold, S⟩ := hS
  obtain ⟨dst, op, ty, pos, af, gd⟩ := o
  simp only at ho hn hK
  subst ho
  simp [Op.operands] at hv
  obtain ⟨hv1, hv2⟩ := hv
  have hml := hm (l, .cu (mapC f g E) []) (by simp)
  obtain ⟨g1, vs, g2, b, clock, es, q1, q2, q3⟩ := S.objs l _ hml
  have hx := S.eval x
  rw [hv1] at hx
  simp only [RF] at hx
  obtain ⟨_, hx, _⟩ := hx
  have hy : a.eval y = f k := by have := S.eval y; rw [hv2] at this; exact hfk _ _ _ _ _ this
  have hf := hk.find g k es.toList E w q3
  have hrun : (Instr.lookup t (.map (some b)) (f k) c).run P w = .ok (if c then .tuple #[g ((mget E k).getD z), .bool (mget E k).isSome] else g ((mget E k).getD z)) w := by
    cases hq : mplc E k with
    | none =>
      rw [hq] at hf
      simp [Instr.lookup, run_underlying h1, MapKept.run_getObj_map q2, hk.chk, hf, Result.andThen, mget, hq, hz]
    | some q =>
      rw [hq] at hf
      simp [Instr.lookup, run_underlying h1, MapKept.run_getObj_map q2, hk.chk, hf, Result.andThen, mget, hq]
  have hrun' : (execOp a.eval ⟨dst, .lookup t x y c, ty, pos, af, gd⟩).run P w = .ok (.value (if c then .tuple #[g ((mget E k).getD z), .bool (mget E k).isSome] else g ((mget E k).getD z))) w := by
    simp only [execOp, hx, q1, hy, Sem.run_bind, hrun, Result.andThen_ok, Sem.run_pure]
  refine wp_val' hrun' (hK _ _ ⟨ow, hd, hold, S.put hn ?_⟩)
  rw [hr]
  cases c
  · simp only [Bool.false_eq_true, if_false, RF, R]; exact ⟨trivial, hg _⟩
  · simp only [if_true, RF, R, RT]
    exact ⟨_, rfl, _, _, rfl, ⟨rfl, hg _⟩, _, _, rfl, ⟨rfl, rfl⟩, rfl⟩
theorem yput {t kt et l : Nat} {x y z : Operand} {k : κ} {v : ν} {fk : FV} (hfk : KV fk (f k)) (h1 : P.underlying t = some (.map kt et)) (hk : KW P kt f) :
    Ext P T (.mapUpdate t x y z) [.srf l, fk, .d (.v (g v))] [(l, .cu (mapC f g E) [])] .dead [(l, .cu (mapC f g (mput E k v)) [])] := by
  intro n w0 st a w o hT hS ho hn hv hm K Q hK
  obtain ⟨ow, hd, hold, S⟩ := hS
  obtain ⟨dst, op, ty, pos, af, gd⟩ := o
  simp only at ho hn hK
  subst ho
  simp [Op.operands] at hv
  obtain ⟨hv1, hv2, hv3⟩ := hv
  have hml := hm (l, .cu (mapC f g E) []) (by simp)
  simp only at hml
  obtain ⟨g1, vs, g2, b, clock, es, q1, q2, q3⟩ := S.objs l _ hml
  have hx := S.eval x
  rw [hv1] at hx
  simp only [RF] at hx
  obtain ⟨_, hx, _⟩ := hx
  have hy : a.eval y = f k := by have := S.eval y; rw [hv2] at this; exact hfk _ _ _ _ _ this
  obtain ⟨hzz, _⟩ := S.v hv3
  have hf := hk.find g k es.toList E w q3
  have hgo : ∃ es' clock', (Instr.mapUpdate t (.map (some b)) (f k) (g v)).run P w = .ok () { w with heap := w.heap.setIfInBounds b (.map es' clock') } ∧ es'.toList.map (fun e => (e.key, e.val)) = (mput E k v).map (fun p => (f p.1, g p.2)) := by
    cases hq : mplc E k with
    | none =>
      rw [hq] at hf
      refine ⟨es.push { key := f k, val := g v, born := clock }, clock + 1, ?_, ?_⟩
      · simp [Instr.mapUpdate, run_underlying h1, MapKept.run_getObj_map q2, hk.chk, hf, run_setObj_map _ q2, Result.andThen]
      · simp [mput, hq, q3]
    | some q =>
      obtain ⟨i, v0⟩ := q
      rw [hq] at hf
      have he := mplc_some hq
      have hi : (es.toList.map (fun e => (e.key, e.val)))[i]? = some (f k, g v0) := by rw [q3, List.getElem?_map, he]; rfl
      rw [List.getElem?_map] at hi
      cases hj : es.toList[i]? with
      | none => simp [hj] at hi
      | some e =>
        simp [hj] at hi
        have hj' : es[i]? = some e := by simpa using hj
        refine ⟨es.modify i fun e => { e with key := f k, val := g v }, clock, ?_, ?_⟩
        · simp [Instr.mapUpdate, run_underlying h1, MapKept.run_getObj_map q2, hk.chk, hf, hj', hi.1, hk.stay, run_setObj_map _ q2, Result.andThen]
        · simp only [mput, hq]
          apply List.ext_getElem?
          intro j
          have hjj := congrArg (fun L => L[j]?) q3
          simp only [List.getElem?_map, Array.toList_modify, List.getElem?_modify, List.getElem?_set] at hjj ⊢
          by_cases e1 : i = j
          · subst e1
            have hlt : i < E.length := (List.getElem?_eq_some_iff.1 he).1
            simp [hj, hlt]
          · simp only [e1, if_false]
            rw [← hjj]
            cases es.toList[j]? <;> rfl
  obtain ⟨es', clock', hrun, hes⟩ := hgo
  have hrun' : (execOp a.eval ⟨dst, .mapUpdate t x y z, ty, pos, af, gd⟩).run P w = .ok .skip { w with heap := w.heap.setIfInBounds b (.map es' clock') } := by
    simp only [execOp, hx, q1, hy, hzz, Sem.run_bind, hrun, Result.andThen_ok, Sem.run_pure]
  obtain ⟨h2, h3⟩ := heap_set (o' := .map es' clock') q2
  obtain ⟨hnw, how⟩ := g1 b (by rw [q1]; first | rfl | simp [blocksOf, blockOf])
  have hbel : Below 0 w { w with heap := w.heap.setIfInBounds b (.map es' clock') } := ⟨rfl, rfl, rfl, by simp, fun j hj => by omega⟩
  have S' := S.set (l := l) (b := b) (o' := .cu (mapC f g (mput E k v)) []) hml rfl rfl (by rw [q1]; first | rfl | simp [blocksOf, blockOf]) h3 (by simp) (Kt.of_one hbel hnw h3)
    ⟨fun b' hb' => g1 b' hb', [], by simp [RFL], b, clock', es', q1, h2, hes⟩
  exact wp_skip' hrun' (hK _ _ ⟨ow, hd, hold, by
    have := S'.put hn (x := .dead) (v := undef) (by simp only [RF])
    exact this⟩)
end
end Go.Proofs.Ytdimcmpkhbfcnaa.pv
