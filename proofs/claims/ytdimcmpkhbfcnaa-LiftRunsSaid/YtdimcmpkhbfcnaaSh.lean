/- Maps of keys of one kind (integers, strings, bools), whose values are one cell each, that one variable has: made, read, written. -/
import Derived.Test.YtdimcmpkhbfcnaaSg
import Derived.Test.YtdimcmpkhbfcnaaQp
import Derived.MapKept
import Derived.DeepKeys3
namespace Go.Proofs.Ytdimcmpkhbfcnaa.pv
set_option linter.all false
open Go.RowKit Go.MapKept
section
variable {κ ν : Type} [DecidableEq κ]
/-- a key's place and value -/
def mplc : List (κ × ν) → κ → Option (Nat × ν)
  | [], _ => none
  | p :: r, k => if k = p.1 then some (0, p.2) else (mplc r k).map fun q => (q.1 + 1, q.2)
def mget (E : List (κ × ν)) (k : κ) : Option ν := (mplc E k).map (·.2)
def mput (E : List (κ × ν)) (k : κ) (v : ν) : List (κ × ν) := match mplc E k with | some (i, _) => E.set i (k, v) | none => E ++ [(k, v)]
theorem mplc_some : ∀ {E : List (κ × ν)} {k : κ} {i : Nat} {v : ν}, mplc E k = some (i, v) → E[i]? = some (k, v)
  | p :: r, k, i, v, h => by
    unfold mplc at h
    split at h
    · rename_i e; simp at h; obtain ⟨rfl, rfl⟩ := h; subst e; rfl
    · cases hq : mplc r k with
      | none => simp [hq] at h
      | some q =>
        simp [hq] at h
        obtain ⟨rfl, rfl⟩ := h
        simpa using mplc_some hq
theorem mplc_set : ∀ {E : List (κ × ν)} {k : κ} {i : Nat} {v0 : ν} (v : ν) (j : κ), mplc E k = some (i, v0) → mplc (E.set i (k, v)) j = if j = k then some (i, v) else mplc E j
  | p :: r, k, i, v0, v, j, h => by
    unfold mplc at h
    split at h
    · rename_i e
      simp at h
      obtain ⟨rfl, rfl⟩ := h
      subst e
      simp only [List.set_cons_zero, mplc]
      split <;> simp_all
    · rename_i e
      cases hq : mplc r k with
      | none => simp [hq] at h
      | some q =>
        simp [hq] at h
        obtain ⟨rfl, rfl⟩ := h
        simp only [List.set_cons_succ, mplc]
        rw [mplc_set v j hq]
        split
        · rename_i e1
          have : j ≠ k := fun e2 => e (e2 ▸ e1)
          rw [if_neg this]
        · split <;> rfl
theorem mplc_app : ∀ {E : List (κ × ν)} {k : κ} (v : ν) (j : κ), mplc E k = none → mplc (E ++ [(k, v)]) j = if j = k then some (E.length, v) else mplc E j
  | [], k, v, j, h => by simp [mplc]
  | p :: r, k, v, j, h => by
    unfold mplc at h
    split at h
    · cases h
    · rename_i e
      have hq : mplc r k = none := by cases hq : mplc r k <;> simp_all
      simp only [List.cons_append, mplc, List.length_cons]
      rw [mplc_app v j hq]
      split
      · rename_i e1
        have : j ≠ k := fun e2 => e (e2 ▸ e1)
        rw [if_neg this]
      · split <;> rfl
theorem mget_mput (E : List (κ × ν)) (k : κ) (v : ν) (j : κ) : mget (mput E k v) j = if j = k then some v else mget E j := by
  unfold mget mput
  cases h : mplc E k with
  | none => simp only []; rw [mplc_app v j h]; split <;> rfl
  | some q => obtain ⟨i, v0⟩ := q; simp only []; rw [mplc_set v j h]; split <;> rfl
end
/-- a call that hands back a row of one's own: what it hands back, as data -/
theorem Ret.of_H {P : Program} {f : FuncId} {args : List PV} {e s : Nat} {xs : List PV} (h : RetH P f (args.map .d) [] (.srf 0) [.row e s xs]) : Ret P f args (.sl xs) := by
  refine ⟨h.1, fun ow w vs hf hr => ?_⟩
  have S0 : SimH ⟨w, fun _ => false, ow, fun _ => undef⟩ [] w ow (fun _ => undef) := ⟨Kt.refl _ _, hf, fun l o hl => by simp at hl, fun l l' o o' b _ hl => by simp at hl⟩
  refine (h.2 ⟨w, fun _ => false, ow, fun _ => undef⟩ (fun _ => undef) vs S0 (RFT.of_RT hr)).mono ?_
  rintro e' w' ⟨v, ow', hd', rfl, hk, S, _, hv⟩
  have hkt := S.below
  have hB : Below w.heap.size w w' := ⟨hkt.os, hkt.tape, hkt.output, hkt.size, fun k hk' => hkt.block k hk' rfl⟩
  refine ⟨v, rfl, hB, ?_⟩
  have hk1 : Kp ow' w' ow w' := ⟨Nat.le_refl _, fun b hb h0 => ?_, fun _ _ _ => rfl⟩
  · exact frz_sound S hk1 (fun b hb => by
      rcases hb with hb | hb
      · exact hf b hb
      · cases hb) (.srf 0) v (.sl xs) (by simp [frz]) hv
  · rcases Nat.lt_or_ge b w.heap.size with hlt | hge
    · have := hk b hlt rfl
      rw [h0] at this; exact this.symm
    · exact hf b hge
/-- keys of one kind -/
structure KOk (P : Program) (kt : Nat) {κ : Type} [DecidableEq κ] (d : TypeDesc) (f : κ → Value) : Prop where
  und : P.underlying kt = some d
  key : ∀ a, IsKey d (f a)
  now : ∀ a b, Instr.sameNow d (f a) (f b) = some (decide (a = b))
theorem KOk.int {P : Program} {kt : Nat} {k : IntKind} (h : P.underlying kt = some (.int k)) : KOk P kt (.int k) (fun a : Int => Value.int k a) :=
  ⟨h, fun _ => rfl, fun a b => by simp only [Instr.sameNow, if_true]; congr 1⟩
section
variable {κ ν : Type} [DecidableEq κ] {f : κ → Value} {g : ν → Value} {d : TypeDesc}
theorem findNow_mix (hn : ∀ a b, Instr.sameNow d (f a) (f b) = some (decide (a = b))) (k : κ) : ∀ (es : List MapEntry) (E : List (κ × ν)) (i : Nat), es.map (fun e => (e.key, e.val)) = E.map (fun p => (f p.1, g p.2)) →
    Instr.findNow d (f k) es i = some ((mplc E k).map fun q => (i + q.1, g q.2))
  | [], E, i, h => by
    have : E = [] := by cases E with | nil => rfl | cons _ _ => simp at h
    subst this; rfl
  | e :: es, [], i, h => by simp at h
  | e :: es, p :: r, i, h => by
    simp only [List.map_cons, List.cons.injEq, Prod.mk.injEq] at h
    obtain ⟨⟨h1, h2⟩, h3⟩ := h
    unfold Instr.findNow mplc
    rw [h1, hn]
    by_cases e1 : k = p.1
    · simp [e1, h2]
    · simp only [e1, decide_false, if_false]
      rw [findNow_mix hn k es r (i + 1) h3]
      cases mplc r k <;> simp <;> omega
/-- what the machine wants to know of keys -/
structure KW (P : Program) (kt : Nat) {κ : Type} [DecidableEq κ] (f : κ → Value) : Prop where
  chk : ∀ a b (w : World), (Instr.checkKey b 10000 kt (f a)).run P w = .ok () w
  find : ∀ {ν : Type} (g : ν → Value) (k : κ) (es : List MapEntry) (E : List (κ × ν)) (w : World), es.map (fun e => (e.key, e.val)) = E.map (fun p => (f p.1, g p.2)) → (Instr.findKey kt (f k) es).run P w = .ok ((mplc E k).map fun q => (q.1, g q.2)) w
  stay : ∀ a (w : World), (Instr.keyThatStays (f a) (f a)).run P w = .ok (f a) w
theorem KOk.kw {P : Program} {kt : Nat} (h : KOk P kt d f) : KW P kt f :=
  ⟨fun a b w => run_checkKey h.und (h.key a) b 9999, fun g k es E w he => by
    have := run_findKey (w := w) h.und (findNow_mix (g := g) h.now k es E 0 he)
    simpa using this, fun a w => run_keyThatStays (h.key a)⟩
def plainC : Value → Bool
  | .int _ _ => true
  | .bool _ => true
  | .string _ => true
  | _ => false
/-- a map that one variable has: its entries in the order in which they came -/
def mapC (f : κ → Value) (g : ν → Value) (E : List (κ × ν)) : Cust where
  I ow w h vs := ∃ b clock es, h = .map (some b) ∧ w.heap[b]? = some (.map es clock) ∧ es.toList.map (fun e => (e.key, e.val)) = E.map (fun p => (f p.1, g p.2))
  lt := by
    rintro ow w h vs ⟨b, clock, es, rfl, h2, _⟩ b' hb
    simp [blocksOf, blockOf] at hb
    subst hb
    exact (Array.getElem?_eq_some_iff.1 h2).1
  kp := by
    rintro ow ow' w w' h vs k hb ⟨b, clock, es, rfl, h2, h3⟩
    exact ⟨b, clock, es, rfl, by rw [(hb b (by simp [blocksOf, blockOf])).1]; exact h2, h3⟩
  one := by rintro ow w h vs ⟨b, clock, es, rfl, _⟩; rfl
end
section
variable {P : Program} {T : List TI} {n : Nat} {w0 : Cx} {st : PS} {a : Act} {w : World} {ow : Nat → Bool} {hd : Nat → Value}
variable {κ ν : Type} [DecidableEq κ] {f : κ → Value} {g : ν → Value} {E : List (κ × ν)}
theorem wp_skip' {o : Oper} {a : Act} {w w' : World} {K : Act → World → Prop} {Q : Exit → Act → World → Prop} (hrun : (execOp a.eval o).run P w = .ok .skip w') (h : K (a.put o.dst undef) w') : o.wp P a w K Q := by
  unfold Oper.wp; rw [hrun]; exact h
/-- the operand is the key -/
def KV (x : FV) (u : Value) : Prop := ∀ (A : Nat → Bool) (hd : Nat → Value) (ow : Nat → Bool) (w : World) (v : Value), RF A hd ow w x v → v = u
theorem kv_v (u : Value) : KV (.d (.v u)) u := fun A hd ow w v h => by simp only [RF, R] at h; exact h.1
instance decFin {n : Nat} {α : Type} [DecidableEq α] : DecidableEq (Fin n → α) := fun f g => decidable_of_iff (∀ i, f i = g i) ⟨funext, fun h i => h ▸ rfl⟩
end
end Go.Proofs.Ytdimcmpkhbfcnaa.pv
