/- The table of types, the acts of a pure run (one operation each), and their contracts. -/
import Derived.Test.YtnkdanobhgofbaaGreatDoorQa
namespace Go.Proofs.YtnkdanobhgofbaaGreatDoor.pv
set_option linter.all false
open Go.RowKit

theorem cond_some {α : Type} {b : Bool} {x : Option α} {y : α} (h : (bif b then x else none) = some y) : b = true ∧ x = some y := by
  cases b with
  | false => simp at h
  | true => exact ⟨rfl, h⟩

inductive TK where
  | int (k : IntKind) | bool | str
  | sl (e : Nat) | arr (n e : Nat) | st (fs : List (Nat × Nat)) | ptr (e : Nat) | oth
inductive Z where
  | i (k : IntKind) | b | s | sl | nf | np | ni | nm
structure TI where
  size : Nat
  bytes : Nat
  kind : TK
  zero : List Z
def TK.agg : TK → Bool
  | .arr _ _ | .st _ => true
  | _ => false
def Z.pv : Z → PV
  | .i k => .v (.int k 0)
  | .b => .v (.bool false)
  | .s => .v (.string ⟨#[]⟩)
  | .sl => .v (.slice none 0 0)
  | .nf => .v .nilFunc
  | .np => .v (.pointer none)
  | .ni => .v .nilIface
  | .nm => .v (.map none)
def zOk : Value → Z → Bool
  | .int k n, .i k' => k == k' && n == 0
  | .bool b, .b => !b
  | .string s, .s => s.data.size == 0
  | .slice none 0 0, .sl => true
  | .nilFunc, .nf => true
  | .pointer none, .np => true
  | .nilIface, .ni => true
  | .map none, .nm => true
  | _, _ => false
def zsOk : List Value → List Z → Bool
  | [], [] => true
  | c :: cs, z :: zs => zOk c z && zsOk cs zs
  | _, _ => false
def kOk : TypeDesc → TK → Bool
  | .int k, .int k' => k == k'
  | .bool, .bool => true
  | .string, .str => true
  | .slice e, .sl e' => e == e'
  | .array n e, .arr n' e' => n == n' && e == e'
  | .pointer e, .ptr e' => e == e'
  | .struct fs, .st l => fs.toList.map (fun f => (f.offset, f.type)) == l
  | .struct _, _ | .array _ _, _ => false
  | _, .oth => true
  | _, _ => false
def tiOk (P : Program) (t : Nat) (ti : TI) : Bool :=
  match P.info? t, P.underlying t with
  | some i, some d => i.size == ti.size && i.bytes == ti.bytes && kOk d ti.kind && (ti.zero.isEmpty || (match i.zero with | some z => zsOk z.cells.toList ti.zero | none => false))
  | _, _ => false
def TOkB (P : Program) (T : List TI) : Bool := (List.range T.length).all fun t => match T[t]? with | some ti => tiOk P t ti | none => true
def TOk (P : Program) (T : List TI) : Prop := TOkB P T = true
theorem TOk.at {P : Program} {T : List TI} (h : TOk P T) {t : Nat} {ti : TI} (ht : T[t]? = some ti) : tiOk P t ti = true := by
  unfold TOk TOkB at h
  have := List.all_eq_true.1 h t (by rw [List.mem_range]; exact (List.getElem?_eq_some_iff.1 ht).1)
  rw [ht] at this
  exact this
theorem TOk.info {P : Program} {T : List TI} (h : TOk P T) {t : Nat} {ti : TI} (ht : T[t]? = some ti) :
    ∃ i d, P.info? t = some i ∧ P.underlying t = some d ∧ i.size = ti.size ∧ i.bytes = ti.bytes ∧ kOk d ti.kind = true ∧ (ti.zero ≠ [] → ∃ z, i.zero = some z ∧ zsOk z.cells.toList ti.zero = true) := by
  have := h.at ht
  unfold tiOk at this
  split at this
  · rename_i i d hi hd
    simp only [Bool.and_eq_true, beq_iff_eq] at this
    refine ⟨i, d, hi, hd, this.1.1.1, this.1.1.2, this.1.2, fun hne => ?_⟩
    have h6 := this.2
    simp only [Bool.or_eq_true, List.isEmpty_iff] at h6
    rcases h6 with h6 | h6
    · exact absurd h6 hne
    · cases hz : i.zero with
      | none => rw [hz] at h6; cases h6
      | some z => rw [hz] at h6; exact ⟨z, rfl, h6⟩
  · cases this
theorem zOk_pv {c : Value} {z : Z} (h : zOk c z = true) : ofCell c = z.pv ∧ c.oneCell' = true := by
  unfold zOk at h
  split at h
  · simp only [Bool.and_eq_true, beq_iff_eq] at h; obtain ⟨rfl, rfl⟩ := h; exact ⟨rfl, rfl⟩
  · simp at h; subst h; exact ⟨rfl, rfl⟩
  · rename_i s
    obtain ⟨⟨l⟩⟩ := s
    cases l with
    | nil => exact ⟨rfl, rfl⟩
    | cons a b => simp at h
  · exact ⟨rfl, rfl⟩
  · exact ⟨rfl, rfl⟩
  · exact ⟨rfl, rfl⟩
  · exact ⟨rfl, rfl⟩
  · exact ⟨rfl, rfl⟩
  · cases h
theorem zsOk_pv : ∀ {cs : List Value} {zs : List Z}, zsOk cs zs = true → cs.map ofCell = zs.map Z.pv ∧ ∀ x ∈ cs, x.oneCell' = true
  | [], [], _ => ⟨rfl, by simp⟩
  | c :: cs, z :: zs, h => by
    simp only [zsOk, Bool.and_eq_true] at h
    obtain ⟨h1, h2⟩ := zOk_pv h.1
    obtain ⟨h3, h4⟩ := zsOk_pv h.2
    refine ⟨by simp [h1, h3], fun x hx => ?_⟩
    simp only [List.mem_cons] at hx
    rcases hx with rfl | hx
    · exact h2
    · exact h4 x hx
  | [], _ :: _, h => by simp [zsOk] at h
  | _ :: _, [], h => by simp [zsOk] at h

def tk (T : List TI) (t : Nat) : Option TK := (T[t]?).map (·.kind)
def tsz (T : List TI) (t : Nat) : Option Nat := (T[t]?).map (·.size)
def tagg (T : List TI) (t : Nat) : Option Bool := (T[t]?).map (·.kind.agg)
def tfo (T : List TI) (s f : Nat) : Option (Nat × Nat) :=
  match tk T s with
  | some (.st l) => (match l[f]? with | some (o, ft) => (match tsz T ft with | some (_ + 1) => some (o, ft) | _ => none) | none => none)
  | _ => none
/-- an array type: its length, its elements' type and size -/
def tarr (T : List TI) (t : Nat) : Option (Nat × Nat × Nat) := match tk T t with | some (.arr n e) => (tsz T e).map fun s => (n, e, s) | _ => none
def tsl (T : List TI) (t : Nat) : Option (Nat × Nat) := match tk T t with | some (.sl e) => (tsz T e).map fun s => (e, s) | _ => none
def tptr (T : List TI) (t : Nat) : Option Nat := match tk T t with | some (.ptr e) => some e | _ => none
def tint (T : List TI) (t : Nat) : Option IntKind := match tk T t with | some (.int k) => some k | _ => none

section
variable {P : Program} {T : List TI}
theorem tsz_run (h : TOk P T) {t s : Nat} (ht : tsz T t = some s) (w : World) : (sizeOf t).run P w = .ok s w := by
  unfold tsz at ht
  cases hq : T[t]? with
  | none => simp [hq] at ht
  | some ti =>
    obtain ⟨i, d, h1, h2, h3, _⟩ := h.info hq
    simp [hq] at ht
    simp [sizeOf, typeInfo, h1, h3, ht]
theorem tsz_info (h : TOk P T) {t s : Nat} (ht : tsz T t = some s) : (P.info? t).map (·.size) = some s := by
  unfold tsz at ht
  cases hq : T[t]? with
  | none => simp [hq] at ht
  | some ti =>
    obtain ⟨i, d, h1, h2, h3, _⟩ := h.info hq
    simp [hq] at ht
    simp [h1, h3, ht]
theorem tagg_run (h : TOk P T) {t : Nat} {b : Bool} (ht : tagg T t = some b) (w : World) : (isAgg t).run P w = .ok b w := by
  unfold tagg at ht
  cases hq : T[t]? with
  | none => simp [hq] at ht
  | some ti =>
    obtain ⟨i, d, h1, h2, h3, h4, h5, _⟩ := h.info hq
    simp [hq] at ht
    unfold isAgg
    rw [Sem.run_bind, run_underlying h2 w]
    cases d <;> cases hk : ti.kind <;> simp_all [kOk, TK.agg]
theorem tagg_und (h : TOk P T) {t : Nat} (ht : tagg T t = some true) : ∃ d, P.underlying t = some d ∧ d.isRow = true := by
  unfold tagg at ht
  cases hq : T[t]? with
  | none => simp [hq] at ht
  | some ti =>
    obtain ⟨i, d, h1, h2, h3, h4, h5, _⟩ := h.info hq
    simp [hq] at ht
    refine ⟨d, h2, ?_⟩
    cases d <;> cases hk : ti.kind <;> simp_all [kOk, TK.agg]
theorem tfo_und (h : TOk P T) {s f o ft : Nat} (ht : tfo T s f = some (o, ft)) : ∃ (fs : Array Field) (fd : Field) (z : Nat), P.underlying s = some (.struct fs) ∧ fs[f]? = some fd ∧ fd.offset = o ∧ fd.type = ft ∧ tsz T ft = some (z + 1) := by
  unfold tfo at ht
  split at ht
  · rename_i l hl
    unfold tk at hl
    split at ht
    · rename_i o' ft' hlf
      split at ht
      · rename_i z hz
        simp at ht
        obtain ⟨rfl, rfl⟩ := ht
        cases hq : T[s]? with
        | none => simp [hq] at hl
        | some ti =>
          obtain ⟨i, d, h1, h2, h3, h4, h5, _⟩ := h.info hq
          simp [hq] at hl
          rw [hl] at h5
          cases d <;> simp [kOk] at h5
          rename_i fs
          rw [← h5, List.getElem?_map] at hlf
          cases hf : fs.toList[f]? with
          | none => simp [hf] at hlf
          | some fd =>
            simp [hf] at hlf
            exact ⟨fs, fd, z, h2, by simpa using hf, hlf.1, hlf.2, hz⟩
      · cases ht
    · cases ht
  · cases ht
theorem tarr_und (h : TOk P T) {t n e s : Nat} (ht : tarr T t = some (n, e, s)) : P.underlying t = some (.array n e) ∧ tsz T e = some s := by
  unfold tarr at ht
  split at ht
  · rename_i n' e' hl
    cases hz : tsz T e' with
    | none => simp [hz] at ht
    | some s' =>
      simp [hz] at ht
      obtain ⟨rfl, rfl, rfl⟩ := ht
      unfold tk at hl
      cases hq : T[t]? with
      | none => simp [hq] at hl
      | some ti =>
        obtain ⟨i, d, h1, h2, h3, h4, h5, _⟩ := h.info hq
        simp [hq] at hl
        rw [hl] at h5
        cases d <;> simp [kOk] at h5
        obtain ⟨rfl, rfl⟩ := h5
        exact ⟨h2, hz⟩
  · cases ht
theorem tsl_und (h : TOk P T) {t e s : Nat} (ht : tsl T t = some (e, s)) : P.underlying t = some (.slice e) ∧ tsz T e = some s := by
  unfold tsl at ht
  split at ht
  · rename_i e' hl
    cases hz : tsz T e' with
    | none => simp [hz] at ht
    | some s' =>
      simp [hz] at ht
      obtain ⟨rfl, rfl⟩ := ht
      unfold tk at hl
      cases hq : T[t]? with
      | none => simp [hq] at hl
      | some ti =>
        obtain ⟨i, d, h1, h2, h3, h4, h5, _⟩ := h.info hq
        simp [hq] at hl
        rw [hl] at h5
        cases d <;> simp [kOk] at h5
        subst h5
        exact ⟨h2, hz⟩
  · cases ht
theorem tint_und (h : TOk P T) {t : Nat} {k : IntKind} (ht : tint T t = some k) : P.underlying t = some (.int k) := by
  unfold tint at ht
  split at ht
  · rename_i k' hl
    simp at ht
    subst ht
    unfold tk at hl
    cases hq : T[t]? with
    | none => simp [hq] at hl
    | some ti =>
      obtain ⟨i, d, h1, h2, h3, h4, h5, _⟩ := h.info hq
      simp [hq] at hl
      rw [hl] at h5
      cases d <;> simp [kOk] at h5
      subst h5
      exact h2
  · cases ht
theorem tptr_und (h : TOk P T) {t : Nat} {k : Nat} (ht : tptr T t = some k) : P.underlying t = some (.pointer k) := by
  unfold tptr at ht
  split at ht
  · rename_i k' hl
    simp at ht
    subst ht
    unfold tk at hl
    cases hq : T[t]? with
    | none => simp [hq] at hl
    | some ti =>
      obtain ⟨i, d, h1, h2, h3, h4, h5, _⟩ := h.info hq
      simp [hq] at hl
      rw [hl] at h5
      cases d <;> simp [kOk] at h5
      subst h5
      exact h2
  · cases ht
theorem t_und (h : TOk P T) {t : Nat} {ti : TI} (ht : T[t]? = some ti) : (P.underlying t).isSome = true := by
  obtain ⟨i, d, h1, h2, _⟩ := h.info ht
  simp [h2]
theorem tzero_run (h : TOk P T) {t : Nat} {ti : TI} (ht : T[t]? = some ti) (hz : ti.zero ≠ []) (w : World) :
    ∃ z : Value, (zeroValue t).run P w = .ok z w ∧ z.cells.toList.map ofCell = ti.zero.map Z.pv ∧ ∀ x ∈ z.cells.toList, x.oneCell' = true := by
  obtain ⟨i, d, h1, h2, h3, h4, h5, h6⟩ := h.info ht
  obtain ⟨z, hq, h6⟩ := h6 hz
  obtain ⟨h7, h8⟩ := zsOk_pv h6
  exact ⟨z, by simp [zeroValue, typeInfo, h1, hq], h7, h8⟩
end

/-- operators on plain values, where nothing can go wrong -/
def pbin : BinOp → Value → Value → Option Value
  | .add, .int k a, .int k' b => if k = k' then some (.int k (k.wrap (a + b))) else none
  | .sub, .int k a, .int k' b => if k = k' then some (.int k (k.wrap (a - b))) else none
  | .mul, .int k a, .int k' b => if k = k' then some (.int k (k.wrap (a * b))) else none
  | .and, .int k a, .int k' b => if k = k' then some (.int k (bits .and k a b)) else none
  | .or, .int k a, .int k' b => if k = k' then some (.int k (bits .or k a b)) else none
  | .xor, .int k a, .int k' b => if k = k' then some (.int k (bits .xor k a b)) else none
  | .andNot, .int k a, .int k' b => if k = k' then some (.int k (bits .andNot k a b)) else none
  | .eql, .int k a, .int k' b => if k = k' then some (.bool (a == b)) else none
  | .neq, .int k a, .int k' b => if k = k' then some (.bool (a != b)) else none
  | .lss, .int k a, .int k' b => if k = k' then some (.bool (decide (a < b))) else none
  | .leq, .int k a, .int k' b => if k = k' then some (.bool (decide (a ≤ b))) else none
  | .gtr, .int k a, .int k' b => if k = k' then some (.bool (decide (a > b))) else none
  | .geq, .int k a, .int k' b => if k = k' then some (.bool (decide (a ≥ b))) else none
  | .eql, .string a, .string b => some (.bool (a.toList == b.toList))
  | .neq, .string a, .string b => some (.bool (!(a.toList == b.toList)))
  | .lss, .string a, .string b => some (.bool (Op.bytesLess a.toList b.toList))
  | .leq, .string a, .string b => some (.bool (Op.bytesLess a.toList b.toList || a.toList == b.toList))
  | .gtr, .string a, .string b => some (.bool (!(Op.bytesLess a.toList b.toList || a.toList == b.toList)))
  | .geq, .string a, .string b => some (.bool (!Op.bytesLess a.toList b.toList))
  | _, _, _ => none
theorem pbin_run {P : Program} {op : BinOp} {t : TypeId} {x y : Value} {z : Value} {xo yo : Operand} (h : pbin op x y = some z) (w : World) :
    (do eqGuard op t xo yo x y; binOp op t x y : Sem Value).run P w = .ok z w ∧ z.oneCell' = true := by
  unfold pbin at h
  split at h <;> (try split at h) <;> simp at h <;> subst h <;> (try subst_vars) <;>
    (refine ⟨?_, rfl⟩; simp [eqGuard, binOp, Op.intArith, Op.intCmp, Op.intBits, Op.stringOp, bits])
def pun : UnOp → Value → Option Value
  | .neg, .int k n => some (.int k (k.wrap (0 - n)))
  | .xor, .int k n => some (.int k (bits .xor k (if k.signed then -1 else k.max) n))
  | .not, .bool b => some (.bool !b)
  | _, _ => none
theorem pun_run {P : Program} {op : UnOp} {x z : Value} (h : pun op x = some z) (w : World) : (Op.unary op x).run P w = .ok z w ∧ z.oneCell' = true := by
  unfold pun at h
  split at h <;> simp at h <;> subst h <;> (refine ⟨?_, rfl⟩; simp [Op.unary, Op.intArith, Op.intBits, bits])
end Go.Proofs.YtnkdanobhgofbaaGreatDoor.pv
