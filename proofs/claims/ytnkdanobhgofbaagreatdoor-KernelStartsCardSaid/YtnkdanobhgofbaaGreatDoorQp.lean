/- Structs and arrays of plain cells, compared. -/
import Derived.Test.YtnkdanobhgofbaaGreatDoorQi
import Derived.Laws.StructEq
import Derived.ChangeKeysEq
namespace Go.Proofs.YtnkdanobhgofbaaGreatDoor.pv
set_option linter.all false
open Go.RowKit

def mkv (T : List TI) (t : Nat) (xs : List Value) : Option Value := match tagg T t with
  | some true => some (.agg xs.toArray)
  | some false => (match xs with
    | [x] => some x
    | _ => none)
  | none => none
def okSt (P : Program) (t : Nat) : Bool := !(P.stoodInHeld t) && ((P.fieldsOf t).toList.all fun f => f.name != "_")
def peqF (f : Nat → List Value → List Value → Option Bool) (T : List TI) (xs ys : List Value) : List (Nat × Nat) → Option Bool
  | [] => some true
  | (o, ft) :: r => match tsz T ft with
    | some s => bif Nat.ble (o + s) xs.length && Nat.ble (o + s) ys.length then (match f ft ((xs.drop o).take s) ((ys.drop o).take s), peqF f T xs ys r with
      | some a, some b => some (a && b)
      | _, _ => none) else none
    | none => none
def peqN (f : List Value → List Value → Option Bool) (s : Nat) (xs ys : List Value) : List Nat → Option Bool
  | [] => some true
  | i :: r => bif Nat.ble (i * s + s) xs.length && Nat.ble (i * s + s) ys.length then (match f ((xs.drop (i * s)).take s) ((ys.drop (i * s)).take s), peqN f s xs ys r with
      | some a, some b => some (a && b)
      | _, _ => none) else none
def peq (P : Program) (T : List TI) : Nat → Nat → List Value → List Value → Option Bool
  | 0, _, _, _ => none
  | d + 1, t, xs, ys => match tk T t with
    | some .bool => (match xs, ys with
      | [.bool a], [.bool b] => some (a == b)
      | _, _ => none)
    | some .str => (match xs, ys with
      | [.string a], [.string b] => some (a == b)
      | _, _ => none)
    | some (.int _) => (match xs, ys with
      | [.int k a], [.int k' b] => if k = k' then some (a == b) else none
      | _, _ => none)
    | some (.st l) => bif okSt P t then peqF (peq P T d) T xs ys l else none
    | some (.arr n e) => (match tsz T e with
      | some s => peqN (peq P T d e) s xs ys (List.range n)
      | none => none)
    | _ => none
section
variable {P : Program} {T : List TI}
theorem part_mkv (hT : TOk P T) {t s o : Nat} {xs : List Value} {x : Value} (hs : tsz T t = some s) (hl : o + s ≤ xs.length) (h : mkv T t ((xs.drop o).take s) = some x) (w : World) : (part t xs.toArray o).run P w = .ok x w := by
  unfold mkv at h
  split at h
  · rename_i ha
    simp at h; subst h
    exact run_part_agg hT ha hs hl
  · rename_i ha
    split at h
    · rename_i y hy
      simp at h; subst h
      refine run_part_one hT ha ?_
      have := congrArg (fun l => l[0]?) hy
      simp only [List.getElem?_take, List.getElem?_drop] at this
      split at this
      · simpa using this
      · simp at this
    · cases h
  · cases h
def EqD (P : Program) (T : List TI) (d t : Nat) (xs ys : List Value) (z : Bool) : Prop := ∀ (k : Nat), ∃ x y, mkv T t xs = some x ∧ mkv T t ys = some y ∧ ∀ w : World, (Op.equalIn (d + k) t x y).run P w = .ok z w
theorem tagg_of_kind {t : Nat} {k : TK} (h : tk T t = some k) : tagg T t = some k.agg := by
  unfold tk at h; unfold tagg
  cases hq : T[t]? with
  | none => simp [hq] at h
  | some ti => simp [hq] at h ⊢; rw [h]
theorem und_of_kind (hT : TOk P T) {t : Nat} {k : TK} (h : tk T t = some k) : ∃ d, P.underlying t = some d ∧ kOk d k = true := by
  unfold tk at h
  cases hq : T[t]? with
  | none => simp [hq] at h
  | some ti =>
    obtain ⟨i, d, h1, h2, _, _, h5, _⟩ := hT.info hq
    simp [hq] at h
    rw [h] at h5
    exact ⟨d, h2, h5⟩
theorem peqF_sound (hT : TOk P T) {d : Nat} (ih : ∀ t xs ys z, peq P T d t xs ys = some z → EqD P T d t xs ys z) {xs ys : List Value} : ∀ (fs : List Field) (z : Bool), (∀ f ∈ fs, (f.name != "_") = true) → peqF (peq P T d) T xs ys (fs.map fun f => (f.offset, f.type)) = some z → ∀ (k : Nat) (w : World), (Op.eqFields (d + k) xs.toArray ys.toArray fs).run P w = .ok z w
  | [], z, hn, h, k, w => by simp [peqF] at h; subst h; simp [Op.eqFields]
  | f :: fs, z, hn, h, k, w => by
    simp only [List.map_cons, peqF] at h
    split at h
    · rename_i s hs
      obtain ⟨hb, h⟩ := cond_some h
      simp only [Bool.and_eq_true] at hb
      split at h
      · rename_i a b ha hb'
        simp only [Option.some.injEq] at h; subst h
        obtain ⟨x, y, e1, e2, e3⟩ := ih _ _ _ _ ha k
        have p1 := fun w => part_mkv hT hs (Nat.le_of_ble_eq_true hb.1) e1 w
        have p2 := fun w => part_mkv hT hs (Nat.le_of_ble_eq_true hb.2) e2 w
        have hr := peqF_sound hT ih fs b (fun g hg => hn g (by simp [hg])) hb' k
        have hnm : f.name ≠ "_" := by simpa using hn f (by simp)
        simp only [Op.eqFields, hnm, ne_eq, not_false_eq_true, if_true, Sem.run_bind, p1, p2, e3, Result.andThen_ok]
        cases a
        · simp
        · simpa using hr w
      · cases h
    · cases h
theorem peqN_sound (hT : TOk P T) {d e s : Nat} (hs : tsz T e = some s) (ih : ∀ xs ys z, peq P T d e xs ys = some z → EqD P T d e xs ys z) {xs ys : List Value} : ∀ (is : List Nat) (z : Bool), peqN (peq P T d e) s xs ys is = some z → ∀ (k : Nat) (w : World), (Op.eqItems (d + k) e s xs.toArray ys.toArray is).run P w = .ok z w
  | [], z, h, k, w => by simp [peqN] at h; subst h; simp [Op.eqItems]
  | i :: is, z, h, k, w => by
    simp only [peqN] at h
    obtain ⟨hb, h⟩ := cond_some h
    simp only [Bool.and_eq_true] at hb
    split at h
    · rename_i a b ha hb'
      simp only [Option.some.injEq] at h; subst h
      obtain ⟨x, y, e1, e2, e3⟩ := ih _ _ _ ha k
      have p1 := fun w => part_mkv hT hs (Nat.le_of_ble_eq_true hb.1) e1 w
      have p2 := fun w => part_mkv hT hs (Nat.le_of_ble_eq_true hb.2) e2 w
      have hr := peqN_sound hT hs ih is b hb' k
      simp only [Op.eqItems, Sem.run_bind, p1, p2, e3, Result.andThen_ok]
      cases a
      · simp
      · simpa using hr w
    · cases h
theorem peq_sound (hT : TOk P T) : ∀ (d t : Nat) (xs ys : List Value) (z : Bool), peq P T d t xs ys = some z → EqD P T d t xs ys z
  | 0, t, xs, ys, z, h => by simp [peq] at h
  | d + 1, t, xs, ys, z, h => by
    intro k
    have hk : d + 1 + k = d + k + 1 := by omega
    rw [hk]
    simp only [peq] at h
    split at h
    · rename_i ht
      have ha := tagg_of_kind ht
      obtain ⟨dd, hu, hk⟩ := und_of_kind hT ht
      cases dd <;> simp [kOk] at hk
      split at h
      · simp only [Option.some.injEq] at h; subst h
        refine ⟨_, _, by unfold mkv; rw [ha]; rfl, by unfold mkv; rw [ha]; rfl, fun w => ?_⟩
        simp [Op.equalIn, run_underlying hu]
      · cases h
    · rename_i ht
      have ha := tagg_of_kind ht
      obtain ⟨dd, hu, hk⟩ := und_of_kind hT ht
      cases dd <;> simp [kOk] at hk
      split at h
      · simp only [Option.some.injEq] at h; subst h
        refine ⟨_, _, by unfold mkv; rw [ha]; rfl, by unfold mkv; rw [ha]; rfl, fun w => ?_⟩
        simp [Op.equalIn, run_underlying hu]
      · cases h
    · rename_i kk ht
      have ha := tagg_of_kind ht
      obtain ⟨dd, hu, hk⟩ := und_of_kind hT ht
      cases dd <;> simp [kOk] at hk
      split at h
      · split at h
        · rename_i e
          simp only [Option.some.injEq] at h; subst h e
          refine ⟨_, _, by unfold mkv; rw [ha]; rfl, by unfold mkv; rw [ha]; rfl, fun w => ?_⟩
          simp [Op.equalIn, run_underlying hu]
        · cases h
      · cases h
    · rename_i l ht
      have ha := tagg_of_kind ht
      obtain ⟨dd, hu, hk⟩ := und_of_kind hT ht
      obtain ⟨ho, h⟩ := cond_some h
      simp only [okSt, Bool.and_eq_true, Bool.not_eq_true', List.all_eq_true] at ho
      cases dd <;> simp [kOk] at hk
      rename_i fs
      have hfs : P.fieldsOf t = fs := by simp [Program.fieldsOf, hu]
      refine ⟨_, _, by unfold mkv; rw [ha]; rfl, by unfold mkv; rw [ha]; rfl, fun w => ?_⟩
      rw [run_equalIn_struct w (d + k) t _ _ (by rw [hfs]; exact hu) ho.1, hfs]
      rw [← hk] at h
      exact peqF_sound hT (fun t xs ys z => peq_sound hT d t xs ys z) fs.toList z (by rw [hfs] at ho; exact ho.2) h k w
    · rename_i n e ht
      have ha := tagg_of_kind ht
      obtain ⟨dd, hu, hk⟩ := und_of_kind hT ht
      cases dd <;> simp [kOk] at hk
      rename_i n' e'
      obtain ⟨rfl, rfl⟩ := hk
      split at h
      · rename_i s hs
        have hi := tsz_info hT hs
        cases hq : P.info? e' with
        | none => simp [hq] at hi
        | some i =>
          simp [hq] at hi
          have hc : P.cellsOf e' = s := by simp [Program.cellsOf, hq, hi]
          refine ⟨_, _, by unfold mkv; rw [ha]; rfl, by unfold mkv; rw [ha]; rfl, fun w => ?_⟩
          rw [run_equalIn_array w (d + k) _ _ hu hq, hc]
          exact peqN_sound hT hs (fun xs ys z => peq_sound hT d e' xs ys z) _ z h k w
      · cases h
    · cases h
theorem eqA_of (hT : TOk P T) {t : Nat} {xs ys : List Value} {z : Bool} (hg : P.eqGuardType P.depth t = false) (ha : tagg T t = some true) (h : peq P T 20 t xs ys = some z) : EqA P t xs ys z := by
  intro op xo yo w hop
  obtain ⟨x, y, e1, e2, e3⟩ := peq_sound hT 20 t xs ys z h 9980
  unfold mkv at e1 e2
  rw [ha] at e1 e2
  simp only [Option.some.injEq] at e1 e2
  subst e1 e2
  have he : (Op.equal t (.agg xs.toArray) (.agg ys.toArray)).run P w = .ok z w := e3 w
  cases op <;> simp [eqlOp] at hop <;> simp [eqGuard, binOp, run_program, hg, he, eqRes]
end
theorem bnt {x : Bool} (h : x = false) : (!x) = true := by rw [h]; rfl
theorem bnf {x : Bool} (h : x = true) : (!x) = false := by rw [h]; rfl
end Go.Proofs.YtnkdanobhgofbaaGreatDoor.pv
