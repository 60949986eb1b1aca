/- Structs and arrays of plain cells, compared: by codes. -/
import Derived.Test.YtnkdanobhgofbaaGreatDoorVD
import Derived.Test.YtnkdanobhgofbaaGreatDoorQp
import Derived.MapKept
namespace Go.Proofs.YtnkdanobhgofbaaGreatDoor.pv
set_option linter.all false
open Go.RowKit
/-- the cells as values -/
def vls : (t : Ty) → t.den → List Value
  | .i k, x => [.int k x]
  | .bl, x => [.bool x]
  | .str, x => [.string (ofL x)]
  | .pr a b, x => vls a (p1 x) ++ vls b (p2 x)
  | .ar _ t, x => (Subtype.val (α := List t.den) x).flatMap (vls t)
  | _, _ => []
def ckF (f : Nat → Ty → Bool) (T : List TI) : Nat → List (Nat × Nat) → Ty → Bool
  | _, [], c => (match c with
    | .un => true
    | _ => false)
  | o, (o', ft) :: r, c => (match c with
    | .pr a b => Nat.beq o o' && (match tsz T ft with | some s => Nat.beq s a.sz | none => false) && f ft a && ckF f T (o + a.sz) r b
    | _ => false)
/-- may a value of this type and code be compared cell by cell? -/
def ckEq (P : Program) (T : List TI) : Nat → Nat → Ty → Bool
  | 0, _, _ => false
  | d + 1, t, c => (match tk T t with
    | some .bool => (match c with | .bl => true | _ => false)
    | some .str => (match c with | .str => true | _ => false)
    | some (.int _) => (match c with | .i _ => true | _ => false)
    | some (.st l) => okSt P t && ckF (ckEq P T d) T 0 l c
    | some (.arr n e) => (match c with
      | .ar m a => Nat.beq n m && (match tsz T e with | some s => Nat.beq s a.sz | none => false) && a.eqs && ckEq P T d e a
      | _ => false)
    | _ => false)
theorem vls_pcs : ∀ (t : Ty) (x : t.den), t.eqs = true → (rep t x).pcs = (vls t x).map PV.v
  | .i k, x, _ => rfl
  | .bl, x, _ => rfl
  | .str, x, _ => rfl
  | .un, x, _ => rfl
  | .pr a b, x, h => by
    simp only [Ty.eqs, Bool.and_eq_true] at h
    simp only [rep, vls, List.map_append, vls_pcs a (p1 x) h.1, vls_pcs b (p2 x) h.2]
  | .ar n t, x, h => by
    simp only [Ty.eqs] at h
    have go : ∀ xs : List t.den, (xs.flatMap fun y => (rep t y).pcs) = (xs.flatMap (vls t)).map PV.v := by
      intro xs
      induction xs with
      | nil => rfl
      | cons y ys ih => simp only [List.flatMap_cons, List.map_append, vls_pcs t y h, ih]
    simp only [rep, vls]
    exact go _
theorem plain_map : ∀ us : List Value, plain (us.map PV.v) = some us
  | [] => rfl
  | u :: us => by simp only [List.map_cons, plain, plain_map us, Option.map_some]
theorem vls_len : ∀ (t : Ty) (x : t.den), t.eqs = true → (vls t x).length = t.sz
  | .i k, x, _ => rfl
  | .bl, x, _ => rfl
  | .str, x, _ => rfl
  | .un, x, _ => rfl
  | .pr a b, x, h => by
    simp only [Ty.eqs, Bool.and_eq_true] at h
    simp only [vls, List.length_append, Ty.sz, vls_len a (p1 x) h.1, vls_len b (p2 x) h.2]
  | .ar n t, x, h => by
    simp only [Ty.eqs] at h
    have go : ∀ xs : List t.den, (xs.flatMap (vls t)).length = xs.length * t.sz := by
      intro xs
      induction xs with
      | nil => simp
      | cons y ys ih => simp only [List.flatMap_cons, List.length_append, vls_len t y h, ih, List.length_cons, Nat.succ_mul]; omega
    simp only [vls, Ty.sz]
    rw [go, Subtype.property (p := fun xs : List t.den => xs.length = n) x]
theorem ofL_eqb (x y : List UInt8) : (ofL x == ofL y) = (x == y) := by
  rw [Bool.eq_iff_iff, Go.MapKept.bytes_beq]
  constructor
  · intro e
    have := congrArg (fun b : ByteArray => b.data.toList) e
    have : x = y := by simpa [ofL] using this
    subst this
    simp
  · intro e
    have : x = y := by simpa using e
    rw [this]
section
variable {P : Program} {T : List TI}
theorem ckF_spec {f : Nat → Ty → Bool} {g : Nat → List Value → List Value → Option Bool} (hf : ∀ (t : Nat) (c : Ty), f t c = true → c.eqs = true ∧ ∀ x y : c.den, g t (vls c x) (vls c y) = some (eqT c x y)) :
    ∀ (l : List (Nat × Nat)) (o : Nat) (c : Ty), ckF f T o l c = true → c.eqs = true ∧ ∀ (x y : c.den) (pre pre' : List Value), pre.length = o → pre'.length = o → peqF g T (pre ++ vls c x) (pre' ++ vls c y) l = some (eqT c x y)
  | [], o, c, h => by
    cases c <;> first | exact ⟨rfl, fun x y pre pre' _ _ => rfl⟩ | exact absurd h (by simp [ckF])
  | (o', ft) :: r, o, c, h => by
    cases c with
    | pr a b =>
      simp only [ckF, Bool.and_eq_true] at h
      obtain ⟨⟨⟨h1, h2⟩, h3⟩, h4⟩ := h
      have e := Nat.eq_of_beq_eq_true h1
      subst e
      obtain ⟨a1, a2⟩ := hf ft a h3
      obtain ⟨b1, b2⟩ := ckF_spec hf r (o + a.sz) b h4
      refine ⟨by simp [Ty.eqs, a1, b1], fun x y pre pre' hp hp' => ?_⟩
      split at h2
      · rename_i s hs
        have e2 := Nat.eq_of_beq_eq_true h2
        subst e2
        have lx := vls_len a (p1 x) a1
        have ly := vls_len a (p1 y) a1
        have key : ∀ (z : (Ty.pr a b).den) (q : List Value), q.length = o → (vls a (p1 z)).length = a.sz → (((q ++ vls (.pr a b) z).drop o).take a.sz = vls a (p1 z)) ∧ Nat.ble (o + a.sz) (q ++ vls (.pr a b) z).length = true ∧ q ++ vls (.pr a b) z = (q ++ vls a (p1 z)) ++ vls b (p2 z) := by
          intro z q hq hz
          refine ⟨?_, ?_, ?_⟩
          · subst hq
            simp only [vls]
            rw [List.drop_left, ← hz, List.take_left]
          · apply Nat.ble_eq_true_of_le
            simp only [vls, List.length_append]
            omega
          · simp only [vls, List.append_assoc]
        obtain ⟨x1, x2, x3⟩ := key x pre hp lx
        obtain ⟨y1, y2, y3⟩ := key y pre' hp' ly
        simp only [peqF, hs]
        rw [x1, y1, x2, y2, a2 (p1 x) (p1 y)]
        rw [x3, y3, b2 (p2 x) (p2 y) _ _ (by rw [List.length_append]; omega) (by rw [List.length_append]; omega)]
        rfl
      · cases h2
    | _ => exact absurd h (by simp [ckF])
theorem peqN_spec {g : List Value → List Value → Option Bool} {a : Ty} (ha : a.eqs = true) (hg : ∀ x y : a.den, g (vls a x) (vls a y) = some (eqT a x y)) (X Y : List a.den) (n : Nat) (hX : X.length = n) (hY : Y.length = n) :
    ∀ (k i : Nat), i + k = n → peqN g a.sz (X.flatMap (vls a)) (Y.flatMap (vls a)) (List.range' i k) = some (eqT.eqL (eqT a) (X.drop i) (Y.drop i))
  | 0, i, h => by
    rw [List.drop_eq_nil_of_le (by omega), List.drop_eq_nil_of_le (by omega)]; rfl
  | k + 1, i, h => by
    have fl : ∀ (Z : List a.den), (Z.flatMap (vls a)).length = Z.length * a.sz := fun Z => flatMap_len' (vls a) a.sz (fun z => vls_len a z ha) Z
    have key : ∀ (Z : List a.den) (hZ : Z.length = n), ((Z.flatMap (vls a)).drop (i * a.sz)).take a.sz = vls a (Z[i]'(by omega)) ∧ Nat.ble (i * a.sz + a.sz) (Z.flatMap (vls a)).length = true := by
      intro Z hZ
      have hi : i < Z.length := by omega
      refine ⟨?_, ?_⟩
      · rw [flatMap_split (vls a) Z i hi, List.append_assoc]
        have h1 : ((Z.take i).flatMap (vls a)).length = i * a.sz := by rw [fl, List.length_take, Nat.min_eq_left (by omega)]
        rw [← h1, List.drop_left, ← vls_len a (Z[i]'hi) ha, List.take_left]
      · apply Nat.ble_eq_true_of_le
        rw [fl, hZ]
        have : (i + 1) * a.sz ≤ n * a.sz := Nat.mul_le_mul_right _ (by omega)
        rw [Nat.succ_mul] at this
        exact this
    obtain ⟨x1, x2⟩ := key X hX
    obtain ⟨y1, y2⟩ := key Y hY
    rw [List.range'_succ]
    simp only [peqN]
    rw [x1, y1, x2, y2, hg, peqN_spec ha hg X Y n hX hY k (i + 1) (by omega)]
    rw [List.drop_eq_getElem_cons (l := X) (i := i) (by omega), List.drop_eq_getElem_cons (l := Y) (i := i) (by omega)]
    rfl
where
  flatMap_len' {α β : Type} (f : α → List β) (s : Nat) (hf : ∀ a, (f a).length = s) (xs : List α) : (xs.flatMap f).length = xs.length * s := flatMap_len f s hf xs
theorem ckEq_spec : ∀ (d t : Nat) (c : Ty), ckEq P T d t c = true → c.eqs = true ∧ ∀ x y : c.den, peq P T d t (vls c x) (vls c y) = some (eqT c x y)
  | 0, t, c, h => by cases h
  | d + 1, t, c, h => by
    simp only [ckEq] at h
    split at h
    · rename_i ht
      split at h
      · exact ⟨rfl, fun x y => by simp only [peq, ht, vls]; rfl⟩
      · cases h
    · rename_i ht
      split at h
      · exact ⟨rfl, fun x y => by
          simp only [peq, ht, vls]
          exact congrArg some (ofL_eqb x y)⟩
      · cases h
    · rename_i kk ht
      split at h
      · rename_i k
        exact ⟨rfl, fun x y => by
          simp only [peq, ht, vls]
          exact if_pos trivial⟩
      · cases h
    · rename_i l ht
      rw [Bool.and_eq_true] at h
      obtain ⟨c1, c2⟩ := ckF_spec (g := peq P T d) (fun t c hc => ckEq_spec d t c hc) l 0 c h.2
      refine ⟨c1, fun x y => ?_⟩
      simp only [peq, ht, h.1, cond_true]
      exact c2 x y [] [] rfl rfl
    · rename_i n e ht
      split at h
      · rename_i m a
        simp only [Bool.and_eq_true] at h
        obtain ⟨⟨⟨h1, h2⟩, h3⟩, h4⟩ := h
        have e1 := Nat.eq_of_beq_eq_true h1
        subst e1
        refine ⟨h3, fun x y => ?_⟩
        split at h2
        · rename_i s hs
          have e2 := Nat.eq_of_beq_eq_true h2
          subst e2
          simp only [peq, ht, hs, vls]
          rw [List.range_eq_range']
          exact peqN_spec h3 (ckEq_spec d e a h4).2 _ _ n (Subtype.property (p := fun xs : List a.den => xs.length = n) x) (Subtype.property (p := fun xs : List a.den => xs.length = n) y) n 0 (by omega)
        · cases h2
      · cases h
    · cases h
/-- compared -/
theorem eqA_ck (hT : TOk P T) {t : Nat} {c : Ty} (hg : P.eqGuardType P.depth t = false) (ha : tagg T t = some true) (h : ckEq P T 20 t c = true) (x y : c.den) : EqA P t (vls c x) (vls c y) (eqT c x y) := eqA_of hT hg ha ((ckEq_spec 20 t c h).2 x y)
end
end Go.Proofs.YtnkdanobhgofbaaGreatDoor.pv
