/- Plain lemmas on what the interpreter's functions are made of: numbers, lists, maps, arrays. -/
import Derived.Test.YtnkdanobhgofbaaGreatDoorVFF
namespace Go.Proofs.YtnkdanobhgofbaaGreatDoor.pv
set_option linter.all false
open Go.RowKit

theorem wi64 {x : Int} (h1 : -9223372036854775808 ≤ x) (h2 : x ≤ 9223372036854775807) : wi .i64 x = x := by rw [wi, IntKind.wrap_i64]; omega
theorem wu32 {x : Int} (h1 : 0 ≤ x) (h2 : x ≤ 4294967295) : wi .u32 x = x := by rw [wi, IntKind.wrap_u32]; omega
theorem wu8 {x : Int} (h1 : 0 ≤ x) (h2 : x ≤ 255) : wi .u8 x = x := by rw [wi, IntKind.wrap_u8]; omega
theorem wu32_nn (x : Int) : 0 ≤ wi .u32 x ∧ wi .u32 x ≤ 4294967295 := by rw [wi, IntKind.wrap_u32]; omega
theorem wi32_r (x : Int) : -2147483648 ≤ wi .i32 x ∧ wi .i32 x ≤ 2147483647 := by rw [wi, IntKind.wrap_i32]; omega
theorem wi_nat {i : Nat} (h : i < 4611686018427387904) : wi .i64 ((i : Int) + 1) = ((i + 1 : Nat) : Int) := by rw [wi64 (by omega) (by omega)]; simp
theorem oc_some {α β : Type} (y : β) (n : Option α) (s : β → Option α) : oc (some y) n s = s y := rfl
theorem oc_none {α β : Type} (n : Option α) (s : β → Option α) : oc none n s = n := rfl
theorem dF {p : Prop} [Decidable p] (h : ¬ p) : decide p = false := decide_eq_false h
theorem dT {p : Prop} [Decidable p] (h : p) : decide p = true := decide_eq_true h
theorem bF {a b : Int} (h : a ≠ b) : (a == b) = false := by simp [h]
theorem bT {a b : Int} (h : a = b) : (a == b) = true := by simp [h]
theorem neF {a b : Int} (h : a = b) : (a != b) = false := by simp [h]
theorem neT {a b : Int} (h : a ≠ b) : (a != b) = true := by simp [h]
theorem lget_cons0 {α : Type} (a : α) (l : List α) : lget (a :: l) 0 = some a := rfl
theorem lset_cons0 {α : Type} (a b : α) (l : List α) : lset (a :: l) 0 b = b :: l := rfl
theorem lget_of {α : Type} {l : List α} {i : Nat} {x : α} (h : l[i]? = some x) : lget l i = some x := h
theorem lget_lt {α : Type} {l : List α} {i : Nat} (h : i < l.length) : lget l i = some l[i] := List.getElem?_eq_getElem h
theorem drop_cons {α : Type} {l : List α} {i : Nat} {x : α} (h : l[i]? = some x) : l.drop i = x :: l.drop (i + 1) := by
  obtain ⟨h1, rfl⟩ := List.getElem?_eq_some_iff.1 h
  exact List.drop_eq_getElem_cons h1
theorem lget_lset {α : Type} (l : List α) (i j : Nat) (v : α) : lget (lset l i v) j = if i = j ∧ i < l.length then some v else lget l j := by
  unfold lget lset
  rw [List.getElem?_set]
  by_cases h : i = j
  · subst h
    by_cases h2 : i < l.length
    · simp [h2]
    · simp [h2]
  · simp [h]
theorem lset_len {α : Type} (l : List α) (i : Nat) (v : α) : (lset l i v).length = l.length := List.length_set
/-- maps by keys that are numbers -/
theorem mlI_nil {ν : Type} (j : Int) : mlI (ν := ν) [] j = none := rfl
theorem mlI_cons {ν : Type} (a : Int) (b : ν) (r : List (Int × ν)) (j : Int) : mlI ((a, b) :: r) j = if a = j then some b else mlI r j := by
  show (bif a == j then some b else mlI r j) = _
  by_cases h : a = j
  · rw [if_pos h, show (a == j) = true by simp [h], cond_true]
  · rw [if_neg h, show (a == j) = false by simp [h], cond_false]
theorem mpI_nil {ν : Type} (k : Int) (v : ν) : mpI [] k v = [(k, v)] := rfl
theorem mpI_cons {ν : Type} (a : Int) (b : ν) (r : List (Int × ν)) (k : Int) (v : ν) : mpI ((a, b) :: r) k v = if a = k then (a, v) :: r else if k < a then (k, v) :: (a, b) :: r else (a, b) :: mpI r k v := by
  show (bif a == k then (a, v) :: r else bif decide (k < a) then (k, v) :: (a, b) :: r else (a, b) :: mpI r k v) = _
  by_cases h : a = k
  · rw [if_pos h, show (a == k) = true by simp [h], cond_true]
  · rw [if_neg h, show (a == k) = false by simp [h], cond_false]
    by_cases h2 : k < a
    · rw [if_pos h2, decide_eq_true h2, cond_true]
    · rw [if_neg h2, decide_eq_false h2, cond_false]
theorem mlI_put {ν : Type} (D : List (Int × ν)) (k j : Int) (v : ν) : mlI (mpI D k v) j = if k = j then some v else mlI D j := by
  induction D with
  | nil => rw [mpI_nil, mlI_cons]
  | cons q r ih =>
    obtain ⟨a, b⟩ := q
    rw [mpI_cons, mlI_cons]
    by_cases h : a = k
    · subst h
      rw [if_pos rfl, mlI_cons]
      by_cases h2 : a = j
      · rw [if_pos h2, if_pos h2]
      · rw [if_neg h2, if_neg h2, if_neg h2]
    · rw [if_neg h]
      by_cases h1 : k < a
      · rw [if_pos h1, mlI_cons, mlI_cons]
      · rw [if_neg h1, mlI_cons, ih]
        by_cases h2 : a = j
        · rw [if_pos h2, if_neg (by omega), if_pos h2]
        · rw [if_neg h2, if_neg h2]
theorem mdI_nil {ν : Type} (k : Int) : mdI (ν := ν) [] k = [] := rfl
theorem mdI_cons {ν : Type} (a : Int) (b : ν) (r : List (Int × ν)) (k : Int) : mdI ((a, b) :: r) k = if a = k then r else (a, b) :: mdI r k := by
  show (bif a == k then r else (a, b) :: mdI r k) = _
  by_cases h : a = k
  · rw [if_pos h, show (a == k) = true by simp [h], cond_true]
  · rw [if_neg h, show (a == k) = false by simp [h], cond_false]
/-- in order -/
def SrtI {ν : Type} (D : List (Int × ν)) : Prop := D.Pairwise fun p q => p.1 < q.1
theorem SrtI.nil {ν : Type} : SrtI (ν := ν) [] := List.Pairwise.nil
theorem mlI_out {ν : Type} : ∀ {D : List (Int × ν)} {k : Int}, (∀ p ∈ D, p.1 ≠ k) → mlI D k = none
  | [], _, _ => rfl
  | (a, b) :: r, k, h => by
    rw [mlI_cons, if_neg (h (a, b) (List.mem_cons_self ..))]
    exact mlI_out fun p hp => h p (List.mem_cons_of_mem _ hp)
theorem mpI_mem {ν : Type} {D : List (Int × ν)} {k : Int} {v : ν} {p : Int × ν} (h : p ∈ mpI D k v) : p = (k, v) ∨ p ∈ D := by
  induction D with
  | nil =>
    rw [mpI_nil] at h
    exact .inl (List.mem_singleton.1 h)
  | cons q r ih =>
    obtain ⟨a, b⟩ := q
    rw [mpI_cons] at h
    by_cases h1 : a = k
    · rw [if_pos h1] at h
      subst h1
      rcases List.mem_cons.1 h with h | h
      · exact .inl h
      · exact .inr (List.mem_cons_of_mem _ h)
    · rw [if_neg h1] at h
      by_cases h2 : k < a
      · rw [if_pos h2] at h
        rcases List.mem_cons.1 h with h | h
        · exact .inl h
        · exact .inr h
      · rw [if_neg h2] at h
        rcases List.mem_cons.1 h with h | h
        · exact .inr (h ▸ List.mem_cons_self ..)
        · rcases ih h with h | h
          · exact .inl h
          · exact .inr (List.mem_cons_of_mem _ h)
theorem mdI_mem {ν : Type} {D : List (Int × ν)} {k : Int} {p : Int × ν} (h : p ∈ mdI D k) : p ∈ D := by
  induction D with
  | nil => exact h
  | cons q r ih =>
    obtain ⟨a, b⟩ := q
    rw [mdI_cons] at h
    by_cases h1 : a = k
    · rw [if_pos h1] at h
      exact List.mem_cons_of_mem _ h
    · rw [if_neg h1] at h
      rcases List.mem_cons.1 h with h | h
      · exact h ▸ List.mem_cons_self ..
      · exact List.mem_cons_of_mem _ (ih h)
theorem SrtI.put {ν : Type} {D : List (Int × ν)} (h : SrtI D) (k : Int) (v : ν) : SrtI (mpI D k v) := by
  induction D with
  | nil => exact List.pairwise_singleton _ _
  | cons q r ih =>
    obtain ⟨a, b⟩ := q
    have h0 := List.pairwise_cons.1 h
    rw [mpI_cons]
    by_cases h1 : a = k
    · rw [if_pos h1]
      exact List.pairwise_cons.2 ⟨h0.1, h0.2⟩
    · rw [if_neg h1]
      by_cases h2 : k < a
      · rw [if_pos h2]
        refine List.pairwise_cons.2 ⟨fun p hp => ?_, h⟩
        rcases List.mem_cons.1 hp with hp | hp
        · subst hp; exact h2
        · have := h0.1 p hp
          show k < p.1
          have : a < p.1 := this
          omega
      · rw [if_neg h2]
        refine List.pairwise_cons.2 ⟨fun p hp => ?_, ih h0.2⟩
        rcases mpI_mem hp with hp | hp
        · subst hp; show a < k; omega
        · exact h0.1 p hp
theorem SrtI.del {ν : Type} {D : List (Int × ν)} (h : SrtI D) (k : Int) : SrtI (mdI D k) := by
  induction D with
  | nil => exact h
  | cons q r ih =>
    obtain ⟨a, b⟩ := q
    have h0 := List.pairwise_cons.1 h
    rw [mdI_cons]
    by_cases h1 : a = k
    · rw [if_pos h1]; exact h0.2
    · rw [if_neg h1]
      exact List.pairwise_cons.2 ⟨fun p hp => h0.1 p (mdI_mem hp), ih h0.2⟩
theorem mlI_del {ν : Type} {D : List (Int × ν)} (h : SrtI D) (k j : Int) : mlI (mdI D k) j = if k = j then none else mlI D j := by
  induction D with
  | nil => rw [mdI_nil, mlI_nil, ite_self]
  | cons q r ih =>
    obtain ⟨a, b⟩ := q
    have h0 := List.pairwise_cons.1 h
    rw [mdI_cons, mlI_cons]
    by_cases h1 : a = k
    · rw [if_pos h1]
      by_cases h2 : k = j
      · rw [if_pos h2]
        refine mlI_out fun p hp e => ?_
        have : a < p.1 := h0.1 p hp
        omega
      · rw [if_neg h2, if_neg (by omega)]
    · rw [if_neg h1, mlI_cons, ih h0.2]
      by_cases h2 : a = j
      · rw [if_pos h2, if_neg (by omega), if_pos h2]
      · rw [if_neg h2, if_neg h2]
theorem mlI_mem {ν : Type} {D : List (Int × ν)} (h : SrtI D) (k : Int) (v : ν) : mlI D k = some v ↔ (k, v) ∈ D := by
  induction D with
  | nil => simp [mlI_nil]
  | cons q r ih =>
    obtain ⟨a, b⟩ := q
    have h0 := List.pairwise_cons.1 h
    rw [mlI_cons]
    by_cases h1 : a = k
    · subst h1
      rw [if_pos rfl]
      constructor
      · intro e; cases e; exact List.mem_cons_self ..
      · intro e
        rcases List.mem_cons.1 e with e | e
        · cases e; rfl
        · have : a < a := h0.1 _ e
          omega
    · rw [if_neg h1, ih h0.2]
      constructor
      · exact List.mem_cons_of_mem _
      · intro e
        rcases List.mem_cons.1 e with e | e
        · cases e; exact absurd rfl h1
        · exact e
/-- two maps in order that answer alike are alike -/
theorem srtI_ext {ν : Type} : ∀ {D D' : List (Int × ν)}, SrtI D → SrtI D' → (∀ j, mlI D j = mlI D' j) → D = D'
  | [], [], _, _, _ => rfl
  | [], (a, b) :: r, _, _, e => by
    have := e a
    rw [mlI_cons, if_pos rfl] at this
    cases this
  | (a, b) :: r, [], _, _, e => by
    have := e a
    rw [mlI_cons, if_pos rfl] at this
    cases this
  | (a, b) :: r, (a', b') :: r', h, h', e => by
    have h0 := List.pairwise_cons.1 h
    have h0' := List.pairwise_cons.1 h'
    have ha : a = a' := by
      have e1 := e a
      have e2 := e a'
      rw [mlI_cons, if_pos rfl] at e1
      rw [mlI_cons (a := a'), if_pos rfl] at e2
      have m1 : (a, b) ∈ (a', b') :: r' := (mlI_mem h' a b).1 e1.symm
      have m2 : (a', b') ∈ (a, b) :: r := (mlI_mem h a' b').1 e2
      rcases List.mem_cons.1 m1 with m1 | m1
      · cases m1; rfl
      · rcases List.mem_cons.1 m2 with m2 | m2
        · cases m2; rfl
        · have : a' < a := h0'.1 _ m1
          have : a < a' := h0.1 _ m2
          omega
    subst ha
    have hb : b = b' := by
      have e1 := e a
      rw [mlI_cons, if_pos rfl, mlI_cons, if_pos rfl] at e1
      cases e1; rfl
    subst hb
    congr 1
    refine srtI_ext h0.2 h0'.2 fun j => ?_
    by_cases h1 : a = j
    · subst h1
      rw [mlI_out, mlI_out]
      · intro p hp e1
        have : a < p.1 := h0'.1 p hp
        omega
      · intro p hp e1
        have : a < p.1 := h0.1 p hp
        omega
    · have e1 := e j
      rwa [mlI_cons, if_neg h1, mlI_cons, if_neg h1] at e1
theorem mpI_len {ν : Type} (D : List (Int × ν)) (h : SrtI D) (k : Int) (v : ν) : (mpI D k v).length = if (mlI D k).isSome then D.length else D.length + 1 := by
  induction D with
  | nil => rfl
  | cons q r ih =>
    obtain ⟨a, b⟩ := q
    have h0 := List.pairwise_cons.1 h
    rw [mpI_cons, mlI_cons]
    by_cases h1 : a = k
    · rw [if_pos h1, if_pos h1]; rfl
    · rw [if_neg h1, if_neg h1]
      by_cases h2 : k < a
      · rw [if_pos h2, mlI_out]
        · rfl
        · intro p hp e1
          have : a < p.1 := h0.1 p hp
          omega
      · rw [if_neg h2, List.length_cons, ih h0.2]
        by_cases h3 : (mlI r k).isSome
        · rw [if_pos h3, if_pos h3, List.length_cons]
        · rw [if_neg h3, if_neg h3, List.length_cons]
theorem eqL_refl {α : Type} {f : α → α → Bool} : ∀ (l : List α), (∀ x ∈ l, f x x = true) → eqT.eqL f l l = true
  | [], _ => rfl
  | x :: r, h => by
    simp only [eqT.eqL, h x (List.mem_cons_self ..), Bool.true_and]
    exact eqL_refl r fun y hy => h y (List.mem_cons_of_mem _ hy)
theorem eqT_refl : ∀ (t : Ty), t.eqs = true → ∀ x : t.den, eqT t x x = true
  | .i _, _, x => (beq_self_eq_true (show Int from x) : _)
  | .bl, _, x => (beq_self_eq_true (show Bool from x) : _)
  | .str, _, x => (beq_self_eq_true (show List UInt8 from x) : _)
  | .un, _, _ => rfl
  | .pr a b, h, x => by
    simp only [Ty.eqs, Bool.and_eq_true] at h
    simp only [eqT, eqT_refl a h.1, eqT_refl b h.2, Bool.and_self]
  | .ar _ t, h, x => by
    simp only [Ty.eqs] at h
    simp only [eqT]
    exact eqL_refl _ fun y _ => eqT_refl t h y
  | .sl _, h, _ | .ns, h, _ | .nz _, h, _ | .vp _, h, _ | .np _ _, h, _ | .vm _, h, _ | .rf _ _, h, _ | .ep _ _ _, h, _ | .dp _ _, h, _ | .sr _, h, _ | .ss _ _, h, _ | .as _ _ _ _ _, h, _ | .cl _ _, h, _ | .ic _ _, h, _ | .tp _, h, _ | .mc _ _, h, _ | .sm _ _, h, _ | .ud, h, _ | .dead, h, _ => by cases h
theorem gA_sA {n : Nat} {α : Type} (x : Ar n α) (i j : Fin n) (v : α) : gA (sA x i v) j = if i = j then v else gA x j := by
  unfold gA sA
  simp only [List.get_eq_getElem, List.getElem_set]
  by_cases h : i = j
  · simp [h]
  · have : ¬ i.1 = j.1 := fun e => h (Fin.ext e)
    simp [h, this]
theorem gA_nA {n : Nat} {α : Type} (v : α) (j : Fin n) : gA (nA n v) j = v := by simp [gA, nA]
theorem Ar_ext {n : Nat} {α : Type} {x y : Ar n α} (h : ∀ j, gA x j = gA y j) : x = y := by
  apply Subtype.ext
  apply List.ext_getElem (by rw [x.2, y.2])
  intro i h1 h2
  have := h ⟨i, by rw [x.2] at h1; exact h1⟩
  simpa [gA] using this
theorem cpyR_len {α : Type} {l y : List α} {i j : Nat} (hij : i ≤ j) (hj : j ≤ l.length) : (cpyR l i j y).length = l.length := by
  unfold cpyR
  rcases Nat.le_total y.length (j - i) with h | h
  · rw [show Nat.min y.length (j - i) = y.length from Nat.min_eq_left h]; simp; omega
  · rw [show Nat.min y.length (j - i) = j - i from Nat.min_eq_right h]; simp; omega
theorem inb_true {j : Int} {n : Nat} (h1 : 0 ≤ j) (h2 : j < n) : inb j n = true := by unfold inb; simp; omega
theorem inb_iff {j : Int} {n : Nat} : inb j n = true ↔ 0 ≤ j ∧ j < n := ⟨inb_le, fun h => inb_true h.1 h.2⟩
theorem lenOk_true {n b : Nat} (h1 : n ≤ 1000000) (h2 : b ≤ 1000000) : lenOk n b = true := by
  have : n * b ≤ 1000000 * 1000000 := Nat.mul_le_mul h1 h2
  unfold lenOk maxLen
  simp
  omega
end Go.Proofs.YtnkdanobhgofbaaGreatDoor.pv
namespace Go.Proofs.YtnkdanobhgofbaaGreatDoor.pv
set_option linter.all false
open Go.RowKit

/-- step after step -/
def foldS {π σ : Type} (step : π → σ → Option σ) : List π → σ → Option σ
  | [], s => some s
  | p :: r, s => (step p s).bind fun s' => foldS step r s'
theorem Runs.det {xb : XS → (Ex → XS → Option XS) → Option XS} {cut : XS → Option XS} {it : Nat} {a b : Ty} : ∀ {π ρ : List (a.den × b.den)} {st e1 e2 : XS}, Runs xb cut it a b π ρ st e1 → Runs xb cut it a b π ρ st e2 → e1 = e2
  | [], ρ, st, e1, e2, h1, h2 => by
    obtain ⟨li, u, own, l, lg, cur, a1, a2, a3⟩ := h1
    obtain ⟨li', u', own', l', lg', cur', b1, b2, b3⟩ := h2
    have e := a1.symm.trans b1
    cases e
    have e := a2.symm.trans b2
    cases e
    rw [a3, b3]
  | p :: π, ρ, st, e1, e2, h1, h2 => by
    obtain ⟨li, u, own, l, lg, cur, st1, a1, a2, a3, a4⟩ := h1
    obtain ⟨li', u', own', l', lg', cur', st1', b1, b2, b3, b4⟩ := h2
    have e := a1.symm.trans b1
    cases e
    have e := a2.symm.trans b2
    cases e
    have e := a3.symm.trans b3
    cases e
    exact Runs.det a4 b4
theorem rngX_eq {α : Type} {xb : XS → (Ex → XS → Option XS) → Option XS} {xa : XS → (Ex → XS → Option α) → Option α} {cut : XS → Option XS} {it : Nat} {K : Ex → XS → Option α} {st : XS} {y : α} (h : RConf xb (fun st => xa st (endK K)) cut it st y) : rngX xb xa cut it K st = some y := by
  have hx : ∃ r, RConf xb (fun st => xa st (endK K)) cut it st r := ⟨y, h⟩
  unfold rngX
  rw [dif_pos hx]
  have h2 := Classical.choose_spec hx
  generalize Classical.choose hx = r at h2
  obtain ⟨a, b, ρ, ⟨li, u, own, l, lg, cur, a1, a2⟩, a3⟩ := h
  obtain ⟨a', b', ρ', ⟨li', u', own', l', lg', cur', b1, b2⟩, b3⟩ := h2
  have e := a1.symm.trans b1
  cases e
  have e := a2.symm.trans b2
  cases e
  obtain ⟨e1, c1, c2⟩ := a3 ρ (List.Perm.refl _)
  obtain ⟨e2, d1, d2⟩ := b3 ρ (List.Perm.refl _)
  rw [Runs.det d1 c1] at d2
  exact d2.symm.trans c2
/-- THE LOOP: one step and the end, each told by an equation; the same end in every order -/
theorem rr4_eq {E : Env} {prim : PrimT E} {sm : SumT} {N d g r : Nat} {ks : List Nat} {os : List OK} {it : Nat} {a b : Ty} {σ : Type} {li : Nat} {u : (Ty.sr li).den} {own : Bool} {l lg : Nat}
    (X : Option (a.den × b.den) → σ → List (a.den × b.den) → XS) (Pl : Option (a.den × b.den) → σ → List (a.den × b.den) → XS)
    (hl : ∀ cur s ρ, look (X cur s ρ).f it = ⟨.sr li, u⟩) (hm : ∀ cur s ρ, lom (X cur s ρ).m li = .ex (.it a b own l lg ρ cur none))
    (hP : ∀ cur e s ρ, planX (X cur s ρ) li (.it a b own l lg ρ none (some e)) = Pl e s ρ)
    (step : a.den × b.den → σ → Option σ)
    (hS : ∀ p s ρ, RS4 E prim sm N d g r os (Pl (some p) s ρ) = (step p s).bind fun s' => some (X (some p) s' (mdel (eqT a) ρ p.1)))
    (fin : σ → Option (altC (ksR E g os) (altsOf E g os.length)).den) (hE : ∀ s ρ, RE4 E prim sm N d g r ks os (Pl none s ρ) = fin s)
    (s0 : σ) (ρ0 : List (a.den × b.den)) (y : (altC (ksR E g os) (altsOf E g os.length)).den)
    (hr : ∀ π : List (a.den × b.den), π.Perm ρ0 → ∃ s', foldS step π s0 = some s' ∧ fin s' = some y) :
    RR4 E prim sm N d g r ks os it (X none s0 ρ0) = some y := by
  obtain ⟨s1, hs1, hf1⟩ := hr ρ0 (List.Perm.refl _)
  have hE1 := (hE s1 []).trans hf1
  unfold RR4
  unfold RE4 at hE hE1
  unfold RS4 at hS
  cases h1 : E.P.funcs[g]? with
  | none => rw [h1] at hE1; cases hE1
  | some fn =>
    simp only [h1] at hE hS hE1 ⊢
    cases h2 : fn.body with
    | none => rw [h2] at hE1; cases hE1
    | some c =>
      simp only [h2] at hE hS hE1 ⊢
      cases h3 : focL r c [] with
      | none => rw [h3] at hE1; cases hE1
      | some q =>
        obtain ⟨ab, fs⟩ := q
        simp only [h3] at hE hS hE1 ⊢
        refine rngX_eq ⟨a, b, ρ0, ⟨li, u, own, l, lg, none, hl _ _ _, hm _ _ _⟩, fun π hπ => ?_⟩
        obtain ⟨s', hs', hf'⟩ := hr π hπ
        have key : ∀ (π ρ : List (a.den × b.den)) (cur : Option (a.den × b.den)) (s s' : σ), foldS step π s = some s' → ∃ ρ', Runs (xcodeP E (R4 E prim sm N d) (E.kp g os.length) (E.pol g os.length) (sm g) N fn.ntmps os ab XS) (atL (E.kp g os.length) (E.pol g os.length) os ab) it a b π ρ (X cur s ρ) (Pl none s' ρ') := by
          intro π
          induction π with
          | nil =>
            intro ρ cur s s' e
            cases e
            exact ⟨ρ, li, u, own, l, lg, cur, hl _ _ _, hm _ _ _, (hP cur none s ρ).symm⟩
          | cons p π ih =>
            intro ρ cur s s' e
            simp only [foldS] at e
            cases e1 : step p s with
            | none => rw [e1] at e; cases e
            | some s2 =>
              rw [e1] at e
              obtain ⟨ρ', hρ⟩ := ih (mdel (eqT a) ρ p.1) (some p) s2 s' e
              refine ⟨ρ', li, u, own, l, lg, cur, X (some p) s2 (mdel (eqT a) ρ p.1), hl _ _ _, hm _ _ _, ?_, hρ⟩
              rw [hP]
              have := hS p s ρ
              rw [e1] at this
              exact this
        obtain ⟨ρ', hρ⟩ := key π ρ0 none s0 s' hs'
        exact ⟨_, hρ, (hE s' ρ').trans hf'⟩
end Go.Proofs.YtnkdanobhgofbaaGreatDoor.pv
