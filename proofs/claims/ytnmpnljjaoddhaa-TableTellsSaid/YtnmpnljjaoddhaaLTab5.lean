/- The plain law of TableTells. -/
import Derived.Test.YtnmpnljjaoddhaaLTab4
namespace Go.Proofs.Ytnmpnljjaoddhaa.tableTells
open Go.RowKit help rep pv
set_option linter.all false
local notation "E0" => S_entry_Entry.mk false false 0 0 false false false
local notation "T0" => (fun (_ : Fin 8) => S_table_Node.mk false ([] : List S_entry_Entry))

section
variable (n : Nat) (p k : Int) (ra : S_entry_Entry × Int) (rb rc rd : (Fin 8 → S_table_Node) × Int) (rs : Int × Int × Int) (r z u v : Int) (t : Fin 8 → S_table_Node) (x : S_entry_Entry) (pp : Fin 64 → S_entry_Entry)
theorem in_yes {a b c : Int} (h : b ≤ a ∧ a ≤ c) : G_ringref2_In n a b c = some true := by
  unfold G_ringref2_In
  rw [if_pos (by omega), decide_eq_true (by omega)]
theorem in_no {a b c : Int} (h : ¬ (b ≤ a ∧ a ≤ c)) : G_ringref2_In n a b c = some false := by
  unfold G_ringref2_In
  by_cases h1 : a ≥ b
  · rw [if_pos h1, decide_eq_false (by omega)]
  · rw [if_neg h1]
theorem k18 (a0 : S_entry_Entry) (h2 : rb.2 = z) (h4 : z ≠ 0 → G_ringlaw2_TableTells_1 n rb.1 = some true) : G_ringlaw2_TableTells_C18 n p k (a0, 0) rb rc rd (u, v, 0) 0 z t x = some (.x0 false) := by
  unfold G_ringlaw2_TableTells_C18
  simp only [h2, if_true]
  by_cases hz : z = 0
  · rw [if_pos hz]
  · rw [if_neg hz, h4 hz]; rfl
theorem k12 (a0 : S_entry_Entry) (h2 : rb.2 = z) (h4 : z ≠ 0 → G_ringlaw2_TableTells_1 n rb.1 = some true) : G_ringlaw2_TableTells_C12 n p k (a0, 0) rb rc rd (u, v, 0) 0 z t x = some (.x0 false) := by
  unfold G_ringlaw2_TableTells_C12
  simp only [h2, if_true]
  by_cases hz : z = 0
  · rw [if_pos hz]
  · rw [if_neg hz, h4 hz]; rfl
theorem k5 (h4 : G_ringlaw2_TableTells_1 n T0 = some true) : G_ringlaw2_TableTells_C5 n p k (E0, 1) (T0, 1) rc rd (u, v, 0) 0 t x = some (.x0 false) := by
  unfold G_ringlaw2_TableTells_C5
  simp only [if_true, neqS, Bool.false_eq_true, if_false, h4, Option.bind_some]
theorem k1 (h4 : G_ringlaw2_TableTells_1 n T0 = some true) : G_ringlaw2_TableTells_C1 n p k (E0, 1) (T0, 1) rc rd (u, v, 0) 0 t x = some (.x0 false) := by
  unfold G_ringlaw2_TableTells_C1
  simp only [if_true, neqS, Bool.false_eq_true, if_false, h4, Option.bind_some]
theorem k27 (hr : r ≠ 0) (h4 : G_ringlaw2_TableTells_1 n T0 = some true) : G_ringlaw2_TableTells_C27 n p k (E0, r) (T0, r) rc rd (0, 0, r) r r t x = some (.x0 false) := by
  unfold G_ringlaw2_TableTells_C27
  have e : (wi .i64 ((0 : Int) + 0) != 0) = false := rfl
  simp only [if_true, neqS, Bool.false_eq_true, if_false, h4, Option.bind_some, if_neg hr, e]
theorem k28 (h4 : G_ringlaw2_TableTells_1 n T0 = some true) : G_ringlaw2_TableTells_C28 n (T0, r) (T0, r) r = some (.x0 true) := by
  unfold G_ringlaw2_TableTells_C28
  simp only [h4, Option.bind_some, if_true, beq_self_eq_true]
theorem k17 (h4 : G_ringlaw2_TableTells_1 n T0 = some true) : G_ringlaw2_TableTells_C17 n (T0, 1) (T0, 1) = some (.x0 true) := by
  unfold G_ringlaw2_TableTells_C17
  simp only [h4, Option.bind_some, if_true, beq_self_eq_true]
theorem k4 (h4 : G_ringlaw2_TableTells_1 n T0 = some true) : G_ringlaw2_TableTells_C4 n (T0, 1) (T0, 1) = some (.x0 true) := by
  unfold G_ringlaw2_TableTells_C4
  simp only [h4, Option.bind_some, if_true, beq_self_eq_true]
theorem k20 {P : Nat} (hP : P < 64) (c s : Int) : G_ringlaw2_TableTells_C20 n (P : Int) k rc rd (u, v, s) 0 z u v t x (pp ⟨P, hP⟩, c) rb pp = some (.x0 false) := by
  unfold G_ringlaw2_TableTells_C20
  have hq : 0 ≤ (P : Int) ∧ (P : Int) < (64 : Int) := by omega
  simp only [if_true, if_pos hq, getA_at hP, Option.bind_some, neqS, Bool.false_eq_true, if_false, bne_self_eq_false]
theorem k14 {P : Nat} (hP : P < 64) (c s : Int) : G_ringlaw2_TableTells_C14 n (P : Int) k rc rd (u, v, s) 0 z u v t x (pp ⟨P, hP⟩, c) rb pp = some (.x0 false) := by
  unfold G_ringlaw2_TableTells_C14
  have hq : 0 ≤ (P : Int) ∧ (P : Int) < (64 : Int) := by omega
  simp only [if_true, if_pos hq, getA_at hP, Option.bind_some, neqS, Bool.false_eq_true, if_false, bne_self_eq_false]
theorem k7 (s : Int) : G_ringlaw2_TableTells_C7 n p k rc rd (u, v, s) 0 u v t x ra rb pp = some (.x0 false) := by
  unfold G_ringlaw2_TableTells_C7
  simp only [if_true, bne_self_eq_false]
theorem k3 (s : Int) : G_ringlaw2_TableTells_C3 n p k rc rd (u, v, s) u v t x ra rb pp = some (.x0 false) := by
  unfold G_ringlaw2_TableTells_C3
  simp only [if_true, bne_self_eq_false]
theorem neqP (y : Fin 64 → S_entry_Entry) : eqRes .neq (eqA_ringref2_Plain y y) = false := by rw [eqP_refl]; rfl
theorem eqP (y : Fin 64 → S_entry_Entry) : eqRes .eql (eqA_ringref2_Plain y y) = true := by rw [eqP_refl]; rfl
/-- what a set page leaves -/
theorem set_facts (hn : 100 ≤ n) (hg : ∀ j, Good (t j)) {P : Nat} (hP : P < 64) (hx : chk x = 0) :
    let B := setA t ((P / 8 : Nat) : Int) (nset (t ⟨P / 8, by omega⟩) (P % 8) x)
    G_ringref2_Tables n B = some 0 ∧ G_ringref2_TablePages n B = some (setA (pgs t) (P : Int) x) ∧ (B ⟨P / 8, by omega⟩).fHuge = false ∧ G_ringlaw2_others n t B ((P / 8 : Nat) : Int) = some true := by
  obtain ⟨q1, q2, q3⟩ := nset_good (hg ⟨P / 8, by omega⟩) (show P % 8 < 8 by omega) hx
  have hgB := good_set (k := P / 8) hg q1
  obtain ⟨r, _, r2, r3⟩ := tables_any n (setA t ((P / 8 : Nat) : Int) (nset (t ⟨P / 8, by omega⟩) (P % 8) x)) (by omega)
  have := r3.2 (fun j => nc_good (hgB j))
  subst this
  refine ⟨r2, ?_, ?_, others_any n t _ hg (P / 8) (by omega)⟩
  · rw [pages_any n _ hgB hn, pgs_set hP q3]
  · rw [setA_self]; exact q2
theorem turn_facts (hn : 100 ≤ n) (hg : ∀ j, Good (t j)) {K : Nat} (hK : K < 8) {nd : S_table_Node} (h1 : Good nd) (h2 : ∀ j, j < 8 → atN nd j = atN (t ⟨K, hK⟩) j) :
    G_ringref2_Tables n (setA t (K : Int) nd) = some 0 ∧ G_ringref2_TablePages n (setA t (K : Int) nd) = some (pgs t) ∧ setA t (K : Int) nd ⟨K, hK⟩ = nd ∧ G_ringlaw2_others n t (setA t (K : Int) nd) (K : Int) = some true := by
  have hgB := good_set (k := K) hg h1
  obtain ⟨r, _, r2, r3⟩ := tables_any n (setA t (K : Int) nd) (by omega)
  have := r3.2 (fun j => nc_good (hgB j))
  subst this
  exact ⟨r2, by rw [pages_any n _ hgB hn, pgs_same hK h2], setA_self hK, others_any n t _ hg K (by omega)⟩
theorem k22 (hn : 100 ≤ n) (hg : ∀ j, Good (t j)) {P : Nat} (hP : P < 64) (hb : chk x = 0 → rb = (setA t ((P / 8 : Nat) : Int) (nset (t ⟨P / 8, by omega⟩) (P % 8) x), 0)) : G_ringlaw2_TableTells_C22 n (P : Int) k rc rd 0 (chk x) t x rb (pgs t) = some .x1 := by
  unfold G_ringlaw2_TableTells_C22 G_ringlaw2_TableTells_C21
  by_cases hx : chk x = 0
  · obtain ⟨f1, f2, f3, f4⟩ := set_facts n t x hn hg hP hx
    have hq : 0 ≤ (P : Int) ∧ (P : Int) < (64 : Int) := by omega
    have hq2 : 0 ≤ ((P / 8 : Nat) : Int) ∧ ((P / 8 : Nat) : Int) < (8 : Int) := by omega
    simp only [hb hx, if_pos hx, if_pos hq, getA_at hP, Option.bind_some, f1, if_true, f2, neqP, Bool.false_eq_true, if_false, quo8 (show P < 1000 by omega), if_pos hq2, getA_at (show P / 8 < 8 by omega), f3, f4, Bool.not_true]
  · rw [if_neg hx]
theorem k16 (hn : 100 ≤ n) (hg : ∀ j, Good (t j)) {P : Nat} (hP : P < 64) (hb : chk x = 0 → rb = (setA t ((P / 8 : Nat) : Int) (nset (t ⟨P / 8, by omega⟩) (P % 8) x), 0)) : G_ringlaw2_TableTells_C16 n (P : Int) k rc rd (chk x) t x rb (pgs t) = some .x1 := by
  unfold G_ringlaw2_TableTells_C16 G_ringlaw2_TableTells_C15
  by_cases hx : chk x = 0
  · obtain ⟨f1, f2, f3, f4⟩ := set_facts n t x hn hg hP hx
    have hq : 0 ≤ (P : Int) ∧ (P : Int) < (64 : Int) := by omega
    have hq2 : 0 ≤ ((P / 8 : Nat) : Int) ∧ ((P / 8 : Nat) : Int) < (8 : Int) := by omega
    simp only [hb hx, if_pos hx, if_pos hq, getA_at hP, Option.bind_some, f1, if_true, f2, neqP, Bool.false_eq_true, if_false, quo8 (show P < 1000 by omega), if_pos hq2, getA_at (show P / 8 < 8 by omega), f3, f4, Bool.not_true]
  · rw [if_neg hx]
theorem k24 (hn : 100 ≤ n) (hg : ∀ j, Good (t j)) {K : Nat} (hK : K < 8) {b : Bool} (hc : rc = if b = true then (setA t (K : Int) ⟨true, [atN (t ⟨K, hK⟩) 0]⟩, 0) else (T0, 8)) (hb : b = true → Good ⟨true, [atN (t ⟨K, hK⟩) 0]⟩ ∧ ∀ j, j < 8 → atN ⟨true, [atN (t ⟨K, hK⟩) 0]⟩ j = atN (t ⟨K, hK⟩) j) :
    G_ringlaw2_TableTells_C24 n (K : Int) rc rd b t (pgs t) = some .x1 ∧ G_ringlaw2_TableTells_C9 n (K : Int) rc rd b t (pgs t) = some .x1 := by
  unfold G_ringlaw2_TableTells_C24 G_ringlaw2_TableTells_C23 G_ringlaw2_TableTells_C9 G_ringlaw2_TableTells_C8
  cases b with
  | true =>
    obtain ⟨g1, g2⟩ := hb rfl
    obtain ⟨f1, f2, f3, f4⟩ := turn_facts n t hn hg hK g1 g2
    have hq : 0 ≤ (K : Int) ∧ (K : Int) < (8 : Int) := by omega
    constructor <;> simp only [hc, if_true, f1, f2, Option.bind_some, neqP, Bool.false_eq_true, if_false, if_pos hq, getA_at hK, f3, f4, Bool.not_true]
  | false =>
    constructor <;> simp only [hc, Bool.false_eq_true, if_false, empty_any n hn, Option.bind_some, if_true]
theorem k25 (hn : 100 ≤ n) (hg : ∀ j, Good (t j)) {K : Nat} (hK : K < 8) (hh : (t ⟨K, hK⟩).fHuge = true) (hd : rd = (setA t (K : Int) ⟨false, eight (t ⟨K, hK⟩)⟩, 0)) :
    G_ringlaw2_TableTells_C25 n (K : Int) rd t (pgs t) = some (.x0 true) ∧ G_ringlaw2_TableTells_C10 n (K : Int) rd t (pgs t) = some (.x0 true) := by
  unfold G_ringlaw2_TableTells_C25 G_ringlaw2_TableTells_C10
  obtain ⟨g1, g2⟩ := eight_good (hg ⟨K, hK⟩) hh
  obtain ⟨f1, f2, f3, f4⟩ := turn_facts n t hn hg hK g1 g2
  have hq : 0 ≤ (K : Int) ∧ (K : Int) < (8 : Int) := by omega
  constructor <;> simp only [hd, if_true, f1, f2, Option.bind_some, eqP, Bool.false_eq_true, if_false, if_pos hq, getA_at hK, f3, f4]
end
theorem sizes0 (n f : Nat) (hf : 9 ≤ f) (p k4 : Int) (t : Fin 8 → S_table_Node) (x : S_entry_Entry) (ra : S_entry_Entry × Int) (rb rc rd : (Fin 8 → S_table_Node) × Int) (rs : Int × Int × Int) (r z : Int) (pp : Fin 64 → S_entry_Entry) :
    ∃ u v, G_table_Size_L1 n t f 0 0 0 = some (.x0 u v) ∧ G_ringlaw2_TableTells_L2 n p k4 rc rd rs t x ra rb pp f 0 0 0 = some (.x0 u v) ∧ G_ringlaw2_TableTells_L6 n p k4 rc rd rs r t x ra rb pp f 0 0 0 = some (.x0 u v) ∧
      G_ringlaw2_TableTells_L13 n p k4 rc rd rs r z t x ra rb pp f 0 0 0 = some (.x0 u v) ∧ G_ringlaw2_TableTells_L19 n p k4 rc rd rs r z t x ra rb pp f 0 0 0 = some (.x0 u v) :=
  sizes n p k4 t x ra rb rc rd rs r z pp f 0 0 0 (by omega) (by omega)
theorem law (n : Nat) (hn : 100 ≤ n) (t : Fin 8 → S_table_Node) (p : Int) (x : S_entry_Entry) (k : Int) : G_ringlaw2_TableTells n t p x k = some true := by
  obtain ⟨r, c1, c2, c3⟩ := tables_any n t (by omega)
  have he := empty_any n (by omega)
  unfold G_ringlaw2_TableTells
  by_cases h0 : r = 0
  · subst h0
    have hg : ∀ j, Good (t j) := fun j => good_of (c3.1 rfl j)
    obtain ⟨u, v, s1, _⟩ := sizes0 n n (by omega) 0 0 t E0 (E0, 0) (T0, 0) (T0, 0) (T0, 0) (0, 0, 0) 0 0 (pgs t)
    have hS : G_table_Size n t = some (u, v, 0) := by
      unfold G_table_Size
      simp only [c1, Option.bind_some, if_true, s1]
    have hl := fun (p k4 : Int) (x : S_entry_Entry) (ra : S_entry_Entry × Int) (rb rc rd : (Fin 8 → S_table_Node) × Int) (rs : Int × Int × Int) (r z : Int) (pp : Fin 64 → S_entry_Entry) => sizes0 n n (by omega) p k4 t x ra rb rc rd rs r z pp
    have hl2 : ∀ (p k4 : Int) (x : S_entry_Entry) (ra : S_entry_Entry × Int) (rb rc rd : (Fin 8 → S_table_Node) × Int) (rs : Int × Int × Int) (r z : Int) (pp : Fin 64 → S_entry_Entry),
        G_ringlaw2_TableTells_L2 n p k4 rc rd rs t x ra rb pp n 0 0 0 = some (.x0 u v) ∧ G_ringlaw2_TableTells_L6 n p k4 rc rd rs r t x ra rb pp n 0 0 0 = some (.x0 u v) ∧ G_ringlaw2_TableTells_L13 n p k4 rc rd rs r z t x ra rb pp n 0 0 0 = some (.x0 u v) ∧ G_ringlaw2_TableTells_L19 n p k4 rc rd rs r z t x ra rb pp n 0 0 0 = some (.x0 u v) := by
      intro p k4 x ra rb rc rd rs r z pp
      obtain ⟨u', v', q1, q2, q3, q4, q5⟩ := hl p k4 x ra rb rc rd rs r z pp
      rw [s1] at q1
      have q1 := Option.some.inj q1
      injection q1 with e1 e2
      subst e1; subst e2
      exact ⟨q2, q3, q4, q5⟩
    have hP := pages_any n t hg (by omega)
    by_cases hk : 0 ≤ k ∧ k ≤ 7
    · obtain ⟨K, rfl⟩ := Int.eq_ofNat_of_zero_le hk.1
      have hK : K < 8 := by omega
      obtain ⟨b, j1, j2, j3⟩ := joins_any n t (by omega) c1 hg K hK
      have d1 := split_in n t (by omega) c1 hg K hK
      have hq : 0 ≤ (K : Int) ∧ (K : Int) < (8 : Int) := by omega
      by_cases hp : 0 ≤ p ∧ p ≤ 63
      · obtain ⟨P, rfl⟩ := Int.eq_ofNat_of_zero_le hp.1
        have hP6 : P < 64 := by omega
        have w1 := walk_in n t P c1 hg hP6
        obtain ⟨rb, b1, b2, b3, b4⟩ : ∃ rb, G_table_Set n t (P : Int) x = some rb ∧ rb.2 = chk x ∧ (chk x ≠ 0 → G_ringlaw2_TableTells_1 n rb.1 = some true) ∧ (chk x = 0 → rb = (setA t ((P / 8 : Nat) : Int) (nset (t ⟨P / 8, by omega⟩) (P % 8) x), 0)) := by
          by_cases hx : chk x = 0
          · exact ⟨_, set_in n t P x (by omega) c1 hg hP6 hx, hx.symm, fun h => absurd hx h, fun _ => rfl⟩
          · exact ⟨_, set_bad2 n t (P : Int) x (page_in n t P c1 hP6) hx, rfl, fun _ => he, fun h => absurd h hx⟩
        simp only [w1, b1, j1, d1, hS, c1, c2, Option.bind_some, if_true, in_yes n hp, in_yes n hk, G_ringlaw2_TableTells_C11, entries_any,
          k18 (h2 := b2) (h4 := b3), Bool.false_eq_true, if_false, hP, (hl2 _ _ _ _ _ _ _ _ _ _ _).2.2.2, k20 (hP := hP6), k22 (hn := hn) (hg := hg) (hP := hP6) (hb := b4), j2,
          (k24 n _ _ t (by omega) hg hK rfl j3).1, if_pos hq, getA_at hK]
        by_cases hh : (t ⟨K, hK⟩).fHuge = true
        · simp only [if_pos hh, (k25 n _ t (by omega) hg hK hh rfl).1, Option.bind_some]
        · simp only [if_neg hh, he, Option.bind_some, if_true, beq_self_eq_true]
      · have w1 := walk_bad n t p 1 (page_out n t p c1 hp) (by omega)
        have b1 := set_bad n t p 1 x (page_out n t p c1 hp) (by omega)
        simp only [w1, b1, j1, d1, hS, c1, c2, Option.bind_some, if_true, in_no n hp, in_yes n hk, k5 (h4 := he), Bool.false_eq_true, if_false, hP, (hl2 _ _ _ _ _ _ _ _ _ 0 _).2.1,
          k7, j2, (k24 n _ _ t (by omega) hg hK rfl j3).2, if_pos hq, getA_at hK]
        by_cases hh : (t ⟨K, hK⟩).fHuge = true
        · simp only [if_pos hh, (k25 n _ t (by omega) hg hK hh rfl).2, Option.bind_some]
        · simp only [if_neg hh, he, Option.bind_some, if_true, beq_self_eq_true]
    · have j1 := join_out n t k c1 hk
      have d1 := split_out n t k c1 hk
      by_cases hp : 0 ≤ p ∧ p ≤ 63
      · obtain ⟨P, rfl⟩ := Int.eq_ofNat_of_zero_le hp.1
        have hP6 : P < 64 := by omega
        have w1 := walk_in n t P c1 hg hP6
        obtain ⟨rb, b1, b2, b3, b4⟩ : ∃ rb, G_table_Set n t (P : Int) x = some rb ∧ rb.2 = chk x ∧ (chk x ≠ 0 → G_ringlaw2_TableTells_1 n rb.1 = some true) ∧ (chk x = 0 → rb = (setA t ((P / 8 : Nat) : Int) (nset (t ⟨P / 8, by omega⟩) (P % 8) x), 0)) := by
          by_cases hx : chk x = 0
          · exact ⟨_, set_in n t P x (by omega) c1 hg hP6 hx, hx.symm, fun h => absurd hx h, fun _ => rfl⟩
          · exact ⟨_, set_bad2 n t (P : Int) x (page_in n t P c1 hP6) hx, rfl, fun _ => he, fun h => absurd h hx⟩
        simp only [w1, b1, j1, d1, hS, c1, c2, Option.bind_some, if_true, in_yes n hp, in_no n hk, G_ringlaw2_TableTells_C11, entries_any,
          k12 (h2 := b2) (h4 := b3), Bool.false_eq_true, if_false, hP, (hl2 _ _ _ _ _ _ _ _ _ _ _).2.2.1, k14 (hP := hP6), k16 (hn := hn) (hg := hg) (hP := hP6) (hb := b4),
          k17 (h4 := he)]
      · have w1 := walk_bad n t p 1 (page_out n t p c1 hp) (by omega)
        have b1 := set_bad n t p 1 x (page_out n t p c1 hp) (by omega)
        simp only [w1, b1, j1, d1, hS, c1, c2, Option.bind_some, if_true, in_no n hp, in_no n hk, k1 (h4 := he), Bool.false_eq_true, if_false, hP, (hl2 _ _ _ _ _ _ _ _ 0 0 _).1,
          k3, k4 (h4 := he)]
  · have hpb := page_bad n t p r c1 h0
    simp only [walk_bad n t p r hpb h0, set_bad n t p r x hpb h0, join_bad n t k r c1 h0, split_bad n t k r c1 h0, size_bad n t r c1 h0, c1, c2, Option.bind_some, if_true, if_neg h0, G_ringlaw2_TableTells_C26,
      k27 (hr := h0) (h4 := he), Bool.false_eq_true, if_false, k28 (h4 := he)]
end Go.Proofs.Ytnmpnljjaoddhaa.tableTells
