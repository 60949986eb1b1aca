/- OpenPlays: counting, and tables of numbers. -/
import Derived.Test.YtlnlhppaiagafaaGuOpenPlays
import Derived.Test.YtlnlhppaiagafaaMath
import Derived.Test.YtlnlhppaiagafaaLib
namespace Go.Proofs.Ytlnlhppaiagafaa.pv
set_option linter.all false
open Go.RowKit help
namespace op

def cnt (P : Nat → Bool) : Nat → Nat
  | 0 => 0
  | m + 1 => cnt P m + (if P m then 1 else 0)
theorem cnt_ext {P Q : Nat → Bool} : ∀ {m : Nat}, (∀ i, i < m → P i = Q i) → cnt P m = cnt Q m
  | 0, _ => rfl
  | m + 1, h => by rw [cnt, cnt, cnt_ext (fun i hi => h i (by omega)), h m (by omega)]
theorem cnt_one {P Q : Nat → Bool} {i : Nat} : ∀ {m : Nat}, i < m → (∀ j, j < m → j ≠ i → P j = Q j) → cnt P m + (if Q i then 1 else 0) = cnt Q m + (if P i then 1 else 0)
  | 0, hi, _ => by omega
  | m + 1, hi, h => by
    rw [cnt, cnt]
    by_cases e : i = m
    · subst e
      rw [cnt_ext (P := P) (Q := Q) (fun j hj => h j (by omega) (by omega))]
      omega
    · rw [h m (by omega) (fun e' => e e'.symm)]
      have := cnt_one (P := P) (Q := Q) (m := m) (i := i) (by omega) (fun j hj hne => h j (by omega) hne)
      omega
theorem cnt_pos {P : Nat → Bool} : ∀ {m : Nat}, 0 < cnt P m ↔ ∃ i, i < m ∧ P i = true
  | 0 => by simp [cnt]
  | m + 1 => by
    rw [cnt]
    by_cases h : P m = true
    · rw [if_pos h]
      exact ⟨fun _ => ⟨m, by omega, h⟩, fun _ => by omega⟩
    · rw [if_neg h, Nat.add_zero, cnt_pos]
      exact ⟨fun ⟨i, h1, h2⟩ => ⟨i, by omega, h2⟩, fun ⟨i, h1, h2⟩ => ⟨i, by rcases Nat.lt_succ_iff_lt_or_eq.1 h1 with h3 | rfl; exact h3; exact absurd h2 h, h2⟩⟩
theorem cnt_le {P : Nat → Bool} : ∀ {m : Nat}, cnt P m ≤ m
  | 0 => Nat.le_refl _
  | m + 1 => by
    have := @cnt_le P m
    rw [cnt]; split <;> omega
theorem cnt_full {P : Nat → Bool} : ∀ {m : Nat}, cnt P m = m ↔ ∀ i, i < m → P i = true
  | 0 => by simp [cnt]
  | m + 1 => by
    have := @cnt_le P m
    rw [cnt]
    by_cases h : P m = true
    · rw [if_pos h]
      constructor
      · intro e i hi
        rcases Nat.lt_succ_iff_lt_or_eq.1 hi with h3 | rfl
        · exact (@cnt_full P m).1 (by omega) i h3
        · exact h
      · intro e
        have := (@cnt_full P m).2 (fun i hi => e i (by omega))
        omega
    · rw [if_neg h]
      exact ⟨fun e => by omega, fun e => absurd (e m (by omega)) h⟩
/-- how often a number stands ahead of m -/
def num (f : Nat → Int) (m : Nat) (v : Int) : Nat := cnt (fun i => f i == v) m
/-- how many numbers other than 0 -/
def dist (f : Nat → Int) (m : Nat) : Nat := cnt (fun i => f i != 0 && decide (num f i (f i) = 0)) m
theorem dist_img {f : Nat → Int} {A : Nat} : ∀ {m : Nat}, (∀ i, i < m → 0 ≤ f i ∧ f i ≤ A) → cnt (fun k => decide (0 < num f m ((k : Int) + 1))) A = dist f m
  | 0, _ => by
    have : ∀ A, cnt (fun k => decide (0 < num f 0 ((k : Int) + 1))) A = 0 := by
      intro A
      induction A with
      | zero => rfl
      | succ A ih => rw [cnt, ih]; simp [num, cnt]
    exact this A
  | m + 1, h => by
    have ih := dist_img (f := f) (A := A) (m := m) (fun i hi => h i (by omega))
    have hm := h m (by omega)
    unfold dist at ih ⊢
    rw [cnt, ← ih]
    have e : ∀ v, num f (m + 1) v = num f m v + (if f m == v then 1 else 0) := fun v => rfl
    by_cases h0 : f m = 0
    · rw [h0]
      simp only [bne_self_eq_false, Bool.false_and, Bool.false_eq_true, if_false, Nat.add_zero]
      refine cnt_ext fun k hk => ?_
      rw [e, h0]
      have : ((0 : Int) == (k : Int) + 1) = false := by simp; omega
      rw [this]
      simp
    · by_cases h1 : num f m (f m) = 0
      · have hk : (f m - 1).toNat < A := by omega
        have := cnt_one (P := fun k => decide (0 < num f (m + 1) ((k : Int) + 1))) (Q := fun k => decide (0 < num f m ((k : Int) + 1))) hk (fun j hj hne => by
          show decide (0 < num f (m + 1) ((j : Int) + 1)) = decide (0 < num f m ((j : Int) + 1))
          rw [e]
          have : (f m == (j : Int) + 1) = false := by simp; omega
          rw [this]; simp)
        have e1 : (((f m - 1).toNat : Nat) : Int) + 1 = f m := by omega
        simp only [e1, e, beq_self_eq_true, if_true, h1] at this
        simp only [h1]
        have h0' : (f m != 0) = true := by simpa using h0
        simp only [h0', decide_true, Bool.and_self, if_true, e]
        simpa using this
      · simp only [h1, decide_false, Bool.and_false, Bool.false_eq_true, if_false, Nat.add_zero]
        refine cnt_ext fun k hk => ?_
        rw [e]
        by_cases h2 : f m = (k : Int) + 1
        · rw [← h2]
          simp; omega
        · have : (f m == (k : Int) + 1) = false := by simpa using h2
          rw [this]; simp
theorem num_ext {f g : Nat → Int} {m : Nat} {v w : Int} (h : ∀ i, i < m → (f i = v ↔ g i = w)) : num f m v = num g m w :=
  cnt_ext fun i hi => by
    have := h i hi
    show (f i == v) = (g i == w)
    by_cases h1 : f i = v
    · rw [h1, this.1 h1]; simp
    · have h2 : ¬ g i = w := fun e => h1 (this.2 e)
      rw [beq_eq_false_iff_ne.2 h1, beq_eq_false_iff_ne.2 h2]
theorem dist_ext {f g : Nat → Int} {m : Nat} (hz : ∀ i, i < m → (f i = 0 ↔ g i = 0)) (he : ∀ i j, i < m → j < m → (f i = f j ↔ g i = g j)) : dist f m = dist g m :=
  cnt_ext fun i hi => by
    have h1 : num f i (f i) = num g i (g i) := num_ext fun j hj => he j i (by omega) hi
    show (f i != 0 && decide (num f i (f i) = 0)) = (g i != 0 && decide (num g i (g i) = 0))
    rw [h1]
    have := hz i hi
    by_cases h2 : f i = 0
    · rw [h2, this.1 h2]
    · have h3 : ¬ g i = 0 := fun e => h2 (this.2 e)
      have h2' : (f i != 0) = true := by simpa using h2
      have h3' : (g i != 0) = true := by simpa using h3
      rw [h2', h3']
/-- a number set at a place -/
def upd (f : Nat → Int) (i : Nat) (v : Int) : Nat → Int := fun j => if j = i then v else f j
theorem num_upd {f g : Nat → Int} {m i : Nat} {v : Int} (hi : i < m) (hg : ∀ j, j < m → g j = upd f i v j) (u : Int) : num g m u + (if f i = u then 1 else 0) = num f m u + (if v = u then 1 else 0) := by
  have := cnt_one (P := fun j => g j == u) (Q := fun j => f j == u) hi (fun j hj hne => by show (g j == u) = (f j == u); rw [hg j hj, upd, if_neg hne])
  have e : g i = v := by rw [hg i hi, upd, if_pos rfl]
  simp only [e, beq_iff_eq] at this
  exact this

/-- tables of 17 rows of 8 -/
abbrev FD := Fin 17 → Fin 8 → Int
def row (F : FD) (p : Nat) : Fin 8 → Int := if h : p < 17 then F ⟨p, h⟩ else fun _ => 0
def gt (F : FD) (i : Nat) : Int := row F (i / 8) ⟨i % 8, Nat.mod_lt _ (by omega)⟩
theorem rd {F : FD} {p : Nat} (h : p < 17) : getA F (p : Int) = some (row F p) := by
  unfold getA row
  rw [dif_pos ⟨by omega, by omega⟩, dif_pos h]
  rfl
theorem rd8 {F : FD} {p j : Nat} (hj : j < 8) : getA (row F p) (j : Int) = some (gt F (8 * p + j)) := by
  unfold getA gt
  rw [dif_pos ⟨by omega, by omega⟩]
  congr 2
  · congr 1; omega
  · ext; show j = (8 * p + j) % 8; omega
theorem row_set {F : FD} {p q : Nat} {r : Fin 8 → Int} (hq : q < 17) : row (setA F (p : Int) r) q = if q = p then r else row F q := by
  unfold row setA
  rw [dif_pos hq, dif_pos hq]
  simp
theorem gt_set {F : FD} {p j i : Nat} {v : Int} (hj : j < 8) (hi : i < 136) : gt (setA F (p : Int) (setA (row F p) (j : Int) v)) i = upd (gt F) (8 * p + j) v i := by
  unfold gt upd
  rw [row_set (by omega)]
  by_cases h : i / 8 = p
  · rw [if_pos h]
    unfold setA
    simp only [Int.toNat_natCast]
    by_cases h2 : i % 8 = j
    · rw [if_pos h2, if_pos (by omega)]
    · rw [if_neg h2, if_neg (by omega), h]
  · rw [if_neg h, if_neg (by omega)]
theorem gt_row {F : FD} {p q i : Nat} (hi : i < 136) : gt (setA F (p : Int) (row F q)) i = if i / 8 = p then gt F (8 * q + i % 8) else gt F i := by
  unfold gt
  rw [row_set (by omega)]
  by_cases h : i / 8 = p
  · rw [if_pos h, if_pos h]
    congr 2
    · omega
    · omega
  · rw [if_neg h, if_neg h]
theorem row_ext {F G : FD} {p q : Nat} (h : ∀ j, j < 8 → gt F (8 * p + j) = gt G (8 * q + j)) : row F p = row G q := by
  funext j
  have := h j.val j.isLt
  unfold gt at this
  have e1 : (8 * p + j.val) / 8 = p := by omega
  have e2 : (8 * q + j.val) / 8 = q := by omega
  have e3 : (⟨(8 * p + j.val) % 8, Nat.mod_lt _ (by omega)⟩ : Fin 8) = j := by ext; show (8 * p + j.val) % 8 = j.val; omega
  have e4 : (⟨(8 * q + j.val) % 8, Nat.mod_lt _ (by omega)⟩ : Fin 8) = j := by ext; show (8 * q + j.val) % 8 = j.val; omega
  rw [e1, e2, e3, e4] at this
  exact this
end op
end Go.Proofs.Ytlnlhppaiagafaa.pv
