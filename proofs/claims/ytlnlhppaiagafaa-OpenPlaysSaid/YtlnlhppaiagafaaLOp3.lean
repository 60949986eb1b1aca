/- OpenPlays: what the functions of both tables return. -/
import Derived.Test.YtlnlhppaiagafaaLOp2
namespace Go.Proofs.Ytlnlhppaiagafaa.pv
set_option linter.all false
open Go.RowKit help
namespace op

theorem owner_ok (n : Nat) (p : Int) : G_open_owner n p = some (decide (1 ≤ p ∧ p ≤ 16)) := by
  unfold G_open_owner
  by_cases h : p ≥ 1
  · rw [if_pos h]; congr 1; exact decide_eq_decide.2 ⟨fun q => ⟨h, q⟩, fun q => q.2⟩
  · rw [if_neg h]; congr 1; exact (decide_eq_false (by omega)).symm
theorem in_ok (n : Nat) (p : Int) : G_ringlaw5_forked_1 n p = some (decide (1 ≤ p ∧ p ≤ 16)) := by
  unfold G_ringlaw5_forked_1
  by_cases h : p ≥ 1
  · rw [if_pos h]; congr 1; exact decide_eq_decide.2 ⟨fun q => ⟨h, q⟩, fun q => q.2⟩
  · rw [if_neg h]; congr 1; exact (decide_eq_false (by omega)).symm
/-- the first place that is free in a row -/
def FZ (F : FD) (p : Nat) (r : Int) : Prop := (r = -1 ∧ ∀ j, j < 8 → gt F (8 * p + j) ≠ 0) ∨ ∃ j : Nat, r = (j : Int) ∧ j < 8 ∧ gt F (8 * p + j) = 0 ∧ ∀ i, i < j → gt F (8 * p + i) ≠ 0
theorem FZ.uniq {F G : FD} {p : Nat} {r s : Int} (hp : p ≤ 16) (hz : ∀ i, i < 136 → (gt F i = 0 ↔ gt G i = 0)) (h : FZ F p r) (k : FZ G p s) : r = s := by
  have z := fun j (hj : j < 8) => hz (8 * p + j) (by omega)
  rcases h with ⟨rfl, h⟩ | ⟨j, rfl, h1, h2, h3⟩ <;> rcases k with ⟨rfl, k⟩ | ⟨i, rfl, k1, k2, k3⟩
  · rfl
  · exact absurd ((z i k1).2 k2) (h i k1)
  · exact absurd ((z j h1).1 h2) (k j h1)
  · rcases Nat.lt_trichotomy i j with q | q | q
    · exact absurd ((z i k1).2 k2) (h3 i q)
    · rw [q]
    · exact absurd ((z j h1).1 h2) (k3 j q)
theorem free_loop (n : Nat) (t : Tb) (p : Nat) (hp : p ≤ 16) : ∀ (k i : Nat), 8 - i < k → i ≤ 8 → (∀ j, j < i → gt t.ffds (8 * p + j) ≠ 0) →
    (G_open_Table_free_h_L1 n (row t.ffds p) t k (i : Int) = some .x1 ∧ ∀ j, j < 8 → gt t.ffds (8 * p + j) ≠ 0) ∨ ∃ j : Nat, G_open_Table_free_h_L1 n (row t.ffds p) t k (i : Int) = some (.x0 (j : Int)) ∧ j < 8 ∧ gt t.ffds (8 * p + j) = 0 ∧ ∀ i, i < j → gt t.ffds (8 * p + i) ≠ 0
  | 0, i, h, _, _ => by omega
  | k + 1, i, h, hi, hb => by
    unfold G_open_Table_free_h_L1
    by_cases h1 : i < 8
    · rw [if_pos (by omega), rd8 h1, Option.bind_some]
      by_cases h2 : gt t.ffds (8 * p + i) = 0
      · rw [if_pos h2]
        exact .inr ⟨i, rfl, h1, h2, hb⟩
      · rw [if_neg h2, wi_succ (by omega)]
        exact free_loop n t p hp k (i + 1) (by omega) (by omega) (fun j hj => by
          by_cases e : j = i
          · rw [e]; exact h2
          · exact hb j (by omega))
    · rw [if_neg (by omega)]
      exact .inl ⟨rfl, fun j hj => hb j (by omega)⟩
theorem free_ok (n : Nat) (hn : 200 < n) (t : Tb) (p : Nat) (hp : p ≤ 16) : ∃ r, G_open_Table_free_h n t (p : Int) = some (r, t) ∧ FZ t.ffds p r := by
  unfold G_open_Table_free_h
  rw [if_pos ⟨by omega, by omega⟩, rd (by omega), Option.bind_some]
  rcases free_loop n t p hp n 0 (by omega) (by omega) (fun j hj => by omega) with ⟨h1, h2⟩ | ⟨j, h1, h2, h3, h4⟩
  · have h1 : G_open_Table_free_h_L1 n (row t.ffds p) t n 0 = _ := h1
    rw [h1]
    exact ⟨-1, rfl, .inl ⟨rfl, h2⟩⟩
  · have h1 : G_open_Table_free_h_L1 n (row t.ffds p) t n 0 = _ := h1
    rw [h1]
    exact ⟨j, rfl, .inr ⟨j, rfl, h2, h3, h4⟩⟩
theorem of_get {F : FD} {p j : Nat} (hj : j < 8) : (List.ofFn (row F p))[j]? = some (gt F (8 * p + j)) := by
  rw [List.getElem?_ofFn, dif_pos hj]
  unfold gt
  congr 2
  · congr 1; omega
  · ext; show j = (8 * p + j) % 8; omega
theorem index_loop (n : Nat) (F : FD) (p : Nat) : ∀ (k i : Nat), 8 - i < k → i ≤ 8 → (∀ j, j < i → gt F (8 * p + j) ≠ 0) →
    (G_slices_Index_int_int_L1 n (List.ofFn (row F p)) 0 k (i : Int) = some .x1 ∧ ∀ j, j < 8 → gt F (8 * p + j) ≠ 0) ∨ ∃ j : Nat, G_slices_Index_int_int_L1 n (List.ofFn (row F p)) 0 k (i : Int) = some (.x0 (j : Int)) ∧ j < 8 ∧ gt F (8 * p + j) = 0 ∧ ∀ i, i < j → gt F (8 * p + i) ≠ 0
  | 0, i, h, _, _ => by omega
  | k + 1, i, h, hi, hb => by
    unfold G_slices_Index_int_int_L1
    by_cases h1 : i < 8
    · rw [if_pos (by rw [List.length_ofFn]; omega), getI_nat, of_get h1, Option.bind_some]
      by_cases h2 : gt F (8 * p + i) = 0
      · rw [if_pos h2.symm]
        exact .inr ⟨i, rfl, h1, h2, hb⟩
      · rw [if_neg (fun e => h2 e.symm), wi_succ (by omega)]
        exact index_loop n F p k (i + 1) (by omega) (by omega) (fun j hj => by
          by_cases e : j = i
          · rw [e]; exact h2
          · exact hb j (by omega))
    · rw [if_neg (by rw [List.length_ofFn]; omega)]
      exact .inl ⟨rfl, fun j hj => hb j (by omega)⟩
theorem index_ok (n : Nat) (hn : 200 < n) (F : FD) (p : Nat) : ∃ r, G_slices_Index_int_int n (List.ofFn (row F p)) 0 = some r ∧ FZ F p r := by
  unfold G_slices_Index_int_int
  rcases index_loop n F p n 0 (by omega) (by omega) (fun j hj => by omega) with ⟨h1, h2⟩ | ⟨j, h1, h2, h3, h4⟩
  · have h1 : G_slices_Index_int_int_L1 n (List.ofFn (row F p)) 0 n 0 = _ := h1
    rw [h1]
    exact ⟨-1, rfl, .inl ⟨rfl, h2⟩⟩
  · have h1 : G_slices_Index_int_int_L1 n (List.ofFn (row F p)) 0 n 0 = _ := h1
    rw [h1]
    exact ⟨j, rfl, .inr ⟨j, rfl, h2, h3, h4⟩⟩
theorem num_succ {f : Nat → Int} {m : Nat} {v : Int} : num f (m + 1) v = num f m v + (if f m = v then 1 else 0) := by
  unfold num
  rw [cnt]
  by_cases h : f m = v
  · rw [if_pos h, if_pos (by simpa using h)]
  · rw [if_neg h, if_neg (by simpa using h)]
theorem uses_loop1 (n : Nat) (o : Op) (k : Nat) (hk : k < 4611686018427387904) (q : Int) (p : Nat) (hp : p ≤ 16) : ∀ (m i : Nat), 8 - i < m → i ≤ 8 →
    G_ringref5_Open_uses_L1 n (k : Int) o q (row o.fFds p) m (num (gt o.fFds) (8 * p + i) ((k : Int) + 1) : Int) (i : Int) = some (.x0 (num (gt o.fFds) (8 * p + 8) ((k : Int) + 1) : Int))
  | 0, i, h, _ => by omega
  | m + 1, i, h, hi => by
    unfold G_ringref5_Open_uses_L1
    by_cases h1 : i < 8
    · rw [if_pos (by omega), rd8 h1, Option.bind_some, wi_succ (by omega), wi_succ (i := i) (by omega)]
      have ih := uses_loop1 n o k hk q p hp m (i + 1) (by omega) (by omega)
      have e : num (gt o.fFds) (8 * p + (i + 1)) ((k : Int) + 1) = num (gt o.fFds) (8 * p + i) ((k : Int) + 1) + (if gt o.fFds (8 * p + i) = (k : Int) + 1 then 1 else 0) := num_succ
      have l := num_le (f := gt o.fFds) (m := 8 * p + i) (v := (k : Int) + 1)
      have e1 : ((k + 1 : Nat) : Int) = (k : Int) + 1 := by omega
      rw [e1]
      by_cases h2 : gt o.fFds (8 * p + i) = (k : Int) + 1
      · rw [if_pos h2] at e ⊢
        rw [wi_succ (by omega), ← e]; exact ih
      · rw [if_neg h2] at e ⊢
        rw [e] at ih; exact ih
    · have : i = 8 := by omega
      rw [if_neg (by omega), this]
theorem uses_loop2 (n : Nat) (hn : 200 < n) (o : Op) (k : Nat) (hk : k < 4611686018427387904) : ∀ (m p : Nat), 17 - p < m → p ≤ 17 →
    G_ringref5_Open_uses_L2 n (k : Int) o m (num (gt o.fFds) (8 * p) ((k : Int) + 1) : Int) (p : Int) = some (.x0 (num (gt o.fFds) 136 ((k : Int) + 1) : Int))
  | 0, p, h, _ => by omega
  | m + 1, p, h, hp => by
    unfold G_ringref5_Open_uses_L2
    by_cases h1 : p < 17
    · have l := uses_loop1 n o k hk (p : Int) p (by omega) n 0 (by omega) (by omega)
      have l : G_ringref5_Open_uses_L1 n (k : Int) o (p : Int) (row o.fFds p) n (num (gt o.fFds) (8 * p) ((k : Int) + 1) : Int) 0 = _ := l
      rw [if_pos (by omega), rd h1, Option.bind_some, l, Option.bind_some, wi_succ (by omega)]
      exact uses_loop2 n hn o k hk m (p + 1) (by omega) (by omega)
    · have : p = 17 := by omega
      rw [if_neg (by omega), this]
theorem uses_ok (n : Nat) (hn : 200 < n) (o : Op) (k : Nat) (hk : k < 4611686018427387904) : G_ringref5_Open_uses n o (k : Int) = some (num (gt o.fFds) 136 ((k : Int) + 1) : Int) := by
  unfold G_ringref5_Open_uses
  have l := uses_loop2 n hn o k hk n 0 (by omega) (by omega)
  have l : G_ringref5_Open_uses_L2 n (k : Int) o n 0 0 = _ := l
  rw [l]; rfl
def liv (o : Op) (k : Nat) : Bool := decide (0 < num (gt o.fFds) 136 ((k : Int) + 1))
theorem lives_loop (n : Nat) (hn : 200 < n) (o : Op) (hl : o.fThings.length < 4611686018427387904) : ∀ (m i : Nat), o.fThings.length - i < m → i ≤ o.fThings.length →
    G_ringref5_Open_lives_h_L1 n o m (cnt (liv o) i : Int) (i : Int) o.fThings = some (.x0 (cnt (liv o) o.fThings.length : Int) o.fThings)
  | 0, i, h, _ => by omega
  | m + 1, i, h, hi => by
    unfold G_ringref5_Open_lives_h_L1
    by_cases h1 : i < o.fThings.length
    · have u : G_ringref5_Open_uses n (S_ringref5_Open.mk o.fThings o.fFds) (i : Int) = some (num (gt o.fFds) 136 ((i : Int) + 1) : Int) := uses_ok n hn o i (by omega)
      have ih := lives_loop n hn o hl m (i + 1) (by omega) (by omega)
      have e : cnt (liv o) (i + 1) = cnt (liv o) i + (if liv o i then 1 else 0) := rfl
      have l := cnt_le (P := liv o) (m := i)
      rw [if_pos (by omega), u, Option.bind_some, wi_succ (by omega), wi_succ (i := i) (by omega)]
      by_cases h2 : 0 < num (gt o.fFds) 136 ((i : Int) + 1)
      · have h3 : liv o i = true := decide_eq_true h2
        rw [if_pos (by omega)]
        rw [h3, if_pos rfl] at e
        rw [← e]; exact ih
      · have h3 : liv o i = false := decide_eq_false h2
        rw [if_neg (by omega)]
        rw [h3, if_neg (by simp)] at e
        rw [e] at ih; exact ih
    · have : i = o.fThings.length := by omega
      rw [if_neg (by omega), this]
theorem lives_ok (n : Nat) (o : Op) (hn : o.fThings.length + 200 < n) (hl : o.fThings.length < 4611686018427387904) : G_ringref5_Open_lives_h n o = some ((cnt (liv o) o.fThings.length : Int), o) := by
  unfold G_ringref5_Open_lives_h
  have l := lives_loop n (by omega) o hl n 0 (by omega) (by omega)
  have l : G_ringref5_Open_lives_h_L1 n o n 0 0 o.fThings = _ := l
  rw [l]; rfl

/-- where a descriptor leads -/
inductive Leads (F : FD) (p fd : Int) : Prop where
  | out (h : ¬ (1 ≤ p ∧ p ≤ 16))
  | none (h : 1 ≤ p ∧ p ≤ 16) (k : fd < 0 ∨ 8 ≤ fd ∨ ∃ P J : Nat, p = (P : Int) ∧ fd = (J : Int) ∧ J < 8 ∧ gt F (8 * P + J) = 0)
  | some (P J : Nat) (e : p = (P : Int)) (e' : fd = (J : Int)) (h : 1 ≤ P ∧ P ≤ 16) (k : J < 8) (q : gt F (8 * P + J) ≠ 0)
theorem leads (F : FD) (p fd : Int) : Leads F p fd := by
  by_cases h : 1 ≤ p ∧ p ≤ 16
  · by_cases h1 : fd < 0
    · exact .none h (.inl h1)
    · by_cases h2 : 8 ≤ fd
      · exact .none h (.inr (.inl h2))
      · obtain ⟨P, rfl⟩ := Int.eq_ofNat_of_zero_le (show 0 ≤ p by omega)
        obtain ⟨J, rfl⟩ := Int.eq_ofNat_of_zero_le (show 0 ≤ fd by omega)
        by_cases h3 : gt F (8 * P + J) = 0
        · exact .none h (.inr (.inr ⟨P, J, rfl, rfl, by omega, h3⟩))
        · exact .some P J rfl rfl (by omega) (by omega) h3
  · exact .out h
theorem find_out (n : Nat) (t : Tb) {p fd : Int} (h : ¬ (1 ≤ p ∧ p ≤ 16)) : G_open_Table_find_h n t p fd = some (none, 1, t) := by
  unfold G_open_Table_find_h
  rw [owner_ok, decide_eq_false h, Option.bind_some, if_neg (by simp)]
theorem find_none (n : Nat) (t : Tb) {p fd : Int} (h : 1 ≤ p ∧ p ≤ 16) (k : fd < 0 ∨ 8 ≤ fd ∨ ∃ P J : Nat, p = (P : Int) ∧ fd = (J : Int) ∧ J < 8 ∧ gt t.ffds (8 * P + J) = 0) : G_open_Table_find_h n t p fd = some (none, 4, t) := by
  unfold G_open_Table_find_h
  rw [owner_ok, decide_eq_true h, Option.bind_some, if_pos rfl]
  rcases k with k | k | ⟨P, J, rfl, rfl, h1, h2⟩
  · rw [if_pos k]
  · rw [if_neg (by omega), if_pos k]
  · rw [if_neg (by omega), if_neg (by omega), if_pos ⟨by omega, by omega⟩, if_pos ⟨by omega, by omega⟩, rd (by omega), Option.bind_some, rd8 h1, Option.bind_some, if_pos h2]
theorem find_some (n : Nat) (t : Tb) {P J : Nat} (h : 1 ≤ P ∧ P ≤ 16) (k : J < 8) (q : gt t.ffds (8 * P + J) ≠ 0) (b : 0 ≤ gt t.ffds (8 * P + J) ∧ gt t.ffds (8 * P + J) ≤ 32) :
    G_open_Table_find_h n t (P : Int) (J : Int) = some (some (((gt t.ffds (8 * P + J) - 1).toNat : Nat) : Int), 0, t) := by
  unfold G_open_Table_find_h
  rw [owner_ok, decide_eq_true (by omega), Option.bind_some, if_pos rfl, if_neg (by omega), if_neg (by omega), if_pos ⟨by omega, by omega⟩, if_pos ⟨by omega, by omega⟩, rd (by omega), Option.bind_some, rd8 k, Option.bind_some, if_neg q, if_pos ⟨by omega, by omega⟩, if_pos ⟨by omega, by omega⟩]
  rw [Option.bind_some, rd8 k, Option.bind_some, wi64 (by omega) (by omega), if_pos ⟨by omega, by omega⟩]
  congr 3
  omega
theorem err_out (n : Nat) (o : Op) {p fd : Int} (h : ¬ (1 ≤ p ∧ p ≤ 16)) : G_ringref5_Open_ErrFd_h n o p fd = some (1, o) := by
  unfold G_ringref5_Open_ErrFd_h
  by_cases h1 : p < 1
  · rw [if_pos h1]
  · rw [if_neg h1, if_pos (by omega)]
theorem err_none (n : Nat) (o : Op) {p fd : Int} (h : 1 ≤ p ∧ p ≤ 16) (k : fd < 0 ∨ 8 ≤ fd ∨ ∃ P J : Nat, p = (P : Int) ∧ fd = (J : Int) ∧ J < 8 ∧ gt o.fFds (8 * P + J) = 0) : G_ringref5_Open_ErrFd_h n o p fd = some (4, o) := by
  unfold G_ringref5_Open_ErrFd_h
  rw [if_neg (by omega), if_neg (by omega)]
  unfold G_ringref5_Open_ErrFd_h_C1
  rcases k with k | k | ⟨P, J, rfl, rfl, h1, h2⟩
  · rw [if_pos k]; rfl
  · rw [if_neg (by omega), if_pos (by omega)]; rfl
  · rw [if_neg (by omega), if_neg (by omega), if_pos ⟨by omega, by omega⟩, if_pos ⟨by omega, by omega⟩, rd (by omega), Option.bind_some, rd8 h1, Option.bind_some, h2]; rfl
theorem err_some (n : Nat) (o : Op) {P J : Nat} (h : 1 ≤ P ∧ P ≤ 16) (k : J < 8) (q : gt o.fFds (8 * P + J) ≠ 0) : G_ringref5_Open_ErrFd_h n o (P : Int) (J : Int) = some (0, o) := by
  unfold G_ringref5_Open_ErrFd_h
  rw [if_neg (by omega), if_neg (by omega)]
  unfold G_ringref5_Open_ErrFd_h_C1
  rw [if_neg (by omega), if_neg (by omega), if_pos ⟨by omega, by omega⟩, if_pos ⟨by omega, by omega⟩, rd (by omega), Option.bind_some, rd8 k, Option.bind_some, beq_eq_false_iff_ne.2 q]; rfl
/-- one descriptor less -/
def clr (t : Tb) (P J : Nat) : Tb := S_open_Table.mk (setA t.ffiles (((gt t.ffds (8 * P + J) - 1).toNat : Nat) : Int) ⟨(fl t (gt t.ffds (8 * P + J) - 1).toNat).fThing, (fl t (gt t.ffds (8 * P + J) - 1).toNat).fn - 1⟩) (setA t.ffds (P : Int) (setA (row t.ffds P) (J : Int) 0))
def clrO (o : Op) (P J : Nat) : Op := S_ringref5_Open.mk o.fThings (setA o.fFds (P : Int) (setA (row o.fFds P) (J : Int) 0))
theorem Rel.clr {t : Tb} {o : Op} (R : Rel t o) {P J : Nat} (h : 1 ≤ P ∧ P ≤ 16) (k : J < 8) (q : gt t.ffds (8 * P + J) ≠ 0) : Rel (op.clr t P J) (clrO o P J) :=
  R.clear (i := 8 * P + J) (by omega) q
    (fun j hj => by unfold op.clr; rw [fl_set hj]; split <;> rename_i e; rw [e]; rfl)
    (fun j hj => gt_set k hj) (fun j hj => gt_set k hj) rfl
theorem close_some (n : Nat) {t : Tb} {o : Op} (R : Rel t o) {P J : Nat} (h : 1 ≤ P ∧ P ≤ 16) (k : J < 8) (q : gt t.ffds (8 * P + J) ≠ 0) :
    G_open_Table_Close_h n t (P : Int) (J : Int) = some ((fl t (gt t.ffds (8 * P + J) - 1).toNat).fThing, ((fl t (gt t.ffds (8 * P + J) - 1).toNat).fn - 1 == 0), 0, op.clr t P J) := by
  have b := R.tb (8 * P + J) (by omega)
  have c := R.n (gt t.ffds (8 * P + J) - 1).toNat (by omega)
  have l := num_le (f := gt t.ffds) (m := 136) (v := ((gt t.ffds (8 * P + J) - 1).toNat : Int) + 1)
  unfold G_open_Table_Close_h
  rw [find_some n t h k q b, Option.bind_some]
  show (if (0 : Int) = 0 then _ else _) = _
  rw [if_pos rfl, if_pos ⟨by omega, by omega⟩, if_pos ⟨by omega, by omega⟩, rd (by omega), Option.bind_some, rd8 k, Option.bind_some, rdF (by omega), Option.bind_some, Option.bind_some, wi64 (by omega) (by omega)]
  have g : getA (setA t.ffiles (((gt t.ffds (8 * P + J) - 1).toNat : Nat) : Int) (S_open_file.mk (fl t (gt t.ffds (8 * P + J) - 1).toNat).fThing ((fl t (gt t.ffds (8 * P + J) - 1).toNat).fn - 1))) (((gt t.ffds (8 * P + J) - 1).toNat : Nat) : Int) = some (S_open_file.mk (fl t (gt t.ffds (8 * P + J) - 1).toNat).fThing ((fl t (gt t.ffds (8 * P + J) - 1).toNat).fn - 1)) := by
    have := rdF (t := op.clr t P J) (k := (gt t.ffds (8 * P + J) - 1).toNat) (by omega)
    unfold op.clr at this
    rw [fl_set (by omega), if_pos rfl] at this
    exact this
  rw [g, Option.bind_some, Option.bind_some]
  rfl
theorem less_ok (n : Nat) (hn : 200 < n) {t : Tb} {o : Op} (R : Rel t o) (hT : o.fThings.length < 4611686018427387904) {P J : Nat} (h : 1 ≤ P ∧ P ≤ 16) (k : J < 8) (q : gt t.ffds (8 * P + J) ≠ 0) :
    ∃ y, G_ringref5_Open_Less_h n o (P : Int) (J : Int) = some (y, ((fl t (gt t.ffds (8 * P + J) - 1).toNat).fn - 1 == 0), clrO o P J) ∧ (fl t (gt t.ffds (8 * P + J) - 1).toNat).fThing = th y := by
  have b := R.tb (8 * P + J) (by omega)
  have d := R.ob (8 * P + J) (by omega)
  have z := R.z (8 * P + J) (by omega)
  obtain ⟨y, h1, h2⟩ := R.th _ (by omega) q
  obtain ⟨h3, h4⟩ := List.getElem?_eq_some_iff.1 h1
  refine ⟨y, ?_, h2⟩
  have c := R.n (gt t.ffds (8 * P + J) - 1).toNat (by omega)
  have e1 : (((gt t.ffds (8 * P + J) - 1).toNat : Nat) : Int) + 1 = gt t.ffds (8 * P + J) := by omega
  have e2 : (((gt o.fFds (8 * P + J) - 1).toNat : Nat) : Int) + 1 = gt o.fFds (8 * P + J) := by omega
  rw [e1, ← R.uses (by omega)] at c
  have u := uses_ok n hn (clrO o P J) (gt o.fFds (8 * P + J) - 1).toNat (by omega)
  have w := num_upd (f := gt o.fFds) (g := gt (clrO o P J).fFds) (m := 136) (i := 8 * P + J) (v := 0) (by omega) (fun j hj => gt_set k hj) (gt o.fFds (8 * P + J))
  rw [if_pos rfl, if_neg (by omega)] at w
  rw [e2] at u
  have e3 : (((gt o.fFds (8 * P + J) - 1).toNat : Nat) : Int) = gt o.fFds (8 * P + J) - 1 := by omega
  unfold G_ringref5_Open_Less_h
  rw [if_pos ⟨by omega, by omega⟩, if_pos ⟨by omega, by omega⟩, rd (by omega), Option.bind_some, rd8 k, Option.bind_some, if_pos ⟨by omega, by omega⟩, if_pos ⟨by omega, by omega⟩, Option.bind_some, rd8 k, Option.bind_some, wi64 (by omega) (by omega), if_pos ⟨by omega, h3⟩, h1, Option.bind_some]
  rw [e3] at u
  have u : G_ringref5_Open_uses n (S_ringref5_Open.mk o.fThings (setA o.fFds (P : Int) (setA (row o.fFds P) (J : Int) 0))) (gt o.fFds (8 * P + J) - 1) = _ := u
  rw [u, Option.bind_some]
  have e4 : ((num (gt (clrO o P J).fFds) 136 (gt o.fFds (8 * P + J)) : Int) == 0) = ((fl t (gt t.ffds (8 * P + J) - 1).toNat).fn - 1 == 0) := by
    have : (fl t (gt t.ffds (8 * P + J) - 1).toNat).fn - 1 = (num (gt (clrO o P J).fFds) 136 (gt o.fFds (8 * P + J)) : Int) := by omega
    rw [this]
  rw [e4]; rfl
end op
end Go.Proofs.Ytlnlhppaiagafaa.pv
