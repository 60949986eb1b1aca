/- PagesTells: caches that are right, and where a page is. -/
import Derived.Test.YthcdcpcffdongaaGuPagesTells
import Derived.Test.YthcdcpcffdongaaSpPg
namespace Go.Proofs.Ythcdcpcffdongaa.pv
set_option linter.all false
open Go.RowKit help
namespace pg
abbrev Pg := S_pages_Page
abbrev Ca := S_pages_Cache
abbrev ltP (a b : Pg) : Prop := a.fFile < b.fFile ∨ (a.fFile = b.fFile ∧ a.fN < b.fN)
theorem ltP_trans {a b c : Pg} (h : ltP a b) (k : ltP b c) : ltP a c := by unfold ltP at *; omega
abbrev rg (c : Ca) (p : Pg) : Prop := 1 ≤ p.fFile ∧ p.fFile ≤ 32 ∧ 0 ≤ p.fN ∧ p.fN ≤ 31 ∧ 0 ≤ p.fMaps ∧ p.fMaps ≤ 64 ∧ 0 ≤ p.fDirty ∧ p.fDirty < c.fClock
def okC (c : Ca) : Prop := c.fPages.length ≤ 64 ∧ 1 ≤ c.fClock ∧ c.fClock ≤ 1073741824 ∧ (∀ p ∈ c.fPages, rg c p) ∧ c.fPages.Pairwise ltP
abbrev rgt (f q : Int) : Prop := 1 ≤ f ∧ f ≤ 32 ∧ 0 ≤ q ∧ q ≤ 31
theorem sub0 {α : Type} (l : List α) (i : Nat) (h : i ≤ l.length) : sub l 0 (i : Int) = some (l.take i) := by
  unfold sub
  rw [if_pos ⟨by omega, by omega, by omega⟩]
  simp
theorem sub1 {α : Type} (l : List α) (i : Nat) (h : i ≤ l.length) : sub l (i : Int) (l.length : Int) = some (l.drop i) := by
  unfold sub
  rw [if_pos ⟨by omega, by omega, by omega⟩]
  simp
theorem in_any (n : Nat) (x a b : Int) : G_ringref2_In n x a b = some (decide (a ≤ x ∧ x ≤ b)) := by
  unfold G_ringref2_In
  by_cases h : x ≥ a
  · rw [if_pos h]; congr 1; rw [Bool.eq_iff_iff]; simp only [decide_eq_true_eq]; omega
  · rw [if_neg h, decide_eq_false (by omega)]
theorem file_any (n : Nat) (f q : Int) : G_ringref2_FilePage n f q = some (decide (rgt f q)) := by
  unfold G_ringref2_FilePage rgt
  rw [in_any, Option.bind_some]
  by_cases h : 1 ≤ f ∧ f ≤ 32
  · rw [decide_eq_true h, if_pos rfl, in_any, Option.bind_some]; congr 1; rw [Bool.eq_iff_iff]; simp only [decide_eq_true_eq]; omega
  · rw [decide_eq_false h, if_neg (by simp), decide_eq_false (by omega)]
theorem right_any (n : Nat) (f q : Int) : G_pages_right n f q = some (decide (rgt f q)) := by
  unfold G_pages_right G_pages_right_C1 rgt
  by_cases a1 : f ≥ 1
  · rw [if_pos a1]
    by_cases a2 : f ≤ 32
    · rw [if_pos a2]
      by_cases a3 : q ≥ 0
      · rw [if_pos a3, Option.bind_some]; simp only; congr 1; rw [Bool.eq_iff_iff]; simp only [decide_eq_true_eq]; omega
      · rw [if_neg a3, Option.bind_some, decide_eq_false (by omega)]
    · rw [if_neg a2, Option.bind_some, decide_eq_false (by omega)]
  · rw [if_neg a1, Option.bind_some, decide_eq_false (by omega)]
/-! the order -/
def cmpI (a b : Int) : Int := if a < b then -1 else if a > b then 1 else 0
theorem cmp_any (n : Nat) (a b : Int) : G_cmp_Compare_int n a b = some (cmpI a b) := by
  unfold G_cmp_Compare_int G_cmp_isNaN_int cmpI
  simp only [bne_self_eq_false, Option.bind_some, Bool.false_eq_true, if_false]
  by_cases h1 : a < b
  · rw [if_pos h1, if_pos h1]
  · rw [if_neg h1, if_neg h1]
    by_cases h2 : a > b
    · rw [if_pos h2, if_pos h2]
    · rw [if_neg h2, if_neg h2]
theorem or_loop (n : Nat) (vs : List Int) (hv : vs.length ≤ 100) : ∀ (k i : Nat), vs.length - i < k → i ≤ vs.length →
    G_cmp_Or_int_L1 n vs k (i : Int) = some (match (vs.drop i).find? (fun v => v != 0) with | some v => .x0 v | none => .x1)
  | 0, i, h, _ => by omega
  | k + 1, i, h, hi => by
    rw [G_cmp_Or_int_L1]
    by_cases h1 : i < vs.length
    · rw [if_pos (by omega), getI_nat, List.getElem?_eq_getElem h1, Option.bind_some, drop_cons (List.getElem?_eq_getElem h1), List.find?_cons]
      by_cases e : vs[i] = 0
      · rw [if_pos e, e, wi_succ (by omega), or_loop n vs hv k (i + 1) (by omega) (by omega)]; rfl
      · have : (vs[i] != 0) = true := by simpa using e
        rw [if_neg e, this]
    · rw [if_neg (by omega), List.drop_eq_nil_of_le (by omega)]; rfl
theorem or_any (n : Nat) (hn : 110 < n) (vs : List Int) (hv : vs.length ≤ 100) : G_cmp_Or_int n vs = some ((vs.find? (fun v => v != 0)).getD 0) := by
  unfold G_cmp_Or_int
  have h := or_loop n vs hv n 0 (by omega) (by omega)
  have h : G_cmp_Or_int_L1 n vs n 0 = _ := h
  rw [h, List.drop_zero, Option.bind_some]
  cases vs.find? (fun v => v != 0) <;> rfl
theorem order_any (n : Nat) (hn : 110 < n) (a b : Pg) : ∃ c : Int, G_pages_order n a b = some c ∧ (c < 0 ↔ ltP a b) ∧ (c = 0 ↔ a.fFile = b.fFile ∧ a.fN = b.fN) := by
  unfold G_pages_order
  rw [cmp_any, cmp_any, Option.bind_some, Option.bind_some, or_any n hn _ (by simp), Option.bind_some]
  refine ⟨_, rfl, ?_⟩
  unfold cmpI ltP
  simp only [List.find?_cons, List.find?_nil]
  by_cases a1 : a.fFile < b.fFile
  · rw [if_pos a1]; simp; omega
  · rw [if_neg a1]
    by_cases a2 : a.fFile > b.fFile
    · rw [if_pos a2]; simp; omega
    · rw [if_neg a2]
      simp only [bne_self_eq_false]
      by_cases a3 : a.fN < b.fN
      · rw [if_pos a3]; simp; omega
      · rw [if_neg a3]
        by_cases a4 : a.fN > b.fN
        · rw [if_pos a4]; simp; omega
        · rw [if_neg a4]; simp; omega
/-! caches that are right -/
abbrev bd (l : List Pg) (i : Nat) (y : Pg) (m : Nat) (hm : m < (l.take i).length) : Prop := (0 < y.fDirty ∧ (l.take i)[m].fDirty = y.fDirty) ∨ (m + 1 = i ∧ ¬ ltP (l.take i)[m] y)
theorem inner_loop (n : Nat) (c : Ca) (i : Nat) (y : Pg) (hi : i ≤ c.fPages.length) (hl : c.fPages.length ≤ 64) : ∀ (k j : Nat), (c.fPages.take i).length - j < k → j ≤ (c.fPages.take i).length →
    (G_ringref2_Caches_L3 n (i : Int) c (c.fPages.take i) y k (j : Int) = some (.x0 3) ∧ ∃ m, ∃ hm : m < (c.fPages.take i).length, j ≤ m ∧ bd c.fPages i y m hm) ∨
    (G_ringref2_Caches_L3 n (i : Int) c (c.fPages.take i) y k (j : Int) = some .x1 ∧ ∀ m (hm : m < (c.fPages.take i).length), j ≤ m → ¬ bd c.fPages i y m hm)
  | 0, j, h, _ => by omega
  | k + 1, j, h, hj => by
    have hlen : (c.fPages.take i).length = i := by simp; omega
    rw [G_ringref2_Caches_L3]
    by_cases h1 : j < (c.fPages.take i).length
    · have w1 : wi .i64 ((i : Int) - 1) = (i : Int) - 1 := wi64 (by omega) (by omega)
      have c2 : G_ringref2_Caches_C2 n (i : Int) (j : Int) c (c.fPages.take i) y (c.fPages.take i)[j] = some (.x0 (decide (bd c.fPages i y j h1))) := by
        unfold bd ltP G_ringref2_Caches_C2
        generalize (c.fPages.take i)[j] = x
        rw [w1]
        by_cases a1 : y.fDirty > 0
        · rw [if_pos a1]
          by_cases a2 : x.fDirty = y.fDirty
          · rw [if_pos a2, decide_eq_true (by omega)]
          · rw [if_neg a2]
            by_cases a3 : (j : Int) = (i : Int) - 1
            · rw [if_pos a3]
              by_cases a4 : x.fFile > y.fFile
              · rw [if_pos a4, decide_eq_true (by omega)]
              · rw [if_neg a4]
                by_cases a5 : x.fFile = y.fFile
                · rw [if_pos a5]; congr 2; rw [Bool.eq_iff_iff]; simp only [decide_eq_true_eq]; omega
                · rw [if_neg a5, decide_eq_false (by omega)]
            · rw [if_neg a3, decide_eq_false (by omega)]
        · rw [if_neg a1]
          by_cases a3 : (j : Int) = (i : Int) - 1
          · rw [if_pos a3]
            by_cases a4 : x.fFile > y.fFile
            · rw [if_pos a4, decide_eq_true (by omega)]
            · rw [if_neg a4]
              by_cases a5 : x.fFile = y.fFile
              · rw [if_pos a5]; congr 2; rw [Bool.eq_iff_iff]; simp only [decide_eq_true_eq]; omega
              · rw [if_neg a5, decide_eq_false (by omega)]
          · rw [if_neg a3, decide_eq_false (by omega)]
      rw [if_pos (by omega), getI_nat, List.getElem?_eq_getElem h1, Option.bind_some, c2, Option.bind_some]
      simp only
      by_cases hb : bd c.fPages i y j h1
      · rw [decide_eq_true hb]
        exact .inl ⟨rfl, j, h1, Nat.le_refl _, hb⟩
      · rw [decide_eq_false hb, if_neg (by simp), wi_succ (by omega)]
        rcases inner_loop n c i y hi hl k (j + 1) (by omega) (by omega) with ⟨g1, m, hm, g2, g3⟩ | ⟨g1, g2⟩
        · exact .inl ⟨g1, m, hm, by omega, g3⟩
        · refine .inr ⟨g1, fun m hm hjm => ?_⟩
          by_cases e : m = j
          · subst e; exact hb
          · exact g2 m hm (by omega)
    · rw [if_neg (by omega)]
      exact .inr ⟨rfl, fun m hm hjm => by omega⟩
theorem check_loop (n : Nat) (hn : 200 < n) (c : Ca) (hl : c.fPages.length ≤ 64) (hc : 1 ≤ c.fClock ∧ c.fClock ≤ 1073741824) : ∀ (k i : Nat) (w : List (Int × Bool)), c.fPages.length - i < k → i ≤ c.fPages.length → (∀ d : Int, (mget w d).getD false = (c.fPages.take i).any (fun p => p.fDirty == d)) →
    (∃ e : Int, e ≠ 0 ∧ G_pages_Check_L3 n c k (i : Int) w = some (.x0 e) ∧ G_ringref2_Caches_L4 n c k (i : Int) = some (.x0 e)) ∨
    (G_pages_Check_L3 n c k (i : Int) w = some .x1 ∧ G_ringref2_Caches_L4 n c k (i : Int) = some .x1 ∧ ∀ j (hj : j < c.fPages.length), i ≤ j → rg c c.fPages[j] ∧ (0 < j → ltP c.fPages[j - 1] c.fPages[j]))
  | 0, i, w, h, _, _ => by omega
  | k + 1, i, w, h, hi, hS => by
    rw [G_pages_Check_L3, G_ringref2_Caches_L4]
    by_cases h1 : i < c.fPages.length
    · rw [if_pos (by omega), if_pos (by omega), getI_nat, List.getElem?_eq_getElem h1, Option.bind_some, Option.bind_some]
      have hd : c.fPages.take (i + 1) = c.fPages.take i ++ [c.fPages[i]] := List.take_succ_eq_append_getElem h1
      have hin := inner_loop n c i c.fPages[i] hi hl n 0 (by simp; omega) (by omega)
      have hlen : (c.fPages.take i).length = i := by simp; omega
      generalize hy : c.fPages[i] = y at *
      have c1 : G_pages_Check_C1 n (i : Int) c w y = some (.x0 (decide (¬ rg c y)) w) := by
        unfold G_pages_Check_C1
        rw [right_any, Option.bind_some]
        unfold rgt rg
        by_cases a1 : 1 ≤ y.fFile ∧ y.fFile ≤ 32 ∧ 0 ≤ y.fN ∧ y.fN ≤ 31
        · rw [decide_eq_true a1, if_pos rfl]
          by_cases a2 : y.fMaps < 0
          · rw [if_pos a2, decide_eq_true (by omega)]
          by_cases a3 : y.fMaps > 64
          · rw [if_neg a2, if_pos a3, decide_eq_true (by omega)]
          by_cases a4 : y.fDirty < 0
          · rw [if_neg a2, if_neg a3, if_pos a4, decide_eq_true (by omega)]
          rw [if_neg a2, if_neg a3, if_neg a4]
          congr 2
          rw [Bool.eq_iff_iff]; simp only [decide_eq_true_eq]; omega
        · rw [decide_eq_false a1, if_neg (by simp), decide_eq_true (by omega)]
      have c1' : G_ringref2_Caches_C1 n (i : Int) c y = some (.x0 (decide (¬ rg c y))) := by
        unfold G_ringref2_Caches_C1
        have w1 : wi .i64 (c.fClock - 1) = c.fClock - 1 := wi64 (by omega) (by omega)
        rw [file_any, Option.bind_some, w1]
        unfold rgt rg
        by_cases a1 : 1 ≤ y.fFile ∧ y.fFile ≤ 32 ∧ 0 ≤ y.fN ∧ y.fN ≤ 31
        · rw [decide_eq_true a1, if_pos rfl, in_any, Option.bind_some]
          by_cases a2 : 0 ≤ y.fMaps ∧ y.fMaps ≤ 64
          · rw [decide_eq_true a2, if_pos rfl, in_any, Option.bind_some]
            congr 2
            rw [Bool.eq_iff_iff]; simp only [Bool.not_eq_true', decide_eq_false_iff_not, decide_eq_true_eq]; omega
          · rw [decide_eq_false a2, if_neg (by simp), decide_eq_true (by omega)]
        · rw [decide_eq_false a1, if_neg (by simp), decide_eq_true (by omega)]
      rw [c1, c1', Option.bind_some, Option.bind_some]
      simp only
      by_cases hr : rg c y
      · rw [decide_eq_false (by simpa using hr), if_neg (by simp), if_neg (by simp), sub0 _ i (by omega), Option.bind_some]
        have c2 : G_pages_Check_C2 n (i : Int) c w y = some (.x0 (decide (∃ m, ∃ hm : m < (c.fPages.take i).length, bd c.fPages i y m hm)) w) := by
          have hany : ((mget w y.fDirty).getD false) = true ↔ ∃ m, ∃ hm : m < (c.fPages.take i).length, (c.fPages.take i)[m].fDirty = y.fDirty := by
            rw [hS, List.any_eq_true]
            constructor
            · rintro ⟨p, hp, e⟩
              obtain ⟨m, hm, rfl⟩ := List.mem_iff_getElem.1 hp
              exact ⟨m, hm, by simpa using e⟩
            · rintro ⟨m, hm, e⟩
              exact ⟨_, List.getElem_mem hm, by simpa using e⟩
          unfold G_pages_Check_C2
          by_cases h0 : 0 < i
          · have hp : i - 1 < c.fPages.length := by omega
            have w1 : wi .i64 ((i : Int) - 1) = ((i - 1 : Nat) : Int) := by rw [wi64 (by omega) (by omega)]; omega
            have hpt : ∀ hm : i - 1 < (c.fPages.take i).length, (c.fPages.take i)[i - 1] = c.fPages[i - 1] := fun hm => List.getElem_take
            obtain ⟨z, z1, z2, _⟩ := order_any n (by omega) c.fPages[i - 1] y
            rw [if_pos (by omega), w1, getI_nat, List.getElem?_eq_getElem hp, Option.bind_some, z1, Option.bind_some]
            by_cases a1 : z ≥ 0
            · rw [if_pos a1, decide_eq_true]
              exact ⟨i - 1, by omega, .inr ⟨by omega, by rw [hpt]; intro q; have := z2.2 q; omega⟩⟩
            · rw [if_neg a1]
              have hlt : ltP c.fPages[i - 1] y := z2.1 (by omega)
              by_cases a2 : y.fDirty > 0
              · rw [if_pos a2]
                congr 2
                rw [Bool.eq_iff_iff, hany, decide_eq_true_eq]
                constructor
                · rintro ⟨m, hm, e⟩; exact ⟨m, hm, .inl ⟨a2, e⟩⟩
                · rintro ⟨m, hm, e | ⟨e1, e2⟩⟩
                  · exact ⟨m, hm, e.2⟩
                  · have : m = i - 1 := by omega
                    subst this
                    rw [hpt] at e2
                    exact absurd hlt e2
              · rw [if_neg a2, decide_eq_false]
                rintro ⟨m, hm, e | ⟨e1, e2⟩⟩
                · omega
                · have : m = i - 1 := by omega
                  subst this
                  rw [hpt] at e2
                  exact absurd hlt e2
          · have hi0 : i = 0 := by omega
            rw [if_neg (by omega)]
            have hno : ¬ ∃ m, ∃ hm : m < (c.fPages.take i).length, bd c.fPages i y m hm := by rintro ⟨m, hm, _⟩; omega
            have hno2 : ((mget w y.fDirty).getD false) = false := by
              rw [← Bool.not_eq_true, hany]; rintro ⟨m, hm, _⟩; omega
            rw [decide_eq_false hno, hno2]
            split <;> rfl
        have hin0 : ((0 : Nat) : Int) = 0 := rfl
        rw [c2, Option.bind_some]
        simp only
        rcases hin with ⟨g1, m, hm, _, g3⟩ | ⟨g1, g2⟩
        · have g1 : G_ringref2_Caches_L3 n (i : Int) c (c.fPages.take i) y n 0 = _ := g1
          rw [g1, Option.bind_some, decide_eq_true ⟨m, hm, g3⟩, if_pos rfl]
          exact .inl ⟨3, by decide, rfl, rfl⟩
        · have g1 : G_ringref2_Caches_L3 n (i : Int) c (c.fPages.take i) y n 0 = _ := g1
          have hno : ¬ ∃ m, ∃ hm : m < (c.fPages.take i).length, bd c.fPages i y m hm := by rintro ⟨m, hm, q⟩; exact g2 m hm (by omega) q
          rw [g1, Option.bind_some, decide_eq_false hno, if_neg (by simp), wi_succ (by omega)]
          simp only
          rcases check_loop n hn c hl hc k (i + 1) (mput w y.fDirty true) (by omega) (by omega) (fun d => by
            rw [mget_mput, hd, List.any_append, List.any_cons, List.any_nil, Bool.or_false, ← hS]
            by_cases e : d = y.fDirty
            · rw [if_pos e, e]; simp
            · rw [if_neg e, beq_eq_false_iff_ne.2 (fun q => e q.symm), Bool.or_false]) with h' | ⟨f1, f2, f3⟩
          · exact .inl h'
          · refine .inr ⟨f1, f2, fun j hj hij => ?_⟩
            by_cases e : j = i
            · subst e
              rw [hy]
              refine ⟨hr, fun h0 => ?_⟩
              have hm : j - 1 < (c.fPages.take j).length := by omega
              have := g2 (j - 1) hm (by omega)
              unfold bd at this
              have ht : (c.fPages.take j)[j - 1] = c.fPages[j - 1] := List.getElem_take
              rw [ht] at this
              by_cases q : ltP c.fPages[j - 1] y
              · exact q
              · exact absurd (.inr ⟨by omega, q⟩) this
            · exact f3 j hj (by omega)
      · rw [decide_eq_true hr, if_pos rfl, if_pos rfl]
        exact .inl ⟨1, by decide, rfl, rfl⟩
    · rw [if_neg (by omega), if_neg (by omega)]
      exact .inr ⟨rfl, rfl, fun j hj hij => by omega⟩
theorem sorted_of (l : List Pg) (h : ∀ j (hj : j < l.length), 0 < j → ltP l[j - 1] l[j]) : l.Pairwise ltP := by
  rw [List.pairwise_iff_getElem]
  have key : ∀ d i (hi : i < l.length) (hj : i + d + 1 < l.length), ltP l[i] l[i + d + 1] := by
    intro d
    induction d with
    | zero => intro i hi hj; have := h (i + 1) hj (by omega); simpa using this
    | succ d ih =>
      intro i hi hj
      have h1 := ih i hi (by omega)
      have h2 := h (i + (d + 1) + 1) hj (by omega)
      have e : i + (d + 1) + 1 - 1 = i + d + 1 := by omega
      simp only [e] at h2
      exact ltP_trans h1 h2
  intro i j hi hj hij
  have e : j = i + (j - i - 1) + 1 := by omega
  have := key (j - i - 1) i hi (by omega)
  simp only [← e] at this
  exact this
theorem check_any (n : Nat) (hn : 200 < n) (c : Ca) : ∃ e : Int, G_pages_Check n c = some e ∧ G_ringref2_Caches n c = some e ∧ (e = 0 → okC c) := by
  unfold G_pages_Check G_ringref2_Caches G_pages_Check_J1
  by_cases h64 : (c.fPages.length : Int) > 64
  · rw [if_pos h64, if_pos h64]
    exact ⟨2, rfl, rfl, fun h => absurd h (by decide)⟩
  · rw [if_neg h64, if_neg h64, in_any, Option.bind_some]
    by_cases a1 : c.fClock < 1
    · rw [if_pos a1, decide_eq_false (by omega), if_neg (by simp)]
      exact ⟨1, rfl, rfl, fun h => absurd h (by decide)⟩
    by_cases a2 : c.fClock > 1073741824
    · rw [if_neg a1, if_pos a2, decide_eq_false (by omega), if_neg (by simp)]
      exact ⟨1, rfl, rfl, fun h => absurd h (by decide)⟩
    rw [if_neg a1, if_neg a2, decide_eq_true (by omega), if_pos rfl]
    rcases check_loop n hn c (by omega) (by omega) n 0 [] (by omega) (by omega) (fun d => by simp [mget_nil]) with ⟨e, h0, h1, h2⟩ | ⟨h1, h2, h3⟩
    · have h1 : G_pages_Check_L3 n c n 0 [] = _ := h1
      have h2 : G_ringref2_Caches_L4 n c n 0 = _ := h2
      rw [h1, h2]
      exact ⟨e, rfl, rfl, fun h => absurd h h0⟩
    · have h1 : G_pages_Check_L3 n c n 0 [] = _ := h1
      have h2 : G_ringref2_Caches_L4 n c n 0 = _ := h2
      rw [h1, h2]
      refine ⟨0, rfl, rfl, fun _ => ⟨by omega, by omega, by omega, fun p hp => ?_, sorted_of _ fun j hj h0 => (h3 j hj (by omega)).2 h0⟩⟩
      obtain ⟨j, hj, rfl⟩ := List.mem_iff_getElem.1 hp
      exact (h3 j hj (by omega)).1
/-! where a page is -/
/-- i0 is the first place at which a page is not ahead of t -/
structure At (l : List Pg) (t : Pg) (i0 : Nat) : Prop where
  le : i0 ≤ l.length
  lo : ∀ j (hj : j < l.length), j < i0 → ltP l[j] t
  hi : ∀ j (hj : j < l.length), i0 ≤ j → ¬ ltP l[j] t
theorem at_ex (t : Pg) : ∀ (l : List Pg), l.Pairwise ltP → ∃ i0, At l t i0
  | [], _ => ⟨0, ⟨by simp, fun j hj => by simp at hj, fun j hj => by simp at hj⟩⟩
  | a :: l, h => by
    obtain ⟨h1, h2⟩ := List.pairwise_cons.1 h
    by_cases ha : ltP a t
    · obtain ⟨i0, ⟨p1, p2, p3⟩⟩ := at_ex t l h2
      refine ⟨i0 + 1, ⟨by simp; omega, fun j hj hji => ?_, fun j hj hji => ?_⟩⟩
      · cases j with
        | zero => exact ha
        | succ j => exact p2 j (by simpa using hj) (by omega)
      · cases j with
        | zero => omega
        | succ j => exact p3 j (by simpa using hj) (by omega)
    · refine ⟨0, ⟨by simp, fun j hj hji => by omega, fun j hj _ => ?_⟩⟩
      cases j with
      | zero => exact ha
      | succ j =>
        intro q
        exact ha (ltP_trans (h1 _ (List.getElem_mem (by simpa using hj))) q)
theorem half {i j : Nat} (h : i + j ≤ 1000) : wi .i64 (shrI .u64 (wi .u64 (wi .i64 ((i : Int) + (j : Int)))) 1) = (((i + j) / 2 : Nat) : Int) := by
  have w1 : wi .i64 ((i : Int) + (j : Int)) = ((i + j : Nat) : Int) := by rw [wi64 (by omega) (by omega)]; omega
  have w2 : wi .u64 ((i + j : Nat) : Int) = ((i + j : Nat) : Int) := by rw [wi, IntKind.wrap_u64]; omega
  have w3 : shrI .u64 ((i + j : Nat) : Int) 1 = (((i + j) / 2 : Nat) : Int) := by
    have : shrI .u64 ((i + j : Nat) : Int) 1 = Int.fdiv ((i + j : Nat) : Int) (2 ^ 1) := rfl
    rw [this, Int.fdiv_eq_ediv_of_nonneg _ (by decide)]; omega
  rw [w1, w2, w3, wi64 (by omega) (by omega)]
theorem bs_loop (n : Nat) (hn : 200 < n) (l : List Pg) (t : Pg) (i0 : Nat) (A : At l t i0) (hl : l.length ≤ 64) : ∀ (k i j : Nat), j - i < k → i ≤ i0 → i0 ≤ j → j ≤ l.length →
    G_slices_BinarySearchFunc_pages_Page_pages_Page_pages_Page_L1 n l (fun y0 y1 => G_pages_order n y0 y1) t k (i : Int) (j : Int) = some (.x0 (i0 : Int))
  | 0, i, j, h, _, _, _ => by omega
  | k + 1, i, j, h, hi, hj, hjl => by
    rw [G_slices_BinarySearchFunc_pages_Page_pages_Page_pages_Page_L1]
    by_cases h1 : i < j
    · have hh : (i + j) / 2 < l.length := by omega
      rw [if_pos (by omega), half (by omega), getI_nat, List.getElem?_eq_getElem hh, Option.bind_some]
      obtain ⟨z, z1, z2, _⟩ := order_any n (by omega) l[(i + j) / 2] t
      rw [z1, Option.bind_some]
      by_cases e : z < 0
      · have hlt := z2.1 e
        have : (i + j) / 2 < i0 := by
          rcases Nat.lt_or_ge ((i + j) / 2) i0 with q | q
          · exact q
          · exact absurd hlt (A.hi _ hh q)
        rw [if_pos e, wi_succ (by omega)]
        exact bs_loop n hn l t i0 A hl k ((i + j) / 2 + 1) j (by omega) (by omega) (by omega) (by omega)
      · have : i0 ≤ (i + j) / 2 := by
          rcases Nat.lt_or_ge ((i + j) / 2) i0 with q | q
          · exact absurd (z2.2 (A.lo _ hh q)) e
          · exact q
        rw [if_neg e]
        exact bs_loop n hn l t i0 A hl k i ((i + j) / 2) (by omega) (by omega) (by omega) (by omega)
    · rw [if_neg (by omega)]
      have : i = i0 := by omega
      rw [this]
def tg (f q : Int) : Pg := ⟨f, q, 0, 0, fun _ => 0⟩
/-- is a page there? -/
def isAt (l : List Pg) (f q : Int) (i0 : Nat) : Bool := match l[i0]? with | some p => decide (p.fFile = f ∧ p.fN = q) | none => false
theorem bs_any (n : Nat) (hn : 200 < n) (l : List Pg) (f q : Int) (i0 : Nat) (A : At l (tg f q) i0) (hl : l.length ≤ 64) :
    G_slices_BinarySearchFunc_pages_Page_pages_Page_pages_Page n l (tg f q) (fun y0 y1 => G_pages_order n y0 y1) = some ((i0 : Int), isAt l f q i0) := by
  unfold G_slices_BinarySearchFunc_pages_Page_pages_Page_pages_Page isAt
  have h := bs_loop n hn l (tg f q) i0 A hl n 0 l.length (by omega) (by omega) A.le (Nat.le_refl _)
  have h : G_slices_BinarySearchFunc_pages_Page_pages_Page_pages_Page_L1 n l (fun y0 y1 => G_pages_order n y0 y1) (tg f q) n 0 (l.length : Int) = _ := h
  rw [h, Option.bind_some]
  simp only
  by_cases h1 : i0 < l.length
  · obtain ⟨z, z1, _, z3⟩ := order_any n (by omega) l[i0] (tg f q)
    rw [if_pos (by omega), getI_nat, List.getElem?_eq_getElem h1, Option.bind_some, z1, Option.bind_some]
    congr 2
    rw [Bool.eq_iff_iff]
    simp only [beq_iff_eq, decide_eq_true_eq, z3]
    exact Iff.rfl
  · rw [if_neg (by omega), List.getElem?_eq_none (by omega)]
theorem cat_loop (n : Nat) (c : Ca) (f q : Int) (hl : c.fPages.length < 4611686018427387903) : ∀ (k i : Nat), c.fPages.length - i < k → i ≤ c.fPages.length →
    (∃ m, ∃ hm : m < c.fPages.length, i ≤ m ∧ (c.fPages[m].fFile = f ∧ c.fPages[m].fN = q) ∧ (∀ j (hj : j < c.fPages.length), i ≤ j → j < m → ¬ (c.fPages[j].fFile = f ∧ c.fPages[j].fN = q)) ∧ G_ringref2_CacheAt_L1 n f q c k (i : Int) = some (.x0 (m : Int))) ∨
    (G_ringref2_CacheAt_L1 n f q c k (i : Int) = some .x1 ∧ ∀ j (hj : j < c.fPages.length), i ≤ j → ¬ (c.fPages[j].fFile = f ∧ c.fPages[j].fN = q))
  | 0, i, h, _ => by omega
  | k + 1, i, h, hi => by
    rw [G_ringref2_CacheAt_L1]
    by_cases h1 : i < c.fPages.length
    · rw [if_pos (by omega), getI_nat, List.getElem?_eq_getElem h1, Option.bind_some, wi_succ (by omega)]
      have step : ¬ (c.fPages[i].fFile = f ∧ c.fPages[i].fN = q) → (∃ m, ∃ hm : m < c.fPages.length, i ≤ m ∧ (c.fPages[m].fFile = f ∧ c.fPages[m].fN = q) ∧ (∀ j (hj : j < c.fPages.length), i ≤ j → j < m → ¬ (c.fPages[j].fFile = f ∧ c.fPages[j].fN = q)) ∧ G_ringref2_CacheAt_L1 n f q c k ((i + 1 : Nat) : Int) = some (.x0 (m : Int))) ∨
          (G_ringref2_CacheAt_L1 n f q c k ((i + 1 : Nat) : Int) = some .x1 ∧ ∀ j (hj : j < c.fPages.length), i ≤ j → ¬ (c.fPages[j].fFile = f ∧ c.fPages[j].fN = q)) := by
        intro hne
        rcases cat_loop n c f q hl k (i + 1) (by omega) (by omega) with ⟨m, hm, g1, g2, g3, g4⟩ | ⟨g1, g2⟩
        · refine .inl ⟨m, hm, by omega, g2, fun j hj hij hjm => ?_, g4⟩
          by_cases e : j = i
          · subst e; exact hne
          · exact g3 j hj (by omega) hjm
        · refine .inr ⟨g1, fun j hj hij => ?_⟩
          by_cases e : j = i
          · subst e; exact hne
          · exact g2 j hj (by omega)
      by_cases a1 : c.fPages[i].fFile = f
      · rw [if_pos a1]
        by_cases a2 : c.fPages[i].fN = q
        · rw [if_pos a2]
          exact .inl ⟨i, h1, Nat.le_refl _, ⟨a1, a2⟩, fun j hj hij hjm => by omega, rfl⟩
        · rw [if_neg a2]
          exact step (fun h => a2 h.2)
      · rw [if_neg a1]
        exact step (fun h => a1 h.1)
    · rw [if_neg (by omega)]
      exact .inr ⟨rfl, fun j hj hij => by omega⟩
theorem cat_some (n : Nat) (c : Ca) (f q : Int) (hl : c.fPages.length < 4611686018427387903) (hn : c.fPages.length < n) : ∃ z : Int, G_ringref2_CacheAt n c f q = some z := by
  unfold G_ringref2_CacheAt
  rcases cat_loop n c f q hl n 0 (by omega) (by omega) with ⟨m, hm, _, _, _, g⟩ | ⟨g, _⟩
  · have g : G_ringref2_CacheAt_L1 n f q c n 0 = _ := g
    rw [g]; exact ⟨_, rfl⟩
  · have g : G_ringref2_CacheAt_L1 n f q c n 0 = _ := g
    rw [g]; exact ⟨_, rfl⟩
theorem cat_any (n : Nat) (hn : 200 < n) (c : Ca) (f q : Int) (hc : okC c) (i0 : Nat) (A : At c.fPages (tg f q) i0) : G_ringref2_CacheAt n c f q = some (if isAt c.fPages f q i0 then (i0 : Int) else -1) := by
  have hl := hc.1
  have hsort := List.pairwise_iff_getElem.1 hc.2.2.2.2
  unfold G_ringref2_CacheAt isAt
  rcases cat_loop n c f q (by omega) n 0 (by omega) (by omega) with ⟨m, hm, _, g2, g3, g4⟩ | ⟨g1, g2⟩
  · have g4 : G_ringref2_CacheAt_L1 n f q c n 0 = _ := g4
    have hm0 : m = i0 := by
      rcases Nat.lt_trichotomy m i0 with h | h | h
      · have := A.lo m hm h
        unfold ltP tg at this
        simp only at this
        omega
      · exact h
      · have h1 := hsort i0 m (by omega) hm h
        have h2 := A.hi i0 (by omega) (Nat.le_refl _)
        exfalso
        apply h2
        unfold ltP tg at *
        simp only at *
        omega
    subst hm0
    rw [g4, Option.bind_some, List.getElem?_eq_getElem hm]
    simp only
    rw [if_pos (decide_eq_true g2)]
  · have g1 : G_ringref2_CacheAt_L1 n f q c n 0 = _ := g1
    rw [g1, Option.bind_some]
    simp only
    cases hq : c.fPages[i0]? with
    | none => rfl
    | some p =>
      obtain ⟨h1, rfl⟩ := List.getElem?_eq_some_iff.1 hq
      simp only
      rw [if_neg (by rw [decide_eq_false (g2 i0 h1 (by omega))]; simp)]
end pg
end Go.Proofs.Ythcdcpcffdongaa.pv
