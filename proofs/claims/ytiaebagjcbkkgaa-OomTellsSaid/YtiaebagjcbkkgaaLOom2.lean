/- OomTells: who go, how many must go, and the law. -/
import Derived.Test.YtiaebagjcbkkgaaLOom
namespace Go.Proofs.Ytiaebagjcbkkgaa.pv
set_option linter.all false
open Go.RowKit help
namespace om

def ids (l : List T) : List Int := l.map (·.fId)
def szs (l : List T) : List Int := l.map (·.fPages)
def tot : List T → Int
  | [] => 0
  | t :: l => t.fPages + tot l
theorem tot_perm {a b : List T} (h : a.Perm b) : tot a = tot b := by
  induction h with
  | nil => rfl
  | cons x _ ih => simp only [tot, ih]
  | swap x y l => simp only [tot]; omega
  | trans _ _ h1 h2 => exact h1.trans h2
theorem ids_loop (n : Nat) (r : List T) (hl : r.length ≤ 16) : ∀ (k i : Nat), r.length - i < k → i ≤ r.length → G_oom_Order_L1 n r k (i : Int) (ids (r.take i)) r = some (.x0 (ids r))
  | 0, i, h, _ => by omega
  | k + 1, i, h, hi => by
    rw [G_oom_Order_L1]
    by_cases h1 : i < r.length
    · have e : ids (r.take i) ++ [r[i].fId] = ids (r.take (i + 1)) := by unfold ids; rw [List.take_succ_eq_append_getElem h1, List.map_append]; rfl
      rw [if_pos (by omega), if_pos ⟨by omega, by simpa using h1⟩, Int.toNat_natCast, List.getElem?_eq_getElem h1, Option.bind_some, app_some (by simp [ids]; omega) (by omega), Option.bind_some, wi_succ (by omega), e]
      exact ids_loop n r hl k (i + 1) (by omega) (by omega)
    · rw [if_neg (by omega), List.take_of_length_le (by omega)]
/-- who go, so that N pages come free -/
def pk (N : Int) : List T → Int → List Int → Int × List Int
  | [], s, w => (s, w)
  | t :: r, s, w => if s ≥ N then (s, w) else pk N r (s + t.fPages) (w ++ [t.fId])
theorem pk_full {N : Int} : ∀ (r : List T) (s : Int) (w : List Int), s ≥ N → pk N r s w = (s, w)
  | [], s, w, _ => rfl
  | t :: r, s, w, h => by rw [pk, if_pos h]
theorem pk_len {N : Int} : ∀ (r : List T) (s : Int) (w : List Int), (pk N r s w).2.length ≤ w.length + r.length
  | [], s, w => by simp [pk]
  | t :: r, s, w => by
    rw [pk]
    split
    · exact Nat.le_add_right _ _
    · have := pk_len (N := N) r (s + t.fPages) (w ++ [t.fId]); simp at this ⊢; omega
theorem pk_tot {N : Int} : ∀ (r : List T) (s : Int) (w : List Int), (∀ t ∈ r, 0 ≤ t.fPages) → ((pk N r s w).1 < N ↔ s + tot r < N)
  | [], s, w, _ => by simp [pk, tot]
  | t :: r, s, w, h => by
    have h0 : 0 ≤ tot r := by
      have : ∀ l : List T, (∀ t ∈ l, 0 ≤ t.fPages) → 0 ≤ tot l := by
        intro l; induction l with
        | nil => intro _; simp [tot]
        | cons a l ih => intro hq; have := hq a (by simp); have := ih (fun t ht => hq t (by simp [ht])); simp only [tot]; omega
      exact this r (fun t ht => h t (by simp [ht]))
    have ht := h t (by simp)
    rw [pk, tot]
    split
    · simp only; omega
    · rw [pk_tot r _ _ (fun t ht => h t (by simp [ht]))]; omega
theorem pick_any (n : Nat) (N : Int) (r : List T) (hl : r.length ≤ 16) (hr : ∀ t ∈ r, rg t) : ∀ (k i : Nat) (s : Int) (w : List Int), r.length - i < k → i ≤ r.length → 0 ≤ s → s ≤ (i : Int) * 1048576 → w.length ≤ i →
    G_oom_Pick_L1 n N r k s (i : Int) w r = some (.x0 (pk N (r.drop i) s w).1 (pk N (r.drop i) s w).2) := by
  intro k
  induction k with
  | zero => intro i s w h; omega
  | succ k ih =>
    intro i s w h hi h0 hs hw
    rw [G_oom_Pick_L1]
    by_cases h1 : i < r.length
    · have hp := hr r[i] (List.getElem_mem h1)
      unfold rg at hp
      rw [if_pos (by omega), if_pos ⟨by omega, by simpa using h1⟩, Int.toNat_natCast, List.getElem?_eq_getElem h1, Option.bind_some, drop_cons (List.getElem?_eq_getElem h1), pk]
      by_cases e : s ≥ N
      · rw [if_pos e, if_pos e]
      · rw [if_neg e, if_neg e, app_some (by simp; omega) (by omega), Option.bind_some, wi_succ (by omega), wi64 (x := s + _) (by omega) (by omega)]
        exact ih (i + 1) _ _ (by omega) (by omega) (by omega) (by omega) (by simp; omega)
    · rw [if_neg (by omega), List.drop_eq_nil_of_le (by omega)]; rfl
theorem all_any (n : Nat) (N : Int) (a : List Int × Int) (b : List Int × Int × Int) (c : Int × Int) (d : Int) (r : List T) (hl : r.length ≤ 16) (hr : ∀ t ∈ r, rg t) : ∀ (k i : Nat) (s al : Int) (w : List Int), r.length - i < k → i ≤ r.length → 0 ≤ s → s ≤ (i : Int) * 1048576 → 0 ≤ al → al ≤ (i : Int) * 1048576 → w.length ≤ i →
    G_ringlaw2_OomTells_L2 n N a b c d r k s al (i : Int) (ids (r.take i)) w (szs (r.take i)) = some (.x0 (pk N (r.drop i) s w).1 (al + tot (r.drop i)) (ids r) (pk N (r.drop i) s w).2 (szs r)) := by
  intro k
  induction k with
  | zero => intro i s al w h; omega
  | succ k ih =>
    intro i s al w h hi h0 hs ha0 ha hw
    rw [G_ringlaw2_OomTells_L2]
    by_cases h1 : i < r.length
    · have hp := hr r[i] (List.getElem_mem h1)
      unfold rg at hp
      have e1 : ids (r.take i) ++ [r[i].fId] = ids (r.take (i + 1)) := by unfold ids; rw [List.take_succ_eq_append_getElem h1, List.map_append]; rfl
      have e2 : szs (r.take i) ++ [r[i].fPages] = szs (r.take (i + 1)) := by unfold szs; rw [List.take_succ_eq_append_getElem h1, List.map_append]; rfl
      rw [if_pos (by omega), getI_nat, List.getElem?_eq_getElem h1, Option.bind_some, app_some (by simp [ids]; omega) (by omega), Option.bind_some, app_some (by simp [szs]; omega) (by omega), Option.bind_some, drop_cons (List.getElem?_eq_getElem h1), pk, tot, e1, e2, wi_succ (by omega), wi64 (x := al + _) (by omega) (by omega)]
      by_cases e : s < N
      · rw [if_pos e, if_neg (by omega), app_some (by simp; omega) (by omega), Option.bind_some, wi64 (x := s + _) (by omega) (by omega), ih (i + 1) _ _ _ (by omega) (by omega) (by omega) (by omega) (by omega) (by omega) (by simp; omega), Int.add_assoc]
      · rw [if_neg e, if_pos (by omega), ih (i + 1) _ _ _ (by omega) (by omega) (by omega) (by omega) (by omega) (by omega) (by omega), Int.add_assoc, pk_full _ _ _ (by omega)]
    · rw [if_neg (by omega), List.drop_eq_nil_of_le (by omega), List.take_of_length_le (by omega)]
      simp [pk, tot]
/-- how many must go -/
def fe (N : Int) : List T → Int → Int → Option Int
  | [], _, _ => none
  | t :: r, s, x => if s + t.fPages ≥ N then some (x + 1) else fe N r (s + t.fPages) (x + 1)
theorem fe_none {N : Int} : ∀ (r : List T) (s x : Int), s < N → (∀ t ∈ r, 0 ≤ t.fPages) → (fe N r s x = none ↔ s + tot r < N)
  | [], s, x, h, _ => by simp [fe, tot]; omega
  | t :: r, s, x, h, hp => by
    have h0 : 0 ≤ tot r := by
      have : ∀ l : List T, (∀ t ∈ l, 0 ≤ t.fPages) → 0 ≤ tot l := by
        intro l; induction l with
        | nil => intro _; simp [tot]
        | cons a l ih => intro hq; have := hq a (by simp); have := ih (fun t ht => hq t (by simp [ht])); simp only [tot]; omega
      exact this r (fun t ht => hp t (by simp [ht]))
    rw [fe, tot]
    by_cases e : s + t.fPages ≥ N
    · rw [if_pos e]; simp; omega
    · rw [if_neg e, fe_none r _ _ (by omega) (fun t ht => hp t (by simp [ht]))]; omega
theorem few_any (n : Nat) (N : Int) (r : List T) (hl : r.length ≤ 16) (hr : ∀ t ∈ r, rg t) : ∀ (k i : Nat) (s : Int), r.length - i < k → i ≤ r.length → 0 ≤ s → s ≤ (i : Int) * 1048576 →
    G_oom_Fewest_L1 n N r k s (i : Int) r = some (match fe N (r.drop i) s (i : Int) with | some c => .x0 c 0 | none => .x1) := by
  intro k
  induction k with
  | zero => intro i s h; omega
  | succ k ih =>
    intro i s h hi h0 hs
    rw [G_oom_Fewest_L1]
    by_cases h1 : i < r.length
    · have hp := hr r[i] (List.getElem_mem h1)
      unfold rg at hp
      rw [if_pos (by omega), if_pos ⟨by omega, by simpa using h1⟩, Int.toNat_natCast, List.getElem?_eq_getElem h1, Option.bind_some, drop_cons (List.getElem?_eq_getElem h1), fe, wi64 (x := s + _) (by omega) (by omega), wi_succ (by omega)]
      by_cases e : s + r[i].fPages ≥ N
      · rw [if_pos e, if_pos e]; simp
      · rw [if_neg e, if_neg e, ih (i + 1) _ (by omega) (by omega) (by omega) (by omega)]
        rw [show ((i + 1 : Nat) : Int) = (i : Int) + 1 by omega]
    · rw [if_neg (by omega), List.drop_eq_nil_of_le (by omega)]; rfl
theorem max_loop (n : Nat) (N : Int) (b : List Int × Int × Int) (c : Int × Int) (z few have_ : Int) (want w : List Int) (hl : w.length ≤ 16) : ∀ (k i m : Nat), w.length - i < k → i ≤ w.length → (hm : m < w.length) → (∀ j (hj : j < w.length), j < i → w[j] ≤ w[m]) →
    ∃ q, ∃ hq : q < w.length, G_ringlaw2_OomTells_L5 n N b c z few have_ w k (m : Int) (i : Int) want w = some (.x0 (q : Int) want w) ∧ ∀ j (hj : j < w.length), w[j] ≤ w[q]
  | 0, i, m, h, _, _, _ => by omega
  | k + 1, i, m, h, hi, hm, hmax => by
    rw [G_ringlaw2_OomTells_L5]
    by_cases h1 : i < w.length
    · simp only [Int.toNat_natCast]
      rw [if_pos (by omega), if_pos ⟨by omega, h1⟩, List.getElem?_eq_getElem h1, Option.bind_some, if_pos ⟨by omega, hm⟩, List.getElem?_eq_getElem hm, Option.bind_some, wi_succ (by omega)]
      by_cases e : w[i] > w[m]
      · rw [if_pos e]
        exact max_loop n N b c z few have_ want w hl k (i + 1) i (by omega) (by omega) h1 (fun j hj hji => by
          by_cases q : j = i
          · subst q; omega
          · have := hmax j hj (by omega); omega)
      · rw [if_neg e]
        exact max_loop n N b c z few have_ want w hl k (i + 1) m (by omega) (by omega) hm (fun j hj hji => by
          by_cases q : j = i
          · subst q; omega
          · exact hmax j hj (by omega))
    · rw [if_neg (by omega)]
      exact ⟨m, hm, rfl, fun j hj => hmax j hj (by omega)⟩
theorem few_loop (n : Nat) (hn : 110 < n) (N : Int) (b : List Int × Int × Int) (cc : Int × Int) (z : Int) (want : List Int) : ∀ (P : List T) (k m : Nat) (few s : Int) (w : List Int) (c : Int), P.length < k → w.length ≤ 16 → s < N → 0 ≤ few → few + P.length ≤ 16 → 0 ≤ s → s ≤ few * 1048576 → (∀ t ∈ P, rg t ∧ 0 < t.fPages) → P.Pairwise (fun a b => b.fPages ≤ a.fPages) → w.Perm (szs P ++ List.replicate m 0) → fe N P s few = some c →
    G_ringlaw2_OomTells_L6 n N b cc z k few s want w = some (.x0 c want)
  | [], k, m, few, s, w, c, _, _, _, _, _, _, _, _, _, _, hf => by simp [fe] at hf
  | p :: P, 0, m, few, s, w, c, h, _, _, _, _, _, _, _, _, _, _ => by simp at h
  | p :: P, k + 1, m, few, s, w, c, h, hw, hs, hf0, hf16, hs0, hs1, hr, hd, hp, hf => by
    have hp0 := hr p (by simp)
    have hpr := hp0.1
    unfold rg at hpr
    rw [G_ringlaw2_OomTells_L6, if_pos hs]
    have hpm : p.fPages ∈ w := hp.mem_iff.2 (by simp [szs])
    have hle : ∀ x ∈ w, x ≤ p.fPages := by
      intro x hx
      have := hp.mem_iff.1 hx
      simp only [szs, List.map_cons, List.cons_append, List.mem_cons, List.mem_append, List.mem_map, List.mem_replicate] at this
      rcases this with rfl | ⟨t, ht, rfl⟩ | ⟨_, rfl⟩
      · omega
      · exact (List.pairwise_cons.1 hd).1 t ht
      · omega
    have h0 : 0 < w.length := List.length_pos_of_mem hpm
    obtain ⟨q, hq, q1, q2⟩ := max_loop n N b cc z few s want w hw n 0 0 (by omega) (by omega) h0 (fun j hj hji => by omega)
    have q1 : G_ringlaw2_OomTells_L5 n N b cc z few s w n 0 0 want w = _ := q1
    have hwq : w[q] = p.fPages := by
      obtain ⟨j, hj, e⟩ := List.mem_iff_getElem.1 hpm
      have := q2 j hj
      have := hle w[q] (List.getElem_mem hq)
      omega
    rw [q1, Option.bind_some]
    simp only
    rw [if_pos ⟨by omega, by simpa using hq⟩, Int.toNat_natCast, List.getElem?_eq_getElem hq, Option.bind_some, if_pos ⟨by omega, by simpa using hq⟩, Option.bind_some, hwq, wi64 (x := few + 1) (by omega) (by simp at hf16; omega), wi64 (x := s + _) (by omega) (by simp at hf16; omega)]
    have hsplit : w = w.take q ++ p.fPages :: w.drop (q + 1) := by rw [← hwq, ← drop_cons (List.getElem?_eq_getElem hq), List.take_append_drop]
    have hset : w.set q 0 = w.take q ++ 0 :: w.drop (q + 1) := by
      rw [List.set_eq_take_append_cons_drop, if_pos hq]
    have hperm : (w.set q 0).Perm (szs P ++ List.replicate (m + 1) 0) := by
      have h1 : (p.fPages :: (w.take q ++ w.drop (q + 1))).Perm (p.fPages :: (szs P ++ List.replicate m 0)) := by
        have : w.Perm (p.fPages :: (w.take q ++ w.drop (q + 1))) := by
          rw [show (w.Perm (p.fPages :: (w.take q ++ w.drop (q + 1)))) = ((w.take q ++ p.fPages :: w.drop (q + 1)).Perm (p.fPages :: (w.take q ++ w.drop (q + 1)))) by rw [← hsplit]]
          exact List.perm_middle
        exact this.symm.trans hp
      have h2 := (List.perm_cons _).1 h1
      rw [hset, List.replicate_succ]
      exact List.perm_middle.trans (((List.perm_cons 0).2 h2).trans List.perm_middle.symm)
    rw [fe] at hf
    by_cases e : s + p.fPages ≥ N
    · rw [if_pos e] at hf
      cases hf
      obtain ⟨k, rfl⟩ : ∃ j, k = j + 1 := ⟨k - 1, by simp at h; omega⟩
      rw [G_ringlaw2_OomTells_L6, if_neg (by omega)]
    · rw [if_neg e] at hf
      exact few_loop n hn N b cc z want P k (m + 1) (few + 1) (s + p.fPages) (w.set q 0) c (by simp at h; omega) (by simpa using hw) (by omega) (by omega) (by simp at hf16; omega) (by omega) (by omega) (fun t ht => hr t (by simp [ht])) (List.pairwise_cons.1 hd).2 hperm hf
theorem need_any (n : Nat) (l : List T) (N e : Int) (he : G_oom_Check n l = some e) : G_oom_need n l N = some (if e = 0 then (if 1 ≤ N ∧ N ≤ 1048576 then 0 else 1) else e) := by
  unfold G_oom_need G_oom_need_C1
  rw [he, Option.bind_some]
  by_cases h0 : e = 0
  · rw [if_pos h0, if_pos h0]
    by_cases h1 : N < 1
    · rw [if_pos h1, if_neg (by omega)]; rfl
    · rw [if_neg h1]
      by_cases h2 : N > 1048576
      · rw [decide_eq_true h2, if_neg (by omega)]; rfl
      · rw [decide_eq_false h2, if_pos (by omega), h0]; rfl
  · rw [if_neg h0, if_neg h0]; rfl
theorem eq_any (n : Nat) (a : List Int) (h : a.length ≤ 100) (hn : 110 < n) : G_slices_Equal_int_int n a a = some true := by
  obtain ⟨r, h1, h2⟩ := G_slices_Equal_int_int_sp (n := n) a a (by omega) (by omega)
  rw [h1, h2.2 rfl]
theorem law (n : Nat) (hn : 200 < n) (l : List T) (N : Int) : G_ringlaw2_OomTells n l N = some true := by
  obtain ⟨e, c1, c2, c3⟩ := check_any n (by omega) l
  have hnd := need_any n l N e c1
  unfold G_ringlaw2_OomTells
  by_cases h0 : e = 0
  · have hk := c3 h0
    subst h0
    obtain ⟨r, r1, r2, r3⟩ := ordered_any n hn l hk
    obtain ⟨r', t1, t2⟩ := torder_any n hn l hk
    obtain rfl := Ord_unique r2 t2
    have hrg : ∀ t ∈ r, rg t ∧ 0 < t.fPages := fun t ht => live_rg hk t ((r2.1 t).1 ht)
    have hrg' : ∀ t ∈ r, rg t := fun t ht => (hrg t ht).1
    have hl16 := r2.2.2
    have hord : G_oom_Order n l = some (ids r, 0) := by
      unfold G_oom_Order
      have h := ids_loop n r hl16 n 0 (by omega) (by omega)
      have h : G_oom_Order_L1 n r n 0 [] r = _ := h
      rw [c1, Option.bind_some, if_pos rfl, r1, Option.bind_some, h]; rfl
    have hpk := pick_any n N r hl16 hrg' n 0 0 [] (by omega) (by omega) (by omega) (by omega) (by simp)
    have hpk : G_oom_Pick_L1 n N r n 0 0 [] r = some (.x0 (pk N r 0 []).1 (pk N r 0 []).2) := hpk
    have hpl := pk_len (N := N) r 0 []
    have hpt := pk_tot (N := N) r 0 [] (fun t ht => by have := hrg' t ht; unfold rg at this; omega)
    -- sorted by pages
    obtain ⟨s, s1, s2, s3⟩ := so.sorted n (Q := fun _ => True) (cmp := fun y0 y1 => G_oom_Fewest_1 n y0 y1) (lt := fun a b => decide (-a.fPages < -b.fPages)) (fun x y _ _ => by
      refine ⟨cmpI y.fPages x.fPages, by simp only [G_oom_Fewest_1, cmp_any, Option.bind_some], ?_⟩
      unfold cmpI
      rw [Bool.eq_iff_iff]
      simp only [decide_eq_true_eq]
      by_cases a1 : y.fPages < x.fPages
      · rw [if_pos a1]; omega
      · rw [if_neg a1]
        by_cases a2 : y.fPages > x.fPages
        · rw [if_pos a2]; omega
        · rw [if_neg a2]; omega) (swoK (f := fun t => -t.fPages)) r (fun _ _ => trivial) (by omega) (by omega)
    have hsr : ∀ t ∈ s, rg t ∧ 0 < t.fPages := fun t ht => hrg t (s2.mem_iff.1 ht)
    have hsl : s.length ≤ 16 := by rw [s2.length_eq]; exact hl16
    have hsd : s.Pairwise (fun a b => b.fPages ≤ a.fPages) := s3.imp (fun {a b} h => by simp at h; omega)
    have hst : tot s = tot r := tot_perm s2
    have hfw := few_any n N s hsl (fun t ht => (hsr t ht).1) n 0 0 (by omega) (by omega) (by omega) (by omega)
    have hfw : G_oom_Fewest_L1 n N s n 0 0 s = some (match fe N s 0 0 with | some c => .x0 c 0 | none => .x1) := hfw
    have hL2 : ∀ (b : List Int × Int × Int) (c : Int × Int), G_ringlaw2_OomTells_L2 n N (ids r, 0) b c 0 r n 0 0 0 [] [] [] = some (.x0 (pk N r 0 []).1 (0 + tot r) (ids r) (pk N r 0 []).2 (szs r)) := fun b c =>
      all_any n N (ids r, 0) b c 0 r hl16 hrg' n 0 0 0 [] (by omega) (by omega) (by omega) (by omega) (by omega) (by omega) (by simp)
    simp only [if_true] at hnd
    by_cases hN : 1 ≤ N ∧ N ≤ 1048576
    · rw [if_pos hN] at hnd
      by_cases hall : tot r < N
      · have hp : G_oom_Pick n l N = some ([], 0, 6) := by
          unfold G_oom_Pick
          rw [hnd, Option.bind_some, if_pos rfl, r1, Option.bind_some, hpk, Option.bind_some]
          simp only
          rw [if_pos (hpt.2 (by omega))]
        have hf : G_oom_Fewest n l N = some (0, 6) := by
          unfold G_oom_Fewest
          have : fe N s 0 0 = none := (fe_none s 0 0 (by omega) (fun t ht => by have := (hsr t ht).2; omega)).2 (by omega)
          rw [hnd, Option.bind_some, if_pos rfl, r1, Option.bind_some, s1, Option.bind_some, hfw, this]; rfl
        rw [hord, hp, hf, c1, c2]
        simp only [Option.bind_some, if_true]
        rw [t1, Option.bind_some, hL2, Option.bind_some]
        simp only
        rw [eq_any n (ids r) (by simp [ids]; omega) (by omega), Option.bind_some, if_pos rfl, in_any, Option.bind_some, decide_eq_true hN]
        have c3 : ∀ z w1 w2, G_ringlaw2_OomTells_C3 n N ([], 0, 6) (0, 6) 0 z (0 + tot r) true w1 w2 = some (.x0 6 w1 w2) := by
          intro z w1 w2; unfold G_ringlaw2_OomTells_C3; rw [if_pos rfl, if_pos (by omega)]
        rw [c3, Option.bind_some]
        rfl
      · obtain ⟨c, hc⟩ : ∃ c, fe N s 0 0 = some c := by
          cases hq : fe N s 0 0 with
          | some c => exact ⟨c, rfl⟩
          | none => have := (fe_none s 0 0 (by omega) (fun t ht => by have := (hsr t ht).2; omega)).1 hq; omega
        have hp : G_oom_Pick n l N = some ((pk N r 0 []).2, (pk N r 0 []).1, 0) := by
          unfold G_oom_Pick
          rw [hnd, Option.bind_some, if_pos rfl, r1, Option.bind_some, hpk, Option.bind_some]
          simp only
          rw [if_neg (fun h => by have := hpt.1 h; omega)]
        have hf : G_oom_Fewest n l N = some (c, 0) := by
          unfold G_oom_Fewest
          rw [hnd, Option.bind_some, if_pos rfl, r1, Option.bind_some, s1, Option.bind_some, hfw, hc]; rfl
        rw [hord, hp, hf, c1, c2]
        simp only [Option.bind_some, if_true]
        rw [t1, Option.bind_some, hL2, Option.bind_some]
        simp only
        rw [eq_any n (ids r) (by simp [ids]; omega) (by omega), Option.bind_some, if_pos rfl, in_any, Option.bind_some, decide_eq_true hN]
        have c3 : ∀ z w1 w2, G_ringlaw2_OomTells_C3 n N ((pk N r 0 []).2, (pk N r 0 []).1, 0) (c, 0) 0 z (0 + tot r) true w1 w2 = some (.x0 0 w1 w2) := by
          intro z w1 w2; unfold G_ringlaw2_OomTells_C3; rw [if_pos rfl, if_neg (by omega)]
        rw [c3, Option.bind_some]
        simp only [if_true]
        have h6 := few_loop n (by omega) N ((pk N r 0 []).2, (pk N r 0 []).1, 0) (c, 0) (pk N r 0 []).1 (pk N r 0 []).2 s n 0 0 0 (szs r) c (by omega) (by simp [szs]; omega) (by omega) (by omega) (by omega) (by omega) (by omega) hsr hsd (by simpa [szs] using (s2.symm.map (·.fPages))) hc
        rw [h6, Option.bind_some]
        simp only
        unfold G_ringlaw2_OomTells_C7
        simp only
        rw [eq_any n _ (by simp at hpl; omega) (by omega)]
        simp
    · rw [if_neg hN] at hnd
      have hp : G_oom_Pick n l N = some ([], 0, 1) := by
        unfold G_oom_Pick
        rw [hnd, Option.bind_some, if_neg (by decide)]
      have hf : G_oom_Fewest n l N = some (0, 1) := by
        unfold G_oom_Fewest
        rw [hnd, Option.bind_some, if_neg (by decide)]
      rw [hord, hp, hf, c1, c2]
      simp only [Option.bind_some, if_true]
      rw [t1, Option.bind_some, hL2, Option.bind_some]
      simp only
      rw [eq_any n (ids r) (by simp [ids]; omega) (by omega), Option.bind_some, if_pos rfl, in_any, Option.bind_some, decide_eq_false hN]
      rfl
  · have hord : G_oom_Order n l = some ([], e) := by
      unfold G_oom_Order
      rw [c1, Option.bind_some, if_neg h0]
    rw [if_neg h0] at hnd
    have hp : G_oom_Pick n l N = some ([], 0, e) := by
      unfold G_oom_Pick
      rw [hnd, Option.bind_some, if_neg h0]
    have hf : G_oom_Fewest n l N = some (0, e) := by
      unfold G_oom_Fewest
      rw [hnd, Option.bind_some, if_neg h0]
    rw [hord, hp, hf, c1, c2]
    simp only [Option.bind_some, if_true]
    rw [if_neg h0]
    have c1 : G_ringlaw2_OomTells_C1 n ([], e) ([], 0, e) (0, e) e = some (.x0 true) := by
      unfold G_ringlaw2_OomTells_C1
      have : wi .i64 ((([] : List Int).length : Int) + (([] : List Int).length : Int)) = 0 := rfl
      simp only
      rw [this]
      simp
    rw [c1]; rfl
end om
end Go.Proofs.Ytiaebagjcbkkgaa.pv
