/- Areas of 64 pages: lists of runs, and the pages they say. Plain lists, no program. -/
import Derived.Test.YtnmpnljjaoddhaaGuAreaTells
import Derived.Test.YtnmpnljjaoddhaaLib
namespace Go.Proofs.Ytnmpnljjaoddhaa.areaT
open Go.RowKit help rep pv
set_option linter.all false

abbrev A := S_area_Area
/-- in order, right, apart -/
def Wk (lo : Int) : List A → Prop
  | [] => lo ≤ 64
  | a :: l => lo ≤ a.fPage ∧ 1 ≤ a.fN ∧ a.fPage + a.fN ≤ 64 ∧ 0 ≤ a.fRights ∧ a.fRights ≤ 7 ∧ Wk (a.fPage + a.fN) l
/-- the one list: no two that touch have the same rights; pr: the rights of what ends at lo -/
def Nm (lo pr : Int) : List A → Prop
  | [] => lo ≤ 64
  | a :: l => lo ≤ a.fPage ∧ 1 ≤ a.fN ∧ a.fPage + a.fN ≤ 64 ∧ 0 ≤ a.fRights ∧ a.fRights ≤ 7 ∧ ¬ (a.fPage = lo ∧ a.fRights = pr) ∧ Nm (a.fPage + a.fN) a.fRights l
/-- what a page says -/
def pg : List A → Int → Int
  | [], _ => -1
  | a :: l, p => if a.fPage ≤ p ∧ p < a.fPage + a.fN then a.fRights else pg l p
theorem wk_of_nm : ∀ {l : List A} {lo pr : Int}, Nm lo pr l → Wk lo l
  | [], _, _, h => h
  | a :: l, _, _, h => ⟨h.1, h.2.1, h.2.2.1, h.2.2.2.1, h.2.2.2.2.1, wk_of_nm h.2.2.2.2.2.2⟩
theorem wk_le : ∀ {l : List A} {lo : Int}, Wk lo l → lo ≤ 64
  | [], _, h => h
  | a :: l, _, h => by have := h.1; have := h.2.1; have := h.2.2.1; omega
theorem wk_weak : ∀ {l : List A} {lo lo' : Int}, Wk lo l → lo' ≤ lo → Wk lo' l
  | [], _, _, h, h' => by simp only [Wk] at h ⊢; omega
  | a :: l, _, _, h, h' => ⟨by have := h.1; omega, h.2⟩
theorem nm_weak : ∀ {l : List A} {lo lo' pr pr' : Int}, Nm lo pr l → lo' < lo → Nm lo' pr' l
  | [], _, _, _, _, h, h' => by simp only [Nm] at h ⊢; omega
  | a :: l, lo, lo', _, _, h, h' => ⟨by have := h.1; omega, h.2.1, h.2.2.1, h.2.2.2.1, h.2.2.2.2.1, fun e => by have := h.1; omega, h.2.2.2.2.2.2⟩
theorem pg_lt : ∀ {l : List A} {lo q : Int}, Wk lo l → q < lo → pg l q = -1
  | [], _, _, _, _ => rfl
  | a :: l, lo, q, h, hq => by
    have h1 := h.1
    have h2 := h.2.1
    rw [pg, if_neg (by omega)]
    exact pg_lt h.2.2.2.2.2 (by omega)
theorem pg_range : ∀ {l : List A} {lo q : Int}, Wk lo l → pg l q = -1 ∨ (0 ≤ pg l q ∧ pg l q ≤ 7)
  | [], _, _, _ => .inl rfl
  | a :: l, lo, q, h => by
    rw [pg]
    split
    · exact .inr ⟨h.2.2.2.1, h.2.2.2.2.1⟩
    · exact pg_range h.2.2.2.2.2
/-- the list up to a page -/
def tr (k : Int) : List A → List A
  | [] => []
  | a :: l => if a.fPage < k then ⟨a.fPage, min (a.fPage + a.fN) k - a.fPage, a.fRights⟩ :: tr k l else []
theorem tr_nil : ∀ {l : List A} {lo k : Int}, Wk lo l → k ≤ lo → tr k l = []
  | [], _, _, _, _ => rfl
  | a :: l, lo, k, h, hk => by have := h.1; rw [tr, if_neg (by omega)]
theorem tr_all : ∀ {l : List A} {lo : Int}, Wk lo l → tr 64 l = l
  | [], _, _ => rfl
  | a :: l, lo, h => by
    have h2 := h.2.1
    have h3 := h.2.2.1
    rw [tr, if_pos (by omega), tr_all h.2.2.2.2.2]
    have : min (a.fPage + a.fN) 64 - a.fPage = a.fN := by omega
    rw [this]
/-- one page further -/
theorem tr_step (f : Int → Int) : ∀ {l : List A} {lo pr k : Int}, Nm lo pr l → lo ≤ k → (∀ q, lo ≤ q → f q = pg l q) → f (lo - 1) = pr →
    (f k < 0 → tr (k + 1) l = tr k l) ∧
    (0 ≤ f k → f (k - 1) = f k → ∃ w a, tr k l = w ++ [a] ∧ tr (k + 1) l = w ++ [⟨a.fPage, a.fN + 1, a.fRights⟩]) ∧
    (0 ≤ f k → f (k - 1) ≠ f k → tr (k + 1) l = tr k l ++ [⟨k, 1, f k⟩])
  | [], lo, pr, k, h, hk, hf, hp => by
    have : f k = -1 := hf k hk
    exact ⟨fun _ => rfl, fun h => by omega, fun h => by omega⟩
  | a :: l, lo, pr, k, h, hk, hf, hp => by
    obtain ⟨h1, h2, h3, h4, h5, h6, h7⟩ := h
    have hw := wk_of_nm h7
    have hfk := hf k hk
    rw [pg] at hfk
    by_cases c1 : k < a.fPage
    · rw [if_neg (by omega), pg_lt hw (by omega)] at hfk
      refine ⟨fun _ => ?_, fun h => by omega, fun h => by omega⟩
      rw [tr, tr, if_neg (by omega), if_neg (by omega)]
    · by_cases c2 : k < a.fPage + a.fN
      · rw [if_pos ⟨by omega, c2⟩] at hfk
        have t1 : tr (k + 1) (a :: l) = [⟨a.fPage, k + 1 - a.fPage, a.fRights⟩] := by
          rw [tr, if_pos (by omega), tr_nil hw (by omega)]
          have : min (a.fPage + a.fN) (k + 1) = k + 1 := by omega
          rw [this]
        refine ⟨fun h => by omega, fun _ hs => ?_, fun _ hs => ?_⟩
        · -- the same run
          have hlt : a.fPage < k := by
            rcases (show a.fPage < k ∨ k ≤ a.fPage by omega) with h | h
            · exact h
            · exfalso
              have e : k = a.fPage := by omega
              by_cases e2 : a.fPage = lo
              · apply h6
                refine ⟨e2, ?_⟩
                rw [← hfk, ← hs, e, e2]; exact hp
              · have hq := hf (k - 1) (by omega)
                rw [pg, if_neg (by omega), pg_lt hw (by omega)] at hq
                omega
          refine ⟨[], ⟨a.fPage, k - a.fPage, a.fRights⟩, ?_, ?_⟩
          · rw [tr, if_pos hlt, tr_nil hw (by omega)]
            have : min (a.fPage + a.fN) k = k := by omega
            rw [this]; rfl
          · rw [t1]
            have : k + 1 - a.fPage = k - a.fPage + 1 := by omega
            rw [this]; rfl
        · have e : k = a.fPage := by
            apply Classical.byContradiction
            intro hne
            have hq := hf (k - 1) (by omega)
            rw [pg, if_pos ⟨by omega, by omega⟩] at hq
            exact hs (by rw [hq, hfk])
          rw [t1, hfk]
          have : tr k (a :: l) = [] := by rw [tr, if_neg (by omega)]
          rw [this, e]
          have : a.fPage + 1 - a.fPage = 1 := by omega
          rw [this]; rfl
      · have ih := tr_step f (k := k) h7 (by omega) (fun q hq => by rw [hf q (by omega), pg, if_neg (by omega)]) (by rw [hf _ (by omega), pg, if_pos ⟨by omega, by omega⟩])
        have e1 : tr (k + 1) (a :: l) = a :: tr (k + 1) l := by
          rw [tr, if_pos (by omega)]
          have : min (a.fPage + a.fN) (k + 1) - a.fPage = a.fN := by omega
          rw [this]
        have e2 : tr k (a :: l) = a :: tr k l := by
          rw [tr, if_pos (by omega)]
          have : min (a.fPage + a.fN) k - a.fPage = a.fN := by omega
          rw [this]
        rw [e1, e2]
        refine ⟨fun h => by rw [ih.1 h], fun h hs => ?_, fun h hs => by rw [ih.2.2 h hs]; rfl⟩
        obtain ⟨w, b, w1, w2⟩ := ih.2.1 h hs
        exact ⟨a :: w, b, by rw [w1]; rfl, by rw [w2]; rfl⟩
/-- how many pages of a stretch are said -/
def mny (from_ to_ : Int) : List A → Int
  | [] => 0
  | a :: l => max 0 (min (a.fPage + a.fN) to_ - max a.fPage from_) + mny from_ to_ l
theorem mny_zero : ∀ {l : List A} {f : Int}, mny f f l = 0
  | [], _ => rfl
  | a :: l, f => by rw [mny, mny_zero]; omega
theorem mny_next : ∀ {l : List A} {lo f t : Int}, Wk lo l → f ≤ t → mny f (t + 1) l = mny f t l + (if 0 ≤ pg l t then 1 else 0)
  | [], _, _, _, _, _ => by simp [mny, pg]
  | a :: l, lo, f, t, h, hft => by
    obtain ⟨h1, h2, h3, h4, h5, h6⟩ := h
    rw [mny, mny, mny_next h6 hft, pg]
    by_cases c : a.fPage ≤ t ∧ t < a.fPage + a.fN
    · rw [if_pos c, if_pos h4, pg_lt h6 (by omega), if_neg (by omega)]; omega
    · rw [if_neg c]; split <;> omega
/-- what is cut out -/
def ct (f t : Int) : List A → List A
  | [] => []
  | a :: l => (if min (a.fPage + a.fN) f - a.fPage > 0 then [⟨a.fPage, min (a.fPage + a.fN) f - a.fPage, a.fRights⟩] else []) ++ (if a.fPage + a.fN > max a.fPage t then [⟨max a.fPage t, a.fPage + a.fN - max a.fPage t, a.fRights⟩] else []) ++ ct f t l
theorem nm_cons {p n r lo pr : Int} {l : List A} (h1 : lo ≤ p) (h2 : 1 ≤ n) (h3 : p + n ≤ 64) (h4 : 0 ≤ r) (h5 : r ≤ 7) (h6 : ¬ (p = lo ∧ r = pr)) (h7 : Nm (p + n) r l) : Nm lo pr (⟨p, n, r⟩ :: l) := ⟨h1, h2, h3, h4, h5, h6, h7⟩
theorem ct_nm {f t : Int} (hft : f < t) : ∀ {l : List A} {lo pr : Int}, Nm lo pr l → Nm lo pr (ct f t l)
  | [], _, _, h => h
  | ⟨p, n, r⟩ :: l, lo, pr, h => by
    obtain ⟨h1, h2, h3, h4, h5, h6, h7⟩ := h
    simp only at h1 h2 h3 h4 h5 h6 h7
    have ih := ct_nm hft h7
    rw [ct]
    simp only
    have hright : p + n > max p t → Nm (max p t + (p + n - max p t)) r (ct f t l) := fun c => by
      have : max p t + (p + n - max p t) = p + n := by omega
      rw [this]; exact ih
    by_cases c1 : min (p + n) f - p > 0
    · rw [if_pos c1]
      by_cases c2 : p + n > max p t
      · rw [if_pos c2]
        exact nm_cons h1 (by omega) (by omega) h4 h5 h6 (nm_cons (by omega) (by omega) (by omega) h4 h5 (by omega) (hright c2))
      · rw [if_neg c2]
        refine nm_cons h1 (by omega) (by omega) h4 h5 h6 ?_
        by_cases e : min (p + n) f = p + n
        · have : p + (min (p + n) f - p) = p + n := by omega
          rw [this]; exact ih
        · exact nm_weak ih (by omega)
    · rw [if_neg c1]
      by_cases c2 : p + n > max p t
      · rw [if_pos c2]
        exact nm_cons (by omega) (by omega) (by omega) h4 h5 (fun e => h6 ⟨by omega, e.2⟩) (hright c2)
      · rw [if_neg c2]
        exact nm_weak ih (by omega)
theorem ct_pg {f t : Int} (hft : f < t) : ∀ {l : List A} {lo q : Int}, Wk lo l → pg (ct f t l) q = if f ≤ q ∧ q < t then -1 else pg l q
  | [], _, q, _ => by simp [ct, pg]
  | ⟨p, n, r⟩ :: l, lo, q, h => by
    obtain ⟨h1, h2, h3, h4, h5, h6⟩ := h
    simp only at h1 h2 h3 h4 h5 h6
    have ih := ct_pg hft (q := q) h6
    rw [ct, pg]
    simp only
    have hlt : q < p + n → pg l q = -1 := fun h => pg_lt h6 h
    by_cases c1 : min (p + n) f - p > 0
    · rw [if_pos c1]
      by_cases c2 : p + n > max p t
      · rw [if_pos c2]
        simp only [List.cons_append, List.nil_append, pg, ih]
        by_cases d1 : p ≤ q ∧ q < p + (min (p + n) f - p)
        · rw [if_pos d1, if_neg (by omega), if_pos (by omega)]
        · rw [if_neg d1]
          by_cases d2 : max p t ≤ q ∧ q < max p t + (p + n - max p t)
          · rw [if_pos d2, if_neg (by omega), if_pos (by omega)]
          · rw [if_neg d2]
            by_cases d3 : f ≤ q ∧ q < t
            · rw [if_pos d3, if_pos d3]
            · rw [if_neg d3, if_neg d3, if_neg (by omega)]
      · rw [if_neg c2]
        simp only [List.cons_append, List.nil_append, pg, ih]
        by_cases d1 : p ≤ q ∧ q < p + (min (p + n) f - p)
        · rw [if_pos d1, if_neg (by omega), if_pos (by omega)]
        · rw [if_neg d1]
          by_cases d3 : f ≤ q ∧ q < t
          · rw [if_pos d3, if_pos d3]
          · rw [if_neg d3, if_neg d3, if_neg (by omega)]
    · rw [if_neg c1]
      by_cases c2 : p + n > max p t
      · rw [if_pos c2]
        simp only [List.cons_append, List.nil_append, pg, ih]
        by_cases d2 : max p t ≤ q ∧ q < max p t + (p + n - max p t)
        · rw [if_pos d2, if_neg (by omega), if_pos (by omega)]
        · rw [if_neg d2]
          by_cases d3 : f ≤ q ∧ q < t
          · rw [if_pos d3, if_pos d3]
          · rw [if_neg d3, if_neg d3, if_neg (by omega)]
      · rw [if_neg c2]
        simp only [List.cons_append, List.nil_append, ih]
        by_cases d3 : f ≤ q ∧ q < t
        · rw [if_pos d3, if_pos d3]
        · rw [if_neg d3, if_neg d3, if_neg (by omega)]
end Go.Proofs.Ytnmpnljjaoddhaa.areaT
