/- Areas: laying one in; the first gap; whose page. Plain lists, no program. -/
import Derived.Test.YtnmpnljjaoddhaaAr
namespace Go.Proofs.Ytnmpnljjaoddhaa.areaT
open Go.RowKit help rep pv
set_option linter.all false

theorem wk_cons {p n r lo : Int} {l : List A} (h1 : lo ≤ p) (h2 : 1 ≤ n) (h3 : p + n ≤ 64) (h4 : 0 ≤ r) (h5 : r ≤ 7) (h6 : Wk (p + n) l) : Wk lo (⟨p, n, r⟩ :: l) := ⟨h1, h2, h3, h4, h5, h6⟩
/-- an area put at its place -/
def ins (a : A) : List A → List A
  | [] => [a]
  | b :: l => if b.fPage < a.fPage then b :: ins a l else a :: b :: l
theorem ins_wk {p n r : Int} (hn : 1 ≤ n) (he : p + n ≤ 64) (hr : 0 ≤ r) (hr7 : r ≤ 7) : ∀ {l : List A} {lo : Int}, Wk lo l → lo ≤ p → (∀ q, p ≤ q → q < p + n → pg l q < 0) → Wk lo (ins ⟨p, n, r⟩ l)
  | [], lo, h, hp, _ => wk_cons hp hn he hr hr7 he
  | ⟨bp, bn, br⟩ :: l, lo, h, hp, hd => by
    obtain ⟨h1, h2, h3, h4, h5, h6⟩ := h
    simp only at h1 h2 h3 h4 h5 h6
    rw [ins]
    simp only
    by_cases c : bp < p
    · rw [if_pos c]
      have hbe : bp + bn ≤ p := by
        apply Classical.byContradiction
        intro hx
        have := hd p (by omega) (by omega)
        simp only [pg] at this
        rw [if_pos ⟨by omega, by omega⟩] at this
        omega
      refine wk_cons h1 h2 h3 h4 h5 (ins_wk hn he hr hr7 h6 hbe (fun q hq1 hq2 => ?_))
      have := hd q hq1 hq2
      simp only [pg] at this
      rw [if_neg (by omega)] at this
      exact this
    · rw [if_neg c]
      have hpe : p + n ≤ bp := by
        apply Classical.byContradiction
        intro hx
        have := hd bp (by omega) (by omega)
        simp only [pg] at this
        rw [if_pos ⟨by omega, by omega⟩] at this
        omega
      exact wk_cons hp hn he hr hr7 (wk_cons hpe h2 h3 h4 h5 h6)
theorem ins_pg {p n r : Int} : ∀ {l : List A} {lo q : Int}, Wk lo l → (∀ q, p ≤ q → q < p + n → pg l q < 0) → pg (ins ⟨p, n, r⟩ l) q = if p ≤ q ∧ q < p + n then r else pg l q
  | [], lo, q, h, _ => rfl
  | ⟨bp, bn, br⟩ :: l, lo, q, h, hd => by
    obtain ⟨h1, h2, h3, h4, h5, h6⟩ := h
    simp only at h1 h2 h3 h4 h5 h6
    rw [ins]
    simp only
    have hnot : p ≤ q → q < p + n → ¬ (bp ≤ q ∧ q < bp + bn) := fun x y z => by
      have := hd q x y
      simp only [pg] at this
      rw [if_pos z] at this
      omega
    by_cases c : bp < p
    · rw [if_pos c]
      simp only [pg]
      have ih := ins_pg (p := p) (n := n) (r := r) (q := q) h6 (fun q hq1 hq2 => by
        have := hd q hq1 hq2
        simp only [pg] at this
        split at this
        · omega
        · exact this)
      rw [ih]
      by_cases d : p ≤ q ∧ q < p + n
      · rw [if_pos d, if_pos d, if_neg (hnot d.1 d.2)]
      · rw [if_neg d, if_neg d]
    · rw [if_neg c]
      simp only [pg]
/-- neighbours of the same rights are joined; c: the last one so far -/
def mg (c : A) : List A → List A
  | [] => [c]
  | b :: l => if c.fPage + c.fN = b.fPage ∧ c.fRights = b.fRights then mg ⟨c.fPage, c.fN + b.fN, c.fRights⟩ l else c :: mg b l
theorem mg_nm : ∀ {l : List A} {p n r lo pr : Int}, Wk (p + n) l → lo ≤ p → 1 ≤ n → p + n ≤ 64 → 0 ≤ r → r ≤ 7 → ¬ (p = lo ∧ r = pr) → Nm lo pr (mg ⟨p, n, r⟩ l)
  | [], p, n, r, lo, pr, _, h1, h2, h3, h4, h5, h6 => nm_cons h1 h2 h3 h4 h5 h6 h3
  | ⟨bp, bn, br⟩ :: l, p, n, r, lo, pr, hw, h1, h2, h3, h4, h5, h6 => by
    obtain ⟨g1, g2, g3, g4, g5, g6⟩ := hw
    simp only at g1 g2 g3 g4 g5 g6
    rw [mg]
    simp only
    by_cases c : p + n = bp ∧ r = br
    · rw [if_pos c]
      have e : p + (n + bn) = bp + bn := by omega
      exact mg_nm (by rw [e]; exact g6) h1 (by omega) (by omega) h4 h5 h6
    · rw [if_neg c]
      exact nm_cons h1 h2 h3 h4 h5 h6 (mg_nm g6 g1 g2 g3 g4 g5 (fun e => c ⟨e.1.symm, e.2.symm⟩))
theorem mg_pg : ∀ {l : List A} {p n r q : Int}, Wk (p + n) l → 1 ≤ n → pg (mg ⟨p, n, r⟩ l) q = pg (⟨p, n, r⟩ :: l) q
  | [], p, n, r, q, _, _ => rfl
  | ⟨bp, bn, br⟩ :: l, p, n, r, q, hw, h2 => by
    obtain ⟨g1, g2, g3, g4, g5, g6⟩ := hw
    simp only at g1 g2 g3 g4 g5 g6
    rw [mg]
    simp only
    by_cases c : p + n = bp ∧ r = br
    · rw [if_pos c]
      have e : p + (n + bn) = bp + bn := by omega
      rw [mg_pg (by rw [e]; exact g6) (by omega)]
      simp only [pg]
      by_cases d1 : p ≤ q ∧ q < p + n
      · rw [if_pos d1, if_pos (by omega)]
      · rw [if_neg d1]
        by_cases d2 : bp ≤ q ∧ q < bp + bn
        · rw [if_pos d2, if_pos (by omega), c.2]
        · rw [if_neg d2, if_neg (by omega)]
    · rw [if_neg c]
      simp only [pg]
      rw [mg_pg g6 g2]
      simp only [pg]
theorem mg_len : ∀ {l : List A} {c : A}, (mg c l).length ≤ l.length + 1
  | [], c => by simp [mg]
  | b :: l, c => by
    rw [mg]
    split
    · have := mg_len (l := l) (c := ⟨c.fPage, c.fN + b.fN, c.fRights⟩); simp; omega
    · have := mg_len (l := l) (c := b); simp; omega
/-- no more than 64 -/
theorem wk_len : ∀ {l : List A} {lo : Int}, Wk lo l → (l.length : Int) ≤ 64 - lo
  | [], lo, h => by simp only [Wk] at h; simp; omega
  | a :: l, lo, h => by
    have := wk_len h.2.2.2.2.2
    have := h.1
    have := h.2.1
    simp; omega
/-- all of a list, joined -/
def mgL : List A → List A
  | [] => []
  | a :: l => mg a l
theorem mgL_nm {l : List A} (h : Wk 0 l) : Nm 0 (-1) (mgL l) := by
  cases l with
  | nil => exact h
  | cons a l =>
    obtain ⟨p, n, r⟩ := a
    obtain ⟨h1, h2, h3, h4, h5, h6⟩ := h
    simp only at h1 h2 h3 h4 h5 h6
    exact mg_nm h6 h1 h2 h3 h4 h5 (by omega)
theorem mgL_pg {l : List A} {q : Int} (h : Wk 0 l) : pg (mgL l) q = pg l q := by
  cases l with
  | nil => rfl
  | cons a l =>
    obtain ⟨p, n, r⟩ := a
    obtain ⟨h1, h2, h3, h4, h5, h6⟩ := h
    simp only at h2 h6
    exact mg_pg h6 h2
/-- the first gap -/
def gp (n : Int) (lo : Int) : List A → Option Int
  | [] => if 64 - lo < n then none else some lo
  | a :: l => if a.fPage - lo ≥ n then some lo else gp n (a.fPage + a.fN) l
def free (l : List A) (f n : Int) : Prop := ∀ q, f ≤ q → q < f + n → pg l q < 0
theorem gp_spec {n : Int} (hn : 1 ≤ n) : ∀ {l : List A} {lo : Int}, Wk lo l →
    (match gp n lo l with | some at_ => lo ≤ at_ ∧ at_ + n ≤ 64 ∧ free l at_ n ∧ ∀ f, lo ≤ f → f < at_ → ¬ free l f n | none => ∀ f, lo ≤ f → f + n ≤ 64 → ¬ free l f n)
  | [], lo, h => by
    simp only [Wk] at h
    rw [gp]
    by_cases c : 64 - lo < n
    · rw [if_pos c]
      intro f h1 h2; omega
    · rw [if_neg c]
      exact ⟨by omega, by omega, fun q _ _ => by simp [pg], fun f h1 h2 => by omega⟩
  | ⟨p, m, r⟩ :: l, lo, h => by
    obtain ⟨h1, h2, h3, h4, h5, h6⟩ := h
    simp only at h1 h2 h3 h4 h5 h6
    rw [gp]
    simp only
    have hno : ∀ f, lo ≤ f → f < p + m → ¬ (p - lo ≥ n) → ¬ free (⟨p, m, r⟩ :: l) f n := fun f g1 g2 g3 hf => by
      have := hf (max f p) (by omega) (by omega)
      simp only [pg] at this
      rw [if_pos ⟨by omega, by omega⟩] at this
      omega
    by_cases c : p - lo ≥ n
    · rw [if_pos c]
      refine ⟨by omega, by omega, fun q g1 g2 => ?_, fun f g1 g2 => by omega⟩
      simp only [pg]
      rw [if_neg (by omega), pg_lt h6 (by omega)]; decide
    · rw [if_neg c]
      have ih := gp_spec hn h6
      have hup : ∀ f, p + m ≤ f → (free (⟨p, m, r⟩ :: l) f n ↔ free l f n) := fun f g => by
        constructor
        · intro hf q g1 g2
          have := hf q g1 g2
          simp only [pg] at this
          rw [if_neg (by omega)] at this
          exact this
        · intro hf q g1 g2
          simp only [pg]
          rw [if_neg (by omega)]
          exact hf q g1 g2
      cases hg : gp n (p + m) l with
      | none =>
        rw [hg] at ih
        intro f g1 g2
        by_cases d : f < p + m
        · exact hno f g1 d c
        · rw [hup f (by omega)]; exact ih f (by omega) g2
      | some at_ =>
        rw [hg] at ih
        obtain ⟨i1, i2, i3, i4⟩ := ih
        refine ⟨by omega, i2, (hup at_ i1).2 i3, fun f g1 g2 => ?_⟩
        by_cases d : f < p + m
        · exact hno f g1 d c
        · rw [hup f (by omega)]; exact i4 f (by omega) g2
/-- whose page -/
def own_ (q : Int) : List A → Option A
  | [] => none
  | a :: l => if a.fPage ≤ q ∧ q < a.fPage + a.fN then some a else own_ q l
theorem own_pg : ∀ {l : List A} {lo q : Int}, Wk lo l → (match own_ q l with | some a => pg l q = a.fRights ∧ 0 ≤ pg l q | none => pg l q = -1)
  | [], _, _, _ => rfl
  | a :: l, lo, q, h => by
    rw [own_, pg]
    by_cases c : a.fPage ≤ q ∧ q < a.fPage + a.fN
    · rw [if_pos c, if_pos c]; exact ⟨rfl, h.2.2.2.1⟩
    · rw [if_neg c, if_neg c]; exact own_pg h.2.2.2.2.2
theorem own_lt : ∀ {l : List A} {lo q : Int}, Wk lo l → q < lo → own_ q l = none
  | [], _, _, _, _ => rfl
  | a :: l, lo, q, h, hq => by
    have := h.1
    have := h.2.1
    rw [own_, if_neg (by omega)]
    exact own_lt h.2.2.2.2.2 (by omega)
end Go.Proofs.Ytnmpnljjaoddhaa.areaT
