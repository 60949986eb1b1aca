/- Typed values: their cells, parts by paths. -/
import Derived.Test.YtmjkechkdfobgaaVA
namespace Go.Proofs.Ytmjkechkdfobgaa.pv
set_option linter.all false
open Go.RowKit

theorem allD_map (xs : List PV) : allD (xs.map FV.d) = some xs := by
  induction xs with
  | nil => rfl
  | cons x xs ih => simp [allD, ih]
theorem mkAgg_d (xs : List PV) : mkAgg (xs.map FV.d) = .d (.agg xs) := by simp [mkAgg, allD_map]
theorem fcells_mkAgg (cs : List FV) : fcells (mkAgg cs) = some cs := by
  unfold mkAgg
  split
  · rename_i xs h
    rw [allD_eq h]; rfl
  · rfl
theorem aggCells_mkAgg (cs : List FV) : aggCells (mkAgg cs) = some cs := by
  unfold mkAgg
  split
  · rename_i xs h
    rw [allD_eq h]; rfl
  · rfl
theorem rep_one : ∀ (t : Ty) (x : t.den), t.cel = true → t.agg = false → (rep t x).cells = [(rep t x).fv] := by
  intro t x hc ha
  cases t <;> first | (simp [Ty.agg] at ha; done) | (simp [Ty.cel] at hc; done) | rfl | (simp only [rep]; split <;> rfl)
theorem rep_agg : ∀ (t : Ty) (x : t.den), t.agg = true → (rep t x).fv = mkAgg (rep t x).cells := by
  intro t x ha
  cases t <;> first | (simp [Ty.agg] at ha; done) | rfl
theorem rep_len : ∀ (t : Ty) (x : t.den), t.cel = true → (rep t x).cells.length = t.sz
  | .pr a b, x, h => by
    simp only [Ty.cel, Bool.and_eq_true] at h
    simp only [rep, List.length_append, Ty.sz, rep_len a _ h.1, rep_len b _ h.2]
  | .ar n t, x, h => by
    simp only [Ty.cel] at h
    have go : ∀ xs : List t.den, (xs.flatMap fun y => (rep t y).cells).length = xs.length * t.sz := by
      intro xs
      induction xs with
      | nil => simp
      | cons y ys ih => simp only [List.flatMap_cons, List.length_append, rep_len t y h, ih, List.length_cons, Nat.succ_mul]; omega
    simp only [rep, Ty.sz]
    rw [go, Subtype.property (p := fun xs : List t.den => xs.length = n) x]
  | .un, _, _ => rfl
  | .i _, _, _ | .bl, _, _ | .str, _, _ | .sl _, _, _ | .ns, _, _ | .nz _, _, _ | .np _ _, _, _ | .rf _ _, _, _ | .ep _ _ _, _, _ | .dp _ _, _, _ | .sr _, _, _ | .ss _ _, _, _ | .as _ _ _ _ _, _, _ | .cl _ _, _, _ | .ic _ _, _, _ => rfl
  | .vp _, x, _ => by simp only [rep]; split <;> rfl
  | .vm _, x, _ => by simp only [rep]; split <;> rfl
  | .tp _, _, h | .mc _ _, _, h | .sm _ _, _, h | .ud, _, h | .dead, _, h => by simp [Ty.cel] at h
theorem rep_fcells (t : Ty) (x : t.den) (h : t.cel = true) : fcells (rep t x).fv = some (rep t x).cells := by
  cases ha : t.agg with
  | true => rw [rep_agg t x ha, fcells_mkAgg]
  | false =>
    rw [rep_one t x h ha]
    cases t with
    | un => simp [Ty.agg] at ha
    | pr => simp [Ty.agg] at ha
    | ar => simp [Ty.agg] at ha
    | tp => simp [Ty.cel] at h
    | mc => simp [Ty.cel] at h
    | sm => simp [Ty.cel] at h
    | ud => simp [Ty.cel] at h
    | dead => simp [Ty.cel] at h
    | nz z => cases z <;> rfl
    | vp g => simp only [rep]; split <;> rfl
    | vm g => simp only [rep]; split <;> rfl
    | cl f t =>
      simp only [rep]
      unfold mkClo
      split <;> rfl
    | _ => rfl
theorem dat_cel : ∀ (t : Ty), t.dat = true → t.cel = true
  | .pr a b, h => by
    simp only [Ty.dat, Bool.and_eq_true] at h
    simp only [Ty.cel, dat_cel a h.1, dat_cel b h.2, Bool.and_self]
  | .ar n t, h => by simp only [Ty.dat] at h; simp only [Ty.cel]; exact dat_cel t h
  | .un, _ | .i _, _ | .bl, _ | .str, _ | .sl _, _ | .ns, _ | .nz _, _ | .np _ _, _ | .vp _, _ | .vm _, _ | .dp _ _, _ | .cl _ _, _ => rfl
  | .rf _ _, h | .ep _ _ _, h | .sr _, h | .ss _ _, h | .as _ _ _ _ _, h | .ic _ _, h | .tp _, h | .mc _ _, h | .sm _ _, h | .ud, h | .dead, h => by simp [Ty.dat] at h
theorem rep_dat : ∀ (t : Ty) (x : t.den), t.dat = true → (rep t x).cells = (rep t x).pcs.map FV.d ∧ (rep t x).fv = .d (rep t x).pv ∧ pcells (rep t x).pv = (rep t x).pcs ∧ isTup (rep t x).pv = false
  | .pr a b, x, h => by
    simp only [Ty.dat, Bool.and_eq_true] at h
    obtain ⟨a1, _, _, _⟩ := rep_dat a (p1 x) h.1
    obtain ⟨b1, _, _, _⟩ := rep_dat b (p2 x) h.2
    refine ⟨by simp only [rep, a1, b1, List.map_append], ?_, rfl, rfl⟩
    simp only [rep, a1, b1]
    rw [← List.map_append, mkAgg_d]
  | .ar n t, x, h => by
    simp only [Ty.dat] at h
    have go : ∀ xs : List t.den, (xs.flatMap fun y => (rep t y).cells) = (xs.flatMap fun y => (rep t y).pcs).map FV.d := by
      intro xs
      induction xs with
      | nil => rfl
      | cons y ys ih => simp only [List.flatMap_cons, List.map_append, (rep_dat t y h).1, ih]
    refine ⟨by simp only [rep]; exact go _, ?_, rfl, rfl⟩
    simp only [rep]
    rw [go, mkAgg_d]
  | .un, _, _ => ⟨rfl, rfl, rfl, rfl⟩
  | .i _, _, _ | .bl, _, _ | .str, _, _ | .sl _, _, _ | .ns, _, _ | .np _ _, _, _ | .dp _ _, _, _ => ⟨rfl, rfl, rfl, rfl⟩
  | .nz z, _, _ => by cases z <;> exact ⟨rfl, rfl, rfl, rfl⟩
  | .vp _, x, _ => by simp only [rep]; split <;> exact ⟨rfl, rfl, rfl, rfl⟩
  | .vm _, x, _ => by simp only [rep]; split <;> exact ⟨rfl, rfl, rfl, rfl⟩
  | .cl f t, x, h => by
    simp only [Ty.dat] at h
    simp only [rep]
    obtain ⟨a1, _, _, _⟩ := rep_dat t x h
    have e : mkClo f (rep t x).cells = .d (.clo f (rep t x).pcs) := by simp [mkClo, a1, allD_map]
    exact ⟨by rw [e]; rfl, e, rfl, rfl⟩
  | .rf _ _, _, h | .ep _ _ _, _, h | .sr _, _, h | .ss _ _, _, h | .as _ _ _ _ _, _, h | .ic _ _, _, h | .tp _, _, h | .mc _ _, _, h | .sm _ _, _, h | .ud, _, h | .dead, _, h => by simp [Ty.dat] at h
theorem rep_pcs_len (t : Ty) (x : t.den) (h : t.dat = true) : (rep t x).pcs.length = t.sz := by
  have := rep_len t x (dat_cel t h)
  rw [(rep_dat t x h).1, List.length_map] at this
  exact this
theorem rep_fits (t : Ty) (x : t.den) (h : t.dat = true) : fits t.sz (rep t x).pv = true := by
  have h1 := rep_dat t x h
  unfold fits
  rw [h1.2.2.2]
  have : psz (rep t x).pv = t.sz := by
    rw [← rep_pcs_len t x h, ← h1.2.2.1]
    generalize (rep t x).pv = y at *
    cases y <;> rfl
  simp [this]
end Go.Proofs.Ytmjkechkdfobgaa.pv
