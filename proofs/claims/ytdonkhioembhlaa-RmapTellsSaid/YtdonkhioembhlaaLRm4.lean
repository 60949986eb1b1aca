/- RmapTells: each operation against the grid. -/
import Derived.Test.YtdonkhioembhlaaLRm3
namespace Go.Proofs.Ytdonkhioembhlaa.pv
set_option linter.all false
open Go.RowKit help
namespace rm
/-- what the grid has at a page -/
def atG (g : Gr) (s q : Int) : Int := if pg s q then cell g s q else 0
theorem cell_there {g : Gr} {l : List Pr} (G : GR g l) (h : okR l) {p : Pr} (hp : p ∈ l) : cell g p.fSpace p.fPage = p.fFrame + 1 := by
  have hr := h.rg p hp
  exact (G p.fSpace p.fPage (by omega) (by omega)).1 p hp rfl rfl
theorem cell_iff {g : Gr} {l : List Pr} (G : GR g l) (h : okR l) (f s q : Int) (hf : 0 ≤ f) (hs : 0 ≤ s ∧ s < 17) (hq : 0 ≤ q ∧ q < 64) : cell g s q = f + 1 ↔ (⟨f, s, q⟩ : Pr) ∈ l := by
  constructor
  · intro e
    by_cases hx : ∃ p ∈ l, p.fSpace = s ∧ p.fPage = q
    · obtain ⟨p, hp, h1, h2⟩ := hx
      have := (G s q hs hq).1 p hp h1 h2
      have : p = ⟨f, s, q⟩ := by
        obtain ⟨a, b, c⟩ := p
        simp only at h1 h2 this
        rw [h1, h2, show a = f by omega]
      rw [← this]; exact hp
    · have := (G s q hs hq).2 fun p hp hpq => hx ⟨p, hp, hpq⟩
      omega
  · intro hp
    exact (G s q hs hq).1 _ hp rfl rfl
theorem find_at {n : Nat} (hn : 1100 < n) {g : Gr} {l : List Pr} (G : GR g l) (h : okR l) (s q : Int) (hpg : pg s q) :
    (∃ m, ∃ hm : m < l.length, l[m].fSpace = s ∧ l[m].fPage = q ∧ cell g s q = l[m].fFrame + 1 ∧ 0 ≤ l[m].fFrame ∧ l[m].fFrame ≤ 63 ∧ G_rmap_find n l s q = some (m : Int)) ∨ ((∀ p ∈ l, ¬ (p.fSpace = s ∧ p.fPage = q)) ∧ cell g s q = 0 ∧ G_rmap_find n l s q = some (-1)) := by
  rcases find_any n l s q h.len hn with ⟨m, hm, h1, h2, h3⟩ | ⟨h1, h2⟩
  · have hr := h.rg _ (List.getElem_mem hm)
    exact .inl ⟨m, hm, h1, h2, (G s q (by omega) (by omega)).1 _ (List.getElem_mem hm) h1 h2, hr.1, hr.2.1, h3⟩
  · exact .inr ⟨h1, (G s q (by omega) (by omega)).2 h1, h2⟩
theorem up_insert {l : List Pr} (h : l.Pairwise ltP) {p : Pr} {i0 : Nat} (A : At l p i0) (hne : ∀ x ∈ l, ¬ sameP x p) : (l.take i0 ++ [p] ++ l.drop i0).Pairwise ltP := by
  have hle := A.le
  rw [List.append_assoc, List.pairwise_append]
  refine ⟨h.sublist (List.take_sublist _ _), ?_, fun a ha b hb => ?_⟩
  · rw [List.singleton_append, List.pairwise_cons]
    refine ⟨fun b hb => ?_, h.sublist (List.drop_sublist _ _)⟩
    obtain ⟨j, hj, rfl⟩ := List.mem_iff_getElem.1 hb
    have hj' : i0 + j < l.length := by simp at hj; omega
    have e : (l.drop i0)[j] = l[i0 + j] := by simp
    rw [e]
    have h1 := A.hi (i0 + j) hj' (by omega)
    have h2 := hne _ (List.getElem_mem hj')
    unfold sameP at h2
    omega
  · obtain ⟨j, hj, rfl⟩ := List.mem_iff_getElem.1 ha
    have hj' : j < i0 := by simp at hj; omega
    have e : (l.take i0)[j] = l[j] := List.getElem_take
    rw [e]
    have h1 := A.lo j (by omega) hj'
    rcases List.mem_append.1 hb with hb | hb
    · simp at hb; rw [hb]; exact h1
    · obtain ⟨m, hm, rfl⟩ := List.mem_iff_getElem.1 hb
      have hm' : i0 + m < l.length := by simp at hm; omega
      have e2 : (l.drop i0)[m] = l[i0 + m] := by simp
      rw [e2]
      exact List.pairwise_iff_getElem.1 h j (i0 + m) (by omega) hm' (by omega)
theorem put_fact (n : Nat) (hn : 1100 < n) (l : List Pr) (g : Gr) (p : Pr) (hc : G_rmap_Check n l = some 0) (h : okR l) (G : GR g l) : ∃ (a : List Pr) (e : Int), G_rmap_Put n l p = some (a, e) ∧ a.length ≤ 1025 ∧
    e = (if rg p then (if atG g p.fSpace p.fPage > 0 then 5 else 0) else 1) ∧ (e ≠ 0 → a = []) ∧ (e = 0 → rg p ∧ ∀ h' : Gr, (∀ s q, (0 ≤ s ∧ s < 17) → (0 ≤ q ∧ q < 64) → cell h' s q = if s = p.fSpace ∧ q = p.fPage then p.fFrame + 1 else cell g s q) → a = allP h' 64) := by
  have hl := h.len
  by_cases hr : rg p
  · have hk := ask_ok n l p hc
    rw [if_pos hr] at hk
    unfold atG
    rw [if_pos hr, if_pos hr.2.2]
    rcases find_at hn G h p.fSpace p.fPage hr.2.2 with ⟨m, hm, h1, h2, h3, h4, h5, h6⟩ | ⟨h1, h2, h3⟩
    · rw [if_pos (by omega)]
      exact ⟨[], 5, put_there n l p m hk h6, by simp, rfl, fun _ => rfl, fun q => absurd q (by decide)⟩
    · rw [if_neg (by omega)]
      obtain ⟨i0, A⟩ := at_ex p l h.up
      refine ⟨_, 0, put_ok n hn l p i0 A hl hk h3, by have := A.le; simp; omega, rfl, fun q => absurd rfl q, fun _ => ⟨hr, fun h' hh => ?_⟩⟩
      refine all_eq h' _ (up_insert h.up A (fun x hx hs => h1 x hx ⟨hs.1, hs.2⟩)) fun x => ?_
      have hmem : x ∈ l.take i0 ++ [p] ++ l.drop i0 ↔ x = p ∨ x ∈ l := by
        constructor
        · intro hx
          rcases List.mem_append.1 hx with hx | hx
          · rcases List.mem_append.1 hx with hx | hx
            · exact .inr (List.mem_of_mem_take hx)
            · exact .inl (by simpa using hx)
          · exact .inr (List.mem_of_mem_drop hx)
        · rintro (rfl | hx)
          · simp
          · rw [← List.take_append_drop i0 l] at hx
            rcases List.mem_append.1 hx with hx | hx
            · simp [hx]
            · simp [hx]
      rw [hmem]
      constructor
      · rintro (rfl | hx)
        · refine ⟨by omega, by omega, by omega, ?_⟩
          rw [hh _ _ (by omega) (by omega), if_pos ⟨rfl, rfl⟩]
        · have hrx := h.rg x hx
          refine ⟨by omega, by omega, by omega, ?_⟩
          rw [hh _ _ (by omega) (by omega), if_neg (h1 x hx)]
          exact cell_there G h hx
      · rintro ⟨k1, k2, k3, k4⟩
        rw [hh _ _ k2 k3] at k4
        by_cases e : x.fSpace = p.fSpace ∧ x.fPage = p.fPage
        · rw [if_pos e] at k4
          left
          obtain ⟨a, b, c⟩ := x
          obtain ⟨a', b', c'⟩ := p
          simp only at e k4
          rw [e.1, e.2, show a = a' by omega]
        · rw [if_neg e] at k4
          exact .inr ((cell_iff G h x.fFrame x.fSpace x.fPage k1.1 k2 k3).1 k4)
  · have hk := ask_ok n l p hc
    rw [if_neg hr] at hk
    rw [if_neg hr]
    exact ⟨[], 1, put_bad n l p 1 (by decide) hk, by simp, rfl, fun _ => rfl, fun q => absurd q (by decide)⟩
theorem ask0 (n : Nat) (l : List Pr) (s q : Int) (hc : G_rmap_Check n l = some 0) : G_rmap_check n l ⟨0, s, q⟩ = some (if pg s q then 0 else 1) := by
  rw [ask_ok n l _ hc]
  by_cases h : pg s q
  · rw [if_pos h, if_pos ⟨by show (0 : Int) ≤ 0; decide, by show (0 : Int) ≤ 63; decide, h⟩]
  · rw [if_neg h, if_neg (fun k => h k.2.2)]
theorem ask1 (n : Nat) (l : List Pr) (f : Int) (hc : G_rmap_Check n l = some 0) : G_rmap_check n l ⟨f, 1, 0⟩ = some (if 0 ≤ f ∧ f ≤ 63 then 0 else 1) := by
  rw [ask_ok n l _ hc]
  by_cases h : 0 ≤ f ∧ f ≤ 63
  · rw [if_pos h, if_pos ⟨h.1, h.2, by show pg 1 0; decide⟩]
  · rw [if_neg h, if_neg (fun k => h ⟨k.1, k.2.1⟩)]
theorem out_fact (n : Nat) (hn : 1100 < n) (l : List Pr) (g : Gr) (s q : Int) (hc : G_rmap_Check n l = some 0) (h : okR l) (G : GR g l) : ∃ (b : List Pr) (f e : Int), G_rmap_Out n l s q = some (b, f, e) ∧ b.length ≤ 1025 ∧
    e = (if pg s q then (if atG g s q = 0 then 4 else 0) else 1) ∧ (e ≠ 0 → b = [] ∧ f = 0) ∧ (e = 0 → pg s q ∧ f = atG g s q - 1 ∧ ∀ h' : Gr, (∀ s' q', (0 ≤ s' ∧ s' < 17) → (0 ≤ q' ∧ q' < 64) → cell h' s' q' = if s' = s ∧ q' = q then 0 else cell g s' q') → b = allP h' 64) := by
  have hl := h.len
  have hk := ask0 n l s q hc
  by_cases hr : pg s q
  · rw [if_pos hr] at hk
    unfold atG
    rw [if_pos hr, if_pos hr]
    rcases find_at hn G h s q hr with ⟨m, hm, h1, h2, h3, h4, h5, h6⟩ | ⟨h1, h2, h3⟩
    · rw [if_neg (by omega)]
      refine ⟨_, _, 0, out_ok n l s q m hm hl hk h6, by simp; omega, rfl, fun q => absurd rfl q, fun _ => ⟨hr, by omega, fun h' hh => ?_⟩⟩
      have hsub : (l.take m ++ l.drop (m + 1)).Sublist l := by
        rw [← List.eraseIdx_eq_take_drop_succ]; exact List.eraseIdx_sublist ..
      refine all_eq h' _ (h.up.sublist hsub) fun x => ?_
      have hmem : x ∈ l.take m ++ l.drop (m + 1) ↔ x ∈ l ∧ ¬ (x.fSpace = s ∧ x.fPage = q) := by
        constructor
        · intro hx
          refine ⟨hsub.subset hx, fun e => ?_⟩
          rcases List.mem_append.1 hx with hx | hx
          · obtain ⟨j, hj, rfl⟩ := List.mem_iff_getElem.1 hx
            have hj' : j < m := by simp at hj; omega
            have ht : (l.take m)[j] = l[j] := List.getElem_take
            rw [ht] at e
            exact List.pairwise_iff_getElem.1 h.one j m (by omega) hm hj' ⟨by omega, by omega⟩
          · obtain ⟨j, hj, rfl⟩ := List.mem_iff_getElem.1 hx
            have hj' : m + 1 + j < l.length := by simp at hj; omega
            have ht : (l.drop (m + 1))[j] = l[m + 1 + j] := by simp
            rw [ht] at e
            exact List.pairwise_iff_getElem.1 h.one m (m + 1 + j) hm hj' (by omega) ⟨by omega, by omega⟩
        · rintro ⟨hx, e⟩
          obtain ⟨j, hj, rfl⟩ := List.mem_iff_getElem.1 hx
          rcases Nat.lt_trichotomy j m with hjm | hjm | hjm
          · exact List.mem_append.2 (.inl (List.mem_take_iff_getElem.2 ⟨j, by omega, rfl⟩))
          · subst hjm; exact absurd ⟨h1, h2⟩ e
          · refine List.mem_append.2 (.inr ?_)
            rw [List.mem_iff_getElem]
            exact ⟨j - (m + 1), by simp; omega, by simp; congr 1; omega⟩
      rw [hmem]
      constructor
      · rintro ⟨hx, e⟩
        have hrx := h.rg x hx
        refine ⟨by omega, by omega, by omega, ?_⟩
        rw [hh _ _ (by omega) (by omega), if_neg e]
        exact cell_there G h hx
      · rintro ⟨k1, k2, k3, k4⟩
        rw [hh _ _ k2 k3] at k4
        by_cases e : x.fSpace = s ∧ x.fPage = q
        · rw [if_pos e] at k4; omega
        · rw [if_neg e] at k4
          exact ⟨(cell_iff G h x.fFrame x.fSpace x.fPage k1.1 k2 k3).1 k4, e⟩
    · rw [if_pos h2]
      exact ⟨[], 0, 4, out_none n l s q hk h3, by simp, rfl, fun _ => ⟨rfl, rfl⟩, fun q => absurd q (by decide)⟩
  · rw [if_neg hr] at hk
    rw [if_neg hr]
    exact ⟨[], 0, 1, out_bad n l s q 1 (by decide) hk, by simp, rfl, fun _ => ⟨rfl, rfl⟩, fun q => absurd q (by decide)⟩
theorem who_fact (n : Nat) (hn : 1100 < n) (l : List Pr) (f : Int) (hc : G_rmap_Check n l = some 0) (h : okR l) : ∃ (c : List Pr) (e : Int), G_rmap_Who n l f = some (c, e) ∧ c.length ≤ 1025 ∧ e = (if 0 ≤ f ∧ f ≤ 63 then 0 else 1) ∧ (e ≠ 0 → c = []) ∧ (e = 0 → c = l.filter (fun p => p.fFrame == f)) := by
  have hl := h.len
  have hk := ask1 n l f hc
  by_cases hr : 0 ≤ f ∧ f ≤ 63
  · rw [if_pos hr] at hk
    rw [if_pos hr]
    exact ⟨_, 0, who_ok n hn l f hl hk, by have := List.length_filter_le (fun p : Pr => p.fFrame == f) l; omega, rfl, fun q => absurd rfl q, fun _ => rfl⟩
  · rw [if_neg hr] at hk
    rw [if_neg hr]
    exact ⟨[], 1, who_bad n l f 1 (by decide) hk, by simp, rfl, fun _ => rfl, fun q => absurd q (by decide)⟩
theorem where_fact (n : Nat) (hn : 1100 < n) (l : List Pr) (g : Gr) (s q : Int) (hc : G_rmap_Check n l = some 0) (h : okR l) (G : GR g l) : ∃ (d e : Int), G_rmap_Where n l s q = some (d, e) ∧ e = (if pg s q then 0 else 1) ∧ (e ≠ 0 → d = 0) ∧ (e = 0 → d = atG g s q - 1) := by
  have hk := ask0 n l s q hc
  by_cases hr : pg s q
  · rw [if_pos hr] at hk
    unfold atG
    rw [if_pos hr, if_pos hr]
    rcases find_at hn G h s q hr with ⟨m, hm, h1, h2, h3, h4, h5, h6⟩ | ⟨h1, h2, h3⟩
    · exact ⟨_, 0, where_ok n l s q m hm hk h6, rfl, fun q => absurd rfl q, fun _ => by omega⟩
    · exact ⟨_, 0, where_none n l s q hk h3, rfl, fun q => absurd rfl q, fun _ => by omega⟩
  · rw [if_neg hr] at hk
    rw [if_neg hr]
    exact ⟨0, 1, where_bad n l s q 1 (by decide) hk, rfl, fun _ => rfl, fun q => absurd q (by decide)⟩
/-- those of a frame, by the grid -/
theorem of_frame {g : Gr} {l : List Pr} (G : GR g l) (h : okR l) (f : Int) (hf : 0 ≤ f) : l.filter (fun p => p.fFrame == f) = spP g f 17 := by
  refine ltP_ext _ _ (h.up.filter _) (sp_up g f 17) fun x => ?_
  simp only [List.mem_filter, spP, List.mem_flatMap, List.mem_range, mem_row, beq_iff_eq]
  constructor
  · rintro ⟨hx, e⟩
    have hr := h.rg x hx
    refine ⟨x.fSpace.toNat, by omega, e, by omega, by omega, ?_⟩
    rw [Int.toNat_of_nonneg (by omega), cell_there G h hx, e]
  · rintro ⟨s, hs, h1, h2, h3, h4⟩
    have := (cell_iff G h f (s : Int) x.fPage hf (by omega) h3).1 h4
    have e : x = ⟨f, (s : Int), x.fPage⟩ := by
      obtain ⟨a, b, c⟩ := x
      simp only at h1 h2
      rw [h1, h2]
    exact ⟨by rw [e]; exact this, h1⟩
end rm
end Go.Proofs.Ytdonkhioembhlaa.pv
