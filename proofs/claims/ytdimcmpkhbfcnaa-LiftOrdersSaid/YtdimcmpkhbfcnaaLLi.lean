/- LiftOrders: what a map holds, and lists by rising distance. -/
import Derived.Test.YtdimcmpkhbfcnaaGuLiftOrders
import Derived.Test.YtdimcmpkhbfcnaaMath
import Derived.Test.YtdimcmpkhbfcnaaLib
import Derived.Test.YtdimcmpkhbfcnaaTh
namespace Go.Proofs.Ytdimcmpkhbfcnaa.pv
set_option linter.all false
open Go.RowKit help
namespace li

section
variable {κ ν : Type} [DecidableEq κ]
theorem mget_cons (p : κ × ν) (r : List (κ × ν)) (k : κ) : mget (p :: r) k = if k = p.1 then some p.2 else mget r k := by
  unfold mget
  rw [mplc]
  by_cases h : k = p.1
  · simp [h]
  · simp only [h, if_false]
    cases mplc r k <;> rfl
theorem mget_mem : ∀ {E : List (κ × ν)} {k : κ} {v : ν}, mget E k = some v → (k, v) ∈ E
  | [], k, v, h => by cases h
  | p :: r, k, v, h => by
    rw [mget_cons] at h
    by_cases e : k = p.1
    · rw [if_pos e] at h
      have := Option.some.inj h
      rw [e, ← this]; simp
    · rw [if_neg e] at h
      exact List.mem_cons_of_mem _ (mget_mem h)
theorem mem_mget : ∀ {E : List (κ × ν)} {k : κ} {v : ν}, (E.map (·.1)).Nodup → (k, v) ∈ E → mget E k = some v
  | [], k, v, _, h => by cases h
  | p :: r, k, v, hn, h => by
    rw [mget_cons]
    simp only [List.map_cons, List.nodup_cons] at hn
    rcases List.mem_cons.1 h with rfl | h
    · simp
    · have : k ≠ p.1 := fun e => hn.1 (by rw [← e]; exact List.mem_map.2 ⟨(k, v), h, rfl⟩)
      rw [if_neg this]
      exact mem_mget hn.2 h
theorem mplc_none_mem {E : List (κ × ν)} {k : κ} (h : mplc E k = none) : k ∉ E.map (·.1) := fun hm => by
  obtain ⟨p, hp, rfl⟩ := List.mem_map.1 hm
  have : ∀ {E : List (κ × ν)}, p ∈ E → mplc E p.1 ≠ none := by
    intro E
    induction E with
    | nil => intro h; cases h
    | cons q r ih =>
      intro h h0
      rw [mplc] at h0
      by_cases e : p.1 = q.1
      · simp [e] at h0
      · simp only [e, if_false] at h0
        rcases List.mem_cons.1 h with rfl | h
        · exact e rfl
        · cases hq : mplc r p.1 with
          | none => exact ih h hq
          | some _ => rw [hq] at h0; cases h0
  exact this hp h
theorem mput_nodup {E : List (κ × ν)} {k : κ} {v : ν} (h : (E.map (·.1)).Nodup) : ((mput E k v).map (·.1)).Nodup := by
  unfold mput
  cases hq : mplc E k with
  | none =>
    simp only [List.map_append, List.map_cons, List.map_nil]
    rw [List.nodup_append]
    refine ⟨h, by simp, fun a ha b hb => ?_⟩
    simp at hb
    subst hb
    exact fun e => mplc_none_mem hq (e ▸ ha)
  | some q =>
    obtain ⟨i, v0⟩ := q
    have he := mplc_some hq
    have : (E.set i (k, v)).map (·.1) = E.map (·.1) := by
      rw [List.map_set]
      apply List.ext_getElem?
      intro j
      rw [List.getElem?_set]
      by_cases e : i = j
      · subst e
        rw [if_pos rfl, List.getElem?_map, he]
        have hlt := (List.getElem?_eq_some_iff.1 he).1
        rw [if_pos (by simpa using hlt)]; rfl
      · rw [if_neg e]
    simp only
    rw [this]; exact h
end
abbrev Rq := S_lift_Req
abbrev Rr := S_ringref3_Req
abbrev Ents := List (Int × List Int)
def put (E : Ents) (r : Rq) : Ents := mput E r.fSector r.fData
def ent (l : List Rq) : Ents := l.foldl put []
theorem fold_nodup : ∀ (l : List Rq) (E : Ents), (E.map (·.1)).Nodup → ((l.foldl put E).map (·.1)).Nodup
  | [], E, h => h
  | r :: l, E, h => fold_nodup l _ (mput_nodup h)
theorem ent_nodup (l : List Rq) : ((ent l).map (·.1)).Nodup := fold_nodup l [] (by simp)
theorem fold_src : ∀ (l : List Rq) (E : Ents) (k : Int) (d : List Int), mget (l.foldl put E) k = some d → (∃ r ∈ l, r.fSector = k ∧ r.fData = d) ∨ mget E k = some d
  | [], E, k, d, h => .inr h
  | r :: l, E, k, d, h => by
    rcases fold_src l _ k d h with ⟨x, hx, h1⟩ | h1
    · exact .inl ⟨x, by simp [hx], h1⟩
    · unfold put at h1
      rw [mget_mput] at h1
      by_cases e : k = r.fSector
      · rw [if_pos e] at h1
        exact .inl ⟨r, by simp, e.symm, Option.some.inj h1⟩
      · rw [if_neg e] at h1; exact .inr h1
theorem ent_src {l : List Rq} {k : Int} {d : List Int} (h : mget (ent l) k = some d) : ∃ r ∈ l, r.fSector = k ∧ r.fData = d := by
  rcases fold_src l [] k d h with h | h
  · exact h
  · cases h
theorem ent_app (l : List Rq) (r : Rq) (k : Int) : mget (ent (l ++ [r])) k = if k = r.fSector then some r.fData else mget (ent l) k := by
  unfold ent
  rw [List.foldl_append]
  show mget (mput _ _ _) k = _
  rw [mget_mput]
theorem part1 (n : Nat) (l : List Rq) (hd : Int) (hl : l.length < 1000000) : ∀ (k i : Nat), l.length - i < k → i ≤ l.length → G_lift_part_L1 n l hd k (i : Int) (ent (l.take i)) = some (.x0 (ent l))
  | 0, i, h, _ => by omega
  | k + 1, i, h, hi => by
    unfold G_lift_part_L1
    by_cases h1 : i < l.length
    · have ih := part1 n l hd hl k (i + 1) (by omega) (by omega)
      rw [List.take_succ_eq_append_getElem h1] at ih
      rw [if_pos (by omega), getI_nat, List.getElem?_eq_getElem h1, Option.bind_some, wi_succ (by omega)]
      unfold ent at ih ⊢
      rw [List.foldl_append] at ih
      exact ih
    · have : i = l.length := by omega
      rw [if_neg (by omega), this, List.take_length]
def mk (p : Int × List Int) : Rq := ⟨p.1, p.2, false⟩
theorem part2 (n : Nat) (hd : Int) : ∀ (ord : Ents) (k : Nat) (out : List Rq), ord.length < k → out.length + ord.length ≤ 1000 → (∀ p ∈ ord, p.2.length ≤ 1000) → G_lift_part_L2 n hd k out ord = some (.x0 (out ++ ord.map mk))
  | _, 0, _, h, _, _ => by omega
  | [], k + 1, out, _, _, _ => by rw [G_lift_part_L2]; simp
  | (a, b) :: ord, k + 1, out, h, h1, h2 => by
    simp only [List.length_cons] at h h1
    have hb : b.length ≤ 1000 := h2 (a, b) (by simp)
    rw [G_lift_part_L2]
    unfold G_slices_Clone_byte_byte
    rw [app_some (by simp; omega) (by omega), Option.bind_some, List.nil_append, app_some (by simp; omega) (by omega), Option.bind_some, part2 n hd ord k _ (by omega) (by simp; omega) (fun p hp => h2 p (by simp [hp]))]
    simp [mk]
/-- how far from the head -/
def dist (hd s : Int) : Int := (s - hd + 256) % 256
theorem far_ok (n : Nat) {hd s : Int} (h1 : 0 ≤ hd ∧ hd < 256) (h2 : 0 ≤ s ∧ s < 256) : G_lift_far n hd s = some (dist hd s) := by
  unfold G_lift_far dist
  rw [wi64 (x := s - hd) (by omega) (by omega)]
  have e : remI (s - hd) 256 = s - hd := by
    unfold remI
    by_cases h : 0 ≤ s - hd
    · rw [Int.tmod_eq_emod_of_nonneg h]; omega
    · have : s - hd = -(hd - s) := by omega
      rw [this, Int.neg_tmod, Int.tmod_eq_emod_of_nonneg (by omega)]; omega
  rw [e, wi64 (by omega) (by omega), rem_nn (by omega)]
theorem dist_inj {hd a b : Int} (h1 : 0 ≤ a ∧ a < 256) (h2 : 0 ≤ b ∧ b < 256) (h : dist hd a = dist hd b) : a = b := by
  unfold dist at h; omega
theorem dist_at {hd s : Int} (h1 : 0 ≤ s ∧ s < 256) : (hd + dist hd s) % 256 = s := by unfold dist; omega
theorem dist_of {hd : Int} {k : Int} (h : 0 ≤ k ∧ k < 256) : dist hd ((hd + k) % 256) = k := by unfold dist; omega
theorem dist_rng {hd s : Int} : 0 ≤ dist hd s ∧ dist hd s < 256 := by unfold dist; omega
theorem cmp_ok (n : Nat) {hd : Int} {a b : Rq} (h : 0 ≤ hd ∧ hd < 256) (ha : 0 ≤ a.fSector ∧ a.fSector < 256) (hb : 0 ≤ b.fSector ∧ b.fSector < 256) : G_lift_part_1 n a b hd = some (dist hd a.fSector - dist hd b.fSector) := by
  have := @dist_rng hd a.fSector
  have := @dist_rng hd b.fSector
  unfold G_lift_part_1
  rw [far_ok n h ha, Option.bind_some, far_ok n h hb, Option.bind_some, wi64 (by omega) (by omega)]
/-- two rising lists of the same things are one -/
theorem eq_of_rising {α : Type} {R : α → α → Prop} (hirr : ∀ a, ¬ R a a) (has : ∀ a b, R a b → ¬ R b a) : ∀ {l m : List α}, l.Pairwise R → m.Pairwise R → (∀ a, a ∈ l ↔ a ∈ m) → l = m
  | [], [], _, _, _ => rfl
  | [], b :: m, _, _, h => by have := (h b).2 (by simp); cases this
  | a :: l, [], _, _, h => by have := (h a).1 (by simp); cases this
  | a :: l, b :: m, hl, hm, h => by
    obtain ⟨l1, l2⟩ := List.pairwise_cons.1 hl
    obtain ⟨m1, m2⟩ := List.pairwise_cons.1 hm
    have e : a = b := by
      rcases List.mem_cons.1 ((h a).1 (by simp)) with q | q
      · exact q
      · rcases List.mem_cons.1 ((h b).2 (by simp)) with p | p
        · exact p.symm
        · exact absurd (m1 a q) (has _ _ (l1 b p))
    subst e
    rw [eq_of_rising hirr has l2 m2 (fun x => ⟨fun hx => by
      rcases List.mem_cons.1 ((h x).1 (by simp [hx])) with q | q
      · subst q; exact absurd (l1 x hx) (hirr x)
      · exact q, fun hx => by
      rcases List.mem_cons.1 ((h x).2 (by simp [hx])) with q | q
      · subst q; exact absurd (m1 x hx) (hirr x)
      · exact q⟩)]
/-- round from the head on -/
def ring (hd : Int) (E : Ents) : List Rq := (List.range 256).filterMap fun (k : Nat) => (mget E ((hd + (k : Int)) % 256)).map fun d => ⟨(hd + (k : Int)) % 256, d, false⟩
def lt (hd : Int) (x y : Rq) : Bool := decide (dist hd x.fSector < dist hd y.fSector)
theorem ring_mem {hd : Int} {E : Ents} {x : Rq} : x ∈ ring hd E ↔ ∃ k : Nat, k < 256 ∧ mget E ((hd + (k : Int)) % 256) = some x.fData ∧ x.fSector = (hd + (k : Int)) % 256 ∧ x.fBarrier = false := by
  unfold ring
  rw [List.mem_filterMap]
  constructor
  · rintro ⟨k, hk, h⟩
    rw [List.mem_range] at hk
    cases hq : mget E ((hd + (k : Int)) % 256) with
    | none => rw [hq] at h; cases h
    | some d =>
      rw [hq] at h
      have := Option.some.inj h
      subst this
      exact ⟨k, hk, hq, rfl, rfl⟩
  · rintro ⟨k, hk, h1, h2, h3⟩
    refine ⟨k, List.mem_range.2 hk, ?_⟩
    rw [h1]
    obtain ⟨a, b, c⟩ := x
    simp only at h2 h3
    subst h2 h3
    rfl
theorem ring_rising (hd : Int) (E : Ents) : (ring hd E).Pairwise (fun x y => lt hd x y = true) := by
  unfold ring
  rw [List.pairwise_filterMap]
  refine List.Pairwise.imp_of_mem ?_ (List.pairwise_lt_range (n := 256))
  intro a b ha hb hab x hx y hy
  rw [List.mem_range] at ha hb
  cases hq : mget E ((hd + (a : Int)) % 256) with
  | none => rw [hq] at hx; cases hx
  | some d =>
    cases hp : mget E ((hd + (b : Int)) % 256) with
    | none => rw [hp] at hy; cases hy
    | some c =>
      rw [hq] at hx
      rw [hp] at hy
      have e1 := Option.some.inj hx
      have e2 := Option.some.inj hy
      subst e1 e2
      unfold lt
      simp only
      rw [dist_of (by omega), dist_of (by omega)]
      exact decide_eq_true (by omega)
theorem ring_len (hd : Int) (E : Ents) : (ring hd E).length ≤ 256 := by
  unfold ring
  exact Nat.le_trans (List.length_filterMap_le _ _) (by simp)
end li
end Go.Proofs.Ytdimcmpkhbfcnaa.pv
