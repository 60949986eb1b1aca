/- LiftOrders: what stands between two barriers, at the program and at the document. -/
import Derived.Test.YtdimcmpkhbfcnaaLLi
import Derived.Test.YtdimcmpkhbfcnaaSoLi
namespace Go.Proofs.Ytdimcmpkhbfcnaa.pv
set_option linter.all false
open Go.RowKit help
namespace li

instance : Inhabited Rq := ⟨⟨0, [], false⟩⟩
theorem rev_ind {α : Type} {C : List α → Prop} (h0 : C []) (h1 : ∀ l x, C l → C (l ++ [x])) (l : List α) : C l := by
  have : ∀ m : List α, C m.reverse := by
    intro m
    induction m with
    | nil => exact h0
    | cons x m ih => rw [List.reverse_cons]; exact h1 _ _ ih
  have h := this l.reverse
  rwa [List.reverse_reverse] at h
theorem swo (hd : Int) : Go.Sort.SWO (lt hd) where
  irrefl x := by simp [lt]
  trans x y z := by simp only [lt, decide_eq_true_eq]; omega
  ntrans x y z := by simp only [lt, decide_eq_false_iff_not]; omega
/-- where the head is then -/
def nh (hd : Int) (l : List Rq) : Int := match l.getLast? with | some x => x.fSector | none => hd
/-- right requests that are no barriers -/
def Okr (l : List Rq) : Prop := ∀ r ∈ l, (0 ≤ r.fSector ∧ r.fSector < 256) ∧ r.fData.length ≤ 1000
theorem ent_ok {l : List Rq} (h : Okr l) : ∀ p ∈ ent l, (0 ≤ p.1 ∧ p.1 < 256) ∧ p.2.length ≤ 1000 := fun p hp => by
  obtain ⟨r, hr, e1, e2⟩ := ent_src (mem_mget (ent_nodup l) (k := p.1) (v := p.2) hp)
  rw [← e1, ← e2]; exact h r hr
theorem ent_len_le : ∀ (l : List Rq) (E : Ents), (l.foldl put E).length ≤ E.length + l.length
  | [], E => by simp
  | r :: l, E => by
    have ih := ent_len_le l (put E r)
    have : (put E r).length ≤ E.length + 1 := by
      unfold put mput
      cases mplc E r.fSector with
      | none => simp
      | some q => obtain ⟨i, v⟩ := q; simp
    simp only [List.foldl_cons, List.length_cons]
    omega
theorem part_o (n : Nat) (hn : 5000 < n) (l : List Rq) (hd : Int) (hh : 0 ≤ hd ∧ hd < 256) (hl : l.length ≤ 1000) (ho : Okr l) (ord : Ents) (hp : ord.Perm (ent l)) :
    G_lift_part_o n l hd ord = some (ring hd (ent l), nh hd (ring hd (ent l))) := by
  have hent := ent_ok ho
  have hord : ∀ p ∈ ord, (0 ≤ p.1 ∧ p.1 < 256) ∧ p.2.length ≤ 1000 := fun p h => hent p (hp.subset h)
  have hlen : ord.length ≤ 1000 := by
    rw [hp.length_eq]
    have := ent_len_le l []
    unfold ent
    simp at this; omega
  have p1 := part1 n l hd (by omega) n 0 (by omega) (by omega)
  have p1 : G_lift_part_L1 n l hd n 0 [] = _ := p1
  have p2 := part2 n hd ord n [] (by omega) (by simp; omega) (fun p h => (hord p h).2)
  rw [List.nil_append] at p2
  have hQ : ∀ x ∈ ord.map mk, 0 ≤ x.fSector ∧ x.fSector < 256 := fun x hx => by
    obtain ⟨p, h, rfl⟩ := List.mem_map.1 hx
    exact (hord p h).1
  obtain ⟨r, s1, s2, s3⟩ := so.sorted n (Q := fun x : Rq => 0 ≤ x.fSector ∧ x.fSector < 256) (lt := lt hd) (cmp := fun (y0 : Rq) (y1 : Rq) => G_lift_part_1 n y0 y1 hd)
    (fun x y hx hy => ⟨_, cmp_ok n hh hx hy, decide_eq_decide.2 (by omega)⟩) (swo hd) (ord.map mk) hQ (by simp; omega) (by simp; omega)
  have hnd : (ord.map (·.1)).Nodup := (hp.map (·.1)).nodup_iff.2 (ent_nodup l)
  -- the distances differ
  have hdis : r.Pairwise (fun x y => dist hd x.fSector ≠ dist hd y.fSector) := by
    have h1 : (ord.map mk).Pairwise (fun x y => dist hd x.fSector ≠ dist hd y.fSector) := by
      rw [List.pairwise_map]
      have h2 : ord.Pairwise (fun a b => a.1 ≠ b.1) := List.pairwise_map.1 hnd
      refine List.Pairwise.imp_of_mem ?_ h2
      intro a b ha hb hab e
      exact hab (dist_inj (hord a ha).1 (hord b hb).1 e)
    exact (s2.symm.pairwise_iff (fun {_ _} h e => h e.symm)).1 h1
  have hr : r = ring hd (ent l) := by
    refine eq_of_rising (R := fun x y => lt hd x y = true) (fun a => by simp [lt]) (fun a b h1 h2 => by simp only [lt, decide_eq_true_eq] at h1 h2; omega) ?_ (ring_rising hd (ent l)) (fun x => ?_)
    · refine List.Pairwise.imp ?_ (List.Pairwise.and s3 hdis)
      intro a b ⟨h1, h2⟩
      simp only [lt, decide_eq_false_iff_not] at h1
      simp only [lt, decide_eq_true_eq]
      omega
    · rw [s2.mem_iff, List.mem_map, ring_mem]
      constructor
      · rintro ⟨p, hpm, rfl⟩
        have h1 := (hord p hpm).1
        have h2 := @dist_rng hd p.1
        have h3 := dist_at (hd := hd) h1
        have hk : ((dist hd p.1).toNat : Int) = dist hd p.1 := by omega
        refine ⟨(dist hd p.1).toNat, by omega, ?_, ?_, rfl⟩
        · rw [hk, h3]; exact mem_mget (ent_nodup l) (hp.subset hpm)
        · rw [hk, h3]; rfl
      · rintro ⟨k, hk, h1, h2, h3⟩
        refine ⟨(x.fSector, x.fData), ?_, ?_⟩
        · refine hp.symm.subset ?_
          rw [h2]; exact mget_mem h1
        · obtain ⟨a, b, c⟩ := x
          simp only at h3
          subst h3
          rfl
  subst hr
  have hrl := ring_len hd (ent l)
  unfold G_lift_part_o
  rw [p1, Option.bind_some]
  simp only
  rw [p2, Option.bind_some]
  simp only
  rw [s1, Option.bind_some]
  unfold nh
  by_cases h0 : ((ring hd (ent l)).length : Int) > 0
  · rw [if_pos h0, wi64 (by omega) (by omega), if_pos ⟨by omega, by omega⟩]
    have e : (((ring hd (ent l)).length : Int) - 1).toNat = (ring hd (ent l)).length - 1 := by omega
    rw [e, List.getLast?_eq_getElem?]
    have hx : (ring hd (ent l)).length - 1 < (ring hd (ent l)).length := by omega
    rw [List.getElem?_eq_getElem hx]
    rfl
  · rw [if_neg h0]
    have : ring hd (ent l) = [] := List.eq_nil_of_length_eq_zero (by omega)
    rw [this]; rfl
theorem part_ok (n : Nat) (hn : 5000 < n) (l : List Rq) (hd : Int) (hh : 0 ≤ hd ∧ hd < 256) (hl : l.length ≤ 1000) (ho : Okr l) :
    G_lift_part n l hd = some (ring hd (ent l), nh hd (ring hd (ent l))) := by
  have p1 := part1 n l hd (by omega) n 0 (by omega) (by omega)
  have p1 : G_lift_part_L1 n l hd n 0 [] = _ := p1
  have hE : G_lift_part_E n l hd = some (ent l) := by
    unfold G_lift_part_E
    rw [p1]; rfl
  unfold G_lift_part
  rw [hE, Option.bind_some, part_o n hn l hd hh hl ho (ent l) (.refl _), Option.bind_some, if_pos]
  rw [List.all_eq_true]
  intro q hq
  exact decide_eq_true (part_o n hn l hd hh hl ho q (of_perms hq))
theorem nh_rng {hd : Int} (hh : 0 ≤ hd ∧ hd < 256) (E : Ents) : 0 ≤ nh hd (ring hd E) ∧ nh hd (ring hd E) < 256 := by
  unfold nh
  cases hq : (ring hd E).getLast? with
  | none => exact hh
  | some x =>
    have hx := List.mem_of_getLast? hq
    obtain ⟨k, _, _, h2, _⟩ := ring_mem.1 hx
    simp only
    omega

/-- a request as the document has it -/
def bar : Rr := ⟨-1, ByteArray.mk #[]⟩
def rq (r : Rq) : Rr := if r.fBarrier = true then bar else ⟨r.fSector, b2s r.fData⟩
/-- the last one of a sector -/
def lastR (p : List Rr) (s : Int) : Option Rr := p.foldl (fun acc x => if x.fN = s then some x else acc) none
theorem lastR_app (p : List Rr) (x : Rr) (s : Int) : lastR (p ++ [x]) s = if x.fN = s then some x else lastR p s := by
  unfold lastR
  rw [List.foldl_append]; rfl
theorem lastR_ent (s : Int) : ∀ (l : List Rq), (∀ r ∈ l, r.fBarrier = false) → lastR (l.map rq) s = (mget (ent l) s).map fun d => (⟨s, b2s d⟩ : Rr) := by
  refine rev_ind (fun _ => rfl) fun l r ih h => ?_
  · show _
    have hr := h r (by simp)
    rw [List.map_append, List.map_singleton, lastR_app, ent_app, ih (fun x hx => h x (by simp [hx]))]
    have e : rq r = ⟨r.fSector, b2s r.fData⟩ := by unfold rq; rw [hr]; rfl
    rw [e]
    by_cases h1 : r.fSector = s
    · subst h1
      rw [if_pos rfl, if_pos rfl]; rfl
    · rw [if_neg h1, if_neg (fun q => h1 q.symm)]
theorem search (n : Nat) (at_ x b : Int) (p out : List Rr) (hp : p.length ≤ 1000) (ho : out.length ≤ 900000) : ∀ (k i : Nat), i < k → i ≤ p.length →
    G_ringref3_Lift_1_h_L2 n at_ x b k ((i : Int) - 1) p out = some (match lastR (p.take i) at_ with | some y => .x0 p (out ++ [y]) | none => .x1 p out)
  | 0, i, h, _ => by omega
  | k + 1, 0, h, hi => by
    unfold G_ringref3_Lift_1_h_L2
    rw [if_neg (by omega)]
    rfl
  | k + 1, i + 1, h, hi => by
    unfold G_ringref3_Lift_1_h_L2
    have hlt : i < p.length := by omega
    have e1 : (((i + 1 : Nat) : Int) - 1).toNat = i := by omega
    have c : 0 ≤ ((i + 1 : Nat) : Int) - 1 ∧ (((i + 1 : Nat) : Int) - 1).toNat < p.length := ⟨by omega, by omega⟩
    rw [if_pos (by omega), if_pos c, e1, List.getElem?_eq_getElem hlt, Option.bind_some, List.take_succ_eq_append_getElem hlt, lastR_app]
    by_cases h1 : p[i].fN = at_
    · rw [if_pos h1, if_pos h1, if_pos ⟨by omega, hlt⟩, Option.bind_some, app_some (by simp; omega) (by omega)]
      rfl
    · rw [if_neg h1, if_neg h1, wi64 (by omega) (by omega)]
      have e2 : ((i + 1 : Nat) : Int) - 1 - 1 = (i : Int) - 1 := by omega
      rw [e2]
      exact search n at_ x b p out hp ho k i (by omega) (by omega)
/-- round from the head on, at the document -/
def ringR (hd : Int) (p : List Rr) (k m : Nat) : List Rr := (List.range' k m).filterMap fun (j : Nat) => lastR p ((hd + (j : Int)) % 256)
def nhR (b : Int) (l : List Rr) : Int := match l.getLast? with | some x => x.fN | none => b
theorem lastR_N' (s : Int) : ∀ (p : List Rr) (y : Rr), lastR p s = some y → y.fN = s := by
  refine rev_ind (fun y h => by cases h) fun p x ih y h => ?_
  rw [lastR_app] at h
  by_cases e : x.fN = s
  · rw [if_pos e] at h
    rw [← Option.some.inj h]; exact e
  · rw [if_neg e] at h; exact ih y h
theorem lastR_N {p : List Rr} {s : Int} {y : Rr} (h : lastR p s = some y) : y.fN = s := lastR_N' s p y h
theorem round (n : Nat) (hn : 5000 < n) (hd : Int) (hh : 0 ≤ hd ∧ hd < 256) (p : List Rr) (hp : p.length ≤ 1000) : ∀ (k i : Nat) (b : Int) (out : List Rr), 256 - i < k → i ≤ 256 → out.length + 257 - i ≤ 900000 →
    G_ringref3_Lift_1_h_L3 n k ((hd + (i : Int)) % 256) (i : Int) b p out = some (.x0 (nhR b (ringR hd p i (256 - i))) p (out ++ ringR hd p i (256 - i)))
  | 0, i, _, _, h, _, _ => by omega
  | k + 1, i, b, out, h, hi, ho => by
    unfold G_ringref3_Lift_1_h_L3
    by_cases h1 : i < 256
    · have s := search n ((hd + (i : Int)) % 256) (i : Int) b p out hp (by omega) n p.length (by omega) (Nat.le_refl _)
      rw [List.take_length] at s
      have e1 : wi .i64 ((p.length : Int) - 1) = (p.length : Int) - 1 := wi64 (by omega) (by omega)
      have e2 : remI (wi .i64 ((hd + (i : Int)) % 256 + 1)) 256 = (hd + ((i + 1 : Nat) : Int)) % 256 := by
        rw [wi64 (by omega) (by omega), rem_nn (by omega)]; omega
      have e3 : ringR hd p i (256 - i) = (match lastR p ((hd + (i : Int)) % 256) with | some y => [y] | none => []) ++ ringR hd p (i + 1) (256 - (i + 1)) := by
        unfold ringR
        rw [show 256 - i = (256 - (i + 1)) + 1 by omega, List.range'_succ, List.filterMap_cons]
        cases lastR p ((hd + (i : Int)) % 256) <;> rfl
      rw [if_pos (by omega), e1, s, Option.bind_some, e2, wi_succ (by omega), e3]
      cases hq : lastR p ((hd + (i : Int)) % 256) with
      | none =>
        simp only [List.nil_append]
        exact round n hn hd hh p hp k (i + 1) b out (by omega) (by omega) (by omega)
      | some y =>
        simp only
        rw [round n hn hd hh p hp k (i + 1) _ (out ++ [y]) (by omega) (by omega) (by simp; omega), List.append_assoc]
        congr 2
        unfold nhR
        have hy := lastR_N hq
        cases hr : (ringR hd p (i + 1) (256 - (i + 1))).getLast? with
        | none =>
          have : ringR hd p (i + 1) (256 - (i + 1)) = [] := List.getLast?_eq_none_iff.1 hr
          rw [this]; simp [hy]
        | some z => rw [List.getLast?_append, hr]; rfl
    · have : i = 256 := by omega
      subst this
      rw [if_neg (by omega)]
      simp [ringR, nhR]
theorem end_ok (n : Nat) (hn : 5000 < n) (hd : Int) (hh : 0 ≤ hd ∧ hd < 256) (l : List Rq) (hl : l.length ≤ 1000) (hb : ∀ r ∈ l, r.fBarrier = false) (out : List Rr) (ho : out.length ≤ 800000) :
    G_ringref3_Lift_1_h n hd (l.map rq) out = some (nh hd (ring hd (ent l)), [], out ++ (ring hd (ent l)).map rq) := by
  have r := round n hn hd hh (l.map rq) (by simp; omega) n 0 hd out (by omega) (by omega) (by omega)
  have r : G_ringref3_Lift_1_h_L3 n n ((hd + 0) % 256) 0 hd (l.map rq) out = _ := r
  have e0 : (hd + 0) % 256 = hd := by omega
  rw [e0] at r
  have e1 : ringR hd (l.map rq) 0 (256 - 0) = (ring hd (ent l)).map rq := by
    unfold ringR ring
    rw [List.map_filterMap, List.range_eq_range']
    congr 1
    funext j
    rw [lastR_ent _ _ hb]
    cases mget (ent l) ((hd + (j : Int)) % 256) <;> rfl
  have e2 : nhR hd ((ring hd (ent l)).map rq) = nh hd (ring hd (ent l)) := by
    unfold nhR nh
    rw [List.getLast?_map]
    cases hq : (ring hd (ent l)).getLast? with
    | none => rfl
    | some x =>
      obtain ⟨_, _, _, _, h3⟩ := ring_mem.1 (List.mem_of_getLast? hq)
      simp [rq, h3]
  unfold G_ringref3_Lift_1_h
  rw [r, e1, e2]
  rfl
end li
end Go.Proofs.Ytdimcmpkhbfcnaa.pv
