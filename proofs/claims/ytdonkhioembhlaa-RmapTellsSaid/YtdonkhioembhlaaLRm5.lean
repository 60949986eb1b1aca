/- RmapTells: what is moved; the law. -/
import Derived.Test.YtdonkhioembhlaaLRm4
namespace Go.Proofs.Ytdonkhioembhlaa.pv
set_option linter.all false
open Go.RowKit help
namespace rm
/-- the library's sort does what it should -/
def Sorts (n : Nat) : Prop := ∀ xs : List Pr, xs.length ≤ 1024 → ∃ r, G_slices_SortFunc_rmap_Pair_rmap_Pair_h n xs (fun y0 y1 => G_rmap_order n y0 y1) = some r ∧ r.Perm xs ∧ r.Pairwise fun x y => ¬ ltP y x
theorem move_fact (n : Nat) (hn : 1100 < n) (S : Sorts n) (l : List Pr) (g : Gr) (f to : Int) (hc : G_rmap_Check n l = some 0) (h : okR l) (G : GR g l) : ∃ (m : List Pr) (c e : Int), G_rmap_Move n l f to = some (m, c, e) ∧ m.length ≤ 1025 ∧
    e = (if 0 ≤ f ∧ f ≤ 63 then (if 0 ≤ to ∧ to ≤ 63 then 0 else 1) else 1) ∧ (e ≠ 0 → m = [] ∧ c = 0) ∧ (e = 0 → (0 ≤ f ∧ f ≤ 63) ∧ (0 ≤ to ∧ to ≤ 63) ∧ c = ((spP g f 17).length : Int) ∧ ∀ h' : Gr, (∀ s q, (0 ≤ s ∧ s < 17) → (0 ≤ q ∧ q < 64) → cell h' s q = if cell g s q = f + 1 then to + 1 else cell g s q) → m = allP h' 64) := by
  have hl := h.len
  have hk := ask1 n l f hc
  have hk2 := ask1 n l to hc
  by_cases hr : 0 ≤ f ∧ f ≤ 63
  · rw [if_pos hr] at hk
    rw [if_pos hr]
    by_cases hr2 : 0 ≤ to ∧ to ≤ 63
    · rw [if_pos hr2] at hk2
      rw [if_pos hr2]
      obtain ⟨r, r1, r2, r3⟩ := S (l.map (mv f to)) (by simpa using hl)
      have hmv : G_rmap_Move n l f to = some (r, ((l.filter (fun p => p.fFrame == f)).length : Int), 0) := by
        unfold G_rmap_Move G_rmap_Move_C1
        have hlp := move_loop n f to l hl n 0 0 l (by omega) (by omega) (by omega) (by simp)
        rw [List.drop_zero] at hlp
        have hlp : G_rmap_Move_L2 n f to l n 0 0 l = _ := hlp
        rw [hk, Option.bind_some, if_pos rfl, hk2, Option.bind_some, Option.bind_some]
        simp only
        rw [if_pos trivial, clone_any n l hl, Option.bind_some, hlp, Option.bind_some]
        simp only
        rw [r1]; simp
      refine ⟨r, _, 0, hmv, by rw [r2.length_eq]; simp; omega, rfl, fun q => absurd rfl q, fun _ => ⟨hr, hr2, by rw [of_frame G h f hr.1], fun h' hh => ?_⟩⟩
      have hne : r.Pairwise fun a b => ¬ sameP a b := by
        refine (r2.pairwise_iff (fun {a b} (q : ¬ sameP a b) (k : sameP b a) => q ⟨k.1.symm, k.2.symm⟩)).2 ?_
        rw [List.pairwise_map]
        refine h.one.imp fun {a b} hab k => hab ?_
        unfold sameP mv at *
        split at k <;> split at k <;> exact k
      have hup : r.Pairwise ltP := (r3.and hne).imp fun {a b} ⟨k1, k2⟩ => by unfold ltP sameP at *; omega
      refine all_eq h' r hup fun x => ?_
      rw [r2.mem_iff, List.mem_map]
      constructor
      · rintro ⟨p, hp, rfl⟩
        have hrp := h.rg p hp
        have hcl := cell_there G h hp
        unfold mv
        by_cases e : p.fFrame = f
        · rw [if_pos e]
          refine ⟨by show 0 ≤ to ∧ to < 64; omega, by show 0 ≤ p.fSpace ∧ p.fSpace < 17; omega, by show 0 ≤ p.fPage ∧ p.fPage < 64; omega, ?_⟩
          show cell h' p.fSpace p.fPage = to + 1
          rw [hh _ _ (by omega) (by omega), if_pos (by rw [hcl, e])]
        · rw [if_neg e]
          refine ⟨by omega, by omega, by omega, ?_⟩
          rw [hh _ _ (by omega) (by omega), if_neg (by omega), hcl]
      · rintro ⟨k1, k2, k3, k4⟩
        rw [hh _ _ k2 k3] at k4
        by_cases e : cell g x.fSpace x.fPage = f + 1
        · rw [if_pos e] at k4
          refine ⟨⟨f, x.fSpace, x.fPage⟩, (cell_iff G h f x.fSpace x.fPage hr.1 k2 k3).1 e, ?_⟩
          unfold mv
          rw [if_pos rfl]
          obtain ⟨a, b, c⟩ := x
          simp only at k4 ⊢
          rw [show to = a by omega]
        · rw [if_neg e] at k4
          refine ⟨x, (cell_iff G h x.fFrame x.fSpace x.fPage k1.1 k2 k3).1 k4, ?_⟩
          unfold mv
          rw [if_neg (by omega)]
    · rw [if_neg hr2] at hk2
      rw [if_neg hr2]
      exact ⟨[], 0, 1, move_bad2 n l f to 1 (by decide) hk hk2, by simp, rfl, fun _ => ⟨rfl, rfl⟩, fun q => absurd q (by decide)⟩
  · rw [if_neg hr] at hk
    rw [if_neg hr]
    exact ⟨[], 0, 1, move_bad1 n l f to 1 (by decide) hk, by simp, rfl, fun _ => ⟨rfl, rfl⟩, fun q => absurd q (by decide)⟩
/-! the grid that is moved -/
def mg (g : Gr) (f to : Int) (j i : Nat) (s q : Int) : Int := if (s < (j : Int) ∨ (s = (j : Int) ∧ q < (i : Int))) ∧ cell g s q = f + 1 then to + 1 else cell g s q
theorem l13_loop (n : Nat) (to : Int) (a1 : List Pr × Int) (a2 : List Pr × Int × Int) (a3 : List Pr × Int) (a4 : Int × Int) (a5 : List Pr × Int × Int) (b1 b2 : List Pr) (b3 b4 : Int) (p : Pr) (hp : 0 ≤ p.fFrame ∧ p.fFrame ≤ 63) (hto : 0 ≤ to ∧ to ≤ 63) (g : Gr) (j : Nat) (hj : j < 17) (c0 : Nat) (hc0 : c0 ≤ 2000) (w : List Pr) : ∀ (k i : Nat) (B : Gr), 64 - i < k → i ≤ 64 →
    (∀ s q, (0 ≤ s ∧ s < 17) → (0 ≤ q ∧ q < 64) → cell B s q = mg g p.fFrame to j i s q) →
    ∃ B' : Gr, G_ringlaw2_RmapTells_L13 n to a1 a2 a3 a4 a5 b1 b2 b3 b4 (j : Int) p k ((c0 + (rowP g p.fFrame j i).length : Nat) : Int) (i : Int) w B = some (.x0 ((c0 + (rowP g p.fFrame j 64).length : Nat) : Int) w B') ∧ ∀ s q, (0 ≤ s ∧ s < 17) → (0 ≤ q ∧ q < 64) → cell B' s q = mg g p.fFrame to (j + 1) 0 s q
  | 0, i, B, h, _, _ => by omega
  | k + 1, i, B, h, hi, hB => by
    rw [G_ringlaw2_RmapTells_L13]
    by_cases h1 : i < 64
    · have hs : 0 ≤ (j : Int) ∧ (j : Int) < 17 := by omega
      have hq : 0 ≤ (i : Int) ∧ (i : Int) < 64 := by omega
      obtain ⟨row, g1, g2, g3⟩ := grid_get B hs hq
      have w1 : wi .i64 (p.fFrame + 1) = p.fFrame + 1 := wi64 (by omega) (by omega)
      have w2 : wi .i64 (to + 1) = to + 1 := wi64 (by omega) (by omega)
      have hcell : cell B (j : Int) (i : Int) = cell g (j : Int) (i : Int) := by
        rw [hB _ _ hs hq]; unfold mg; rw [if_neg (by omega)]
      have hlen := rowP_len g p.fFrame j i
      have hsucc := rowP_succ g p.fFrame (j : Int) i
      rw [if_pos (by omega), if_pos hs, if_pos hq, g1, Option.bind_some, g2, Option.bind_some, w1, hcell]
      by_cases e : cell g (j : Int) (i : Int) = p.fFrame + 1
      · rw [if_pos e] at hsucc
        rw [if_pos e, if_pos hs, if_pos hq, Option.bind_some, g2, Option.bind_some, w2, wi_succ (by omega), wi_succ (by omega)]
        have hl2 : c0 + (rowP g p.fFrame j i).length + 1 = c0 + (rowP g p.fFrame j (i + 1)).length := by rw [hsucc, List.length_append]; rfl
        rw [hl2]
        refine l13_loop n to a1 a2 a3 a4 a5 b1 b2 b3 b4 p hp hto g j hj c0 hc0 w k (i + 1) _ (by omega) (by omega) fun s q hs' hq' => ?_
        rw [g3 _ s q hs' hq', hB s q hs' hq']
        unfold mg
        by_cases e2 : s = (j : Int) ∧ q = (i : Int)
        · rw [if_pos e2, if_pos ⟨by omega, by rw [e2.1, e2.2]; exact e⟩]
        · rw [if_neg e2]
          by_cases e3 : (s < (j : Int) ∨ (s = (j : Int) ∧ q < (i : Int))) ∧ cell g s q = p.fFrame + 1
          · rw [if_pos e3, if_pos ⟨by omega, e3.2⟩]
          · rw [if_neg e3, if_neg (fun k => e3 ⟨by omega, k.2⟩)]
      · rw [if_neg e, List.append_nil] at hsucc
        rw [if_neg e, wi_succ (by omega), ← hsucc]
        refine l13_loop n to a1 a2 a3 a4 a5 b1 b2 b3 b4 p hp hto g j hj c0 hc0 w k (i + 1) _ (by omega) (by omega) fun s q hs' hq' => ?_
        rw [hB s q hs' hq']
        unfold mg
        by_cases e3 : (s < (j : Int) ∨ (s = (j : Int) ∧ q < (i : Int))) ∧ cell g s q = p.fFrame + 1
        · rw [if_pos e3, if_pos ⟨by omega, e3.2⟩]
        · rw [if_neg e3, if_neg]
          rintro ⟨k1, k2⟩
          by_cases e4 : s = (j : Int) ∧ q = (i : Int)
          · rw [e4.1, e4.2] at k2; exact e k2
          · exact e3 ⟨by omega, k2⟩
    · rw [if_neg (by omega)]
      have : i = 64 := by omega
      subst this
      refine ⟨B, rfl, fun s q hs' hq' => ?_⟩
      rw [hB s q hs' hq']
      unfold mg
      by_cases e3 : (s < (j : Int) ∨ (s = (j : Int) ∧ q < ((64 : Nat) : Int))) ∧ cell g s q = p.fFrame + 1
      · rw [if_pos e3, if_pos ⟨by omega, e3.2⟩]
      · rw [if_neg e3, if_neg (fun k => e3 ⟨by omega, k.2⟩)]
theorem l14_loop (n : Nat) (hn : 200 < n) (to : Int) (a1 : List Pr × Int) (a2 : List Pr × Int × Int) (a3 : List Pr × Int) (a4 : Int × Int) (a5 : List Pr × Int × Int) (b1 b2 : List Pr) (b3 b4 : Int) (p : Pr) (hp : 0 ≤ p.fFrame ∧ p.fFrame ≤ 63) (hto : 0 ≤ to ∧ to ≤ 63) (g : Gr) (w : List Pr) : ∀ (k j : Nat) (B : Gr), 17 - j < k → j ≤ 17 →
    (∀ s q, (0 ≤ s ∧ s < 17) → (0 ≤ q ∧ q < 64) → cell B s q = mg g p.fFrame to j 0 s q) →
    ∃ B' : Gr, G_ringlaw2_RmapTells_L14 n to a1 a2 a3 a4 a5 b1 b2 b3 b4 p k ((spP g p.fFrame j).length : Int) (j : Int) w B = some (.x0 ((spP g p.fFrame 17).length : Int) w B') ∧ ∀ s q, (0 ≤ s ∧ s < 17) → (0 ≤ q ∧ q < 64) → cell B' s q = mg g p.fFrame to 17 0 s q
  | 0, j, B, h, _, _ => by omega
  | k + 1, j, B, h, hj, hB => by
    rw [G_ringlaw2_RmapTells_L14]
    by_cases h1 : j < 17
    · have hlen := spP_len g p.fFrame j
      obtain ⟨B', f1, f2⟩ := l13_loop n to a1 a2 a3 a4 a5 b1 b2 b3 b4 p hp hto g j h1 (spP g p.fFrame j).length (by omega) w n 0 B (by omega) (by omega) hB
      have e0 : rowP g p.fFrame j 0 = [] := rfl
      rw [e0, List.length_nil, Nat.add_zero] at f1
      have f1 : G_ringlaw2_RmapTells_L13 n to a1 a2 a3 a4 a5 b1 b2 b3 b4 (j : Int) p n ((spP g p.fFrame j).length : Int) 0 w B = _ := f1
      rw [if_pos (by omega), f1, Option.bind_some]
      simp only
      rw [wi_succ (by omega), ← List.length_append, ← spP_succ]
      exact l14_loop n hn to a1 a2 a3 a4 a5 b1 b2 b3 b4 p hp hto g w k (j + 1) B' (by omega) (by omega) f2
    · rw [if_neg (by omega)]
      have : j = 17 := by omega
      subst this
      exact ⟨B, rfl, hB⟩
end rm
end Go.Proofs.Ytdonkhioembhlaa.pv
