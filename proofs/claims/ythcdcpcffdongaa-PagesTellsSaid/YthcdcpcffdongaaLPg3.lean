/- PagesTells: the law. -/
import Derived.Test.YthcdcpcffdongaaLPg2
namespace Go.Proofs.Ythcdcpcffdongaa.pv
set_option linter.all false
open Go.RowKit help
namespace pg
/-! the page is not there -/
theorem j6_none (n : Nat) (hn : 200 < n) (f q k y m : Int) (c : Ca) (d : Fin 16 → Int) (i0 : Nat) (hc : okC c) (hr : rgt f q) (A : At c.fPages (tg f q) i0) (hi : isAt c.fPages f q i0 = false) (br : Ca) (e : Int)
    (hb : (br, e) = (if (c.fPages.length : Int) = 64 then (E0, (6 : Int)) else (⟨c.fPages.take i0 ++ [⟨f, q, 0, 0, d⟩] ++ c.fPages.drop i0, c.fClock⟩, 0))) :
    G_ringlaw2_PagesTells_J6 n f q k y m c d br Z16 E0 E0 E0 0 e 4 4 4 4 0 = some true := by
  have hl := hc.1
  unfold G_ringlaw2_PagesTells_J6 G_ringlaw2_PagesTells_C2
  rw [if_pos rfl, file_any, Option.bind_some, decide_eq_true hr, Option.bind_some]
  simp only [Bool.not_true, Bool.false_eq_true, if_false]
  unfold G_ringlaw2_PagesTells_J5 G_ringlaw2_PagesTells_C4 G_ringlaw2_PagesTells_C3 G_ringlaw2_PagesTells_C5
  rw [cat_any n hn c f q hc i0 A, hi, Option.bind_some]
  simp only [Bool.false_eq_true, if_false, if_true]
  rw [if_neg (by decide)]
  by_cases h64 : (c.fPages.length : Int) = 64
  · rw [if_pos h64] at hb
    obtain ⟨rfl, rfl⟩ := Prod.mk.inj hb
    rw [if_pos h64, Option.bind_some]
    simp only
    rw [if_pos (by decide), Option.bind_some]
    simp only
    rw [if_pos trivial, if_neg (by decide), same0 n hn, Option.bind_some, Option.bind_some]
    simp only [Bool.not_true, Bool.false_eq_true, if_false]
    rw [if_neg (by decide)]
    exact j4_bad n hn k y m c 4 (-1) (by decide)
  · rw [if_neg h64] at hb
    obtain ⟨rfl, rfl⟩ := Prod.mk.inj hb
    have hle := A.le
    have h7 := fun b1 g b2 b3 b4 b5 e1 e2 e3 e4 r z => l7_loop n f q k y m c d b1 g b2 b3 b4 b5 e1 e2 e3 e4 r z i0 hl A n 0 (by omega) (by omega)
    have h7 : ∀ b1 g b2 b3 b4 b5 e1 e2 e3 e4 r z, G_ringlaw2_PagesTells_L7 n f q k y m e1 e2 e3 e4 r z c d b1 g b2 b3 b4 b5 n 0 = some (.x0 (i0 : Int)) := h7
    rw [if_neg h64, Option.bind_some]
    simp only
    rw [if_pos (by decide), Option.bind_some]
    simp only
    rw [if_pos trivial, if_pos trivial, Option.bind_some]
    simp only [Bool.false_eq_true, if_false, if_true]
    rw [h7, Option.bind_some]
    simp only
    rw [sub0 _ i0 hle, Option.bind_some, sub1 _ i0 hle, Option.bind_some, concat_any n hn _ (by simp) (by simp [len2]; omega), Option.bind_some]
    have e : [c.fPages.take i0, [(⟨f, q, 0, 0, d⟩ : Pg)], c.fPages.drop i0].flatten = c.fPages.take i0 ++ [⟨f, q, 0, 0, d⟩] ++ c.fPages.drop i0 := by simp
    rw [e, same64 n hn _ (by simp; omega), Option.bind_some, if_pos rfl]
    exact j4_bad n hn k y m c 4 (-1) (by decide)
/-! the page is there -/
theorem j2_ok (n : Nat) (hn : 200 < n) (k y m : Int) (c : Ca) (i : Nat) (p : Pg) (hl : c.fPages.length ≤ 64) (hp : c.fPages[i]? = some p) :
    G_ringlaw2_PagesTells_J2 n k y m c p.fData (setC c i p k y) (mapC c i p m) (outC c i p) 0 p 0 (setE c k) (mapE p m) (outE p) (i : Int) (setE c k) (mapE p m) (outE p) = some true := by
  have hi : i < c.fPages.length := (List.getElem?_eq_some_iff.1 hp).1
  have s0 : setE c k ≠ 0 → setC c i p k y = E0 := fun h => by unfold setC; rw [if_neg h]
  have m0 : mapE p m ≠ 0 → mapC c i p m = E0 := fun h => by unfold mapC; rw [if_neg h]
  have o0 : outE p ≠ 0 → outC c i p = E0 := fun h => by unfold outC; rw [if_neg h]
  have same0' := same0 n hn
  have c12 : G_ringlaw2_PagesTells_C12 n k y m 0 (setE c k) (mapE p m) (outE p) (i : Int) (setE c k) (mapE p m) (outE p) c p.fData (setC c i p k y) (mapC c i p m) (outC c i p) 0 p = some (.x0 false) := by
    unfold G_ringlaw2_PagesTells_C12
    rw [eqA_refl, if_neg (by simp [eqRes]), if_pos rfl, if_pos rfl, if_pos rfl, if_pos rfl]
    by_cases a1 : setE c k = 0
    · rw [if_pos a1]
      by_cases a2 : mapE p m = 0
      · rw [if_pos a2]
        by_cases a3 : outE p = 0
        · rw [if_pos a3]
        · rw [if_neg a3, o0 a3, same0', Option.bind_some]; rfl
      · rw [if_neg a2, m0 a2, same0', Option.bind_some, if_pos rfl]
        by_cases a3 : outE p = 0
        · rw [if_pos a3]
        · rw [if_neg a3, o0 a3, same0', Option.bind_some]; rfl
    · rw [if_neg a1, s0 a1, same0', Option.bind_some, if_pos rfl]
      by_cases a2 : mapE p m = 0
      · rw [if_pos a2]
        by_cases a3 : outE p = 0
        · rw [if_pos a3]
        · rw [if_neg a3, o0 a3, same0', Option.bind_some]; rfl
      · rw [if_neg a2, m0 a2, same0', Option.bind_some, if_pos rfl]
        by_cases a3 : outE p = 0
        · rw [if_pos a3]
        · rw [if_neg a3, o0 a3, same0', Option.bind_some]; rfl
  have hcc : ∀ P : Pg, G_ringref2_CacheWith n c (i : Int) P = some ⟨c.fPages.set i P, c.fClock⟩ := fun P => cwith_any n c.fPages c.fClock i P hl hi
  have c13 : G_ringlaw2_PagesTells_C13 n k y m (i : Int) (mapE p m) (outE p) (setE c k) c (setC c i p k y) (mapC c i p m) (outC c i p) p = some .x1 := by
    unfold G_ringlaw2_PagesTells_C13
    by_cases a1 : setE c k = 0
    · have hk : in16 k := by
        rcases Decidable.em (in16 k) with h | h
        · exact h
        · unfold setE at a1; rw [if_neg h] at a1; exact absurd a1 (by decide)
      have hg : getA p.fData k = some (p.fData ⟨k.toNat, by unfold in16 at hk; omega⟩) := by
        unfold getA; rw [dif_pos (by unfold in16 at hk; omega)]
      rw [if_pos a1, if_pos hk, hg, Option.bind_some]
      unfold setC
      rw [if_pos a1]
      by_cases a4 : p.fDirty = 0
      · rw [if_pos a4, if_pos a4, hcc, Option.bind_some, same64 n hn _ (by simp; omega), Option.bind_some, if_pos rfl]
      · rw [if_neg a4, if_neg a4, hcc, Option.bind_some, same64 n hn _ (by simp; omega), Option.bind_some, if_pos rfl]
    · rw [if_neg a1]
  have j1 : G_ringlaw2_PagesTells_J1 n c (outC c i p) (i : Int) (outE p) = some true := by
    unfold G_ringlaw2_PagesTells_J1
    by_cases a3 : outE p = 0
    · have e : [c.fPages.take i, c.fPages.drop (i + 1)].flatten = c.fPages.take i ++ c.fPages.drop (i + 1) := by simp
      rw [if_pos a3, sub0 _ i (by omega), Option.bind_some, wi_succ (by omega), sub1 _ (i + 1) (by omega), Option.bind_some, concat_any n hn _ (by simp) (by simp [len2]; omega), Option.bind_some, e]
      unfold outC
      rw [if_pos a3, same64 n hn _ (by simp; omega)]; rfl
    · rw [if_neg a3]
  unfold G_ringlaw2_PagesTells_J2
  rw [c12, Option.bind_some]
  simp only [Bool.false_eq_true, if_false]
  rw [c13, Option.bind_some]
  simp only
  by_cases a2 : mapE p m = 0
  · rw [if_pos a2, hcc, Option.bind_some]
    have hm : mapC c i p m = ⟨c.fPages.set i ⟨p.fFile, p.fN, wi .i64 (p.fMaps + m), p.fDirty, p.fData⟩, c.fClock⟩ := by unfold mapC; rw [if_pos a2]
    rw [hm, same64 n hn _ (by simp; omega), Option.bind_some, if_pos rfl]
    exact j1
  · rw [if_neg a2]
    exact j1
theorem j4_ok (n : Nat) (hn : 200 < n) (k y m : Int) (c : Ca) (i : Nat) (p : Pg) (hl : c.fPages.length ≤ 64) (hp : c.fPages[i]? = some p) :
    G_ringlaw2_PagesTells_J4 n k y m c p.fData (setC c i p k y) (mapC c i p m) (outC c i p) 0 0 (setE c k) (mapE p m) (outE p) (i : Int) 0 = some true := by
  have j2 := j2_ok n hn k y m c i p hl hp
  unfold G_ringlaw2_PagesTells_J4
  rw [if_pos rfl, getI_nat, hp, Option.bind_some, in_any, Option.bind_some]
  have c9 : G_ringlaw2_PagesTells_C9 n k y m 0 (setE c k) (mapE p m) (outE p) (i : Int) (decide (0 ≤ k ∧ k ≤ 15)) c p.fData (setC c i p k y) (mapC c i p m) (outC c i p) 0 p = some (.x0 (setE c k)) := by
    unfold G_ringlaw2_PagesTells_C9 setE
    by_cases h : in16 k
    · rw [decide_eq_true (by unfold in16 at h; omega), if_pos rfl, if_pos h]
      split <;> rfl
    · rw [decide_eq_false (by unfold in16 at h; omega), if_neg (by simp), if_neg h]
  have c11 : ∀ z, G_ringlaw2_PagesTells_C11 n k y m 0 (setE c k) (mapE p m) (outE p) (i : Int) z c p.fData (setC c i p k y) (mapC c i p m) (outC c i p) 0 p = some (.x0 (mapE p m)) := by
    intro z
    unfold G_ringlaw2_PagesTells_C11 G_ringlaw2_PagesTells_C10 mapE
    rw [in_any, Option.bind_some, Option.bind_some]
    generalize wi .i64 (p.fMaps + m) = v
    by_cases a1 : m = 1
    · rw [if_pos a1, if_pos (show m = 1 ∨ m = -1 from .inl a1)]
      by_cases h : 0 ≤ v ∧ v ≤ 64
      · rw [if_pos (decide_eq_true h), if_pos h]
      · rw [if_neg (by simpa using h), if_neg h]
    · rw [if_neg a1]
      by_cases a2 : m = -1
      · rw [if_pos a2, if_pos (show m = 1 ∨ m = -1 from .inr a2)]
        by_cases h : 0 ≤ v ∧ v ≤ 64
        · rw [if_pos (decide_eq_true h), if_pos h]; rfl
        · rw [if_neg (by simpa using h), if_neg h]; rfl
      · rw [if_neg a2, if_neg (show ¬ (m = 1 ∨ m = -1) by omega)]; rfl
  rw [c9, Option.bind_some]
  simp only
  rw [c11, Option.bind_some]
  simp only
  have ho : outE p = if p.fMaps > 0 ∨ p.fDirty > 0 then 8 else 0 := rfl
  by_cases a1 : p.fMaps > 0
  · rw [if_pos a1]
    rw [if_pos (show p.fMaps > 0 ∨ p.fDirty > 0 from .inl a1)] at ho
    unfold G_ringlaw2_PagesTells_J3
    rw [if_pos rfl, ← ho]
    exact j2
  · rw [if_neg a1]
    unfold G_ringlaw2_PagesTells_J3
    by_cases a2 : p.fDirty > 0
    · rw [if_pos (show p.fMaps > 0 ∨ p.fDirty > 0 from .inr a2)] at ho
      rw [if_pos (decide_eq_true a2), ← ho]
      exact j2
    · rw [if_neg (show ¬ (p.fMaps > 0 ∨ p.fDirty > 0) by omega)] at ho
      rw [if_neg (by simpa using a2)]
      have : ∀ x : Int, x = outE p → G_ringlaw2_PagesTells_J2 n k y m c p.fData (setC c i p k y) (mapC c i p m) (outC c i p) 0 p 0 (setE c k) (mapE p m) (outE p) (i : Int) (setE c k) (mapE p m) x = some true := by
        intro x e; rw [e]; exact j2
      exact this 0 ho.symm
theorem j6_there (n : Nat) (hn : 200 < n) (f q k y m : Int) (c : Ca) (d : Fin 16 → Int) (i0 : Nat) (p : Pg) (hc : okC c) (hr : rgt f q) (A : At c.fPages (tg f q) i0) (hp : c.fPages[i0]? = some p) (hi : isAt c.fPages f q i0 = true) :
    G_ringlaw2_PagesTells_J6 n f q k y m c d E0 p.fData (setC c i0 p k y) (mapC c i0 p m) (outC c i0 p) 0 5 0 (setE c k) (mapE p m) (outE p) 0 = some true := by
  have hl := hc.1
  unfold G_ringlaw2_PagesTells_J6 G_ringlaw2_PagesTells_C2
  rw [if_pos rfl, file_any, Option.bind_some, decide_eq_true hr, Option.bind_some]
  simp only [Bool.not_true, Bool.false_eq_true, if_false]
  unfold G_ringlaw2_PagesTells_J5 G_ringlaw2_PagesTells_C4 G_ringlaw2_PagesTells_C3 G_ringlaw2_PagesTells_C5
  rw [cat_any n hn c f q hc i0 A, hi, Option.bind_some]
  simp only [if_true]
  rw [if_pos (by omega), Option.bind_some]
  simp only
  rw [if_neg (by omega), Option.bind_some]
  simp only
  rw [if_pos trivial, if_neg (by decide), same0 n hn, Option.bind_some, Option.bind_some]
  simp only [Bool.not_true, Bool.false_eq_true, if_false]
  rw [if_neg (by decide)]
  exact j4_ok n hn k y m c i0 p hl hp
/-! the page that is put back -/
theorem back_loop (n : Nat) (c : Ca) (hl : c.fPages.length ≤ 64) (f q k y m e1 e2 e3 e4 : Int) (is : Bool) (e5 bad : Int) (d : Fin 16 → Int) (b1 : Ca) (g : Fin 16 → Int) (b2 b3 b4 : Ca) (bp : Pg) (b5 : Ca) (b6 : Int) : ∀ (K x : Nat) (best : Int), c.fPages.length - x < K → x ≤ c.fPages.length → (best = -1 ∨ ∃ b : Nat, best = (b : Int) ∧ b < c.fPages.length) →
    ∃ z : Int, (z = -1 ∨ ∃ b : Nat, z = (b : Int) ∧ b < c.fPages.length) ∧ G_pages_Back_L2 n c K best (x : Int) = some (.x0 z) ∧ G_ringlaw2_PagesTells_L15 n f q k y m e1 e2 e3 e4 is e5 bad c d b1 g b2 b3 b4 bp b5 b6 K best (x : Int) = some (.x0 z)
  | 0, x, best, h, _, _ => by omega
  | K + 1, x, best, h, hx, hb => by
    rw [G_pages_Back_L2, G_ringlaw2_PagesTells_L15]
    by_cases h1 : x < c.fPages.length
    · rw [if_pos (by omega), if_pos (by omega), getI_nat, List.getElem?_eq_getElem h1, Option.bind_some, Option.bind_some, wi_succ (by omega)]
      unfold G_pages_Back_C1 G_ringlaw2_PagesTells_C14
      have f1 : c.fPages.length - (x + 1) < K := by omega
      have f2 : x + 1 ≤ c.fPages.length := by omega
      have r1 := back_loop n c hl f q k y m e1 e2 e3 e4 is e5 bad d b1 g b2 b3 b4 bp b5 b6 K (x + 1) (x : Int) f1 f2 (.inr ⟨x, rfl, h1⟩)
      have r2 := back_loop n c hl f q k y m e1 e2 e3 e4 is e5 bad d b1 g b2 b3 b4 bp b5 b6 K (x + 1) best f1 f2 hb
      by_cases a1 : c.fPages[x].fDirty > 0
      · rw [if_pos a1, if_pos a1]
        by_cases a2 : best < 0
        · rw [if_pos a2, if_pos a2, Option.bind_some, Option.bind_some]; exact r1
        · obtain ⟨b, rfl, hb'⟩ := hb.resolve_left (fun e => a2 (by rw [e]; decide))
          rw [if_neg a2, if_neg a2, getI_nat, List.getElem?_eq_getElem hb', Option.bind_some, Option.bind_some, Option.bind_some, Option.bind_some]
          simp only
          by_cases a3 : c.fPages[x].fDirty < c.fPages[b].fDirty
          · rw [decide_eq_true a3, if_pos rfl, if_pos rfl]; exact r1
          · rw [decide_eq_false a3, if_neg (by simp), if_neg (by simp)]; exact r2
      · rw [if_neg a1, if_neg a1, Option.bind_some, Option.bind_some]; exact r2
    · rw [if_neg (by omega), if_neg (by omega)]
      exact ⟨best, hb, rfl, rfl⟩
/-! the law -/
theorem law (c : Ca) (f q k y m : Int) (d : Fin 16 → Int) (n : Nat) (hn : 200 < n) (hl : c.fPages.length < 4611686018427387903) (hcn : c.fPages.length < n) : G_ringlaw2_PagesTells n c f q k y m d = some true := by
  obtain ⟨e, e1, e2, e3⟩ := check_any n hn c
  unfold G_ringlaw2_PagesTells
  by_cases h0 : e = 0
  · subst h0
    have hc := e3 rfl
    have h64 := hc.1
    -- what is put back
    have hbk : ∀ (f q k y m a1 a2 a3 a4 a5 : Int) (d : Fin 16 → Int) (b1 : Ca) (g : Fin 16 → Int) (b2 b3 b5 : Ca), (G_ringlaw2_PagesTells_J6 n f q k y m c d b1 g b2 b3 b5 0 a1 a2 a3 a4 a5 0 = some true) →
        ∃ (bc : Ca) (bp : Pg) (is : Bool), G_pages_Back n c = some (bc, bp, is, 0) ∧ G_ringlaw2_PagesTells_J8 n f q k y m c d b1 g b2 b3 bc bp b5 0 a1 a2 a3 a4 is a5 0 false = some true := by
      intro f q k y m a1 a2 a3 a4 a5 d b1 g b2 b3 b5 h6
      have hz : ∃ z : Int, (z = -1 ∨ ∃ b : Nat, z = (b : Int) ∧ b < c.fPages.length) ∧ G_pages_Back_L2 n c n (-1) 0 = some (.x0 z) := by
        obtain ⟨z, z1, z2, _⟩ := back_loop n c h64 0 0 0 0 0 0 0 0 0 true 0 0 d c d c c c P0 c 0 n 0 (-1) (by omega) (by omega) (.inl rfl)
        exact ⟨z, z1, z2⟩
      obtain ⟨z, z1, z2⟩ := hz
      have h15 : ∀ (is : Bool) (bc : Ca) (bp : Pg), G_ringlaw2_PagesTells_L15 n f q k y m a1 a2 a3 a4 is a5 0 c d b1 g b2 b3 bc bp b5 0 n (-1) 0 = some (.x0 z) := by
        intro is bc bp
        obtain ⟨z', _, z2', z3'⟩ := back_loop n c h64 f q k y m a1 a2 a3 a4 is a5 0 d b1 g b2 b3 bc bp b5 0 n 0 (-1) (by omega) (by omega) (.inl rfl)
        have z2' : G_pages_Back_L2 n c n (-1) 0 = some (.x0 z') := z2'
        rw [z2] at z2'
        injection z2' with z2'
        injection z2' with z2'
        rw [z2']
        exact z3'
      unfold G_pages_Back
      rw [e1, Option.bind_some, if_pos rfl, z2, Option.bind_some]
      simp only
      rcases z1 with rfl | ⟨b, rfl, hb⟩
      · rw [if_pos (by decide), clone_any n _ h64, Option.bind_some]
        refine ⟨_, _, _, rfl, ?_⟩
        unfold G_ringlaw2_PagesTells_J8
        rw [if_neg (by simp), if_pos rfl, h15, Option.bind_some]
        simp only
        unfold G_ringlaw2_PagesTells_C16
        rw [if_neg (by decide), Option.bind_some]
        simp only
        unfold G_ringlaw2_PagesTells_J7 G_ringlaw2_PagesTells_C17
        rw [same64 n hn c (by omega), Option.bind_some, if_pos rfl, eqP_refl, if_neg (by simp [eqRes]), Option.bind_some]
        simp only
        rw [if_neg (by simp [eqRes])]
        exact h6
      · have hp : c.fPages[b]? = some c.fPages[b] := List.getElem?_eq_getElem hb
        have hw : ∀ P : Pg, G_pages_with n c (b : Int) P = some ⟨c.fPages.set b P, c.fClock⟩ := fun P => with_any n c.fPages c.fClock b P h64 hb
        have hw' : ∀ P : Pg, G_ringref2_CacheWith n c (b : Int) P = some ⟨c.fPages.set b P, c.fClock⟩ := fun P => cwith_any n c.fPages c.fClock b P h64 hb
        rw [if_neg (by omega), getI_nat, hp, Option.bind_some, hw, Option.bind_some]
        refine ⟨_, _, _, rfl, ?_⟩
        unfold G_ringlaw2_PagesTells_J8
        rw [if_neg (by simp), if_pos rfl, h15, Option.bind_some]
        simp only
        unfold G_ringlaw2_PagesTells_C16
        rw [if_pos (by omega), getI_nat, hp, Option.bind_some, hw', Option.bind_some, Option.bind_some]
        simp only
        unfold G_ringlaw2_PagesTells_J7 G_ringlaw2_PagesTells_C17
        rw [same64 n hn _ (by simp; omega), Option.bind_some, if_pos rfl, eqP_refl, if_neg (by simp [eqRes]), Option.bind_some]
        simp only
        rw [if_neg (by rw [decide_eq_true (show (b : Int) ≥ 0 by omega)]; simp [eqRes])]
        exact h6
    by_cases hr : rgt f q
    · obtain ⟨i0, A⟩ := at_ex (tg f q) c.fPages hc.2.2.2.2
      have ha := at_ok n hn c f q e1 hc hr i0 A
      cases hi : isAt c.fPages f q i0 with
      | false =>
        rw [hi] at ha
        have ht := there_no n c f q _ ha
        have hbr : G_pages_Bring n c f q d = some (if (c.fPages.length : Int) = 64 then (E0, (6 : Int)) else (⟨c.fPages.take i0 ++ [⟨f, q, 0, 0, d⟩] ++ c.fPages.drop i0, c.fClock⟩, 0)) := by
          unfold G_pages_Bring
          rw [ha, Option.bind_some]
          simp only
          rw [if_pos trivial, if_neg (by simp)]
          by_cases h : (c.fPages.length : Int) = 64
          · rw [if_pos h, if_pos h]
          · rw [if_neg h, if_neg h, clone_any n _ h64, Option.bind_some]
            unfold G_slices_Insert_pages_Page_pages_Page_h
            rw [ins48 _ i0 _ A.le h64]; rfl
        obtain ⟨bc, bp, is, hk1, hk2⟩ := hbk f q k y m _ 4 4 4 4 d _ Z16 E0 E0 E0 (j6_none n hn f q k y m c d i0 hc hr A hi _ _ rfl)
        rw [hbr, Option.bind_some, get_bad n c f q _ 4 (by decide) ht, Option.bind_some, set_bad n c f q _ 4 k y (by decide) ht, Option.bind_some, map_bad n c f q _ 4 m (by decide) ht, Option.bind_some, hk1, Option.bind_some, out_bad n c f q _ 4 (by decide) ht, Option.bind_some, e2, Option.bind_some, e1, Option.bind_some, if_pos rfl]
        simp only [bne_self_eq_false]
        exact hk2
      | true =>
        rw [hi] at ha
        have ht := there_yes n c f q _ ha
        have hp : ∃ p, c.fPages[i0]? = some p := by
          unfold isAt at hi
          cases h : c.fPages[i0]? with
          | none => rw [h] at hi; exact absurd hi (by simp)
          | some p => exact ⟨p, rfl⟩
        obtain ⟨p, hp⟩ := hp
        have hbr : G_pages_Bring n c f q d = some (E0, 5) := by
          unfold G_pages_Bring
          rw [ha, Option.bind_some]
          simp only
          rw [if_pos trivial, if_pos trivial]
        obtain ⟨bc, bp, is, hk1, hk2⟩ := hbk f q k y m _ _ _ _ _ d _ _ _ _ _ (j6_there n hn f q k y m c d i0 p hc hr A hp hi)
        rw [hbr, Option.bind_some, get_ok n c f q i0 p hp ht, Option.bind_some, set_ok n c f q k y i0 p h64 hp ht, Option.bind_some, map_ok n c f q m i0 p h64 hp ht, Option.bind_some, hk1, Option.bind_some, out_ok n c f q i0 p h64 hp ht, Option.bind_some, e2, Option.bind_some, e1, Option.bind_some, if_pos rfl]
        simp only [bne_self_eq_false]
        exact hk2
    · have ha := at_wrong n c f q e1 hr
      have ht := there_bad n c f q 1 0 false (by decide) ha
      obtain ⟨bc, bp, is, hk1, hk2⟩ := hbk f q k y m _ _ _ _ _ d _ _ _ _ _ (j6_wrong n hn f q k y m c d hr hl hcn)
      rw [bring_bad n c f q 1 0 false d (by decide) ha, Option.bind_some, get_bad n c f q _ 1 (by decide) ht, Option.bind_some, set_bad n c f q _ 1 k y (by decide) ht, Option.bind_some, map_bad n c f q _ 1 m (by decide) ht, Option.bind_some, hk1, Option.bind_some, out_bad n c f q _ 1 (by decide) ht, Option.bind_some, e2, Option.bind_some, e1, Option.bind_some, if_pos rfl]
      simp only [bne_self_eq_false]
      exact hk2
  · have ha := at_bad n c f q e h0 e1
    have ht := there_bad n c f q e 0 false h0 ha
    have hk : G_pages_Back n c = some (E0, P0, false, e) := by
      unfold G_pages_Back
      rw [e1, Option.bind_some, if_neg h0]
    rw [bring_bad n c f q e 0 false d h0 ha, Option.bind_some, get_bad n c f q _ e h0 ht, Option.bind_some, set_bad n c f q _ e k y h0 ht, Option.bind_some, map_bad n c f q _ e m h0 ht, Option.bind_some, hk, Option.bind_some, out_bad n c f q _ e h0 ht, Option.bind_some, e2, Option.bind_some, e1, Option.bind_some, if_pos rfl]
    simp only [bne_self_eq_false]
    unfold G_ringlaw2_PagesTells_J8 G_ringlaw2_PagesTells_C1
    rw [if_neg (by simp), if_neg h0, same0 n hn, Option.bind_some, if_pos rfl, eqP_refl, if_neg (by simp [eqRes]), Option.bind_some]
    simp only [Bool.false_eq_true, if_false]
    exact j6_bad n hn f q k y m c d e h0 hl hcn
/-- the law, whatever the input -/
theorem pages_any (c : Ca) (f q k y m : Int) (d : Fin 16 → Int) (hc : okS_pages_Cache c) : ∃ n, G_ringlaw2_PagesTells n c f q k y m d = some true := by
  have hl := hc.1.1
  exact ⟨c.fPages.length + 201, law c f q k y m d _ (by omega) (by omega) (by omega)⟩
end pg
end Go.Proofs.Ythcdcpcffdongaa.pv
