/- InodeTurns: the bytes of a node. -/
import Derived.Test.YtjjjaakefnnbpaaLIx3
namespace Go.Proofs.Ytjjjaakefnnbpaa.pv
set_option linter.all false
open Go.RowKit help
namespace nd
theorem or_rng (a b : Int) : -9223372036854775808 ≤ bits .or .i64 a b ∧ bits .or .i64 a b ≤ 9223372036854775807 := by
  show -9223372036854775808 ≤ IntKind.i64.wrap ((BitVec.ofInt 64 a ||| BitVec.ofInt 64 b).toNat : Int) ∧ IntKind.i64.wrap ((BitVec.ofInt 64 a ||| BitVec.ofInt 64 b).toNat : Int) ≤ 9223372036854775807
  rw [IntKind.wrap_i64]
  omega
theorem or_zero {a b : Int} (ha : -9223372036854775808 ≤ a ∧ a ≤ 9223372036854775807) (hb : -9223372036854775808 ≤ b ∧ b ≤ 9223372036854775807) : bits .or .i64 a b = 0 ↔ a = 0 ∧ b = 0 := by
  show IntKind.i64.wrap ((BitVec.ofInt 64 a ||| BitVec.ofInt 64 b).toNat : Int) = 0 ↔ _
  have hz : ∀ c : Int, (-9223372036854775808 ≤ c ∧ c ≤ 9223372036854775807) → ((BitVec.ofInt 64 c).toNat = 0 ↔ c = 0) := by
    intro c hc
    rw [BitVec.toNat_ofInt]
    omega
  have hlt := (BitVec.ofInt 64 a ||| BitVec.ofInt 64 b).isLt
  rw [IntKind.wrap_i64]
  constructor
  · intro h
    have h0 : (BitVec.ofInt 64 a ||| BitVec.ofInt 64 b).toNat = 0 := by omega
    rw [BitVec.toNat_or, Nat.or_eq_zero_iff] at h0
    exact ⟨(hz a ha).1 h0.1, (hz b hb).1 h0.2⟩
  · rintro ⟨rfl, rfl⟩
    simp
theorem within_any (n : Nat) (x lo hi : Int) : G_ringref3_within n x lo hi = some (decide (lo ≤ x ∧ x ≤ hi)) := by
  unfold G_ringref3_within
  by_cases h : lo ≤ x
  · rw [if_pos h]; simp [h]
  · rw [if_neg h]; simp [h]
def ptsOk (p : List Int) : Bool := p.all fun x => decide (0 ≤ x) && decide (x ≤ 255)
theorem pts_loop (n : Nat) (p : List Int) (hl : p.length ≤ 8) : ∀ (k i : Nat), p.length - i < k → i ≤ p.length → G_ringref3_PointsRight_L1 n p k (i : Int) = (if ptsOk (p.drop i) = true then some .x1 else some (.x0 1)) ∧ G_extent_Right_L1 n p k (i : Int) = (if ptsOk (p.drop i) = true then some .x1 else some (.x0 1))
  | 0, i, h, _ => by omega
  | k + 1, i, h, hi => by
    rw [G_ringref3_PointsRight_L1, G_extent_Right_L1]
    by_cases hlt : (i : Int) < (p.length : Int)
    · obtain ⟨x, hx⟩ := get_lt hlt
      obtain ⟨h1, h2⟩ := pts_loop n p hl k (i + 1) (by omega) (by omega)
      rw [if_pos hlt, if_pos hlt, getI_nat, hx, Option.bind_some, Option.bind_some, wi_succ (by omega), h1, h2, drop_cons hx]
      have hc : ptsOk (x :: p.drop (i + 1)) = ((decide (0 ≤ x) && decide (x ≤ 255)) && ptsOk (p.drop (i + 1))) := rfl
      rw [hc]
      by_cases a1 : x < 0
      · rw [if_pos a1, if_pos a1, decide_eq_false (by omega)]; exact ⟨rfl, rfl⟩
      by_cases a2 : x > 255
      · rw [if_neg a1, if_neg a1, if_pos a2, if_pos (show x ≥ 256 by omega), decide_eq_true (by omega), decide_eq_false (by omega)]; exact ⟨rfl, rfl⟩
      rw [if_neg a1, if_neg a1, if_neg a2, if_neg (show ¬ x ≥ 256 by omega), decide_eq_true (by omega), decide_eq_true (by omega)]
      exact ⟨rfl, rfl⟩
    · rw [if_neg hlt, if_neg hlt, drop_end hlt]; exact ⟨rfl, rfl⟩
def ptsChk (p : List Int) : Int := if p.length > 8 then 2 else if ptsOk p = true then 0 else 1
theorem pts_any (n : Nat) (hn : 20 ≤ n) (p : List Int) : G_ringref3_PointsRight n p = some (ptsChk p) ∧ G_extent_Right n p = some (ptsChk p) := by
  unfold G_ringref3_PointsRight G_extent_Right ptsChk
  by_cases h : (p.length : Int) > 8
  · rw [if_pos h, if_pos h, if_pos (by omega)]; exact ⟨rfl, rfl⟩
  · obtain ⟨h1, h2⟩ := pts_loop n p (by omega) n 0 (by omega) (by omega)
    rw [List.drop_zero] at h1 h2
    have h1 : G_ringref3_PointsRight_L1 n p n 0 = _ := h1
    have h2 : G_extent_Right_L1 n p n 0 = _ := h2
    rw [if_neg h, if_neg h, if_neg (by omega), h1, h2]
    cases ptsOk p <;> exact ⟨rfl, rfl⟩
theorem blk_loop (n : Nat) : ∀ (k s c : Nat), (s + 63) / 64 < k → s ≤ 1000000000 → c + s ≤ 2000000000 → G_ringref3_Blocks_L1 n k (s : Int) (c : Int) = some (.x0 ((c + (s + 63) / 64 : Nat) : Int))
  | 0, s, c, h, _, _ => by omega
  | k + 1, s, c, h, hs, hc => by
    rw [G_ringref3_Blocks_L1]
    by_cases h0 : (s : Int) > 0
    · rw [if_pos h0, wi_succ (by omega)]
      by_cases h64 : 64 ≤ s
      · have e : wi .i64 ((s : Int) - 64) = ((s - 64 : Nat) : Int) := by rw [wi64 (by omega) (by omega)]; omega
        rw [e, blk_loop n k (s - 64) (c + 1) (by omega) (by omega) (by omega)]
        congr 2; omega
      · have e : wi .i64 ((s : Int) - 64) = (s : Int) - 64 := wi64 (by omega) (by omega)
        obtain ⟨m, rfl⟩ : ∃ m, k = m + 1 := ⟨k - 1, by omega⟩
        rw [e, G_ringref3_Blocks_L1, if_neg (by omega)]
        congr 2; omega
    · rw [if_neg h0]
      congr 2; omega
theorem blk_neg (n : Nat) (hn : 1 ≤ n) (s : Int) (h : s ≤ 0) : G_ringref3_Blocks n s = some 0 ∧ G_inode_Blocks n s = some 0 := by
  obtain ⟨m, rfl⟩ : ∃ m, n = m + 1 := ⟨n - 1, by omega⟩
  unfold G_ringref3_Blocks G_inode_Blocks
  rw [G_ringref3_Blocks_L1, if_neg (by omega), if_pos h]
  exact ⟨rfl, rfl⟩
theorem blk_any (n s : Nat) (hn : (s + 63) / 64 < n) (hs : s ≤ 100000000) : G_ringref3_Blocks n (s : Int) = some (((s + 63) / 64 : Nat) : Int) ∧ G_inode_Blocks n (s : Int) = some (((s + 63) / 64 : Nat) : Int) := by
  unfold G_ringref3_Blocks G_inode_Blocks
  have h := blk_loop n n s 0 hn (by omega) (by omega)
  have h : G_ringref3_Blocks_L1 n n (s : Int) 0 = _ := h
  rw [h]
  refine ⟨by simp, ?_⟩
  by_cases h0 : (s : Int) ≤ 0
  · rw [if_pos h0]; congr 1; omega
  · rw [if_neg h0]
    have e : wi .i64 ((s : Int) - 1) = (s : Int) - 1 := wi64 (by omega) (by omega)
    rw [e, quo_i64 (by omega) (by omega) (by omega), wi64 (by omega) (by omega)]
    congr 1; omega
def toR (n : S_inode_Node) : S_ringref3_Node := S_ringref3_Node.mk n.fKind n.fMode n.fUser n.fGroup n.fSize n.fLinks n.fUp n.fPoints
def rgt (x : S_inode_Node) : Int :=
  if x.fKind = 0 then (if x.fMode = 0 ∧ x.fUser = 0 ∧ x.fGroup = 0 ∧ x.fSize = 0 ∧ x.fLinks = 0 ∧ x.fUp = 0 ∧ x.fPoints.length = 0 then 0 else 3)
  else if ¬ (0 ≤ x.fKind ∧ x.fKind ≤ 3 ∧ 0 ≤ x.fMode ∧ x.fMode ≤ 511 ∧ 0 ≤ x.fUser ∧ x.fUser ≤ 255 ∧ 0 ≤ x.fGroup ∧ x.fGroup ≤ 255 ∧ 0 ≤ x.fLinks ∧ x.fLinks ≤ 200) then 1
  else if ¬ (0 ≤ x.fSize ∧ x.fSize ≤ 512) then 2
  else if ¬ (x.fKind = 2 ∧ 1 ≤ x.fUp ∧ x.fUp ≤ 32 ∨ x.fKind ≠ 2 ∧ x.fUp = 0) then 12
  else if ptsChk x.fPoints ≠ 0 then ptsChk x.fPoints
  else if (x.fPoints.length : Int) = (((x.fSize.toNat + 63) / 64 : Nat) : Int) then 0 else 3
theorem right_any (n : Nat) (hn : 20 ≤ n) (x : S_inode_Node) : G_inode_Right n x = some (rgt x) := by
  unfold G_inode_Right rgt
  by_cases h0 : x.fKind = 0
  · rw [if_pos h0, if_pos h0]
    unfold G_inode_Right_C1
    by_cases a1 : x.fMode = 0 <;> by_cases a2 : x.fUser = 0 <;> by_cases a3 : x.fGroup = 0 <;> by_cases a4 : x.fSize = 0 <;> by_cases a5 : x.fLinks = 0 <;> by_cases a6 : x.fUp = 0 <;> by_cases a7 : x.fPoints.length = 0 <;> simp [a1, a2, a3, a4, a5, a6, a7]
  · rw [if_neg h0, if_neg h0]
    have c2 : G_inode_Right_C2 n x = some (.x0 (decide (¬ (0 ≤ x.fKind ∧ x.fKind ≤ 3 ∧ 0 ≤ x.fMode ∧ x.fMode ≤ 511 ∧ 0 ≤ x.fUser ∧ x.fUser ≤ 255 ∧ 0 ≤ x.fGroup ∧ x.fGroup ≤ 255 ∧ 0 ≤ x.fLinks ∧ x.fLinks ≤ 200)))) := by
      unfold G_inode_Right_C2
      by_cases a1 : x.fKind < 0
      · rw [if_pos a1, decide_eq_true (by omega)]
      by_cases a2 : x.fKind > 3
      · rw [if_neg a1, if_pos a2, decide_eq_true (by omega)]
      by_cases a3 : x.fMode < 0
      · rw [if_neg a1, if_neg a2, if_pos a3, decide_eq_true (by omega)]
      by_cases a4 : x.fMode > 511
      · rw [if_neg a1, if_neg a2, if_neg a3, if_pos a4, decide_eq_true (by omega)]
      by_cases a5 : x.fUser < 0
      · rw [if_neg a1, if_neg a2, if_neg a3, if_neg a4, if_pos a5, decide_eq_true (by omega)]
      by_cases a6 : x.fUser > 255
      · rw [if_neg a1, if_neg a2, if_neg a3, if_neg a4, if_neg a5, if_pos a6, decide_eq_true (by omega)]
      by_cases a7 : x.fGroup < 0
      · rw [if_neg a1, if_neg a2, if_neg a3, if_neg a4, if_neg a5, if_neg a6, if_pos a7, decide_eq_true (by omega)]
      by_cases a8 : x.fGroup > 255
      · rw [if_neg a1, if_neg a2, if_neg a3, if_neg a4, if_neg a5, if_neg a6, if_neg a7, if_pos a8, decide_eq_true (by omega)]
      by_cases a9 : x.fLinks < 0
      · rw [if_neg a1, if_neg a2, if_neg a3, if_neg a4, if_neg a5, if_neg a6, if_neg a7, if_neg a8, if_pos a9, decide_eq_true (by omega)]
      rw [if_neg a1, if_neg a2, if_neg a3, if_neg a4, if_neg a5, if_neg a6, if_neg a7, if_neg a8, if_neg a9]
      by_cases b : x.fLinks > 200
      · rw [decide_eq_true b, decide_eq_true (by omega)]
      · rw [decide_eq_false b, decide_eq_false (by omega)]
    rw [c2, Option.bind_some]
    simp only [decide_eq_true_eq]
    by_cases h1 : ¬ (0 ≤ x.fKind ∧ x.fKind ≤ 3 ∧ 0 ≤ x.fMode ∧ x.fMode ≤ 511 ∧ 0 ≤ x.fUser ∧ x.fUser ≤ 255 ∧ 0 ≤ x.fGroup ∧ x.fGroup ≤ 255 ∧ 0 ≤ x.fLinks ∧ x.fLinks ≤ 200)
    · rw [if_pos h1, if_pos h1]
    rw [if_neg h1, if_neg h1]
    by_cases h2 : ¬ (0 ≤ x.fSize ∧ x.fSize ≤ 512)
    · rw [if_pos h2]
      by_cases q : x.fSize < 0
      · rw [if_pos q]
      · rw [if_neg q, if_pos (by omega)]
    rw [if_neg h2, if_neg (by omega), if_neg (by omega)]
    have c3 : G_inode_Right_C3 n x = some (.x0 (decide (¬ (x.fKind = 2 ∧ 1 ≤ x.fUp ∧ x.fUp ≤ 32 ∨ x.fKind ≠ 2 ∧ x.fUp = 0)))) := by
      unfold G_inode_Right_C3
      by_cases k2 : x.fKind = 2
      · rw [if_pos k2]
        by_cases a1 : x.fUp < 1
        · rw [if_pos a1, decide_eq_true (by omega)]
        by_cases a2 : x.fUp > 32
        · rw [if_neg a1, if_pos a2, decide_eq_true (by omega)]
        rw [if_neg a1, if_neg a2, decide_eq_false (by omega)]
      · rw [if_neg k2]
        by_cases u0 : x.fUp = 0
        · rw [decide_eq_false (by omega)]; simp [u0]
        · rw [decide_eq_true (by omega)]; simp [u0]
    rw [c3, Option.bind_some]
    simp only [decide_eq_true_eq]
    by_cases h3 : ¬ (x.fKind = 2 ∧ 1 ≤ x.fUp ∧ x.fUp ≤ 32 ∨ x.fKind ≠ 2 ∧ x.fUp = 0)
    · rw [if_pos h3, if_pos h3]
    rw [if_neg h3, if_neg h3, (pts_any n hn x.fPoints).2, Option.bind_some]
    by_cases h4 : ptsChk x.fPoints = 0
    · rw [if_pos h4, if_neg (by simpa using h4)]
      obtain ⟨S, hS⟩ := Int.eq_ofNat_of_zero_le (show 0 ≤ x.fSize by omega)
      rw [hS, (blk_any n S (by omega) (by omega)).2, Option.bind_some, Int.toNat_natCast]
      split <;> rfl
    · rw [if_neg h4, if_pos h4]
theorem rightR_any (n : Nat) (hn : 20 ≤ n) (x : S_inode_Node) (ok : okS_inode_Node x) : G_ringref3_NodeRight n (toR x) = some (rgt x) := by
  obtain ⟨w1, w2, w3, w4, w5, w6, w7, _⟩ := ok
  simp only [wf64] at w1 w2 w3 w4 w5 w6 w7
  unfold G_ringref3_NodeRight rgt toR
  simp only []
  by_cases h0 : x.fKind = 0
  · rw [if_pos h0, if_pos h0]
    unfold G_ringref3_NodeRight_C1
    simp only []
    have e : (bits .or .i64 (bits .or .i64 (bits .or .i64 (bits .or .i64 (bits .or .i64 x.fMode x.fUser) x.fGroup) x.fSize) x.fLinks) x.fUp = 0) ↔ (x.fMode = 0 ∧ x.fUser = 0 ∧ x.fGroup = 0 ∧ x.fSize = 0 ∧ x.fLinks = 0 ∧ x.fUp = 0) := by
      rw [or_zero (or_rng _ _) w7, or_zero (or_rng _ _) w6, or_zero (or_rng _ _) w5, or_zero (or_rng _ _) w4, or_zero w2 w3]
      simp only [and_assoc]
    by_cases q : x.fMode = 0 ∧ x.fUser = 0 ∧ x.fGroup = 0 ∧ x.fSize = 0 ∧ x.fLinks = 0 ∧ x.fUp = 0
    · rw [if_pos (e.2 q)]
      obtain ⟨q1, q2, q3, q4, q5, q6⟩ := q
      by_cases a7 : x.fPoints.length = 0
      · simp [q1, q2, q3, q4, q5, q6, a7]
      · have : decide ((x.fPoints.length : Int) > 0) = true := decide_eq_true (by omega)
        rw [this]
        simp [q1, q2, q3, q4, q5, q6, a7]
    · rw [if_neg (fun h => q (e.1 h))]
      simp only [Option.bind_some, if_true]
      rw [if_neg]
      rintro ⟨p1, p2, p3, p4, p5, p6, _⟩
      exact q ⟨p1, p2, p3, p4, p5, p6⟩
  · rw [if_neg h0, if_neg h0]
    have c2 : G_ringref3_NodeRight_C2 n (S_ringref3_Node.mk x.fKind x.fMode x.fUser x.fGroup x.fSize x.fLinks x.fUp x.fPoints) = some (.x0 (decide (¬ (0 ≤ x.fKind ∧ x.fKind ≤ 3 ∧ 0 ≤ x.fMode ∧ x.fMode ≤ 511 ∧ 0 ≤ x.fUser ∧ x.fUser ≤ 255 ∧ 0 ≤ x.fGroup ∧ x.fGroup ≤ 255 ∧ 0 ≤ x.fLinks ∧ x.fLinks ≤ 200)))) := by
      unfold G_ringref3_NodeRight_C2
      simp only [within_any, Option.bind_some, decide_eq_true_eq]
      by_cases a1 : 0 ≤ x.fKind ∧ x.fKind ≤ 3
      · rw [if_pos a1]
        by_cases a2 : 0 ≤ x.fMode ∧ x.fMode ≤ 511
        · rw [if_pos a2]
          by_cases a3 : 0 ≤ x.fUser ∧ x.fUser ≤ 255
          · rw [if_pos a3]
            by_cases a4 : 0 ≤ x.fGroup ∧ x.fGroup ≤ 255
            · rw [if_pos a4]
              by_cases a5 : 0 ≤ x.fLinks ∧ x.fLinks ≤ 200
              · rw [decide_eq_true a5, decide_eq_false (by omega)]; rfl
              · rw [decide_eq_false a5, decide_eq_true (by omega)]; rfl
            · rw [if_neg a4, decide_eq_true (by omega)]
          · rw [if_neg a3, decide_eq_true (by omega)]
        · rw [if_neg a2, decide_eq_true (by omega)]
      · rw [if_neg a1, decide_eq_true (by omega)]
    rw [c2, Option.bind_some]
    simp only [decide_eq_true_eq, within_any, Option.bind_some]
    by_cases h1 : ¬ (0 ≤ x.fKind ∧ x.fKind ≤ 3 ∧ 0 ≤ x.fMode ∧ x.fMode ≤ 511 ∧ 0 ≤ x.fUser ∧ x.fUser ≤ 255 ∧ 0 ≤ x.fGroup ∧ x.fGroup ≤ 255 ∧ 0 ≤ x.fLinks ∧ x.fLinks ≤ 200)
    · rw [if_pos h1, if_pos h1]
    rw [if_neg h1, if_neg h1]
    by_cases h2 : 0 ≤ x.fSize ∧ x.fSize ≤ 512
    rotate_left
    · rw [if_neg h2, if_pos h2]
    rw [if_pos h2, if_neg (by simpa using h2)]
    have c3 : G_ringref3_NodeRight_C3 n (S_ringref3_Node.mk x.fKind x.fMode x.fUser x.fGroup x.fSize x.fLinks x.fUp x.fPoints) = some (.x0 (decide (¬ (x.fKind = 2 ∧ 1 ≤ x.fUp ∧ x.fUp ≤ 32 ∨ x.fKind ≠ 2 ∧ x.fUp = 0)))) := by
      unfold G_ringref3_NodeRight_C3
      simp only [within_any, Option.bind_some]
      by_cases k2 : x.fKind = 2
      · by_cases a1 : 1 ≤ x.fUp ∧ x.fUp ≤ 32
        · rw [decide_eq_true a1, decide_eq_false (by omega), if_neg (by simp [eqRes, k2]), if_pos k2]
        · rw [decide_eq_false a1, decide_eq_true (by omega), if_pos (by simp [eqRes, k2])]
      · by_cases a1 : 1 ≤ x.fUp ∧ x.fUp ≤ 32
        · rw [decide_eq_true a1, decide_eq_true (by omega), if_pos (by simp [eqRes, k2])]
        · rw [decide_eq_false a1, if_neg (by simp [eqRes, k2]), if_neg k2]
          by_cases u0 : x.fUp = 0
          · rw [decide_eq_false (by omega)]; simp [u0]
          · rw [decide_eq_true (by omega)]; simp [u0]
    rw [c3, Option.bind_some]
    simp only [decide_eq_true_eq]
    by_cases h3 : ¬ (x.fKind = 2 ∧ 1 ≤ x.fUp ∧ x.fUp ≤ 32 ∨ x.fKind ≠ 2 ∧ x.fUp = 0)
    · rw [if_pos h3, if_pos h3]
    rw [if_neg h3, if_neg h3, (pts_any n hn x.fPoints).1, Option.bind_some]
    by_cases h4 : ptsChk x.fPoints = 0
    · rw [if_pos h4, if_neg (by simpa using h4)]
      obtain ⟨S, hS⟩ := Int.eq_ofNat_of_zero_le (show 0 ≤ x.fSize by omega)
      rw [hS, (blk_any n S (by omega) (by omega)).1, Option.bind_some, Int.toNat_natCast]
      split <;> rfl
    · rw [if_neg h4, if_pos h4]
/-- a node that is right, and is there -/
theorem rgt_zero {x : S_inode_Node} (h : rgt x = 0) (hk : x.fKind ≠ 0) : 0 ≤ x.fSize ∧ x.fSize ≤ 512 ∧ x.fPoints.length ≤ 8 ∧ ptsOk x.fPoints = true ∧ (x.fPoints.length : Int) = (((x.fSize.toNat + 63) / 64 : Nat) : Int) ∧ (0 ≤ x.fKind ∧ x.fKind ≤ 3 ∧ 0 ≤ x.fMode ∧ x.fMode ≤ 511 ∧ 0 ≤ x.fUser ∧ x.fUser ≤ 255 ∧ 0 ≤ x.fGroup ∧ x.fGroup ≤ 255 ∧ 0 ≤ x.fLinks ∧ x.fLinks ≤ 200) ∧ (x.fKind = 2 ∧ 1 ≤ x.fUp ∧ x.fUp ≤ 32 ∨ x.fKind ≠ 2 ∧ x.fUp = 0) := by
  unfold rgt at h
  rw [if_neg hk] at h
  split at h
  · cases h
  rename_i h1
  split at h
  · cases h
  rename_i h2
  split at h
  · cases h
  rename_i h3
  split at h
  · rename_i h4; exact absurd h h4
  rename_i h4
  split at h
  rotate_left
  · cases h
  rename_i h5
  have h4 : ptsChk x.fPoints = 0 := by simpa using h4
  unfold ptsChk at h4
  split at h4
  · cases h4
  split at h4
  rotate_left
  · cases h4
  rename_i h6 h7
  exact ⟨by omega, by omega, by omega, h7, h5, Classical.not_not.1 h1, Classical.not_not.1 h3⟩
end nd
namespace xt
open nd (rgt toR)
theorem stp {β : Type} (L : List Int) (I : Int) (K : Option β) (hI : 0 ≤ I) (h : I.toNat < L.length) : (if 0 ≤ I ∧ I.toNat < L.length then (L[I.toNat]?).bind fun _ => K else none) = K := by
  rw [if_pos ⟨hI, h⟩, List.getElem?_eq_getElem h]; rfl
def hb (x : S_inode_Node) : List Int := [wi .u8 x.fKind, wi .u8 x.fMode, wi .u8 (shrI .i64 x.fMode 8), wi .u8 x.fUser, wi .u8 x.fGroup, wi .u8 x.fSize, wi .u8 (shrI .i64 x.fSize 8), wi .u8 x.fLinks, wi .u8 x.fUp]
def pb (p : List Int) : List Int := bl (full p) ++ List.replicate (16 - 2 * (full p).length) 0
def nb (x : S_inode_Node) : List Int := hb x ++ (pb x.fPoints ++ List.replicate 7 0)
theorem pb_len {p : List Int} (h : okp p) : (pb p).length = 16 := by
  have := full_len h
  unfold pb
  rw [List.length_append, bl_len, List.length_replicate]; omega
theorem ptsOk_okp {p : List Int} (h1 : p.length ≤ 8) (h2 : nd.ptsOk p = true) : okp p := by
  refine ⟨h1, fun q hq => ?_⟩
  unfold nd.ptsOk at h2
  rw [List.all_eq_true] at h2
  have := h2 q hq
  simpa using this
theorem cpy9 (A : List Int) (Y : List Int) (h9 : A.length = 9) (hY : Y.length = 16) : cpyR (A ++ List.replicate 23 0) 9 (A ++ List.replicate 23 0).length Y = A ++ (Y ++ List.replicate 7 0) := by
  unfold cpyR
  have hl : (A ++ List.replicate 23 (0 : Int)).length = 32 := by simp [h9]
  rw [hl, hY, show Nat.min 16 (32 - 9) = 16 from rfl]
  rw [List.take_of_length_le (show Y.length ≤ 32 - 9 by omega)]
  have e1 : (A ++ List.replicate 23 (0 : Int)).take 9 = A := List.take_left' h9
  have e2 : (A ++ List.replicate 23 (0 : Int)).drop (9 + 16) = List.replicate 7 0 := by
    rw [List.drop_append, List.drop_eq_nil_of_le (by omega), h9]; rfl
  rw [e1, e2, List.append_assoc]
theorem pack0 (n : Nat) (hn : 110 < n) (x : S_inode_Node) (h : rgt x = 0) (hk : x.fKind = 0) : G_inode_Pack n x = some (List.replicate 32 0, 0) := by
  have hm : mkL 1 (0 : Int) 32 = some (List.replicate 32 0) := by unfold mkL maxLen; rw [if_pos (by decide)]; rfl
  unfold G_inode_Pack
  rw [nd.right_any n (by omega) x, h, Option.bind_some, if_pos rfl, hm, Option.bind_some, if_pos hk]
theorem pack1 (n : Nat) (hn : 110 < n) (x : S_inode_Node) (h : rgt x = 0) (hk : x.fKind ≠ 0) : G_inode_Pack n x = some (nb x, 0) := by
  have hm : mkL 1 (0 : Int) 32 = some (List.replicate 32 0) := by unfold mkL maxLen; rw [if_pos (by decide)]; rfl
  obtain ⟨s1, s2, s3, s4, s5, s6, s7⟩ := nd.rgt_zero h hk
  have hp := ptsOk_okp s3 s4
  unfold G_inode_Pack
  rw [nd.right_any n (by omega) x, h, Option.bind_some, if_pos rfl, hm, Option.bind_some, if_neg hk, pack_any n hn _ hp, Option.bind_some]
  simp only [if_true]
  have hpl := pb_len hp
  unfold pb at hpl
  generalize hY : bl (full x.fPoints) ++ List.replicate (16 - 2 * (full x.fPoints).length) (0 : Int) = Y at *
  rw [stp, stp, stp, stp, stp, stp, stp, stp, stp]
  all_goals first
    | (show (0 : Int) ≤ _; decide)
    | skip
  all_goals first
    | (simp; done)
    | skip
  have hM : (((((((((((List.replicate 32 (0 : Int)).set ((0 : Int)).toNat (wi .u8 x.fKind)).set ((1 : Int)).toNat (wi .u8 x.fMode)).set ((2 : Int)).toNat (wi .u8 (shrI .i64 x.fMode 8))).set ((3 : Int)).toNat (wi .u8 x.fUser)).set ((4 : Int)).toNat (wi .u8 x.fGroup)).set ((5 : Int)).toNat (wi .u8 x.fSize)).set ((6 : Int)).toNat (wi .u8 (shrI .i64 x.fSize 8))).set ((7 : Int)).toNat (wi .u8 x.fLinks)).set ((8 : Int)).toNat (wi .u8 x.fUp))) = hb x ++ List.replicate 23 0 := rfl
  rw [hM, if_pos ⟨by omega, by simp [hb]⟩, if_pos (by simp), cpy9 (hb x) Y rfl hpl]
  unfold nb pb
  rw [hY]
end xt
end Go.Proofs.Ytjjjaakefnnbpaa.pv
