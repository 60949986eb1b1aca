/- InodeTurns: the law, joined. -/
import Derived.Test.YtjjjaakefnnbpaaLIno2
namespace Go.Proofs.Ytjjjaakefnnbpaa.pv
set_option linter.all false
open Go.RowKit help
namespace xt
open nd (rgt toR)

theorem used_loop (n : Nat) (x : S_inode_Node) (r : List Int × Int) (hp : okp x.fPoints) : ∀ (k i c : Nat), x.fPoints.length - i < k → i ≤ x.fPoints.length → c ≤ i →
    ∃ m : Int, G_inode_Used_L1 n x k (c : Int) (i : Int) = some (.x0 m) ∧ G_ringlaw3_InodeTurns_L3 n r x k (c : Int) (i : Int) = some (.x0 m)
  | 0, i, c, h, _, _ => by omega
  | k + 1, i, c, h, hi, hc => by
    have h8 := hp.1
    rw [G_inode_Used_L1, G_ringlaw3_InodeTurns_L3]
    by_cases h1 : i < x.fPoints.length
    · have hr := hp.2 _ (List.getElem_mem h1)
      rw [if_pos (show (i : Int) < (x.fPoints.length : Int) by omega), if_pos (show (i : Int) < (x.fPoints.length : Int) by omega), getI_nat, List.getElem?_eq_getElem h1, Option.bind_some, Option.bind_some, wi_succ (i := i) (by omega), wi_succ (i := c) (by omega)]
      by_cases q : x.fPoints[i] = 0
      · rw [if_pos q, if_neg (by omega)]
        exact used_loop n x r hp k (i + 1) c (by omega) (by omega) (by omega)
      · rw [if_neg q, if_pos (show x.fPoints[i] > 0 by omega)]
        exact used_loop n x r hp k (i + 1) (c + 1) (by omega) (by omega) (by omega)
    · rw [if_neg (by omega), if_neg (by omega)]
      exact ⟨_, rfl, rfl⟩
theorem law (n : Nat) (hn : 20000 ≤ n) (x : S_inode_Node) (b : List Int) (s : Int) (ok : okS_inode_Node x) (hb : okb b) : G_ringlaw3_InodeTurns n x b s = some true := by
  have hn1 : 110 < n := by omega
  unfold G_ringlaw3_InodeTurns
  by_cases p30 : (x.fPoints.length : Int) > 30
  · rw [if_pos p30]
  by_cases b60 : (b.length : Int) > 60
  · rw [if_neg p30, if_pos b60]
  rw [if_neg p30, if_neg b60]
  obtain ⟨y, e, y1, y2, y3⟩ := unpack_both n hn1 b hb (by omega)
  have hnode : ∀ z : S_inode_Node, G_ringlaw3_node n z = some (toR z) := fun z => rfl
  have hR := nd.right_any n (by omega) x
  rw [hnode, Option.bind_some, nd.rightR_any n (by omega) x ok, Option.bind_some, pack_any' n hn1 x, Option.bind_some, y1, Option.bind_some, y2, Option.bind_some]
  have c1 : G_ringlaw3_InodeTurns_C1 n s (rgt x) (if rgt x = 0 then nb x else [], rgt x) (y, e) (toR y, e) x = some (.x0 false) := by
    unfold G_ringlaw3_InodeTurns_C1 G_ringlaw3_sameNode G_ringlaw3_sameNode_C1
    simp only [hR, hnode, Option.bind_some, if_true]
    have hy : (toR y).fPoints = y.fPoints := rfl
    rw [hy, eqI n hn1 y.fPoints (by omega)]
    rfl
  have c2 : ∀ r, G_ringlaw3_InodeTurns_C2 n s (rgt x) r x = some (.x0 false) := by
    intro r
    unfold G_ringlaw3_InodeTurns_C2
    by_cases q : s ≤ 1048576
    · rw [if_pos q]
      by_cases q0 : s ≤ 0
      · obtain ⟨z1, z2⟩ := nd.blk_neg n (by omega) s q0
        rw [z1, z2]; rfl
      · obtain ⟨S, rfl⟩ := Int.eq_ofNat_of_zero_le (show 0 ≤ s by omega)
        obtain ⟨z1, z2⟩ := nd.blk_any n S (by omega) (by omega)
        rw [z1, z2, Option.bind_some, Option.bind_some]
        simp
    · rw [if_neg q]
  rw [c1, Option.bind_some]
  simp only [Bool.false_eq_true, if_false]
  rw [c2, Option.bind_some]
  simp only [Bool.false_eq_true, if_false]
  by_cases h : rgt x = 0
  · have hp := (rgt_facts h).2.2.2.2
    have h8 := hp.1
    rw [if_pos h]
    simp only [h, if_true]
    obtain ⟨m, u1, u2⟩ := used_loop n x (nb x, 0) hp n 0 0 (by omega) (by omega) (by omega)
    have u1 : G_inode_Used_L1 n x n 0 0 = some (.x0 m) := u1
    have u2 : G_ringlaw3_InodeTurns_L3 n (nb x, 0) x n 0 0 = some (.x0 m) := u2
    have hu : G_inode_Used n x = some m := by unfold G_inode_Used; rw [u1]; rfl
    rw [u2, Option.bind_some]
    unfold G_inode_Stat
    rw [Option.bind_some]
    by_cases hk : x.fKind = 0
    · have hm : mkL 1 (0 : Int) 32 = some (List.replicate 32 0) := by unfold mkL maxLen; rw [if_pos (by decide)]; rfl
      have hp0 : x.fPoints = [] := by
        unfold nd.rgt at h
        rw [if_pos hk] at h
        split at h
        · rename_i q; exact List.eq_nil_of_length_eq_zero q.2.2.2.2.2.2
        · cases h
      have hm0 : m = 0 := by
        obtain ⟨k, rfl⟩ : ∃ k, n = k + 1 := ⟨n - 1, by omega⟩
        rw [G_inode_Used_L1, if_neg (by rw [hp0]; simp)] at u1
        cases u1; rfl
      rw [if_pos hk, hm, Option.bind_some, nb0 h hk, if_pos (by simp), hu, Option.bind_some, hm0]
      rfl
    · rw [if_neg hk]
      unfold G_ringlaw3_InodeTurns_C4
      have he : eqS_api_Stat (S_api_Stat.mk x.fKind x.fMode x.fUser x.fGroup x.fSize x.fLinks) (S_api_Stat.mk x.fKind x.fMode x.fUser x.fGroup x.fSize x.fLinks) = true := by unfold eqS_api_Stat; simp
      rw [hnode, Option.bind_some, npack_any n hn1 x h, Option.bind_some, if_pos (by simp), hu, Option.bind_some, if_pos rfl, he]
      rfl
  · rw [if_neg h]
    simp only [h, if_false]
    rfl
end xt
end Go.Proofs.Ytjjjaakefnnbpaa.pv
