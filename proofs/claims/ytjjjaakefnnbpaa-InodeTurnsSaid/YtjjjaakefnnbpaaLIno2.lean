/- InodeTurns: the law. -/
import Derived.Test.YtjjjaakefnnbpaaLIno
import Derived.Laws.Strings
namespace Go.Proofs.Ytjjjaakefnnbpaa.pv
set_option linter.all false
open Go.RowKit help
namespace xt
open nd (rgt toR)

theorem b2s_toList (L : List Int) : (b2s L).toList = L.map u8 := by
  rw [ByteArray.toList_eq, b2s_data]
theorem u8_inj {x y : Int} (hx : 0 ≤ x ∧ x ≤ 255) (hy : 0 ≤ y ∧ y ≤ 255) (h : u8 x = u8 y) : x = y := by
  have e := congrArg UInt8.toNat h
  unfold u8 at e
  rw [UInt8.toNat_ofNat_of_lt' (by show x.toNat < 256; omega), UInt8.toNat_ofNat_of_lt' (by show y.toNat < 256; omega)] at e
  omega
theorem map_inj : ∀ (L K : List Int), okb L → okb K → L.map u8 = K.map u8 → L = K
  | [], [], _, _, _ => rfl
  | [], _ :: _, _, _, h => by simp at h
  | _ :: _, [], _, _, h => by simp at h
  | x :: L, y :: K, hL, hK, h => by
    simp only [List.map_cons, List.cons.injEq] at h
    rw [u8_inj (hL x (List.mem_cons_self ..)) (hK y (List.mem_cons_self ..)) h.1, map_inj L K (fun z hz => hL z (List.mem_cons_of_mem _ hz)) (fun z hz => hK z (List.mem_cons_of_mem _ hz)) h.2]
theorem str_eq (L K : List Int) (hL : okb L) (hK : okb K) : ((b2s L).toList == (b2s K).toList) = decide (L = K) := by
  rw [b2s_toList, b2s_toList]
  by_cases h : L = K
  · subst h; simp
  · rw [decide_eq_false h, beq_eq_false_iff_ne]
    exact fun q => h (map_inj L K hL hK q)
theorem wu_rng (x : Int) : 0 ≤ wi .u8 x ∧ wi .u8 x ≤ 255 := by rw [wi, IntKind.wrap_u8]; omega
theorem okb_app {L K : List Int} (h1 : okb L) (h2 : okb K) : okb (L ++ K) := fun x hx => by
  rw [List.mem_append] at hx
  rcases hx with q | q
  · exact h1 x q
  · exact h2 x q
theorem okb_rep (m : Nat) : okb (List.replicate m 0) := fun x hx => by
  rw [List.mem_replicate] at hx; omega
theorem okb_bl (F : List Ex) : okb (bl F) := fun x hx => by
  unfold bl at hx
  rw [List.mem_flatMap] at hx
  obtain ⟨e, _, he⟩ := hx
  rw [List.mem_cons, List.mem_singleton] at he
  rcases he with rfl | rfl
  · exact wu_rng _
  · exact wu_rng _
theorem okb_nb (x : S_inode_Node) : okb (nb x) := by
  unfold nb pb
  refine okb_app (fun y hy => ?_) (okb_app (okb_app (okb_bl _) (okb_rep _)) (okb_rep _))
  unfold hb at hy
  simp only [List.mem_cons, List.not_mem_nil, or_false] at hy
  rcases hy with rfl | rfl | rfl | rfl | rfl | rfl | rfl | rfl | rfl <;> exact wu_rng _
theorem nb0 {x : S_inode_Node} (h : rgt x = 0) (hk : x.fKind = 0) : nb x = List.replicate 32 0 := by
  unfold nd.rgt at h
  rw [if_pos hk] at h
  split at h
  · rename_i q
    obtain ⟨q1, q2, q3, q4, q5, q6, q7⟩ := q
    have hp : x.fPoints = [] := List.eq_nil_of_length_eq_zero q7
    unfold nb hb pb
    rw [hk, q1, q2, q3, q4, q5, q6, hp]
    decide +kernel
  · cases h
theorem pack_any' (n : Nat) (hn : 110 < n) (x : S_inode_Node) : G_inode_Pack n x = some (if rgt x = 0 then nb x else [], rgt x) := by
  by_cases h : rgt x = 0
  · rw [if_pos h]
    by_cases hk : x.fKind = 0
    · rw [pack0 n hn x h hk, nb0 h hk, h]
    · rw [pack1 n hn x h hk, h]
  · unfold G_inode_Pack
    rw [nd.right_any n (by omega) x, Option.bind_some, if_neg h, if_neg h]
theorem two_any (n : Nat) (m : Int) (h0 : 0 ≤ m) (h1 : m ≤ 1000) : G_ringref3_two n m = some (b2s [wi .u8 m, wi .u8 (shrI .i64 m 8)]) := by
  unfold G_ringref3_two
  have s := shr_i64 (a := m) 8 (by omega)
  rw [show ((8 : Nat) : Int) = 8 from rfl] at s
  rw [s, rem_nn h0, quo_i64 h0 (by omega) (by omega)]
  have e1 : wi .u8 (m % 256) = wi .u8 m := by rw [wi, wi, IntKind.wrap_u8, IntKind.wrap_u8]; omega
  rw [e1]; rfl
theorem rgt_facts {x : S_inode_Node} (h : rgt x = 0) : 0 ≤ x.fMode ∧ x.fMode ≤ 511 ∧ 0 ≤ x.fSize ∧ x.fSize ≤ 512 ∧ okp x.fPoints := by
  by_cases hk : x.fKind = 0
  · unfold nd.rgt at h
    rw [if_pos hk] at h
    split at h
    · rename_i q
      have hp : x.fPoints = [] := List.eq_nil_of_length_eq_zero q.2.2.2.2.2.2
      rw [hp]
      exact ⟨by omega, by omega, by omega, by omega, by simp, by simp⟩
    · cases h
  · obtain ⟨s1, s2, s3, s4, s5, s6, s7⟩ := nd.rgt_zero h hk
    exact ⟨by omega, by omega, s1, s2, ptsOk_okp s3 s4⟩
theorem npack_any (n : Nat) (hn : 110 < n) (x : S_inode_Node) (h : rgt x = 0) : G_ringref3_NodePack n (toR x) = some (b2s (nb x)) := by
  obtain ⟨m1, m2, z1, z2, hp⟩ := rgt_facts h
  have hpl := pb_len hp
  unfold G_ringref3_NodePack G_ringref3_one nd.toR
  simp only [Option.bind_some]
  rw [two_any n x.fMode m1 (by omega), two_any n x.fSize z1 (by omega), ppack_any n hn _ hp]
  simp only [Option.bind_some]
  have r7 := repeat_b2s n 7 (by omega)
  rw [show ((7 : Nat) : Int) = 7 from rfl] at r7
  rw [r7, cat_b2s _ _ (by simp), Option.bind_some, cat_b2s _ _ (by simp), Option.bind_some, cat_b2s _ _ (by simp), Option.bind_some, cat_b2s _ _ (by simp), Option.bind_some, cat_b2s _ _ (by simp), Option.bind_some, cat_b2s _ _ (by simp), Option.bind_some]
  have e : bl (full x.fPoints) ++ List.replicate (16 - 2 * (full x.fPoints).length) 0 = pb x.fPoints := rfl
  rw [e, cat_b2s _ _ (by simp [hpl]), Option.bind_some, Option.bind_some, cat_b2s _ _ (by simp [hpl]), Option.bind_some]
  first
    | rfl
    | (congr 2; unfold nb hb; simp)
theorem or8 (a b : Int) (ha : 0 ≤ a ∧ a ≤ 255) (hb : 0 ≤ b ∧ b ≤ 255) : bits .or .i64 (wi .i64 a) (shlI .i64 (wi .i64 b) 8) = a + 256 * b := by
  obtain ⟨A, rfl⟩ := Int.eq_ofNat_of_zero_le ha.1
  obtain ⟨B, rfl⟩ := Int.eq_ofNat_of_zero_le hb.1
  have s : shlI .i64 (B : Int) 8 = ((B * 256 : Nat) : Int) := by
    have : shlI .i64 (B : Int) ((8 : Nat) : Int) = wi .i64 ((B : Int) * 2 ^ 8) := by
      simp only [shlI, IntKind.bits, Int.toNat_natCast, Nat.min_eq_left (show 8 ≤ 64 by omega)]
    rw [show ((8 : Nat) : Int) = 8 from rfl] at this
    rw [this, wi64 (by omega) (by omega)]; omega
  rw [wi64 (by omega) (by omega), wi64 (x := (B : Int)) (by omega) (by omega), s, i64_or_nat _ _ (by omega) (by omega)]
  have h1 := or_add_and A (B * 256)
  have h2 : A &&& (B * 256) = 0 := by
    refine Nat.eq_of_testBit_eq (fun i => ?_)
    rw [Nat.testBit_and, Nat.zero_testBit]
    by_cases hi : i < 8
    · have : (B * 256).testBit i = false := by
        rw [show B * 256 = B * 2 ^ 8 from rfl, Nat.testBit_mul_two_pow]
        simp; omega
      rw [this, Bool.and_false]
    · have : A.testBit i = false := Nat.testBit_lt_two_pow (Nat.lt_of_lt_of_le (show A < 2 ^ 8 by omega) (Nat.pow_le_pow_right (by omega) (by omega)))
      rw [this, Bool.false_and]
  omega
def ND (b : List Int) (r : List Int) : S_inode_Node := ⟨b[0]!, b[1]! + (256 : Int) * b[2]!, b[3]!, b[4]!, b[5]! + (256 : Int) * b[6]!, b[7]!, b[8]!, r⟩
theorem eqI (n : Nat) (hn : 110 < n) (a : List Int) (h : a.length ≤ 100) : G_slices_Equal_int_int n a a = some true := by
  obtain ⟨r, h1, h2⟩ := G_slices_Equal_int_int_sp (n := n) a a (by omega) (by omega)
  rw [h1, h2.2 rfl]
theorem unpack_both (n : Nat) (hn : 110 < n) (b : List Int) (hbb : okb b) (hbl : b.length ≤ 60) :
    ∃ (x : S_inode_Node) (e : Int), G_inode_Unpack n b = some (x, e) ∧ G_ringref3_NodeUnpack n (b2s b) = some (toR x, e) ∧ x.fPoints.length ≤ 8 := by
  unfold G_inode_Unpack G_ringref3_NodeUnpack
  rw [b2s_size]
  by_cases h32 : (b.length : Int) = 32
  · have gb : ∀ i : Nat, i < 32 → getI b (i : Int) = some b[i]! ∧ getS (b2s b) (i : Int) = some b[i]! ∧ 0 ≤ b[i]! ∧ b[i]! ≤ 255 := by
      intro i hi
      have hl : i < b.length := by omega
      have hr := hbb _ (List.getElem_mem hl)
      rw [getElem!_pos b i hl]
      exact ⟨by rw [getI_nat, List.getElem?_eq_getElem hl], getS_b2s b i _ (List.getElem?_eq_getElem hl) hr.1 hr.2, hr⟩
    have g0 := gb 0 (by omega); have g1 := gb 1 (by omega); have g2 := gb 2 (by omega); have g3 := gb 3 (by omega); have g4 := gb 4 (by omega)
    have g5 := gb 5 (by omega); have g6 := gb 6 (by omega); have g7 := gb 7 (by omega); have g8 := gb 8 (by omega)
    have hsub : sub b 9 25 = some ((b.take 25).drop 9) := by
      unfold sub
      rw [if_pos ⟨by omega, by omega, by omega⟩]; rfl
    have hokm : okb ((b.take 25).drop 9) := fun x hx => hbb x (List.mem_of_mem_take (List.mem_of_mem_drop hx))
    have hsubS : subS (b2s b) 9 25 = some (b2s ((b.take 25).drop 9)) := by
      unfold subS
      rw [b2s_size, if_pos ⟨by omega, by omega, by omega⟩]
      congr 1
      apply ByteArray.ext
      rw [ByteArray.data_extract, b2s_data, b2s_data]
      apply Array.ext'
      simp [List.drop_take]
    obtain ⟨u, u1, u2, u3⟩ := unpack_any n hn _ hokm
    rw [if_pos h32, if_pos h32]
    have k0 : (0 : Int) = ((0 : Nat) : Int) := rfl
    have k1 : (1 : Int) = ((1 : Nat) : Int) := rfl
    have k2 : (2 : Int) = ((2 : Nat) : Int) := rfl
    have k3 : (3 : Int) = ((3 : Nat) : Int) := rfl
    have k4 : (4 : Int) = ((4 : Nat) : Int) := rfl
    have k5 : (5 : Int) = ((5 : Nat) : Int) := rfl
    have k6 : (6 : Int) = ((6 : Nat) : Int) := rfl
    have k7 : (7 : Int) = ((7 : Nat) : Int) := rfl
    have k8 : (8 : Int) = ((8 : Nat) : Int) := rfl
    have a0 : getI b 0 = some b[0]! := g0.1
    have a1 : getI b 1 = some b[1]! := g1.1
    have a2 : getI b 2 = some b[2]! := g2.1
    have a3 : getI b 3 = some b[3]! := g3.1
    have a4 : getI b 4 = some b[4]! := g4.1
    have a5 : getI b 5 = some b[5]! := g5.1
    have a6 : getI b 6 = some b[6]! := g6.1
    have a7 : getI b 7 = some b[7]! := g7.1
    have a8 : getI b 8 = some b[8]! := g8.1
    have c0 : getS (b2s b) 0 = some b[0]! := g0.2.1
    have c1 : getS (b2s b) 1 = some b[1]! := g1.2.1
    have c2 : getS (b2s b) 2 = some b[2]! := g2.2.1
    have c3 : getS (b2s b) 3 = some b[3]! := g3.2.1
    have c4 : getS (b2s b) 4 = some b[4]! := g4.2.1
    have c5 : getS (b2s b) 5 = some b[5]! := g5.2.1
    have c6 : getS (b2s b) 6 = some b[6]! := g6.2.1
    have c7 : getS (b2s b) 7 = some b[7]! := g7.2.1
    have c8 : getS (b2s b) 8 = some b[8]! := g8.2.1
    have wf : ∀ v : Int, 0 ≤ v ∧ v ≤ 255 → wi .i64 v = v := fun v hv => wi64 (by omega) (by omega)
    have n1 : (S_inode_Node.mk (wi .i64 b[0]!) (bits .or .i64 (wi .i64 b[1]!) (shlI .i64 (wi .i64 b[2]!) 8)) (wi .i64 b[3]!) (wi .i64 b[4]!) (bits .or .i64 (wi .i64 b[5]!) (shlI .i64 (wi .i64 b[6]!) 8)) (wi .i64 b[7]!) (wi .i64 b[8]!) u.1) = ND b u.1 := by
      unfold ND
      rw [or8 _ _ g1.2.2 g2.2.2, or8 _ _ g5.2.2 g6.2.2, wf _ g0.2.2, wf _ g3.2.2, wf _ g4.2.2, wf _ g7.2.2, wf _ g8.2.2]
    have m1 : ∀ p q : Int, (0 ≤ p ∧ p ≤ 255) → (0 ≤ q ∧ q ≤ 255) → wi .i64 ((wi .i64 p) + (wi .i64 (256 * (wi .i64 q)))) = p + 256 * q := by
      intro p q hp hq
      rw [wf p hp, wf q hq, wi64 (x := 256 * q) (by omega) (by omega), wi64 (by omega) (by omega)]
    have n2 : (S_ringref3_Node.mk (wi .i64 b[0]!) (wi .i64 ((wi .i64 b[1]!) + (wi .i64 ((256 : Int) * (wi .i64 b[2]!))))) (wi .i64 b[3]!) (wi .i64 b[4]!) (wi .i64 ((wi .i64 b[5]!) + (wi .i64 ((256 : Int) * (wi .i64 b[6]!))))) (wi .i64 b[7]!) (wi .i64 b[8]!) u.1) = toR (ND b u.1) := by
      rw [m1 _ _ g1.2.2 g2.2.2, m1 _ _ g5.2.2 g6.2.2, wf _ g0.2.2, wf _ g3.2.2, wf _ g4.2.2, wf _ g7.2.2, wf _ g8.2.2]
      rfl
    rw [a0, a1, a2, a3, a4, a5, a6, a7, a8, hsub, hsubS, c0, c1, c2, c3, c4, c5, c6, c7, c8]
    simp only [Option.bind_some]
    rw [u1, u2]
    simp only [Option.bind_some]
    unfold G_ringref3_NodeUnpack_C1
    rw [n1, n2]
    by_cases hu : u.2 = 0
    · rw [if_pos hu, if_pos hu, pack_any' n hn, Option.bind_some]
      have hokN : okS_inode_Node (ND b u.1) := by
        have hw : ∀ v : Int, 0 ≤ v ∧ v ≤ 100000 → (Lit.int .i64 v).wf = true := fun v hv => wf64.2 ⟨by omega, by omega⟩
        unfold okS_inode_Node ND
        refine ⟨hw _ (by simp only; omega), hw _ (by simp only; omega), hw _ (by simp only; omega), hw _ (by simp only; omega), hw _ (by simp only; omega), hw _ (by simp only; omega), hw _ (by simp only; omega), ⟨?_, fun q hq => hw q ?_⟩, trivial⟩
        · have := u3.1; simp only; omega
        · have := u3.2 q hq; omega
      rw [nd.rightR_any n (by omega) _ hokN, Option.bind_some]
      simp only
      by_cases hr : rgt (ND b u.1) = 0
      · rw [if_pos hr, if_pos hr, if_pos hr, npack_any n hn _ hr, Option.bind_some, Option.bind_some]
        have hnl : (nb (ND b u.1)).length = 32 := by
          have := pb_len (rgt_facts hr).2.2.2.2
          unfold nb
          rw [List.length_append, List.length_append, this]; rfl
        obtain ⟨q, q1, q2⟩ := G_slices_Equal_byte_byte_sp (n := n) (nb (ND b u.1)) b (by omega) (by omega)
        rw [q1, Option.bind_some, str_eq _ _ (okb_nb _) hbb]
        by_cases he : nb (ND b u.1) = b
        · rw [q2.2 he, decide_eq_true he]
          exact ⟨_, 0, rfl, rfl, u3.1⟩
        · have : q = false := by cases q with
            | true => exact absurd (q2.1 rfl) he
            | false => rfl
          rw [this, decide_eq_false he]
          exact ⟨S_inode_Node.mk 0 0 0 0 0 0 0 [], 3, rfl, rfl, by simp⟩
      · rw [if_neg hr, if_neg hr, Option.bind_some]
        exact ⟨S_inode_Node.mk 0 0 0 0 0 0 0 [], 3, rfl, rfl, by simp⟩
    · rw [if_neg hu, if_neg hu, Option.bind_some]
      exact ⟨S_inode_Node.mk 0 0 0 0 0 0 0 [], 3, rfl, rfl, by simp⟩
  · rw [if_neg h32, if_neg h32]
    exact ⟨S_inode_Node.mk 0 0 0 0 0 0 0 [], 3, rfl, rfl, by simp⟩
end xt
end Go.Proofs.Ytjjjaakefnnbpaa.pv
