/- QuotaTurns: bytes, and the law. -/
import Derived.Test.YtiaebagjcbkkgaaLQuo
namespace Go.Proofs.Ytiaebagjcbkkgaa.pv
set_option linter.all false
open Go.RowKit help
namespace qt

def bl (l : List Q) : List Int := l.flatMap fun r => [wi .u8 r.fUser, wi .u8 r.fLimit, wi .u8 (shrI .i64 r.fLimit 8)]
theorem bl_len (F : List Q) : (bl F).length = 3 * F.length := by
  unfold bl
  induction F with
  | nil => rfl
  | cons a F ih => rw [List.flatMap_cons, List.length_append, ih]; simp; omega
theorem bl_app (F G : List Q) : bl (F ++ G) = bl F ++ bl G := by simp [bl]
theorem okb_bl (F : List Q) : okb (bl F) := fun x hx => by
  unfold bl at hx
  rw [List.mem_flatMap] at hx
  obtain ⟨e, _, he⟩ := hx
  simp only [List.mem_cons, List.not_mem_nil, or_false] at he
  rcases he with rfl | rfl | rfl <;> exact wu_rng _
theorem set3 (x y z : Int) : ∀ (B R : List Int), (((B ++ 0 :: 0 :: 0 :: R).set B.length x).set (B.length + 1) y).set (B.length + 2) z = B ++ x :: y :: z :: R
  | [], R => rfl
  | b :: B, R => by
    have ih := set3 x y z B R
    simp only [List.cons_append, List.length_cons, List.set_cons_succ]
    exact congrArg (List.cons b) ih
def full (l : List Q) : List Int := wi .u8 (l.length : Int) :: (bl l ++ List.replicate (63 - 3 * l.length) 0)
theorem full_ok (l : List Q) : okb (full l) := fun x hx => by
  unfold full at hx
  rcases List.mem_cons.1 hx with rfl | hx
  · exact wu_rng _
  · exact okb_app (okb_bl l) (okb_rep _) x hx
theorem full_len (l : List Q) (h : l.length ≤ 20) : (full l).length = 64 := by
  unfold full; simp [bl_len]; omega
theorem pack_loop (n : Nat) (l : List Q) (hl : l.length ≤ 20) (c : Int) : ∀ (k i : Nat), l.length - i < k → i ≤ l.length →
    G_quota_Pack_L1 n l k (i : Int) (c :: (bl (l.take i) ++ List.replicate (63 - 3 * i) 0)) = some (.x0 (c :: (bl l ++ List.replicate (63 - 3 * l.length) 0)))
  | 0, i, h, _ => by omega
  | k + 1, i, h, hi => by
    rw [G_quota_Pack_L1]
    by_cases h1 : i < l.length
    · have hB : (bl (l.take i)).length = 3 * i := by rw [bl_len]; simp; omega
      have hr : List.replicate (63 - 3 * i) (0 : Int) = 0 :: 0 :: 0 :: List.replicate (63 - 3 * (i + 1)) 0 := by
        rw [show 63 - 3 * i = (63 - 3 * (i + 1)) + 1 + 1 + 1 by omega, List.replicate_succ, List.replicate_succ, List.replicate_succ]
      have w0 : wi .i64 (3 * (i : Int)) = ((3 * i : Nat) : Int) := by rw [wi64 (by omega) (by omega)]; omega
      have w1 : wi .i64 (((3 * i : Nat) : Int) + 1) = ((3 * i + 1 : Nat) : Int) := by rw [wi64 (by omega) (by omega)]; omega
      have w2 : wi .i64 (((3 * i : Nat) : Int) + 2) = ((3 * i + 2 : Nat) : Int) := by rw [wi64 (by omega) (by omega)]; omega
      have w3 : wi .i64 (((3 * i : Nat) : Int) + 3) = ((3 * i + 3 : Nat) : Int) := by rw [wi64 (by omega) (by omega)]; omega
      have hlen : (c :: (bl (l.take i) ++ List.replicate (63 - 3 * i) 0)).length = 64 := by simp [hB]; omega
      rw [if_pos (by omega), getI_nat, List.getElem?_eq_getElem h1, Option.bind_some, w0, w1, w2, w3]
      simp only [Int.toNat_natCast]
      generalize hW : c :: (bl (l.take i) ++ List.replicate (63 - 3 * i) 0) = W at *
      have l1 : 3 * i + 1 < W.length := by omega
      have l2 : 3 * i + 2 < (W.set (3 * i + 1) (wi .u8 l[i].fUser)).length := by rw [List.length_set]; omega
      have l3 : 3 * i + 3 < ((W.set (3 * i + 1) (wi .u8 l[i].fUser)).set (3 * i + 2) (wi .u8 l[i].fLimit)).length := by rw [List.length_set, List.length_set]; omega
      rw [if_pos ⟨by omega, l1⟩, List.getElem?_eq_getElem l1, Option.bind_some, if_pos ⟨by omega, l2⟩, List.getElem?_eq_getElem l2, Option.bind_some, if_pos ⟨by omega, l3⟩, List.getElem?_eq_getElem l3, Option.bind_some, wi_succ (by omega)]
      have e : ((W.set (3 * i + 1) (wi .u8 l[i].fUser)).set (3 * i + 2) (wi .u8 l[i].fLimit)).set (3 * i + 3) (wi .u8 (shrI .i64 l[i].fLimit 8)) = c :: (bl (l.take (i + 1)) ++ List.replicate (63 - 3 * (i + 1)) 0) := by
        rw [← hW, hr]
        simp only [List.set_cons_succ]
        have := set3 (wi .u8 l[i].fUser) (wi .u8 l[i].fLimit) (wi .u8 (shrI .i64 l[i].fLimit 8)) (bl (l.take i)) (List.replicate (63 - 3 * (i + 1)) 0)
        rw [hB] at this
        rw [this, List.take_succ_eq_append_getElem h1, bl_app]
        simp [bl]
      rw [e]
      exact pack_loop n l hl c k (i + 1) (by omega) (by omega)
    · have : i = l.length := by omega
      subst this
      rw [if_neg (by omega), List.take_length]
theorem pack_any (n : Nat) (hn : 110 < n) (l : List Q) (hl : l.length ≤ 100) (e : Int) (he : G_quota_Right n l = some e) (h20 : e = 0 → l.length ≤ 20) : G_quota_Pack n l = some (if e = 0 then full l else [], e) := by
  unfold G_quota_Pack
  rw [he, Option.bind_some]
  by_cases h0 : e = 0
  · have hm : mkL 1 (0 : Int) 64 = some (0 :: List.replicate 63 0) := by unfold mkL maxLen; rw [if_pos (by decide)]; rfl
    have h := pack_loop n l (h20 h0) (wi .u8 (l.length : Int)) n 0 (by omega) (by omega)
    have h : G_quota_Pack_L1 n l n 0 (wi .u8 (l.length : Int) :: List.replicate 63 0) = _ := h
    have z : ((0 : Int)).toNat = 0 := rfl
    rw [if_pos h0, if_pos h0, hm, Option.bind_some, z, if_pos ⟨by omega, by simp⟩, List.getElem?_cons_zero, Option.bind_some, List.set_cons_zero, h, Option.bind_some, h0]
    rfl
  · rw [if_neg h0, if_neg h0]
theorem two_any (n : Nat) (x : Int) (h : 0 ≤ x ∧ x ≤ 256) : G_ringref3_two n x = some (b2s [wi .u8 x, wi .u8 (shrI .i64 x 8)]) := by
  unfold G_ringref3_two
  have e1 : wi .u8 (remI x 256) = wi .u8 x := by rw [rem_nn h.1, wi, wi, IntKind.wrap_u8, IntKind.wrap_u8]; omega
  have e2 : quoI .i64 x 256 = shrI .i64 x 8 := by
    have := shr_i64 (a := x) 8 (by omega)
    have this : shrI .i64 x 8 = x / 2 ^ 8 := this
    rw [this, quo_i64 h.1 (by omega) (by omega)]; rfl
  rw [e1, e2]
theorem rep_zero (c : Nat) : Lib.repeatL [0] c = List.replicate c (0 : UInt8) := by
  induction c with
  | zero => rfl
  | succ c ih => rw [Lib.repeatL, ih]; rfl
theorem repeat_b2s (n c : Nat) (h : c ≤ 100) : G_strings_Repeat n (ByteArray.mk #[0]) (c : Int) = some (b2s (List.replicate c 0)) := by
  unfold G_strings_Repeat
  have hs : (ByteArray.mk #[0]).size = 1 := rfl
  rw [hs, if_pos ⟨by omega, by omega, by simp; omega⟩, Int.toNat_natCast]
  congr 1
  apply ByteArray.ext
  rw [b2s_data]
  have : (ByteArray.mk #[0]).data.toList = [0] := rfl
  rw [this, rep_zero]
  simp [u8]
theorem rpack_loop (n : Nat) (l : List Q) (hl : l.length ≤ 20) (hb : ∀ r ∈ l, 0 ≤ r.fLimit ∧ r.fLimit ≤ 256) (c : Int) : ∀ (k i : Nat), l.length - i < k → i ≤ l.length →
    G_ringref3_RowsPack_L1 n (l.map pr) k (b2s (c :: bl (l.take i))) (i : Int) = some (.x0 (b2s (c :: bl l)))
  | 0, i, h, _ => by omega
  | k + 1, i, h, hi => by
    rw [G_ringref3_RowsPack_L1]
    by_cases h1 : i < l.length
    · have hB : (bl (l.take i)).length = 3 * i := by rw [bl_len]; simp; omega
      have hm : (l.map pr)[i]? = some (pr l[i]) := by rw [List.getElem?_map, List.getElem?_eq_getElem h1]; rfl
      have hpu : (pr l[i]).fUser = l[i].fUser := rfl
      have hpl : (pr l[i]).fLimit = l[i].fLimit := rfl
      rw [if_pos (by simp; omega), getI_nat, hm, Option.bind_some, hpu, hpl, two_any n _ (hb _ (List.getElem_mem h1))]
      unfold G_ringref3_one
      rw [Option.bind_some, Option.bind_some, cat_b2s _ _ (by simp), Option.bind_some, cat_b2s _ _ (by simp [hB]; omega), Option.bind_some, wi_succ (by omega)]
      have e : c :: bl (l.take i) ++ ([wi .u8 l[i].fUser] ++ [wi .u8 l[i].fLimit, wi .u8 (shrI .i64 l[i].fLimit 8)]) = c :: bl (l.take (i + 1)) := by
        rw [List.take_succ_eq_append_getElem h1, bl_app]; simp [bl]
      rw [e]
      exact rpack_loop n l hl hb c k (i + 1) (by omega) (by omega)
    · rw [if_neg (by simp; omega), List.take_of_length_le (by omega)]
theorem rpack_any (n : Nat) (hn : 110 < n) (l : List Q) (hl : l.length ≤ 20) (hb : ∀ r ∈ l, 0 ≤ r.fLimit ∧ r.fLimit ≤ 256) : G_ringref3_RowsPack n (l.map pr) = some (b2s (full l)) := by
  unfold G_ringref3_RowsPack
  have h := rpack_loop n l hl hb (wi .u8 (l.length : Int)) n 0 (by omega) (by omega)
  have h : G_ringref3_RowsPack_L1 n (l.map pr) n (b2s [wi .u8 (l.length : Int)]) 0 = _ := h
  unfold G_ringref3_one
  rw [Option.bind_some, List.length_map, h, Option.bind_some]
  simp only
  unfold G_ringref3_pad
  have e : wi .i64 (64 - ((b2s (wi .u8 (l.length : Int) :: bl l)).size : Int)) = ((63 - 3 * l.length : Nat) : Int) := by
    rw [b2s_size, List.length_cons, bl_len, wi64 (by omega) (by omega)]; omega
  rw [e, repeat_b2s n _ (by omega), Option.bind_some, cat_b2s _ _ (by simp [bl_len]; omega), Option.bind_some]
  rfl
theorem or8 (a b : Int) (ha : 0 ≤ a ∧ a ≤ 255) (hb : 0 ≤ b ∧ b ≤ 255) : bits .or .i64 (wi .i64 a) (shlI .i64 (wi .i64 b) 8) = a + 256 * b := by
  obtain ⟨A, rfl⟩ := Int.eq_ofNat_of_zero_le ha.1
  obtain ⟨B, rfl⟩ := Int.eq_ofNat_of_zero_le hb.1
  have s : shlI .i64 (B : Int) 8 = ((B * 256 : Nat) : Int) := by
    have : shlI .i64 (B : Int) ((8 : Nat) : Int) = wi .i64 ((B : Int) * 2 ^ 8) := by
      simp only [shlI, IntKind.bits, Int.toNat_natCast, Nat.min_eq_left (show 8 ≤ 64 by omega)]
    rw [show ((8 : Nat) : Int) = 8 from rfl] at this
    rw [this, wi64 (by omega) (by omega)]; omega
  rw [wi64 (by omega) (by omega), wi64 (x := (B : Int)) (by omega) (by omega), s, i64_or_nat _ _ (by omega) (by omega)]
  have h1 := or_add_and A (B * 256)
  have h2 : A &&& (B * 256) = 0 := by
    refine Nat.eq_of_testBit_eq (fun i => ?_)
    rw [Nat.testBit_and, Nat.zero_testBit]
    by_cases hi : i < 8
    · have : (B * 256).testBit i = false := by
        rw [show B * 256 = B * 2 ^ 8 from rfl, Nat.testBit_mul_two_pow]
        simp; omega
      rw [this, Bool.and_false]
    · have : A.testBit i = false := Nat.testBit_lt_two_pow (Nat.lt_of_lt_of_le (show A < 2 ^ 8 by omega) (Nat.pow_le_pow_right (by omega) (by omega)))
      rw [this, Bool.false_and]
  omega
def row (b : List Int) (j : Nat) : Q := ⟨b[3 * j + 1]!, b[3 * j + 2]! + 256 * b[3 * j + 3]!⟩
def unp (b : List Int) : Nat → Nat → List Q
  | 0, _ => []
  | d + 1, j => row b j :: unp b d (j + 1)
theorem unp_len (b : List Int) : ∀ (d j : Nat), (unp b d j).length = d
  | 0, j => rfl
  | d + 1, j => by rw [unp, List.length_cons, unp_len b d (j + 1)]
theorem unp_user (b : List Int) (hb : okb b) (h64 : b.length = 64) : ∀ (d j : Nat), j + d ≤ 20 → ∀ r ∈ unp b d j, r.fUser ≤ 255
  | 0, j, _, r, hr => by cases hr
  | d + 1, j, h, r, hr => by
    rw [unp] at hr
    rcases List.mem_cons.1 hr with rfl | hr
    · have l1 : 3 * j + 1 < b.length := by omega
      show b[3 * j + 1]! ≤ 255
      rw [getElem!_pos b _ l1]
      exact (hb _ (List.getElem_mem l1)).2
    · exact unp_user b hb h64 d (j + 1) (by omega) r hr
theorem unp_loop (n : Nat) (b : List Int) (hb : okb b) (h64 : b.length = 64) (N : Nat) (hN : N ≤ 20) : ∀ (d j k : Nat) (w : List Q), d = N - j → j ≤ N → d < k → w.length ≤ j →
    G_quota_Unpack_L2 n b (N : Int) k (j : Int) w = some (.x0 (w ++ unp b d j)) ∧ G_ringref3_RowsUnpack_L1 n (b2s b) (N : Int) k (j : Int) (w.map pr) = some (.x0 ((w ++ unp b d j).map pr))
  | d, j, 0, w, _, _, h, _ => by omega
  | 0, j, k + 1, w, hd, hj, h, hw => by
    have wN : wi .i64 (N : Int) = (N : Int) := wi64 (by omega) (by omega)
    rw [G_quota_Unpack_L2, G_ringref3_RowsUnpack_L1, wN, if_neg (by omega), if_neg (by omega), unp, List.append_nil]
    exact ⟨rfl, rfl⟩
  | d + 1, j, k + 1, w, hd, hj, h, hw => by
    have wN : wi .i64 (N : Int) = (N : Int) := wi64 (by omega) (by omega)
    have l1 : 3 * j + 1 < b.length := by omega
    have l2 : 3 * j + 2 < b.length := by omega
    have l3 : 3 * j + 3 < b.length := by omega
    have b1 := hb _ (List.getElem_mem l1)
    have b2 := hb _ (List.getElem_mem l2)
    have b3 := hb _ (List.getElem_mem l3)
    have g1 := getS_b2s b (3 * j + 1) _ (List.getElem?_eq_getElem l1) b1.1 b1.2
    have g2 := getS_b2s b (3 * j + 2) _ (List.getElem?_eq_getElem l2) b2.1 b2.2
    have g3 := getS_b2s b (3 * j + 3) _ (List.getElem?_eq_getElem l3) b3.1 b3.2
    have w0 : wi .i64 (3 * (j : Int)) = ((3 * j : Nat) : Int) := by rw [wi64 (by omega) (by omega)]; omega
    have w1 : wi .i64 (((3 * j : Nat) : Int) + 1) = ((3 * j + 1 : Nat) : Int) := by rw [wi64 (by omega) (by omega)]; omega
    have w2 : wi .i64 (((3 * j : Nat) : Int) + 2) = ((3 * j + 2 : Nat) : Int) := by rw [wi64 (by omega) (by omega)]; omega
    have w3 : wi .i64 (((3 * j : Nat) : Int) + 3) = ((3 * j + 3 : Nat) : Int) := by rw [wi64 (by omega) (by omega)]; omega
    have v1 : wi .i64 (1 + ((3 * j : Nat) : Int)) = ((3 * j + 1 : Nat) : Int) := by rw [wi64 (by omega) (by omega)]; omega
    have v2 : wi .i64 (2 + ((3 * j : Nat) : Int)) = ((3 * j + 2 : Nat) : Int) := by rw [wi64 (by omega) (by omega)]; omega
    have v3 : wi .i64 (3 + ((3 * j : Nat) : Int)) = ((3 * j + 3 : Nat) : Int) := by rw [wi64 (by omega) (by omega)]; omega
    have wb1 : wi .i64 b[3 * j + 1] = b[3 * j + 1] := wi64 (by omega) (by omega)
    have wb2 : wi .i64 b[3 * j + 2] = b[3 * j + 2] := wi64 (by omega) (by omega)
    have wb3 : wi .i64 b[3 * j + 3] = b[3 * j + 3] := wi64 (by omega) (by omega)
    have hrow : row b j = ⟨b[3 * j + 1], b[3 * j + 2] + 256 * b[3 * j + 3]⟩ := by
      unfold row; rw [getElem!_pos b _ l1, getElem!_pos b _ l2, getElem!_pos b _ l3]
    have o8 := or8 _ _ b2 b3
    have m256 : wi .i64 (256 * b[3 * j + 3]) = 256 * b[3 * j + 3] := wi64 (by omega) (by omega)
    have s256 : wi .i64 (b[3 * j + 2] + 256 * b[3 * j + 3]) = b[3 * j + 2] + 256 * b[3 * j + 3] := wi64 (by omega) (by omega)
    rw [G_quota_Unpack_L2, G_ringref3_RowsUnpack_L1, wN, if_pos (by omega), if_pos (by omega), w0, w1, w2, w3, v1, v2, v3, g1, g2, g3, getI_nat, getI_nat, getI_nat, List.getElem?_eq_getElem l1, List.getElem?_eq_getElem l2, List.getElem?_eq_getElem l3]
    simp only [Option.bind_some]
    rw [o8, wb1, wb2, wb3, m256, s256, app_some (by simp; omega) (by omega), app_some (by simp; omega) (by omega), Option.bind_some, Option.bind_some, wi_succ (by omega)]
    obtain ⟨i1, i2⟩ := unp_loop n b hb h64 N hN d (j + 1) k (w ++ [row b j]) (by omega) (by omega) (by omega) (by simp; omega)
    have e1 : w ++ unp b (d + 1) j = w ++ [row b j] ++ unp b d (j + 1) := by rw [unp]; simp
    have e2 : w.map pr ++ [S_ringref3_Row.mk b[3 * j + 1] (b[3 * j + 2] + 256 * b[3 * j + 3])] = (w ++ [row b j]).map pr := by rw [List.map_append, hrow]; rfl
    rw [e1, e2, ← hrow]
    exact ⟨i1, i2⟩
theorem unpack_any (n : Nat) (hn : 110 < n) (b : List Int) (hb : okb b) (hbl : b.length ≤ 100) : ∃ (x : List Q) (e : Int), G_quota_Unpack n b = some (x, e) ∧ G_ringref3_RowsUnpack n (b2s b) = some (x.map pr, e) ∧ x.length ≤ 100 := by
  unfold G_quota_Unpack G_ringref3_RowsUnpack G_quota_Unpack_C1
  rw [b2s_size]
  by_cases h64 : (b.length : Int) = 64
  · have l0 : 0 < b.length := by omega
    have b0 := hb _ (List.getElem_mem l0)
    have g0 := getS_b2s b 0 _ (List.getElem?_eq_getElem l0) b0.1 b0.2
    have g0 : getS (b2s b) 0 = some b[0] := g0
    have q0 : getI b 0 = some b[0] := by
      have := getI_nat b 0
      have this : getI b 0 = b[0]? := this
      rw [this, List.getElem?_eq_getElem l0]
    rw [if_pos h64, if_pos h64, q0, g0]
    simp only [Option.bind_some]
    obtain ⟨N, hN⟩ := Int.eq_ofNat_of_zero_le b0.1
    rw [hN]
    by_cases h20 : (N : Int) > 20
    · rw [decide_eq_true h20, if_pos rfl, if_pos h20]
      exact ⟨[], 3, rfl, rfl, by simp⟩
    · rw [decide_eq_false h20, if_neg (by simp), if_neg h20]
      obtain ⟨u1, u2⟩ := unp_loop n b hb (by omega) N (by omega) N 0 n [] (by omega) (by omega) (by omega) (by simp)
      have u1 : G_quota_Unpack_L2 n b (N : Int) n 0 [] = _ := u1
      have u2 : G_ringref3_RowsUnpack_L1 n (b2s b) (N : Int) n 0 [] = _ := u2
      rw [u1, u2, Option.bind_some, Option.bind_some]
      simp only [List.nil_append]
      have hul := unp_len b N 0
      have huu := unp_user b hb (by omega) N 0 (by omega)
      generalize unp b N 0 = F at *
      obtain ⟨e, r1, r2, r3⟩ := right_any n F (by omega) hn (fun r hr => by have := huu r hr; omega)
      have hp := pack_any n hn F (by omega) e r1 (fun _ => by omega)
      rw [hp, r2, Option.bind_some, Option.bind_some]
      simp only
      by_cases he : e = 0
      · have hok := r3.1 he
        rw [if_pos he, if_pos he, if_pos he, rpack_any n hn F (by omega) (fun r hr => (hok.2.1 r hr).2.2)]
        have hfl := full_len F (by omega)
        obtain ⟨r, s1, s2⟩ := G_slices_Equal_byte_byte_sp (n := n) (full F) b (by omega) (by omega)
        rw [s1, Option.bind_some, Option.bind_some, str_eq _ _ (full_ok F) hb]
        by_cases hq : full F = b
        · rw [if_pos (s2.2 hq), decide_eq_true hq]
          simp only [Bool.not_true, Bool.false_eq_true, if_false]
          exact ⟨F, 0, rfl, rfl, by omega⟩
        · rw [if_neg (fun h => hq (s2.1 h)), decide_eq_false hq]
          simp only [Bool.not_false, if_true]
          exact ⟨[], 3, rfl, rfl, by simp⟩
      · rw [if_neg he, if_neg he]
        exact ⟨[], 3, rfl, rfl, by simp⟩
  · rw [if_neg h64, if_neg h64, Option.bind_some]
    simp only [if_true]
    exact ⟨[], 3, rfl, rfl, by simp⟩
theorem equal_self (n : Nat) (hn : 110 < n) (a : List S_ringref3_Row) (h : a.length ≤ 100) : G_slices_Equal_ringref3_Row_ringref3_Row n a a = some true := by
  obtain ⟨r, h1, h2⟩ := G_slices_Equal_ringref3_Row_ringref3_Row_sp (n := n) a a (by omega) (by omega)
  rw [h1, h2.2 rfl]
theorem law (n : Nat) (hn : 300 < n) (l : List Q) (u limit has more : Int) (b : List Int) (hw : ∀ r ∈ l, r.fUser ≤ 9223372036854775807) (hb : okb b) : G_ringlaw3_QuotaTurns n l u limit has more b = some true := by
  unfold G_ringlaw3_QuotaTurns
  by_cases h40 : (l.length : Int) > 40
  · rw [if_pos h40]
  by_cases h100 : (b.length : Int) > 100
  · rw [if_neg h40, if_pos h100]
  rw [if_neg h40, if_neg h100]
  obtain ⟨e, r1, r2, r3⟩ := right_any n l (by omega) (by omega) hw
  obtain ⟨x, xe, x1, x2, x3⟩ := set_any n hn l (by omega) hw u limit
  have hp := pack_any n (by omega) l (by omega) e r1 (fun h => (r3.1 h).1)
  obtain ⟨y, ye, y1, y2, y3⟩ := unpack_any n (by omega) b hb (by omega)
  obtain ⟨v, v1, v2⟩ := of_any n l (by omega) (by omega) u
  obtain ⟨w, z, m1, m2, m3⟩ := may_any n l (by omega) (by omega) u has more (l.map pr) e (if e = 0 then full l else [], e) v v1
  rw [rows_any n l (by omega) (by omega), Option.bind_some, r2, Option.bind_some, x1, Option.bind_some, x2, Option.bind_some, hp, Option.bind_some, y1, Option.bind_some, y2, Option.bind_some]
  have c1 : G_ringlaw3_QuotaTurns_C1 n l u has more (l.map pr) e (x, xe) (x.map pr, xe) (if e = 0 then full l else [], e) (y, ye) (y.map pr, ye) = some (.x0 false) := by
    unfold G_ringlaw3_QuotaTurns_C1
    simp only
    rw [r1, Option.bind_some, if_pos rfl, v1, v2]
    simp only [Option.bind_some, if_true]
    rw [rows_any n x x3 (by omega), Option.bind_some, equal_self n (by omega) _ (by simpa using x3), Option.bind_some, rows_any n y y3 (by omega), Option.bind_some, equal_self n (by omega) _ (by simpa using y3)]
    rfl
  rw [c1, Option.bind_some]
  simp only [Bool.false_eq_true, if_false]
  rw [v2, Option.bind_some, m1, Option.bind_some]
  simp only
  rw [m2, Option.bind_some]
  simp only
  rw [m3, Option.bind_some, if_pos rfl]
  unfold G_ringlaw3_QuotaTurns_C5
  by_cases h0 : e = 0
  · have hok := r3.1 h0
    simp only [if_pos h0]
    rw [rpack_any n (by omega) l hok.1 (fun r hr => (hok.2.1 r hr).2.2), Option.bind_some, str_eq _ _ (full_ok l) (full_ok l)]
    simp
  · simp only [if_neg h0]
    simp
end qt
end Go.Proofs.Ytiaebagjcbkkgaa.pv
