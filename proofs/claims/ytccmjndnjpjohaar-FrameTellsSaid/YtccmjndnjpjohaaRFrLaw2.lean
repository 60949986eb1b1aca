/- The walk of FrameTells: a number out of bounds. -/
import Derived.Test.YtccmjndnjpjohaaRFrLaw
namespace Go.Proofs.YtccmjndnjpjohaaR.fr
open Go.ChangeShapes Go.WideShapes Go.ChangeAt Go.RowKit help rep ints
set_option linter.all false

set_option maxRecDepth 100000 in
set_option maxHeartbeats 4000000 in
theorem law_out (xs : List F) (v : Value) (n s o : Int) (w : World) (hS : Sl w S3 xs v) (hw : ∀ x ∈ xs, S3.wf x) (h : chk xs = 0) (h01 : 0 < xs.length) (hr : n < 0 ∨ (xs.length : Int) ≤ n) :
    Calls Try.prog 7 #[v, .int .i64 n, .int .i64 s, .int .i64 o] w (Ret (.bool true) w) := by
  have HS := Lib.hid hS
  have HW := Lib.hid hw
  have he : atE xs n = 4 := by unfold atE; rw [if_pos h, if_pos hr]
  have hb0 : (atE xs n != 0) = true := by rw [he]; rfl
  have T := fun w hS => take_bad xs v n s o w hS hw hb0
  have L := fun w hS => hold_bad xs v n w hS hw hb0
  have M := fun w hS => let_bad xs v n w hS hw hb0
  rw [he] at T L M
  have HT := Lib.hid T
  have HL := Lib.hid L
  have HM := Lib.hid M
  have HO := Lib.hid (fun w hS => those_good xs v s w hS hw h)
  have hlen := chk_len h
  have HF := Lib.hid (fun (v : Value) (w : World) (hS : Sl w S3 xs v) => by have := frames_any xs v w hS hw; rw [h] at this; exact this)
  have HC := Lib.hid (fun (v : Value) (w : World) (hS : Sl w S3 xs v) => check_zero h w hS hw)
  obtain ⟨i0, hi, hz0, hz1, hz2⟩ := info_parts infI
  obtain ⟨a, cap, rfl, hm⟩ := hS.len
  unfold maxLen at hm
  obtain ⟨b, off, cap', hv, _⟩ := sl_open hS h01
  simp at hv
  obtain ⟨rfl, rfl⟩ := hv
  clear T L M hb0 he h hS hw
  generalize hN : xs.length = N at *
  have HN := Lib.hid hN
  clear hN
  go_enter Try.func7, Try.ntmps7
  go_wp2_with fail
  refine (HT.out _ HS.out).mono ?_
  rintro e w1 ⟨va, rfl, sa, b1⟩
  obtain ⟨aa, ca, rfl, _⟩ := sa.len
  clear sa
  go_wp2_with fail
  refine (HL.out _ (HS.out.later b1)).mono ?_
  rintro e w2 ⟨vb, rfl, sb, b2⟩
  obtain ⟨ab, cb, rfl, _⟩ := sb.len
  clear sb
  replace b2 := b1.trans (b2.mono b1.size)
  clear b1
  go_wp2_with fail
  refine (HM.out _ (HS.out.later b2)).mono ?_
  rintro e w3 ⟨vc, rfl, sc, b3⟩
  obtain ⟨ac, cc, rfl, _⟩ := sc.len
  clear sc
  replace b3 := b2.trans (b3.mono b2.size)
  clear b2
  go_wp2_with fail
  refine (HO.out _ (HS.out.later b3)).mono ?_
  rintro e w4 ⟨vd, rfl, sd, b4⟩
  have HD := Lib.hid (sd.later (Below.refl _ _))
  clear sd
  replace b4 := b3.trans (b4.mono b3.size)
  clear b3
  go_wp2_with fail
  refine (HF.out _ _ (HS.out.later b4)).mono ?_
  rintro e w5 ⟨rfl, b5⟩
  have HD5 := Lib.hid (HD.out.later b5)
  replace b5 := b4.trans (b5.mono b4.size)
  clear b4
  go_wp2_with fail
  refine (HC.out _ _ (HS.out.later b5)).mono ?_
  rintro e w6 ⟨rfl, b6⟩
  have HD6 := Lib.hid (HD5.out.later b6)
  replace b6 := b5.trans (b6.mono b5.size)
  clear b5 HD HD5
  go_wp2_with fail
  go_loopw [19, 67] (fun v i wr => ∃ k : Nat, k ≤ N ∧ i = .int .i64 k ∧ wr.ownsRow w6.heap.size 3 1 v (those xs s k).length ((those xs s k).map (Value.int .i64)) ∧ Below w6.heap.size w6 wr) (fun _ i _ => N - (intOf i).toNat)
  case atStart => exact ⟨0, by omega, rfl, ⟨rfl, .inl ⟨rfl, rfl⟩⟩, Below.refl _ _⟩
  case round =>
    obtain ⟨k, hk, rfl, hown, hB⟩ := hrel
    have HW6 := Lib.hid hown
    clear hown
    have b7 := b6.trans (hB.mono b6.size)
    by_cases hlt : k < N
    · have hl : k < xs.length := by rw [HN.out]; exact hlt
      obtain ⟨c0, c1, c2⟩ := three HS.out HW.out k hl
      have d0 := cell_later b7 c0
      have d1 := cell_later b7 c1
      have d2 := cell_later b7 c2
      clear c0 c1 c2
      have hle := those_len xs s k
      have hsz := hB.size
      by_cases hq : st xs[k] = s
      · have HTH := Lib.hid (those_yes xs s k hl hq)
        have q : (st xs[k] == s) = true := by simpa using hq
        clear hq
        generalize xs[k] = f at *
        go_wp2_with (at_builtin; refine wpList_append_own _ rfl (.tmp 80) (.tmp 82) 42 rfl w6.heap.size 3 i0 (.int .i64 0) 1 8 Try.underlying42 hi hz0 hz1 hz2 rfl (by decide) _ (those xs s k).length _ rfl ((HW6.out.alloc _).alloc _) ⟨wr.heap.size + 1, 0, none⟩ 1 1 [.int .i64 k] rfl rfl ?c1 ?c2 ?c3 ?c4 ?c5 ?_)
        case c2 => rfl
        case c3 => unfold maxLen; omega
        case c4 => omega
        case c5 => omega
        intro v' w8 hown' hgrow _
        have hb2 := grown_below ((HW6.out.alloc _).alloc _) hgrow (by simp; omega)
        have hB' : Below w6.heap.size w6 w8 := Below.trans (by repeat' (first | (with_reducible exact Below.refl _ _) | (with_reducible assumption) | (with_reducible apply Below.drew) | (with_reducible apply bel_drewN) | (with_reducible refine bel_alloc ?_ _) | (with_reducible refine Below.setCell ?_ ?_ _) | (with_reducible refine Below.alloc ?_ ?_ _) | omega | (simp; done) | (simp; omega) | (simp at *; omega))) hb2
        have HO' := Lib.hid hown'
        clear hown' hgrow
        go_wp2
        go_roundw
        case rel =>
          refine ⟨k + 1, by omega, by go_num, ?_, hB'⟩
          rw [HTH.out, List.length_append, List.map_append]
          exact HO'.out
        case measure => try (first | (simp [intOf]; done) | (simp [intOf]; omega) | decide)
      · have HTH := Lib.hid (those_no xs s k hl hq)
        have q : (st xs[k] == s) = false := by simpa using hq
        clear hq
        generalize xs[k] = f at *
        go_wp2_with fail
        go_roundw
        case rel => exact ⟨k + 1, by omega, by go_num, by rw [HTH.out]; exact HW6.out.alloc _, bel_alloc hB _⟩
        case measure => try (first | (simp [intOf]; done) | (simp [intOf]; omega) | decide)
    · have hkm : k = N := by omega
      subst hkm
      have HEQ := Lib.hid (sl_of_owns (e := SI) (xs := those xs s k) (encI _).symm HW6.out)
      go_wp2_with fail
      refine (ints.equal_any (those xs s k) (those xs s k) _ _ _ (HD6.out.later hB) HEQ.out).mono ?_
      rintro e w8 ⟨rfl, b8⟩
      rw [decide_eq_true rfl]
      replace b8 := b7.trans (b8.mono b7.size)
      by_cases hn0 : n < 0
      · go_wp2_with (go_at_call 33; go_in)
        go_ret
        exact ⟨rfl, b8⟩
      · have hn1 : (k : Int) ≤ n := by omega
        clear hr
        have hn3 : decide (n ≤ (k : Int) - 1) = false := by simp; omega
        go_wp2_with (go_at_call 33; go_in)
        all_goals try simp only [Bool.not_eq_eq_eq_not, Bool.not_true, Bool.not_false, Bool.and_eq_true, Bool.or_eq_true, Bool.and_eq_false_iff, Bool.or_eq_false_iff, decide_eq_true_eq, decide_eq_false_iff_not, bne_iff_ne, beq_iff_eq, ne_eq, bne_eq_false_iff_eq, beq_eq_false_iff_ne] at *
        all_goals first
          | (exfalso; omega)
          | (go_ret; exact ⟨rfl, b8⟩)
end Go.Proofs.YtccmjndnjpjohaaR.fr
