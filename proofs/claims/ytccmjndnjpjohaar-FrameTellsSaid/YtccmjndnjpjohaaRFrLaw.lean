/- The walk of FrameTells: frames that are wrong; a number out of bounds. -/
import Derived.Test.YtccmjndnjpjohaaRFr8
namespace Go.Proofs.YtccmjndnjpjohaaR.fr
open Go.ChangeShapes Go.WideShapes Go.ChangeAt Go.RowKit help rep ints
set_option linter.all false

set_option maxRecDepth 100000 in
set_option maxHeartbeats 4000000 in
theorem law_bad (xs : List F) (v : Value) (n s o : Int) (w : World) (hS : Sl w S3 xs v) (hw : ∀ x ∈ xs, S3.wf x) (h : chk xs ≠ 0) :
    Calls Try.prog 7 #[v, .int .i64 n, .int .i64 s, .int .i64 o] w (Ret (.bool true) w) := by
  have HS := Lib.hid hS
  have HW := Lib.hid hw
  have he : atE xs n = chk xs := if_neg h
  have hb0 : (atE xs n != 0) = true := by rw [he]; simpa using h
  have T := fun w hS => take_bad xs v n s o w hS hw hb0
  have L := fun w hS => hold_bad xs v n w hS hw hb0
  have M := fun w hS => let_bad xs v n w hS hw hb0
  rw [he] at T L M
  have HT := Lib.hid T
  have HL := Lib.hid L
  have HM := Lib.hid M
  have HO := Lib.hid (fun w hS => those_bad xs v s w hS hw (by simpa using h))
  obtain ⟨a, cap, rfl, hm⟩ := hS.len
  unfold maxLen at hm
  have q1 : (chk xs == 0) = false := by simpa using h
  have q2 : (chk xs != 0) = true := by simpa using h
  have h01 : 0 < xs.length := by
    rcases xs with _ | ⟨x, r⟩
    · exact absurd rfl h
    · simp
  obtain ⟨b, off, cap', hv, _⟩ := sl_open hS h01
  simp at hv
  obtain ⟨rfl, rfl⟩ := hv
  clear T L M hb0 he h hS hw
  generalize hN : xs.length = N at *
  have HN := Lib.hid hN
  clear hN
  go_enter Try.func7, Try.ntmps7
  go_wp2_with fail
  refine (HT.out _ HS.out).mono ?_
  rintro e w1 ⟨va, rfl, sa, b1⟩
  obtain ⟨aa, ca, rfl, _⟩ := sa.len
  clear sa
  go_wp2_with fail
  refine (HL.out _ (HS.out.later b1)).mono ?_
  rintro e w2 ⟨vb, rfl, sb, b2⟩
  obtain ⟨ab, cb, rfl, _⟩ := sb.len
  clear sb
  replace b2 := b1.trans (b2.mono b1.size)
  clear b1
  go_wp2_with fail
  refine (HM.out _ (HS.out.later b2)).mono ?_
  rintro e w3 ⟨vc, rfl, sc, b3⟩
  obtain ⟨ac, cc, rfl, _⟩ := sc.len
  clear sc
  replace b3 := b2.trans (b3.mono b2.size)
  clear b2
  go_wp2_with fail
  refine (HO.out _ (HS.out.later b3)).mono ?_
  rintro e w4 ⟨vd, rfl, sd, b4⟩
  have HD := Lib.hid (sd.later (Below.refl _ _))
  clear sd
  replace b4 := b3.trans (b4.mono b3.size)
  clear b3
  go_wp2_with fail
  refine (frames_any xs _ _ (HS.out.later b4) HW.out).mono ?_
  rintro e w5 ⟨rfl, b5⟩
  have HD5 := Lib.hid (HD.out.later b5)
  replace b5 := b4.trans (b5.mono b4.size)
  clear b4
  go_wp2_with fail
  refine (check_any xs _ _ (HS.out.later b5) HW.out).mono ?_
  rintro e w6 ⟨rfl, b6⟩
  have HD6 := Lib.hid (HD5.out.later b6)
  replace b6 := b5.trans (b6.mono b5.size)
  clear b5 HD HD5
  go_wp2_with fail
  go_loopw [19, 67] (fun v i wr => ∃ k : Nat, k ≤ N ∧ i = .int .i64 k ∧ v = .slice none 0 0 ∧ Below w6.heap.size w6 wr) (fun _ i _ => N - (intOf i).toNat)
  case atStart => exact ⟨0, by omega, rfl, rfl, Below.refl _ _⟩
  case round =>
    obtain ⟨k, hk, rfl, rfl, hB⟩ := hrel
    by_cases hlt : k < N
    · have hl : k < xs.length := by rw [HN.out]; exact hlt
      have b7 := b6.trans (hB.mono b6.size)
      obtain ⟨c0, c1, c2⟩ := three HS.out HW.out k hl
      have d0 := cell_later b7 c0
      have d1 := cell_later b7 c1
      have d2 := cell_later b7 c2
      clear c0 c1 c2
      generalize xs[k] = f at *
      go_wp2_with fail
      go_roundw
      case rel => exact ⟨k + 1, by omega, by go_num, rfl, bel_alloc hB _⟩
      case measure => try (first | (simp [intOf]; done) | (simp [intOf]; omega) | decide)
    · go_wp2_with fail
      refine (ints.equal_any [] [] _ _ _ (HD6.out.later hB) (Sl.nil _ _)).mono ?_
      rintro e w7 ⟨rfl, b7⟩
      go_wp2_with fail
      go_ret
      exact ⟨rfl, (b6.trans (hB.mono b6.size)).trans (b7.mono (b6.trans (hB.mono b6.size)).size)⟩
end Go.Proofs.YtccmjndnjpjohaaR.fr
