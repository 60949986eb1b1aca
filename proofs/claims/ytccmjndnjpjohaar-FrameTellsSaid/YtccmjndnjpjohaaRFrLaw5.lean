/- The walk of FrameTells at a frame that somebody has. -/
import Derived.Test.YtccmjndnjpjohaaRFrLaw4
namespace Go.Proofs.YtccmjndnjpjohaaR.fr
open Go.ChangeShapes Go.WideShapes Go.ChangeAt Go.RowKit help rep ints
set_option linter.all false

set_option maxRecDepth 100000 in
set_option maxHeartbeats 4000000 in
theorem law_max (xs : List F) (v : Value) (n : Nat) (s o : Int) (w : World) (hS : Sl w S3 xs v) (hw : ∀ x ∈ xs, S3.wf x) (h : chk xs = 0) (h01 : 0 < xs.length) (hn : n < xs.length) (h1 : 2 ≤ st xs[n]) (h2 : ct xs[n] = 1048576) (La : List F) (ea : Int) (hT : ∀ w, Sl w S3 xs v → Calls Try.prog 42 #[v, .int .i64 n, .int .i64 s, .int .i64 o] w (SlE S3 La ea w)) (hTc : (inB 1 3 s = false ∨ inB 1 3 s = true ∧ inB 0 1048576 o = false) ∧ ea = 1 ∧ La = [] ∨ inB 1 3 s = true ∧ inB 0 1048576 o = true ∧ ea = 5 ∧ La = []) :
    Calls Try.prog 7 #[v, .int .i64 n, .int .i64 s, .int .i64 o] w (Ret (.bool true) w) := by
  have HS := Lib.hid hS
  have HW := Lib.hid hw
  have hat : atE xs n = 0 := by unfold atE; rw [if_pos h, if_neg (by omega)]
  obtain ⟨g1, g2, g3, g4, g5, g6⟩ := good_bd h n hn
  have HT := Lib.hid hT
  have HTC := Lib.hid hTc
  have L := fun w hS => hold_any xs v n w hS hw hat hn g5 g6 g3 g4 g1 g2
  rw [show holdE xs[n] = 6 from by unfold holdE; (repeat (first | rw [if_pos (by omega)] | rw [if_neg (by omega)]))] at L
  rw [if_neg (by omega)] at L
  have HL := Lib.hid L
  have HM := Lib.hid (fun w hS => let_more xs v n w hS hw hat hn (by simp; omega) (by omega) g6 g3 g4 g1 g2)
  have HWL := Lib.hid (show S3.wf (mkF (st xs[n]) (ow xs[n]) (ct xs[n] - 1)) from ⟨wfi (by omega), wfi (by omega), wfi (by omega), trivial⟩)
  have HWH := Lib.hid (show S3.wf (mkF (st xs[n]) (ow xs[n]) (ct xs[n] + 1)) from ⟨wfi (by omega), wfi (by omega), wfi (by omega), trivial⟩)
  have HO := Lib.hid (fun w hS => those_good xs v s w hS hw h)
  have hlen := chk_len h
  have HF := Lib.hid (fun (v : Value) (w : World) (hS : Sl w S3 xs v) => by have := frames_any xs v w hS hw; rw [h] at this; exact this)
  have HC := Lib.hid (fun (v : Value) (w : World) (hS : Sl w S3 xs v) => check_zero h w hS hw)
  obtain ⟨i0, hi, hz0, hz1, hz2⟩ := info_parts infI
  obtain ⟨a, cap, rfl, hm⟩ := hS.len
  unfold maxLen at hm
  obtain ⟨b, off, cap', hv, _⟩ := sl_open hS h01
  simp at hv
  obtain ⟨rfl, rfl⟩ := hv
  obtain ⟨e0, e1, e2⟩ := three hS hw n hn
  clear L hat h hS hw hT hTc
  generalize xs[n] = f at *
  have hca : 1048576 ≤ ct f := by omega
  have hcb : ct f ≤ 1048576 := by omega
  have hcc : (ct f == 1048576) = true := by simp; omega
  have hcd : (ct f == 1) = false := by simp; omega
  clear h2
  generalize hN : xs.length = N at *
  have HN := Lib.hid hN
  clear hN
  go_enter Try.func7, Try.ntmps7
  go_wp2_with fail
  refine (HT.out _ HS.out).mono ?_
  rintro e w1 ⟨va, rfl, sa, b1⟩
  obtain ⟨aa, ca, rfl, _⟩ := sa.len
  have Ka := Lib.hid sa
  clear sa
  go_wp2_with fail
  refine (HL.out _ (HS.out.later b1)).mono ?_
  rintro e w2 ⟨vb, rfl, sb, b2⟩
  replace Ka := Lib.hid (Ka.out.later b2)
  obtain ⟨ab, cb, rfl, _⟩ := sb.len
  have Kb := Lib.hid sb
  clear sb
  replace b2 := b1.trans (b2.mono b1.size)
  clear b1
  go_wp2_with fail
  refine (HM.out _ (HS.out.later b2)).mono ?_
  rintro e w3 ⟨vc, rfl, sc, b3⟩
  replace Ka := Lib.hid (Ka.out.later b3)
  replace Kb := Lib.hid (Kb.out.later b3)
  obtain ⟨ac, cc, rfl, _⟩ := sc.len
  have Kc := Lib.hid sc
  clear sc
  replace b3 := b2.trans (b3.mono b2.size)
  clear b2
  go_wp2_with fail
  refine (HO.out _ (HS.out.later b3)).mono ?_
  rintro e w4 ⟨vd, rfl, sd, b4⟩
  replace Ka := Lib.hid (Ka.out.later b4)
  replace Kb := Lib.hid (Kb.out.later b4)
  replace Kc := Lib.hid (Kc.out.later b4)
  have HD := Lib.hid (sd.later (Below.refl _ _))
  clear sd
  replace b4 := b3.trans (b4.mono b3.size)
  clear b3
  go_wp2_with fail
  refine (HF.out _ _ (HS.out.later b4)).mono ?_
  rintro e w5 ⟨rfl, b5⟩
  replace Ka := Lib.hid (Ka.out.later b5)
  replace Kb := Lib.hid (Kb.out.later b5)
  replace Kc := Lib.hid (Kc.out.later b5)
  have HD5 := Lib.hid (HD.out.later b5)
  replace b5 := b4.trans (b5.mono b4.size)
  clear b4
  go_wp2_with fail
  refine (HC.out _ _ (HS.out.later b5)).mono ?_
  rintro e w6 ⟨rfl, b6⟩
  replace Ka := Lib.hid (Ka.out.later b6)
  replace Kb := Lib.hid (Kb.out.later b6)
  replace Kc := Lib.hid (Kc.out.later b6)
  have HD6 := Lib.hid (HD5.out.later b6)
  replace b6 := b5.trans (b6.mono b5.size)
  clear b5 HD HD5
  go_wp2_with fail
  go_loopw [19, 67] (fun v i wr => ∃ k : Nat, k ≤ N ∧ i = .int .i64 k ∧ wr.ownsRow w6.heap.size 3 1 v (those xs s k).length ((those xs s k).map (Value.int .i64)) ∧ Below w6.heap.size w6 wr) (fun _ i _ => N - (intOf i).toNat)
  case atStart => exact ⟨0, by omega, rfl, ⟨rfl, .inl ⟨rfl, rfl⟩⟩, Below.refl _ _⟩
  case round =>
    obtain ⟨k, hk, rfl, hown, hB⟩ := hrel
    have HW6 := Lib.hid hown
    clear hown
    have b7 := b6.trans (hB.mono b6.size)
    by_cases hlt : k < N
    · have hl : k < xs.length := by rw [HN.out]; exact hlt
      obtain ⟨c0, c1, c2⟩ := three HS.out HW.out k hl
      have d0 := cell_later b7 c0
      have d1 := cell_later b7 c1
      have d2 := cell_later b7 c2
      clear c0 c1 c2
      have hle := those_len xs s k
      have hsz := hB.size
      by_cases hq : st xs[k] = s
      · have HTH := Lib.hid (those_yes xs s k hl hq)
        have q : (st xs[k] == s) = true := by simpa using hq
        clear hq
        generalize xs[k] = f' at *
        go_wp2_with (at_builtin; refine wpList_append_own _ rfl (.tmp 80) (.tmp 82) 42 rfl w6.heap.size 3 i0 (.int .i64 0) 1 8 Try.underlying42 hi hz0 hz1 hz2 rfl (by decide) _ (those xs s k).length _ rfl ((HW6.out.alloc _).alloc _) ⟨wr.heap.size + 1, 0, none⟩ 1 1 [.int .i64 k] rfl rfl ?c1 ?c2 ?c3 ?c4 ?c5 ?_)
        case c2 => rfl
        case c3 => unfold maxLen; omega
        case c4 => omega
        case c5 => omega
        intro v' w8 hown' hgrow _
        have hb2 := grown_below ((HW6.out.alloc _).alloc _) hgrow (by simp; omega)
        have hB' : Below w6.heap.size w6 w8 := Below.trans (by repeat' (first | (with_reducible exact Below.refl _ _) | (with_reducible assumption) | (with_reducible apply Below.drew) | (with_reducible apply bel_drewN) | (with_reducible refine bel_alloc ?_ _) | (with_reducible refine Below.setCell ?_ ?_ _) | (with_reducible refine Below.alloc ?_ ?_ _) | omega | (simp; done) | (simp; omega) | (simp at *; omega))) hb2
        have HO' := Lib.hid hown'
        clear hown' hgrow
        go_wp2
        go_roundw
        case rel =>
          refine ⟨k + 1, by omega, by go_num, ?_, hB'⟩
          rw [HTH.out, List.length_append, List.map_append]
          exact HO'.out
        case measure => try (first | (simp [intOf]; done) | (simp [intOf]; omega) | decide)
      · have HTH := Lib.hid (those_no xs s k hl hq)
        have q : (st xs[k] == s) = false := by simpa using hq
        clear hq
        generalize xs[k] = f' at *
        go_wp2_with fail
        go_roundw
        case rel => exact ⟨k + 1, by omega, by go_num, by rw [HTH.out]; exact HW6.out.alloc _, bel_alloc hB _⟩
        case measure => try (first | (simp [intOf]; done) | (simp [intOf]; omega) | decide)
    · have hkm : k = N := by omega
      subst hkm
      have HEQ := Lib.hid (sl_of_owns (e := SI) (xs := those xs s k) (encI _).symm HW6.out)
      go_wp2_with fail
      refine (ints.equal_any (those xs s k) (those xs s k) _ _ _ (HD6.out.later hB) HEQ.out).mono ?_
      rintro e w8 ⟨rfl, b8⟩
      have Ja := Lib.hid ((Ka.out.later hB).later b8)
      have Jb := Lib.hid ((Kb.out.later hB).later b8)
      have Jc := Lib.hid ((Kc.out.later hB).later b8)
      rw [decide_eq_true rfl]
      replace b8 := b7.trans (b8.mono b7.size)
      have d0 := cell_later b8 e0
      have d1 := cell_later b8 e1
      have d2 := cell_later b8 e2
      clear e0 e1 e2
      have i1 : inB 0 ((k : Int) - 1) n = true := by unfold inB; simp; omega
      have g7 : (n : Int) < k := by omega
      rcases HTC.out with ⟨hx | ⟨hx, hy⟩, rfl, rfl⟩ | ⟨hx, hy, rfl, rfl⟩
      · go_wp2_with (go_at_call 33; refine (in_any _ _ _ _).mono ?_; rintro e w' ⟨rfl, rfl⟩)
        have Jb2 := Lib.hid (Jb.out.later (bel_alloc (Below.refl _ _) (.cells #[.int .i64 (st f), .int .i64 (ow f), .int .i64 (ct f)] 91)))
        have Jc2 := Lib.hid (Jc.out.later (bel_alloc (Below.refl _ _) (.cells #[.int .i64 (st f), .int .i64 (ow f), .int .i64 (ct f)] 91)))
        have kF := Blk.new w8 #[.int .i64 (st f), .int .i64 (ow f), .int .i64 (ct f)] 91
        replace b8 := bel_alloc b8 (.cells #[.int .i64 (st f), .int .i64 (ow f), .int .i64 (ct f)] 91)
        refine (fwith_any xs _ n (st f) (ow f) (ct f - 1) _ (HS.out.later (bel_alloc b8 _)) HW.out (by rw [HN.out]; exact hlen) (by rw [HN.out]; exact hn) HWL.out).mono ?_
        rintro e w11 ⟨v11, rfl, s11, b11⟩
        have H11 := Lib.hid s11
        clear s11
        replace kF := Blk.later b11 (kF.alloc _)
        replace Jc2 := Lib.hid ((Jc2.out.later (bel_alloc (Below.refl _ _) _)).later b11)
        go_wp2_with fail
        (with_reducible refine (equal_yes (xs.set n (mkF (st f) (ow f) (ct f - 1))) _ _ _ (len_set Jc2.out) (wf_set HW.out HWL.out) H11.out).mono ?_)
        rintro e w12 ⟨rfl, b12⟩
        replace kF := Blk.later b12 kF
        have cF := kF.cells
        replace b11 := (bel_alloc b8 _).trans (b11.mono (bel_alloc b8 _).size)
        replace b12 := b11.trans (b12.mono b11.size)
        go_wp2_with fail
        go_ret
        exact ⟨rfl, b12⟩
      · go_wp2_with (go_at_call 33; refine (in_any _ _ _ _).mono ?_; rintro e w' ⟨rfl, rfl⟩)
        have Jb2 := Lib.hid (Jb.out.later (bel_alloc (Below.refl _ _) (.cells #[.int .i64 (st f), .int .i64 (ow f), .int .i64 (ct f)] 91)))
        have Jc2 := Lib.hid (Jc.out.later (bel_alloc (Below.refl _ _) (.cells #[.int .i64 (st f), .int .i64 (ow f), .int .i64 (ct f)] 91)))
        have kF := Blk.new w8 #[.int .i64 (st f), .int .i64 (ow f), .int .i64 (ct f)] 91
        replace b8 := bel_alloc b8 (.cells #[.int .i64 (st f), .int .i64 (ow f), .int .i64 (ct f)] 91)
        refine (fwith_any xs _ n (st f) (ow f) (ct f - 1) _ (HS.out.later (bel_alloc b8 _)) HW.out (by rw [HN.out]; exact hlen) (by rw [HN.out]; exact hn) HWL.out).mono ?_
        rintro e w11 ⟨v11, rfl, s11, b11⟩
        have H11 := Lib.hid s11
        clear s11
        replace kF := Blk.later b11 (kF.alloc _)
        replace Jc2 := Lib.hid ((Jc2.out.later (bel_alloc (Below.refl _ _) _)).later b11)
        go_wp2_with fail
        (with_reducible refine (equal_yes (xs.set n (mkF (st f) (ow f) (ct f - 1))) _ _ _ (len_set Jc2.out) (wf_set HW.out HWL.out) H11.out).mono ?_)
        rintro e w12 ⟨rfl, b12⟩
        replace kF := Blk.later b12 kF
        have cF := kF.cells
        replace b11 := (bel_alloc b8 _).trans (b11.mono (bel_alloc b8 _).size)
        replace b12 := b11.trans (b12.mono b11.size)
        go_wp2_with fail
        go_ret
        exact ⟨rfl, b12⟩
      · go_wp2_with (go_at_call 33; refine (in_any _ _ _ _).mono ?_; rintro e w' ⟨rfl, rfl⟩)
        have Jb2 := Lib.hid (Jb.out.later (bel_alloc (Below.refl _ _) (.cells #[.int .i64 (st f), .int .i64 (ow f), .int .i64 (ct f)] 91)))
        have Jc2 := Lib.hid (Jc.out.later (bel_alloc (Below.refl _ _) (.cells #[.int .i64 (st f), .int .i64 (ow f), .int .i64 (ct f)] 91)))
        have kF := Blk.new w8 #[.int .i64 (st f), .int .i64 (ow f), .int .i64 (ct f)] 91
        replace b8 := bel_alloc b8 (.cells #[.int .i64 (st f), .int .i64 (ow f), .int .i64 (ct f)] 91)
        refine (fwith_any xs _ n (st f) (ow f) (ct f - 1) _ (HS.out.later (bel_alloc b8 _)) HW.out (by rw [HN.out]; exact hlen) (by rw [HN.out]; exact hn) HWL.out).mono ?_
        rintro e w11 ⟨v11, rfl, s11, b11⟩
        have H11 := Lib.hid s11
        clear s11
        replace kF := Blk.later b11 (kF.alloc _)
        replace Jc2 := Lib.hid ((Jc2.out.later (bel_alloc (Below.refl _ _) _)).later b11)
        go_wp2_with fail
        (with_reducible refine (equal_yes (xs.set n (mkF (st f) (ow f) (ct f - 1))) _ _ _ (len_set Jc2.out) (wf_set HW.out HWL.out) H11.out).mono ?_)
        rintro e w12 ⟨rfl, b12⟩
        replace kF := Blk.later b12 kF
        have cF := kF.cells
        replace b11 := (bel_alloc b8 _).trans (b11.mono (bel_alloc b8 _).size)
        replace b12 := b11.trans (b12.mono b11.size)
        go_wp2_with fail
        go_ret
        exact ⟨rfl, b12⟩
end Go.Proofs.YtccmjndnjpjohaaR.fr
