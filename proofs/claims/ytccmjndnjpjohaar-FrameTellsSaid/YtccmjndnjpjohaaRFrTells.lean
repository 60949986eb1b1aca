/- FrameTells returns true for every input and leaves its arguments alone. No condition. -/
import Derived.Test.YtccmjndnjpjohaaRFrLaw5
import Derived.Test.YtccmjndnjpjohaaRFrLaw6
import Derived.Test.YtccmjndnjpjohaaRFrLaw7
namespace Go.Proofs.YtccmjndnjpjohaaR.fr
open Go.ChangeShapes Go.WideShapes Go.ChangeAt Go.RowKit help rep ints
set_option linter.all false

theorem at_four (n : Int) : atE [] n = 4 := by
  unfold atE
  have h0 : chk ([] : List F) = 0 := rfl
  rw [if_pos h0, if_pos]
  simp; omega
set_option maxRecDepth 100000 in
set_option maxHeartbeats 4000000 in
theorem law_empty (a : Option Addr) (cap : Nat) (n s o : Int) (w : World) (hS : Sl w S3 [] (.slice a 0 cap)) :
    Calls Try.prog 7 #[.slice a 0 cap, .int .i64 n, .int .i64 s, .int .i64 o] w (Ret (.bool true) w) := by
  have HS := Lib.hid hS
  have he := at_four n
  have hb0 : (atE [] n != 0) = true := by rw [he]; rfl
  have T := fun w hS => take_bad [] (.slice a 0 cap) n s o w hS (by simp) hb0
  have L := fun w hS => hold_bad [] (.slice a 0 cap) n w hS (by simp) hb0
  have M := fun w hS => let_bad [] (.slice a 0 cap) n w hS (by simp) hb0
  rw [he] at T L M
  have HT := Lib.hid T
  have HL := Lib.hid L
  have HM := Lib.hid M
  clear T L M hb0 he hS
  go_enter Try.func7, Try.ntmps7
  go_wp2_with fail
  refine (HT.out _ HS.out).mono ?_
  rintro e w1 ⟨va, rfl, sa, b1⟩
  obtain ⟨aa, ca, rfl, _⟩ := sa.len
  clear sa
  go_wp2_with fail
  refine (HL.out _ (HS.out.later b1)).mono ?_
  rintro e w2 ⟨vb, rfl, sb, b2⟩
  obtain ⟨ab, cb, rfl, _⟩ := sb.len
  clear sb
  replace b2 := b1.trans (b2.mono b1.size)
  clear b1
  go_wp2_with fail
  refine (HM.out _ (HS.out.later b2)).mono ?_
  rintro e w3 ⟨vc, rfl, sc, b3⟩
  obtain ⟨ac, cc, rfl, _⟩ := sc.len
  clear sc
  replace b3 := b2.trans (b3.mono b2.size)
  clear b2
  go_wp2_with fail
  refine (those_empty a cap s _ (HS.out.later b3)).mono ?_
  rintro e w4 ⟨vd, rfl, sd, b4⟩
  have HD := Lib.hid (sd.later (Below.refl _ _))
  clear sd
  replace b4 := b3.trans (b4.mono b3.size)
  clear b3
  go_wp2_with fail
  refine (frames_empty a cap _).mono ?_
  rintro e w5 ⟨rfl, b5⟩
  have HD5 := Lib.hid (HD.out.later b5)
  replace b5 := b4.trans (b5.mono b4.size)
  clear b4
  go_wp2_with fail
  refine (check_empty a cap _).mono ?_
  rintro e w6 ⟨rfl, b6⟩
  have HD6 := Lib.hid (HD5.out.later b6)
  replace b6 := b5.trans (b6.mono b5.size)
  clear b5 HD HD5
  go_wp2_with fail
  refine wp_loop_rounds 1 ?_
  rw [rounds_succ]
  go_wp2_with fail
  refine (ints.equal_any [] [] _ _ _ HD6.out (Sl.nil _ _)).mono ?_
  rintro e w7 ⟨rfl, b7⟩
  rw [decide_eq_true rfl]
  replace b7 := b6.trans (b7.mono b6.size)
  have hz : inB 0 (-1) n = false := by unfold inB; simp; omega
  go_wp2_with (go_at_call 33; refine (in_any _ _ _ _).mono ?_; rintro e w' ⟨rfl, rfl⟩)
  go_ret
  exact ⟨rfl, b7⟩

theorem inB_t {lo hi n : Int} (h : lo ≤ n ∧ n ≤ hi) : inB lo hi n = true := by unfold inB; simp; omega
theorem inB_f {lo hi n : Int} (h : n < lo ∨ hi < n) : inB lo hi n = false := by unfold inB; simp; omega
theorem law (xs : List F) (v : Value) (n s o : Int) (w : World) (hS : Sl w S3 xs v) (hw : ∀ x ∈ xs, S3.wf x) :
    Calls Try.prog 7 #[v, .int .i64 n, .int .i64 s, .int .i64 o] w (Ret (.bool true) w) := by
  by_cases h : chk xs = 0
  rotate_left
  · exact law_bad xs v n s o w hS hw h
  by_cases h01 : 0 < xs.length
  rotate_left
  · have e1 : xs = [] := List.length_eq_zero_iff.1 (by omega)
    subst e1
    obtain ⟨a, cap, rfl, hm⟩ := hS.len
    exact law_empty a cap n s o w hS
  by_cases hr : n < 0 ∨ (xs.length : Int) ≤ n
  · exact law_out xs v n s o w hS hw h h01 hr
  obtain ⟨m, rfl⟩ := Int.eq_ofNat_of_zero_le (show 0 ≤ n by omega)
  have hn : m < xs.length := by omega
  have hat : atE xs m = 0 := by unfold atE; rw [if_pos h, if_neg hr]
  obtain ⟨g1, g2, g3, g4, g5, g6⟩ := good_bd h m hn
  have hg := (chkL_all (by have h' := h; unfold chk at h'; rwa [if_neg (by have := chk_len h; omega)] at h') xs[m] (List.getElem_mem hn)).2
  have hg' : ¬ (st xs[m] = 0 ∧ (ow xs[m] ≠ 0 ∨ ct xs[m] ≠ 0) ∨ st xs[m] ≠ 0 ∧ ct xs[m] = 0 ∨ st xs[m] = 1 ∧ ct xs[m] ≠ 1) := fun hh => by rw [bad3_t hh] at hg; cases hg
  -- what Take answers
  have hT : ∃ (La : List F) (ea : Int), (∀ w, Sl w S3 xs v → Calls Try.prog 42 #[v, .int .i64 m, .int .i64 s, .int .i64 o] w (SlE S3 La ea w)) ∧
      ((inB 1 3 s = false ∨ inB 1 3 s = true ∧ inB 0 1048576 o = false) ∧ ea = 1 ∧ La = [] ∨ inB 1 3 s = true ∧ inB 0 1048576 o = true ∧ ((st xs[m] = 0 ∧ ea = 0 ∧ La = xs.set m (mkF s o 1) ∧ S3.wf (mkF s o 1)) ∨ (st xs[m] ≠ 0 ∧ ea = 5 ∧ La = []))) := by
    by_cases hs : 1 ≤ s ∧ s ≤ 3
    · by_cases ho : 0 ≤ o ∧ o ≤ 1048576
      · by_cases h0 : st xs[m] = 0
        · exact ⟨_, _, fun w hS => take_good xs v m s o w hS hw hat hs.1 hs.2 ho.1 ho.2 hn (by simpa using h0), .inr ⟨inB_t hs, inB_t ho, .inl ⟨h0, rfl, rfl, wfi (by omega), wfi (by omega), wfi (by omega), trivial⟩⟩⟩
        · exact ⟨_, _, fun w hS => take_there xs v m s o w hS hw hat hs.1 hs.2 ho.1 ho.2 hn (by simpa using h0), .inr ⟨inB_t hs, inB_t ho, .inr ⟨h0, rfl, rfl⟩⟩⟩
      · exact ⟨_, _, fun w hS => take_arg xs v m s o w hS hw hat (by omega), .inl ⟨.inr ⟨inB_t hs, inB_f (by omega)⟩, rfl, rfl⟩⟩
    · exact ⟨_, _, fun w hS => take_arg xs v m s o w hS hw hat (by omega), .inl ⟨.inl (inB_f (by omega)), rfl, rfl⟩⟩
  obtain ⟨La, ea, hT, hc⟩ := hT
  by_cases h0 : st xs[m] = 0
  · refine law_free xs v m s o w hS hw h h01 hn h0 La ea hT ?_
    rcases hc with hc | ⟨a, b, hc | hc⟩
    · exact .inl hc
    · exact .inr ⟨a, b, hc.2⟩
    · exact absurd h0 hc.1
  · have hc' : (inB 1 3 s = false ∨ inB 1 3 s = true ∧ inB 0 1048576 o = false) ∧ ea = 1 ∧ La = [] ∨ inB 1 3 s = true ∧ inB 0 1048576 o = true ∧ ea = 5 ∧ La = [] := by
      rcases hc with hc | ⟨a, b, hc | hc⟩
      · exact .inl hc
      · exact absurd hc.1 h0
      · exact .inr ⟨a, b, hc.2⟩
    by_cases h1 : st xs[m] = 1
    · exact law_kernel xs v m s o w hS hw h h01 hn h1 (by omega) La ea hT hc'
    · by_cases h2 : ct xs[m] = 1
      · exact law_one xs v m s o w hS hw h h01 hn (by omega) h2 La ea hT hc'
      · by_cases h3 : ct xs[m] = 1048576
        · exact law_max xs v m s o w hS hw h h01 hn (by omega) h3 La ea hT hc'
        · exact law_mid xs v m s o w hS hw h h01 hn (by omega) (by omega) (by omega) La ea hT hc'

theorem walk (w : World) (v0 v1 v2 v3 : Value) (h0 : Arg w (.slice S3) v0) (h1 : Arg w (.int .i64) v1) (h2 : Arg w (.int .i64) v2) (h3 : Arg w (.int .i64) v3) :
    Calls Try.prog 7 #[v0, v1, v2, v3] w (Ret (.bool true) w) := by
  obtain ⟨xs, cs, hx, hv⟩ := h0
  simp [Sh.isAgg] at hv
  subst hv
  obtain ⟨hS, hw⟩ := sl_of_rep rfl (by decide) hx
  obtain ⟨n, cs, ⟨rfl, _⟩, hv⟩ := h1
  simp [Sh.isAgg] at hv
  subst hv
  obtain ⟨s, cs, ⟨rfl, _⟩, hv⟩ := h2
  simp [Sh.isAgg] at hv
  subst hv
  obtain ⟨o, cs, ⟨rfl, _⟩, hv⟩ := h3
  simp [Sh.isAgg] at hv
  subst hv
  exact law xs v0 n s o w hS hw

theorem own : ownKnob Try.prog.godebug = none := by kernel_rfl
theorem laidOut : laidOutB Try.prog = true := by kernel_rfl
set_option maxRecDepth 100000 in
theorem lifted (os : Os) (started : os.Started) (H : Type) (enc : TypeId × Value → H) :
    ReturnsInHanded {} Try.checked os 7 .any (Rows.frameTellsSpec.pre6 enc Try.prog Try.f7 Rows.frameTellsRow.domain false) (Rows.frameTellsSpec.post enc Try.prog Try.f7 false true false false) := by
  refine returnsInHanded_of_change (C := Try.checked) own started (by kernel_rfl) Try.func7
    (ChangeSpec.witness6 (enc := enc) (C := Try.checked) false ⟨#[], #[.slice none 0 0, .int .i64 0, .int .i64 0, .int .i64 0], []⟩ 8 (by kernel_rfl) (by kernel_rfl) (by kernel_rfl) (by kernel_rfl)) ?_
  intro W base args ds gs before hval0 hW hcnd _
  have hval : ∀ (j : Nat) t v, Try.f7.params[j]? = some t → args[j]? = some v → Value.okWide Try.prog W .any base t v := hval0
  have hW' := hW
  obtain ⟨p, q, hA0, hV, rfl, hfz, hnd⟩ := hW
  have hA : DataW.TrodAll enc Try.prog W 0 (fun _ => true) true Try.f7.params.toList args.toList ds p := hA0
  rw [Try.params7] at hA hval
  obtain ⟨v0, vs0, d0, ds0, p0, q0, hargs, rfl, rfl, h0, r0⟩ := trodAll_cons hA
  obtain ⟨v1, vs1, d1, ds1, p1, q1, rfl, rfl, rfl, h1, r1⟩ := trodAll_cons r0
  obtain ⟨v2, vs2, d2, ds2, p2, q2, rfl, rfl, rfl, h2, r2⟩ := trodAll_cons r1
  obtain ⟨v3, vs3, d3, ds3, p3, q3, rfl, rfl, rfl, h3, r3⟩ := trodAll_cons r2
  obtain ⟨rfl, rfl, rfl⟩ := trodAll_nil r3
  obtain rfl : args = #[v0, v1, v2, v3] := by cases args; simp_all
  obtain ⟨rfl, rfl⟩ := trodVars_none hV
  have a0 := rep.arg_of (s := (.slice S3)) (by kernel_rfl) (hval 0 _ v0 rfl rfl) h0
  have lt0 : ∀ x ∈ p0, x.block < W.heap.size := by obtain ⟨m, hm⟩ := h0; exact DataW.trod_lt m _ _ _ hm
  have a1 := rep.arg_of (s := (.int .i64)) (by kernel_rfl) (hval 1 _ v1 rfl rfl) h1
  have lt1 : ∀ x ∈ p1, x.block < W.heap.size := by obtain ⟨m, hm⟩ := h1; exact DataW.trod_lt m _ _ _ hm
  have a2 := rep.arg_of (s := (.int .i64)) (by kernel_rfl) (hval 2 _ v2 rfl rfl) h2
  have lt2 : ∀ x ∈ p2, x.block < W.heap.size := by obtain ⟨m, hm⟩ := h2; exact DataW.trod_lt m _ _ _ hm
  have a3 := rep.arg_of (s := (.int .i64)) (by kernel_rfl) (hval 3 _ v3 rfl rfl) h3
  have lt3 : ∀ x ∈ p3, x.block < W.heap.size := by obtain ⟨m, hm⟩ := h3; exact DataW.trod_lt m _ _ _ hm
  clear hA0 hval0
  refine (walk W v0 v1 v2 v3 a0 a1 a2 a3).mono fun e W' ⟨he, bel⟩ => ?_
  subst he
  exact ⟨_, rfl, _, _, _, [], _, [], hW', trodAll_mk1 (shut_bool Try.underlying4 _), (trodAll_cons_mk (Below.trod laidOut (by kernel_rfl) (of_decide_eq_true (by kernel_rfl)) h0 bel lt0) (trodAll_cons_mk (Below.trod laidOut (by kernel_rfl) (of_decide_eq_true (by kernel_rfl)) h1 bel lt1) (trodAll_cons_mk (Below.trod laidOut (by kernel_rfl) (of_decide_eq_true (by kernel_rfl)) h2 bel lt2) (trodAll_cons_mk (Below.trod laidOut (by kernel_rfl) (of_decide_eq_true (by kernel_rfl)) h3 bel lt3) trodAll_mk0)))), rfl, bel.frame _, fun h => by cases h⟩
theorem over : Rows.frameTellsRow.holds Try.pinned (OpenSpec.ofChange Rows.frameTellsSpec) :=
  OpenClaim.holds_of_wide 7 Try.f7 rfl rfl rfl rfl rfl rfl rfl ⟨rfl, rfl, rfl, rfl, rfl⟩ rfl rfl rfl rfl rfl (by kernel_rfl) Try.func7 (by kernel_rfl)
    (of_decide_eq_true (by kernel_rfl)) (by unfold Func.isWrapper; first | (rw [if_pos (by decide +kernel)]; kernel_rfl) | (rw [if_neg (by decide +kernel)]; exact ⟨rfl, rfl⟩))
    (fun os started H enc _ => lifted os started H enc)
/-- the statement -/
theorem proved : Rows.FrameTellsSaid := over
#print axioms proved
end Go.Proofs.YtccmjndnjpjohaaR.fr
