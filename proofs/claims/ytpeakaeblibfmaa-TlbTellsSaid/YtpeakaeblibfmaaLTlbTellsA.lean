/- TlbTells returns true for all processors, every five numbers and every order, and leaves its arguments alone. No condition. -/
import Derived.Test.YtpeakaeblibfmaaLTlbTells0
import Derived.ChangeOld
namespace Go.Proofs.Ytpeakaeblibfmaa.tlbTells
open Go.ChangeShapes Go.WideShapes Go.ChangeAt Go.RowKit help rep
set_option linter.all false

theorem walk (w : World) (v0 v1 v2 v3 v4 v5 v6 : Value) (h0 : Arg w (.slice 48 (.pair (.slice 24 (.pair (.int .i64) (.pair (.int .i64) (.pair (.int .u32) .unit)))) (.pair (.slice 16 (.pair (.int .i64) (.pair (.int .i64) .unit))) .unit))) v0) (h1 : Arg w (.int .i64) v1) (h2 : Arg w (.int .i64) v2) (h3 : Arg w (.int .i64) v3) (h4 : Arg w (.int .i64) v4) (h5 : Arg w (.int .u32) v5) (h6 : Arg w (.pair (.int .i64) (.pair (.int .i64) .unit)) v6) : Calls Try.prog 4 #[v0, v1, v2, v3, v4, v5, v6] w (help.Ret (.bool true) w) :=
  pv.TlbTells_walk (fun a b c d e f g h _ _ _ _ _ _ => tlbTells.law a b c d e f g h) w v0 v1 v2 v3 v4 v5 v6 h0 h1 h2 h3 h4 h5 h6

theorem own : ownKnob Try.prog.godebug = none := by kernel_rfl
theorem laidOut : laidOutB Try.prog = true := by kernel_rfl
set_option maxRecDepth 100000 in
theorem lifted (os : Os) (started : os.Started) (H : Type) (enc : TypeId × Value → H) :
    ReturnsInHanded {} Try.checked os 4 .any (Rows.tlbTellsSpec.pre6 enc Try.prog Try.f4 Rows.tlbTellsRow.domain false) (Rows.tlbTellsSpec.post enc Try.prog Try.f4 false true false false) := by
  refine returnsInHanded_of_change_sized (C := Try.checked) own started (by kernel_rfl) Try.func4
    (ChangeSpec.witness6 (enc := enc) (C := Try.checked) false ⟨#[], #[.slice none 0 0, .int .i64 0, .int .i64 0, .int .i64 0, .int .i64 0, .int .u32 0, .agg #[.int .i64 0, .int .i64 0]], []⟩ 8 (by kernel_rfl) (by kernel_rfl) (by kernel_rfl) (by kernel_rfl)) ?_
  intro W base args ds gs before hval0 hW hcnd hsz _
  have hval : ∀ (j : Nat) t v, Try.f4.params[j]? = some t → args[j]? = some v → Value.okWide Try.prog W .any base t v := hval0
  have hW' := hW
  obtain ⟨p, q, hA0, hV, rfl, hfz, hnd⟩ := hW
  have hA : DataW.TrodAll enc Try.prog W 0 (fun _ => true) true Try.f4.params.toList args.toList ds p := hA0
  rw [Try.params4] at hA hval
  obtain ⟨v0, vs0, d0, ds0, p0, q0, hargs, rfl, rfl, h0, r0⟩ := trodAll_cons hA
  obtain ⟨v1, vs1, d1, ds1, p1, q1, rfl, rfl, rfl, h1, r1⟩ := trodAll_cons r0
  obtain ⟨v2, vs2, d2, ds2, p2, q2, rfl, rfl, rfl, h2, r2⟩ := trodAll_cons r1
  obtain ⟨v3, vs3, d3, ds3, p3, q3, rfl, rfl, rfl, h3, r3⟩ := trodAll_cons r2
  obtain ⟨v4, vs4, d4, ds4, p4, q4, rfl, rfl, rfl, h4, r4⟩ := trodAll_cons r3
  obtain ⟨v5, vs5, d5, ds5, p5, q5, rfl, rfl, rfl, h5, r5⟩ := trodAll_cons r4
  obtain ⟨v6, vs6, d6, ds6, p6, q6, rfl, rfl, rfl, h6, r6⟩ := trodAll_cons r5
  obtain ⟨rfl, rfl, rfl⟩ := trodAll_nil r6
  obtain rfl : args = #[v0, v1, v2, v3, v4, v5, v6] := by cases args; simp_all
  obtain ⟨rfl, rfl⟩ := trodVars_none hV
  have hsm : ∀ m ∈ DataW.weightsEach Try.prog (Try.f4.params.toList ++ _) ([d0, d1, d2, d3, d4, d5, d6] ++ []), m ≤ reachBytes := fun m hm => by have := List.all_eq_true.1 hsz m hm; simpa using this
  have a0 := rep.arg_of (s := (.slice 48 (.pair (.slice 24 (.pair (.int .i64) (.pair (.int .i64) (.pair (.int .u32) .unit)))) (.pair (.slice 16 (.pair (.int .i64) (.pair (.int .i64) .unit))) .unit)))) (by kernel_rfl) (hval 0 _ v0 rfl rfl) h0 (rep.small_each hsm 0 _ _ rfl rfl)
  have lt0 : ∀ x ∈ p0, x.block < W.heap.size := by obtain ⟨m, hm⟩ := h0; exact DataW.trod_lt m _ _ _ hm
  have a1 := rep.arg_of (s := (.int .i64)) (by kernel_rfl) (hval 1 _ v1 rfl rfl) h1 (rep.small_each hsm 1 _ _ rfl rfl)
  have lt1 : ∀ x ∈ p1, x.block < W.heap.size := by obtain ⟨m, hm⟩ := h1; exact DataW.trod_lt m _ _ _ hm
  have a2 := rep.arg_of (s := (.int .i64)) (by kernel_rfl) (hval 2 _ v2 rfl rfl) h2 (rep.small_each hsm 2 _ _ rfl rfl)
  have lt2 : ∀ x ∈ p2, x.block < W.heap.size := by obtain ⟨m, hm⟩ := h2; exact DataW.trod_lt m _ _ _ hm
  have a3 := rep.arg_of (s := (.int .i64)) (by kernel_rfl) (hval 3 _ v3 rfl rfl) h3 (rep.small_each hsm 3 _ _ rfl rfl)
  have lt3 : ∀ x ∈ p3, x.block < W.heap.size := by obtain ⟨m, hm⟩ := h3; exact DataW.trod_lt m _ _ _ hm
  have a4 := rep.arg_of (s := (.int .i64)) (by kernel_rfl) (hval 4 _ v4 rfl rfl) h4 (rep.small_each hsm 4 _ _ rfl rfl)
  have lt4 : ∀ x ∈ p4, x.block < W.heap.size := by obtain ⟨m, hm⟩ := h4; exact DataW.trod_lt m _ _ _ hm
  have a5 := rep.arg_of (s := (.int .u32)) (by kernel_rfl) (hval 5 _ v5 rfl rfl) h5 (rep.small_each hsm 5 _ _ rfl rfl)
  have lt5 : ∀ x ∈ p5, x.block < W.heap.size := by obtain ⟨m, hm⟩ := h5; exact DataW.trod_lt m _ _ _ hm
  have a6 := rep.arg_of (s := (.pair (.int .i64) (.pair (.int .i64) .unit))) (by kernel_rfl) (hval 6 _ v6 rfl rfl) h6 (rep.small_each hsm 6 _ _ rfl rfl)
  have lt6 : ∀ x ∈ p6, x.block < W.heap.size := by obtain ⟨m, hm⟩ := h6; exact DataW.trod_lt m _ _ _ hm
  clear hA0 hval0
  refine (walk W v0 v1 v2 v3 v4 v5 v6 a0 a1 a2 a3 a4 a5 a6).mono fun e W' ⟨he, bel⟩ => ?_
  subst he
  exact ⟨_, rfl, _, _, _, [], _, [], hW', trodAll_mk1 (shut_bool Try.underlying4 _), (trodAll_cons_mk (Below.trod laidOut (by kernel_rfl) (of_decide_eq_true (by kernel_rfl)) h0 bel lt0) (trodAll_cons_mk (Below.trod laidOut (by kernel_rfl) (of_decide_eq_true (by kernel_rfl)) h1 bel lt1) (trodAll_cons_mk (Below.trod laidOut (by kernel_rfl) (of_decide_eq_true (by kernel_rfl)) h2 bel lt2) (trodAll_cons_mk (Below.trod laidOut (by kernel_rfl) (of_decide_eq_true (by kernel_rfl)) h3 bel lt3) (trodAll_cons_mk (Below.trod laidOut (by kernel_rfl) (of_decide_eq_true (by kernel_rfl)) h4 bel lt4) (trodAll_cons_mk (Below.trod laidOut (by kernel_rfl) (of_decide_eq_true (by kernel_rfl)) h5 bel lt5) (trodAll_cons_mk (Below.trod laidOut (by kernel_rfl) (of_decide_eq_true (by kernel_rfl)) h6 bel lt6) trodAll_mk0))))))), rfl, bel.frame _, fun h => by cases h⟩
end Go.Proofs.Ytpeakaeblibfmaa.tlbTells
