/- The plain law of CpuSteps, fifth part: one step, operation by operation; written by mkcpu.py. -/
import Derived.Test.YtdkfkpoenbenmaaLCpu4
namespace Go.Proofs.Ytdkfkpoenbenmaa.cpuSteps
open Go.RowKit help pv
set_option linter.all false
set_option maxRecDepth 100000

theorem dec_in {w : Int} {i : S_api_Ins} (h : dec w = (i, 0)) : 1 ≤ i.fOp ∧ i.fOp ≤ 26 ∧ 0 ≤ i.fA ∧ i.fA ≤ 7 ∧ 0 ≤ i.fB ∧ i.fB ≤ 7 ∧ -32768 ≤ i.fC ∧ i.fC ≤ 32767 := by
  unfold dec at h
  split at h
  · rename_i he
    simp only [Prod.mk.injEq, and_true] at h
    subst h
    unfold enc at he
    by_cases h1 : (ins w).fOp < 1 ∨ 26 < (ins w).fOp
    · rw [if_pos h1] at he; cases he
    rw [if_neg h1] at he
    cases h2 : bad1 (ins w) with
    | true => rw [h2, if_pos rfl] at he; cases he
    | false =>
      obtain ⟨x1, x2, x3, x4, x5, x6⟩ := bad1_ok h2
      refine ⟨?_, ?_, x1, x2, x3, x4, x5, x6⟩ <;> omega
  · simp at h
theorem high {a C : Int} (a0 : 0 ≤ a ∧ a ≤ 4294967295) : bits .or .u32 (shlI .u32 a 16) (wi .u32 (wi .u16 C)) = wi .u32 (shlI .u32 a 16 + bits .and .u32 (wi .u32 C) 65535) := by
  obtain ⟨X, rfl⟩ := Int.eq_ofNat_of_zero_le a0.1
  have e1 : shlI .u32 (X : Int) 16 = ((X % 65536 * 65536 : Nat) : Int) := by
    have := shl_u32 (a := (X : Int)) 16 (by omega)
    have h2 : shlI .u32 (X : Int) 16 = _ := this
    rw [h2]; omega
  have hc : ∃ c : Nat, wi .u32 C = (c : Int) ∧ C % 65536 = ((c % 65536 : Nat) : Int) ∧ c ≤ 4294967295 := by
    rw [w32]
    exact ⟨(C % 4294967296).toNat, by omega, by omega, by omega⟩
  obtain ⟨c, c1, c2, c3⟩ := hc
  have e2 : wi .u32 (wi .u16 C) = ((c % 65536 : Nat) : Int) := by rw [w16, w32, c2]; omega
  have e3 : bits .and .u32 (c : Int) 65535 = ((c % 65536 : Nat) : Int) := by
    rw [show (65535 : Int) = ((65535 : Nat) : Int) from rfl, u32_and_nat _ _ (by omega) (by omega), show (65535 : Nat) = 2 ^ 16 - 1 from rfl, Nat.and_two_pow_sub_one_eq_mod]
  rw [c1, e1, e2, e3, u32_or_nat _ _ (by omega) (by omega), or16 _ _ (by omega), w32]
  omega
def StepIs (n : Nat) (r : S_api_Regs) (m : S_ringref5_Room) : Prop := ∃ r' t m', G_cpu_Step_h n r m = some (r', t, m') ∧ G_ringref5_StepOf_h n r m = some (r', t, m') ∧ RegsOk r' ∧ RoomOk m' ∧ m'.fBytes.length = m.fBytes.length
section
variable {n : Nat} (hn : 100 ≤ n) {r : S_api_Regs} (rok : RegsOk r) {m : S_ringref5_Room} (ok : RoomOk m) {A B C a b v : Int} (hA : 0 ≤ A ∧ A < 8) (hB : 0 ≤ B ∧ B < 8) (ha : getA r.fR A = some a) (hb : getA r.fR B = some b) (a0 : 0 ≤ a ∧ a ≤ 4294967295) (b0 : 0 ≤ b ∧ b ≤ 4294967295)
variable (F : G_cpu_fetch_h n m r.fPc 4 = some (v, ⟨0, 0⟩, m)) (W : G_ringref5_Room_word_h n m r.fPc 4 = some (v, ⟨0, 0⟩, m))
include hn rok ok hA hB ha hb a0 b0 F W
theorem st1 (D1 : G_code_Decode n v = some (⟨1, A, B, C⟩, 0)) (D2 : G_ringref5_DecodeOf n v = some (⟨1, A, B, C⟩, 0)) : StepIs n r m := by
  unfold StepIs
  by_cases hr : r.fRing = 0
  · have hr2 : (r.fRing != 0) = false := by rw [hr]; rfl
    simp only [G_cpu_Step_h, G_ringref5_StepOf_h, F, W, D1, D2, G_cpu_Step_h_C1, G_ringref5_StepOf_h_C1, if_true, if_false, Option.bind_some, Int.reduceEq, reduceIte, Int.reduceLE, Int.reduceLT, ge_iff_le, gt_iff_lt, hA, hB, ha, hb, and_self, Int.reduceBEq, Int.reduceBNe, bne_self_eq_false, beq_self_eq_true, Bool.false_eq_true, G_cpu_Step_h_C2, G_cpu_Step_h_C3, G_cpu_Step_h_C4, G_cpu_Step_h_C5, G_ringref5_StepOf_h_C2, G_ringref5_StepOf_h_C3, G_ringref5_StepOf_h_C4, G_ringref5_StepOf_h_C5, G_ringref5_StepOf_h_C6, G_ringref5_StepOf_h_C7, G_ringref5_StepOf_h_C8, G_ringref5_StepOf_h_C9, G_cpu_jump_h, G_cpu_jump_h_C1, G_cpu_jump_h_C2, G_cpu_other, G_cpu_other_C1, G_cpu_other_C2, hr, hr2]
    exact ⟨_, _, _, rfl, rfl, rok.to (w32r _), ok, rfl⟩
  · have hr2 : (r.fRing != 0) = true := by simpa using hr
    simp only [G_cpu_Step_h, G_ringref5_StepOf_h, F, W, D1, D2, G_cpu_Step_h_C1, G_ringref5_StepOf_h_C1, if_true, if_false, Option.bind_some, Int.reduceEq, reduceIte, Int.reduceLE, Int.reduceLT, ge_iff_le, gt_iff_lt, hA, hB, ha, hb, and_self, Int.reduceBEq, Int.reduceBNe, bne_self_eq_false, beq_self_eq_true, Bool.false_eq_true, hr, hr2]
    exact ⟨_, _, _, rfl, rfl, rok, ok, rfl⟩
theorem st2 (D1 : G_code_Decode n v = some (⟨2, A, B, C⟩, 0)) (D2 : G_ringref5_DecodeOf n v = some (⟨2, A, B, C⟩, 0)) : StepIs n r m := by
  unfold StepIs
  by_cases hr : r.fRing = 0
  · simp only [G_cpu_Step_h, G_ringref5_StepOf_h, F, W, D1, D2, G_cpu_Step_h_C1, G_ringref5_StepOf_h_C1, if_true, if_false, Option.bind_some, Int.reduceEq, reduceIte, Int.reduceLE, Int.reduceLT, ge_iff_le, gt_iff_lt, hA, hB, ha, hb, and_self, Int.reduceBEq, Int.reduceBNe, bne_self_eq_false, beq_self_eq_true, Bool.false_eq_true, G_cpu_Step_h_C2, G_cpu_Step_h_C3, G_cpu_Step_h_C4, G_cpu_Step_h_C5, G_ringref5_StepOf_h_C2, G_ringref5_StepOf_h_C3, G_ringref5_StepOf_h_C4, G_ringref5_StepOf_h_C5, G_ringref5_StepOf_h_C6, G_ringref5_StepOf_h_C7, G_ringref5_StepOf_h_C8, G_ringref5_StepOf_h_C9, G_cpu_jump_h, G_cpu_jump_h_C1, G_cpu_jump_h_C2, G_cpu_other, G_cpu_other_C1, G_cpu_other_C2, hr]
    exact ⟨_, _, _, rfl, rfl, rok.set (w32r _) (w32r _), ok, rfl⟩
  · simp only [G_cpu_Step_h, G_ringref5_StepOf_h, F, W, D1, D2, G_cpu_Step_h_C1, G_ringref5_StepOf_h_C1, if_true, if_false, Option.bind_some, Int.reduceEq, reduceIte, Int.reduceLE, Int.reduceLT, ge_iff_le, gt_iff_lt, hA, hB, ha, hb, and_self, Int.reduceBEq, Int.reduceBNe, bne_self_eq_false, beq_self_eq_true, Bool.false_eq_true, G_cpu_Step_h_C2, G_cpu_Step_h_C3, G_cpu_Step_h_C4, G_cpu_Step_h_C5, G_ringref5_StepOf_h_C2, G_ringref5_StepOf_h_C3, G_ringref5_StepOf_h_C4, G_ringref5_StepOf_h_C5, G_ringref5_StepOf_h_C6, G_ringref5_StepOf_h_C7, G_ringref5_StepOf_h_C8, G_ringref5_StepOf_h_C9, G_cpu_jump_h, G_cpu_jump_h_C1, G_cpu_jump_h_C2, G_cpu_other, G_cpu_other_C1, G_cpu_other_C2, hr]
    exact ⟨_, _, _, rfl, rfl, rok.set (w32r _) (w32r _), ok, rfl⟩
theorem st3 (D1 : G_code_Decode n v = some (⟨3, A, B, C⟩, 0)) (D2 : G_ringref5_DecodeOf n v = some (⟨3, A, B, C⟩, 0)) : StepIs n r m := by
  unfold StepIs
  by_cases hr : r.fRing = 0
  · simp only [G_cpu_Step_h, G_ringref5_StepOf_h, F, W, D1, D2, G_cpu_Step_h_C1, G_ringref5_StepOf_h_C1, if_true, if_false, Option.bind_some, Int.reduceEq, reduceIte, Int.reduceLE, Int.reduceLT, ge_iff_le, gt_iff_lt, hA, hB, ha, hb, and_self, Int.reduceBEq, Int.reduceBNe, bne_self_eq_false, beq_self_eq_true, Bool.false_eq_true, G_cpu_Step_h_C2, G_cpu_Step_h_C3, G_cpu_Step_h_C4, G_cpu_Step_h_C5, G_ringref5_StepOf_h_C2, G_ringref5_StepOf_h_C3, G_ringref5_StepOf_h_C4, G_ringref5_StepOf_h_C5, G_ringref5_StepOf_h_C6, G_ringref5_StepOf_h_C7, G_ringref5_StepOf_h_C8, G_ringref5_StepOf_h_C9, G_cpu_jump_h, G_cpu_jump_h_C1, G_cpu_jump_h_C2, G_cpu_other, G_cpu_other_C1, G_cpu_other_C2, high a0, hr]
    exact ⟨_, _, _, rfl, rfl, rok.set (w32r _) (w32r _), ok, rfl⟩
  · simp only [G_cpu_Step_h, G_ringref5_StepOf_h, F, W, D1, D2, G_cpu_Step_h_C1, G_ringref5_StepOf_h_C1, if_true, if_false, Option.bind_some, Int.reduceEq, reduceIte, Int.reduceLE, Int.reduceLT, ge_iff_le, gt_iff_lt, hA, hB, ha, hb, and_self, Int.reduceBEq, Int.reduceBNe, bne_self_eq_false, beq_self_eq_true, Bool.false_eq_true, G_cpu_Step_h_C2, G_cpu_Step_h_C3, G_cpu_Step_h_C4, G_cpu_Step_h_C5, G_ringref5_StepOf_h_C2, G_ringref5_StepOf_h_C3, G_ringref5_StepOf_h_C4, G_ringref5_StepOf_h_C5, G_ringref5_StepOf_h_C6, G_ringref5_StepOf_h_C7, G_ringref5_StepOf_h_C8, G_ringref5_StepOf_h_C9, G_cpu_jump_h, G_cpu_jump_h_C1, G_cpu_jump_h_C2, G_cpu_other, G_cpu_other_C1, G_cpu_other_C2, high a0, hr]
    exact ⟨_, _, _, rfl, rfl, rok.set (w32r _) (w32r _), ok, rfl⟩
theorem st4 (D1 : G_code_Decode n v = some (⟨4, A, B, C⟩, 0)) (D2 : G_ringref5_DecodeOf n v = some (⟨4, A, B, C⟩, 0)) : StepIs n r m := by
  unfold StepIs
  by_cases hr : r.fRing = 0
  · simp only [G_cpu_Step_h, G_ringref5_StepOf_h, F, W, D1, D2, G_cpu_Step_h_C1, G_ringref5_StepOf_h_C1, if_true, if_false, Option.bind_some, Int.reduceEq, reduceIte, Int.reduceLE, Int.reduceLT, ge_iff_le, gt_iff_lt, hA, hB, ha, hb, and_self, Int.reduceBEq, Int.reduceBNe, bne_self_eq_false, beq_self_eq_true, Bool.false_eq_true, G_cpu_Step_h_C2, G_cpu_Step_h_C3, G_cpu_Step_h_C4, G_cpu_Step_h_C5, G_ringref5_StepOf_h_C2, G_ringref5_StepOf_h_C3, G_ringref5_StepOf_h_C4, G_ringref5_StepOf_h_C5, G_ringref5_StepOf_h_C6, G_ringref5_StepOf_h_C7, G_ringref5_StepOf_h_C8, G_ringref5_StepOf_h_C9, G_cpu_jump_h, G_cpu_jump_h_C1, G_cpu_jump_h_C2, G_cpu_other, G_cpu_other_C1, G_cpu_other_C2, hr]
    exact ⟨_, _, _, rfl, rfl, rok.set b0 (w32r _), ok, rfl⟩
  · simp only [G_cpu_Step_h, G_ringref5_StepOf_h, F, W, D1, D2, G_cpu_Step_h_C1, G_ringref5_StepOf_h_C1, if_true, if_false, Option.bind_some, Int.reduceEq, reduceIte, Int.reduceLE, Int.reduceLT, ge_iff_le, gt_iff_lt, hA, hB, ha, hb, and_self, Int.reduceBEq, Int.reduceBNe, bne_self_eq_false, beq_self_eq_true, Bool.false_eq_true, G_cpu_Step_h_C2, G_cpu_Step_h_C3, G_cpu_Step_h_C4, G_cpu_Step_h_C5, G_ringref5_StepOf_h_C2, G_ringref5_StepOf_h_C3, G_ringref5_StepOf_h_C4, G_ringref5_StepOf_h_C5, G_ringref5_StepOf_h_C6, G_ringref5_StepOf_h_C7, G_ringref5_StepOf_h_C8, G_ringref5_StepOf_h_C9, G_cpu_jump_h, G_cpu_jump_h_C1, G_cpu_jump_h_C2, G_cpu_other, G_cpu_other_C1, G_cpu_other_C2, hr]
    exact ⟨_, _, _, rfl, rfl, rok.set b0 (w32r _), ok, rfl⟩
theorem st5 (D1 : G_code_Decode n v = some (⟨5, A, B, C⟩, 0)) (D2 : G_ringref5_DecodeOf n v = some (⟨5, A, B, C⟩, 0)) : StepIs n r m := by
  unfold StepIs
  obtain ⟨q, q1, q2, q3⟩ := reckon_is hn (op := 5) a0.1 a0.2 b0.1 b0.2 (by decide) (by decide) (fun h => absurd h (by decide))
  by_cases hr : r.fRing = 0
  · simp only [G_cpu_Step_h, G_ringref5_StepOf_h, F, W, D1, D2, G_cpu_Step_h_C1, G_ringref5_StepOf_h_C1, if_true, if_false, Option.bind_some, Int.reduceEq, reduceIte, Int.reduceLE, Int.reduceLT, ge_iff_le, gt_iff_lt, hA, hB, ha, hb, and_self, Int.reduceBEq, Int.reduceBNe, bne_self_eq_false, beq_self_eq_true, Bool.false_eq_true, G_cpu_Step_h_C2, G_cpu_Step_h_C3, G_cpu_Step_h_C4, G_cpu_Step_h_C5, G_ringref5_StepOf_h_C2, G_ringref5_StepOf_h_C3, G_ringref5_StepOf_h_C4, G_ringref5_StepOf_h_C5, G_ringref5_StepOf_h_C6, G_ringref5_StepOf_h_C7, G_ringref5_StepOf_h_C8, G_ringref5_StepOf_h_C9, q1, q2, hr]
    exact ⟨_, _, _, rfl, rfl, rok.set q3 (w32r _), ok, rfl⟩
  · simp only [G_cpu_Step_h, G_ringref5_StepOf_h, F, W, D1, D2, G_cpu_Step_h_C1, G_ringref5_StepOf_h_C1, if_true, if_false, Option.bind_some, Int.reduceEq, reduceIte, Int.reduceLE, Int.reduceLT, ge_iff_le, gt_iff_lt, hA, hB, ha, hb, and_self, Int.reduceBEq, Int.reduceBNe, bne_self_eq_false, beq_self_eq_true, Bool.false_eq_true, G_cpu_Step_h_C2, G_cpu_Step_h_C3, G_cpu_Step_h_C4, G_cpu_Step_h_C5, G_ringref5_StepOf_h_C2, G_ringref5_StepOf_h_C3, G_ringref5_StepOf_h_C4, G_ringref5_StepOf_h_C5, G_ringref5_StepOf_h_C6, G_ringref5_StepOf_h_C7, G_ringref5_StepOf_h_C8, G_ringref5_StepOf_h_C9, q1, q2, hr]
    exact ⟨_, _, _, rfl, rfl, rok.set q3 (w32r _), ok, rfl⟩
theorem st6 (D1 : G_code_Decode n v = some (⟨6, A, B, C⟩, 0)) (D2 : G_ringref5_DecodeOf n v = some (⟨6, A, B, C⟩, 0)) : StepIs n r m := by
  unfold StepIs
  obtain ⟨q, q1, q2, q3⟩ := reckon_is hn (op := 6) a0.1 a0.2 b0.1 b0.2 (by decide) (by decide) (fun h => absurd h (by decide))
  by_cases hr : r.fRing = 0
  · simp only [G_cpu_Step_h, G_ringref5_StepOf_h, F, W, D1, D2, G_cpu_Step_h_C1, G_ringref5_StepOf_h_C1, if_true, if_false, Option.bind_some, Int.reduceEq, reduceIte, Int.reduceLE, Int.reduceLT, ge_iff_le, gt_iff_lt, hA, hB, ha, hb, and_self, Int.reduceBEq, Int.reduceBNe, bne_self_eq_false, beq_self_eq_true, Bool.false_eq_true, G_cpu_Step_h_C2, G_cpu_Step_h_C3, G_cpu_Step_h_C4, G_cpu_Step_h_C5, G_ringref5_StepOf_h_C2, G_ringref5_StepOf_h_C3, G_ringref5_StepOf_h_C4, G_ringref5_StepOf_h_C5, G_ringref5_StepOf_h_C6, G_ringref5_StepOf_h_C7, G_ringref5_StepOf_h_C8, G_ringref5_StepOf_h_C9, q1, q2, hr]
    exact ⟨_, _, _, rfl, rfl, rok.set q3 (w32r _), ok, rfl⟩
  · simp only [G_cpu_Step_h, G_ringref5_StepOf_h, F, W, D1, D2, G_cpu_Step_h_C1, G_ringref5_StepOf_h_C1, if_true, if_false, Option.bind_some, Int.reduceEq, reduceIte, Int.reduceLE, Int.reduceLT, ge_iff_le, gt_iff_lt, hA, hB, ha, hb, and_self, Int.reduceBEq, Int.reduceBNe, bne_self_eq_false, beq_self_eq_true, Bool.false_eq_true, G_cpu_Step_h_C2, G_cpu_Step_h_C3, G_cpu_Step_h_C4, G_cpu_Step_h_C5, G_ringref5_StepOf_h_C2, G_ringref5_StepOf_h_C3, G_ringref5_StepOf_h_C4, G_ringref5_StepOf_h_C5, G_ringref5_StepOf_h_C6, G_ringref5_StepOf_h_C7, G_ringref5_StepOf_h_C8, G_ringref5_StepOf_h_C9, q1, q2, hr]
    exact ⟨_, _, _, rfl, rfl, rok.set q3 (w32r _), ok, rfl⟩
theorem st7 (D1 : G_code_Decode n v = some (⟨7, A, B, C⟩, 0)) (D2 : G_ringref5_DecodeOf n v = some (⟨7, A, B, C⟩, 0)) : StepIs n r m := by
  unfold StepIs
  obtain ⟨q, q1, q2, q3⟩ := reckon_is hn (op := 7) a0.1 a0.2 b0.1 b0.2 (by decide) (by decide) (fun h => absurd h (by decide))
  by_cases hr : r.fRing = 0
  · simp only [G_cpu_Step_h, G_ringref5_StepOf_h, F, W, D1, D2, G_cpu_Step_h_C1, G_ringref5_StepOf_h_C1, if_true, if_false, Option.bind_some, Int.reduceEq, reduceIte, Int.reduceLE, Int.reduceLT, ge_iff_le, gt_iff_lt, hA, hB, ha, hb, and_self, Int.reduceBEq, Int.reduceBNe, bne_self_eq_false, beq_self_eq_true, Bool.false_eq_true, G_cpu_Step_h_C2, G_cpu_Step_h_C3, G_cpu_Step_h_C4, G_cpu_Step_h_C5, G_ringref5_StepOf_h_C2, G_ringref5_StepOf_h_C3, G_ringref5_StepOf_h_C4, G_ringref5_StepOf_h_C5, G_ringref5_StepOf_h_C6, G_ringref5_StepOf_h_C7, G_ringref5_StepOf_h_C8, G_ringref5_StepOf_h_C9, q1, q2, hr]
    exact ⟨_, _, _, rfl, rfl, rok.set q3 (w32r _), ok, rfl⟩
  · simp only [G_cpu_Step_h, G_ringref5_StepOf_h, F, W, D1, D2, G_cpu_Step_h_C1, G_ringref5_StepOf_h_C1, if_true, if_false, Option.bind_some, Int.reduceEq, reduceIte, Int.reduceLE, Int.reduceLT, ge_iff_le, gt_iff_lt, hA, hB, ha, hb, and_self, Int.reduceBEq, Int.reduceBNe, bne_self_eq_false, beq_self_eq_true, Bool.false_eq_true, G_cpu_Step_h_C2, G_cpu_Step_h_C3, G_cpu_Step_h_C4, G_cpu_Step_h_C5, G_ringref5_StepOf_h_C2, G_ringref5_StepOf_h_C3, G_ringref5_StepOf_h_C4, G_ringref5_StepOf_h_C5, G_ringref5_StepOf_h_C6, G_ringref5_StepOf_h_C7, G_ringref5_StepOf_h_C8, G_ringref5_StepOf_h_C9, q1, q2, hr]
    exact ⟨_, _, _, rfl, rfl, rok.set q3 (w32r _), ok, rfl⟩
theorem st8 (D1 : G_code_Decode n v = some (⟨8, A, B, C⟩, 0)) (D2 : G_ringref5_DecodeOf n v = some (⟨8, A, B, C⟩, 0)) : StepIs n r m := by
  unfold StepIs
  by_cases hz : b = 0
  · simp only [G_cpu_Step_h, G_ringref5_StepOf_h, F, W, D1, D2, G_cpu_Step_h_C1, G_ringref5_StepOf_h_C1, if_true, if_false, Option.bind_some, Int.reduceEq, reduceIte, Int.reduceLE, Int.reduceLT, ge_iff_le, gt_iff_lt, hA, hB, ha, hb, and_self, Int.reduceBEq, Int.reduceBNe, bne_self_eq_false, beq_self_eq_true, Bool.false_eq_true, G_cpu_Step_h_C2, G_cpu_Step_h_C3, G_cpu_Step_h_C4, G_cpu_Step_h_C5, G_ringref5_StepOf_h_C2, G_ringref5_StepOf_h_C3, G_ringref5_StepOf_h_C4, G_ringref5_StepOf_h_C5, G_ringref5_StepOf_h_C6, G_ringref5_StepOf_h_C7, G_ringref5_StepOf_h_C8, G_ringref5_StepOf_h_C9, G_cpu_reckon, hz]
    by_cases hr : r.fRing = 0
    · simp only [hr, if_true, if_false, Option.bind_some, Bool.false_eq_true, reduceIte]
      exact ⟨_, _, _, rfl, rfl, rok, ok, rfl⟩
    · simp only [hr, if_true, if_false, Option.bind_some, Bool.false_eq_true, reduceIte]
      exact ⟨_, _, _, rfl, rfl, rok, ok, rfl⟩
  obtain ⟨q, q1, q2, q3⟩ := reckon_is hn (op := 8) a0.1 a0.2 b0.1 b0.2 (by decide) (by decide) (fun _ => hz)
  by_cases hr : r.fRing = 0
  · simp only [G_cpu_Step_h, G_ringref5_StepOf_h, F, W, D1, D2, G_cpu_Step_h_C1, G_ringref5_StepOf_h_C1, if_true, if_false, Option.bind_some, Int.reduceEq, reduceIte, Int.reduceLE, Int.reduceLT, ge_iff_le, gt_iff_lt, hA, hB, ha, hb, and_self, Int.reduceBEq, Int.reduceBNe, bne_self_eq_false, beq_self_eq_true, Bool.false_eq_true, G_cpu_Step_h_C2, G_cpu_Step_h_C3, G_cpu_Step_h_C4, G_cpu_Step_h_C5, G_ringref5_StepOf_h_C2, G_ringref5_StepOf_h_C3, G_ringref5_StepOf_h_C4, G_ringref5_StepOf_h_C5, G_ringref5_StepOf_h_C6, G_ringref5_StepOf_h_C7, G_ringref5_StepOf_h_C8, G_ringref5_StepOf_h_C9, q1, q2, hz, hr]
    exact ⟨_, _, _, rfl, rfl, rok.set q3 (w32r _), ok, rfl⟩
  · simp only [G_cpu_Step_h, G_ringref5_StepOf_h, F, W, D1, D2, G_cpu_Step_h_C1, G_ringref5_StepOf_h_C1, if_true, if_false, Option.bind_some, Int.reduceEq, reduceIte, Int.reduceLE, Int.reduceLT, ge_iff_le, gt_iff_lt, hA, hB, ha, hb, and_self, Int.reduceBEq, Int.reduceBNe, bne_self_eq_false, beq_self_eq_true, Bool.false_eq_true, G_cpu_Step_h_C2, G_cpu_Step_h_C3, G_cpu_Step_h_C4, G_cpu_Step_h_C5, G_ringref5_StepOf_h_C2, G_ringref5_StepOf_h_C3, G_ringref5_StepOf_h_C4, G_ringref5_StepOf_h_C5, G_ringref5_StepOf_h_C6, G_ringref5_StepOf_h_C7, G_ringref5_StepOf_h_C8, G_ringref5_StepOf_h_C9, q1, q2, hz, hr]
    exact ⟨_, _, _, rfl, rfl, rok.set q3 (w32r _), ok, rfl⟩
theorem st9 (D1 : G_code_Decode n v = some (⟨9, A, B, C⟩, 0)) (D2 : G_ringref5_DecodeOf n v = some (⟨9, A, B, C⟩, 0)) : StepIs n r m := by
  unfold StepIs
  obtain ⟨q, q1, q2, q3⟩ := reckon_is hn (op := 9) a0.1 a0.2 b0.1 b0.2 (by decide) (by decide) (fun h => absurd h (by decide))
  by_cases hr : r.fRing = 0
  · simp only [G_cpu_Step_h, G_ringref5_StepOf_h, F, W, D1, D2, G_cpu_Step_h_C1, G_ringref5_StepOf_h_C1, if_true, if_false, Option.bind_some, Int.reduceEq, reduceIte, Int.reduceLE, Int.reduceLT, ge_iff_le, gt_iff_lt, hA, hB, ha, hb, and_self, Int.reduceBEq, Int.reduceBNe, bne_self_eq_false, beq_self_eq_true, Bool.false_eq_true, G_cpu_Step_h_C2, G_cpu_Step_h_C3, G_cpu_Step_h_C4, G_cpu_Step_h_C5, G_ringref5_StepOf_h_C2, G_ringref5_StepOf_h_C3, G_ringref5_StepOf_h_C4, G_ringref5_StepOf_h_C5, G_ringref5_StepOf_h_C6, G_ringref5_StepOf_h_C7, G_ringref5_StepOf_h_C8, G_ringref5_StepOf_h_C9, q1, q2, hr]
    exact ⟨_, _, _, rfl, rfl, rok.set q3 (w32r _), ok, rfl⟩
  · simp only [G_cpu_Step_h, G_ringref5_StepOf_h, F, W, D1, D2, G_cpu_Step_h_C1, G_ringref5_StepOf_h_C1, if_true, if_false, Option.bind_some, Int.reduceEq, reduceIte, Int.reduceLE, Int.reduceLT, ge_iff_le, gt_iff_lt, hA, hB, ha, hb, and_self, Int.reduceBEq, Int.reduceBNe, bne_self_eq_false, beq_self_eq_true, Bool.false_eq_true, G_cpu_Step_h_C2, G_cpu_Step_h_C3, G_cpu_Step_h_C4, G_cpu_Step_h_C5, G_ringref5_StepOf_h_C2, G_ringref5_StepOf_h_C3, G_ringref5_StepOf_h_C4, G_ringref5_StepOf_h_C5, G_ringref5_StepOf_h_C6, G_ringref5_StepOf_h_C7, G_ringref5_StepOf_h_C8, G_ringref5_StepOf_h_C9, q1, q2, hr]
    exact ⟨_, _, _, rfl, rfl, rok.set q3 (w32r _), ok, rfl⟩
theorem st10 (D1 : G_code_Decode n v = some (⟨10, A, B, C⟩, 0)) (D2 : G_ringref5_DecodeOf n v = some (⟨10, A, B, C⟩, 0)) : StepIs n r m := by
  unfold StepIs
  obtain ⟨q, q1, q2, q3⟩ := reckon_is hn (op := 10) a0.1 a0.2 b0.1 b0.2 (by decide) (by decide) (fun h => absurd h (by decide))
  by_cases hr : r.fRing = 0
  · simp only [G_cpu_Step_h, G_ringref5_StepOf_h, F, W, D1, D2, G_cpu_Step_h_C1, G_ringref5_StepOf_h_C1, if_true, if_false, Option.bind_some, Int.reduceEq, reduceIte, Int.reduceLE, Int.reduceLT, ge_iff_le, gt_iff_lt, hA, hB, ha, hb, and_self, Int.reduceBEq, Int.reduceBNe, bne_self_eq_false, beq_self_eq_true, Bool.false_eq_true, G_cpu_Step_h_C2, G_cpu_Step_h_C3, G_cpu_Step_h_C4, G_cpu_Step_h_C5, G_ringref5_StepOf_h_C2, G_ringref5_StepOf_h_C3, G_ringref5_StepOf_h_C4, G_ringref5_StepOf_h_C5, G_ringref5_StepOf_h_C6, G_ringref5_StepOf_h_C7, G_ringref5_StepOf_h_C8, G_ringref5_StepOf_h_C9, q1, q2, hr]
    exact ⟨_, _, _, rfl, rfl, rok.set q3 (w32r _), ok, rfl⟩
  · simp only [G_cpu_Step_h, G_ringref5_StepOf_h, F, W, D1, D2, G_cpu_Step_h_C1, G_ringref5_StepOf_h_C1, if_true, if_false, Option.bind_some, Int.reduceEq, reduceIte, Int.reduceLE, Int.reduceLT, ge_iff_le, gt_iff_lt, hA, hB, ha, hb, and_self, Int.reduceBEq, Int.reduceBNe, bne_self_eq_false, beq_self_eq_true, Bool.false_eq_true, G_cpu_Step_h_C2, G_cpu_Step_h_C3, G_cpu_Step_h_C4, G_cpu_Step_h_C5, G_ringref5_StepOf_h_C2, G_ringref5_StepOf_h_C3, G_ringref5_StepOf_h_C4, G_ringref5_StepOf_h_C5, G_ringref5_StepOf_h_C6, G_ringref5_StepOf_h_C7, G_ringref5_StepOf_h_C8, G_ringref5_StepOf_h_C9, q1, q2, hr]
    exact ⟨_, _, _, rfl, rfl, rok.set q3 (w32r _), ok, rfl⟩
theorem st11 (D1 : G_code_Decode n v = some (⟨11, A, B, C⟩, 0)) (D2 : G_ringref5_DecodeOf n v = some (⟨11, A, B, C⟩, 0)) : StepIs n r m := by
  unfold StepIs
  obtain ⟨q, q1, q2, q3⟩ := reckon_is hn (op := 11) a0.1 a0.2 b0.1 b0.2 (by decide) (by decide) (fun h => absurd h (by decide))
  by_cases hr : r.fRing = 0
  · simp only [G_cpu_Step_h, G_ringref5_StepOf_h, F, W, D1, D2, G_cpu_Step_h_C1, G_ringref5_StepOf_h_C1, if_true, if_false, Option.bind_some, Int.reduceEq, reduceIte, Int.reduceLE, Int.reduceLT, ge_iff_le, gt_iff_lt, hA, hB, ha, hb, and_self, Int.reduceBEq, Int.reduceBNe, bne_self_eq_false, beq_self_eq_true, Bool.false_eq_true, G_cpu_Step_h_C2, G_cpu_Step_h_C3, G_cpu_Step_h_C4, G_cpu_Step_h_C5, G_ringref5_StepOf_h_C2, G_ringref5_StepOf_h_C3, G_ringref5_StepOf_h_C4, G_ringref5_StepOf_h_C5, G_ringref5_StepOf_h_C6, G_ringref5_StepOf_h_C7, G_ringref5_StepOf_h_C8, G_ringref5_StepOf_h_C9, q1, q2, hr]
    exact ⟨_, _, _, rfl, rfl, rok.set q3 (w32r _), ok, rfl⟩
  · simp only [G_cpu_Step_h, G_ringref5_StepOf_h, F, W, D1, D2, G_cpu_Step_h_C1, G_ringref5_StepOf_h_C1, if_true, if_false, Option.bind_some, Int.reduceEq, reduceIte, Int.reduceLE, Int.reduceLT, ge_iff_le, gt_iff_lt, hA, hB, ha, hb, and_self, Int.reduceBEq, Int.reduceBNe, bne_self_eq_false, beq_self_eq_true, Bool.false_eq_true, G_cpu_Step_h_C2, G_cpu_Step_h_C3, G_cpu_Step_h_C4, G_cpu_Step_h_C5, G_ringref5_StepOf_h_C2, G_ringref5_StepOf_h_C3, G_ringref5_StepOf_h_C4, G_ringref5_StepOf_h_C5, G_ringref5_StepOf_h_C6, G_ringref5_StepOf_h_C7, G_ringref5_StepOf_h_C8, G_ringref5_StepOf_h_C9, q1, q2, hr]
    exact ⟨_, _, _, rfl, rfl, rok.set q3 (w32r _), ok, rfl⟩
theorem st12 (D1 : G_code_Decode n v = some (⟨12, A, B, C⟩, 0)) (D2 : G_ringref5_DecodeOf n v = some (⟨12, A, B, C⟩, 0)) : StepIs n r m := by
  unfold StepIs
  obtain ⟨q, q1, q2, q3⟩ := reckon_is hn (op := 12) a0.1 a0.2 b0.1 b0.2 (by decide) (by decide) (fun h => absurd h (by decide))
  by_cases hr : r.fRing = 0
  · simp only [G_cpu_Step_h, G_ringref5_StepOf_h, F, W, D1, D2, G_cpu_Step_h_C1, G_ringref5_StepOf_h_C1, if_true, if_false, Option.bind_some, Int.reduceEq, reduceIte, Int.reduceLE, Int.reduceLT, ge_iff_le, gt_iff_lt, hA, hB, ha, hb, and_self, Int.reduceBEq, Int.reduceBNe, bne_self_eq_false, beq_self_eq_true, Bool.false_eq_true, G_cpu_Step_h_C2, G_cpu_Step_h_C3, G_cpu_Step_h_C4, G_cpu_Step_h_C5, G_ringref5_StepOf_h_C2, G_ringref5_StepOf_h_C3, G_ringref5_StepOf_h_C4, G_ringref5_StepOf_h_C5, G_ringref5_StepOf_h_C6, G_ringref5_StepOf_h_C7, G_ringref5_StepOf_h_C8, G_ringref5_StepOf_h_C9, q1, q2, hr]
    exact ⟨_, _, _, rfl, rfl, rok.set q3 (w32r _), ok, rfl⟩
  · simp only [G_cpu_Step_h, G_ringref5_StepOf_h, F, W, D1, D2, G_cpu_Step_h_C1, G_ringref5_StepOf_h_C1, if_true, if_false, Option.bind_some, Int.reduceEq, reduceIte, Int.reduceLE, Int.reduceLT, ge_iff_le, gt_iff_lt, hA, hB, ha, hb, and_self, Int.reduceBEq, Int.reduceBNe, bne_self_eq_false, beq_self_eq_true, Bool.false_eq_true, G_cpu_Step_h_C2, G_cpu_Step_h_C3, G_cpu_Step_h_C4, G_cpu_Step_h_C5, G_ringref5_StepOf_h_C2, G_ringref5_StepOf_h_C3, G_ringref5_StepOf_h_C4, G_ringref5_StepOf_h_C5, G_ringref5_StepOf_h_C6, G_ringref5_StepOf_h_C7, G_ringref5_StepOf_h_C8, G_ringref5_StepOf_h_C9, q1, q2, hr]
    exact ⟨_, _, _, rfl, rfl, rok.set q3 (w32r _), ok, rfl⟩
theorem st13 (D1 : G_code_Decode n v = some (⟨13, A, B, C⟩, 0)) (D2 : G_ringref5_DecodeOf n v = some (⟨13, A, B, C⟩, 0)) : StepIs n r m := by
  unfold StepIs
  obtain ⟨q, q1, q2, q3⟩ := reckon_is hn (op := 13) a0.1 a0.2 b0.1 b0.2 (by decide) (by decide) (fun h => absurd h (by decide))
  by_cases hr : r.fRing = 0
  · simp only [G_cpu_Step_h, G_ringref5_StepOf_h, F, W, D1, D2, G_cpu_Step_h_C1, G_ringref5_StepOf_h_C1, if_true, if_false, Option.bind_some, Int.reduceEq, reduceIte, Int.reduceLE, Int.reduceLT, ge_iff_le, gt_iff_lt, hA, hB, ha, hb, and_self, Int.reduceBEq, Int.reduceBNe, bne_self_eq_false, beq_self_eq_true, Bool.false_eq_true, G_cpu_Step_h_C2, G_cpu_Step_h_C3, G_cpu_Step_h_C4, G_cpu_Step_h_C5, G_ringref5_StepOf_h_C2, G_ringref5_StepOf_h_C3, G_ringref5_StepOf_h_C4, G_ringref5_StepOf_h_C5, G_ringref5_StepOf_h_C6, G_ringref5_StepOf_h_C7, G_ringref5_StepOf_h_C8, G_ringref5_StepOf_h_C9, q1, q2, hr]
    exact ⟨_, _, _, rfl, rfl, rok.set q3 (w32r _), ok, rfl⟩
  · simp only [G_cpu_Step_h, G_ringref5_StepOf_h, F, W, D1, D2, G_cpu_Step_h_C1, G_ringref5_StepOf_h_C1, if_true, if_false, Option.bind_some, Int.reduceEq, reduceIte, Int.reduceLE, Int.reduceLT, ge_iff_le, gt_iff_lt, hA, hB, ha, hb, and_self, Int.reduceBEq, Int.reduceBNe, bne_self_eq_false, beq_self_eq_true, Bool.false_eq_true, G_cpu_Step_h_C2, G_cpu_Step_h_C3, G_cpu_Step_h_C4, G_cpu_Step_h_C5, G_ringref5_StepOf_h_C2, G_ringref5_StepOf_h_C3, G_ringref5_StepOf_h_C4, G_ringref5_StepOf_h_C5, G_ringref5_StepOf_h_C6, G_ringref5_StepOf_h_C7, G_ringref5_StepOf_h_C8, G_ringref5_StepOf_h_C9, q1, q2, hr]
    exact ⟨_, _, _, rfl, rfl, rok.set q3 (w32r _), ok, rfl⟩
theorem st14 (D1 : G_code_Decode n v = some (⟨14, A, B, C⟩, 0)) (D2 : G_ringref5_DecodeOf n v = some (⟨14, A, B, C⟩, 0)) : StepIs n r m := by
  unfold StepIs
  by_cases hr : r.fRing = 0
  · simp only [G_cpu_Step_h, G_ringref5_StepOf_h, F, W, D1, D2, G_cpu_Step_h_C1, G_ringref5_StepOf_h_C1, if_true, if_false, Option.bind_some, Int.reduceEq, reduceIte, Int.reduceLE, Int.reduceLT, ge_iff_le, gt_iff_lt, hA, hB, ha, hb, and_self, Int.reduceBEq, Int.reduceBNe, bne_self_eq_false, beq_self_eq_true, Bool.false_eq_true, G_cpu_Step_h_C2, G_cpu_Step_h_C3, G_cpu_Step_h_C4, G_cpu_Step_h_C5, G_ringref5_StepOf_h_C2, G_ringref5_StepOf_h_C3, G_ringref5_StepOf_h_C4, G_ringref5_StepOf_h_C5, G_ringref5_StepOf_h_C6, G_ringref5_StepOf_h_C7, G_ringref5_StepOf_h_C8, G_ringref5_StepOf_h_C9, G_cpu_jump_h, G_cpu_jump_h_C1, G_cpu_jump_h_C2, G_cpu_other, G_cpu_other_C1, G_cpu_other_C2, hr]
    exact ⟨_, _, _, rfl, rfl, rok.set (w32r _) (w32r _), ok, rfl⟩
  · simp only [G_cpu_Step_h, G_ringref5_StepOf_h, F, W, D1, D2, G_cpu_Step_h_C1, G_ringref5_StepOf_h_C1, if_true, if_false, Option.bind_some, Int.reduceEq, reduceIte, Int.reduceLE, Int.reduceLT, ge_iff_le, gt_iff_lt, hA, hB, ha, hb, and_self, Int.reduceBEq, Int.reduceBNe, bne_self_eq_false, beq_self_eq_true, Bool.false_eq_true, G_cpu_Step_h_C2, G_cpu_Step_h_C3, G_cpu_Step_h_C4, G_cpu_Step_h_C5, G_ringref5_StepOf_h_C2, G_ringref5_StepOf_h_C3, G_ringref5_StepOf_h_C4, G_ringref5_StepOf_h_C5, G_ringref5_StepOf_h_C6, G_ringref5_StepOf_h_C7, G_ringref5_StepOf_h_C8, G_ringref5_StepOf_h_C9, G_cpu_jump_h, G_cpu_jump_h_C1, G_cpu_jump_h_C2, G_cpu_other, G_cpu_other_C1, G_cpu_other_C2, hr]
    exact ⟨_, _, _, rfl, rfl, rok.set (w32r _) (w32r _), ok, rfl⟩
theorem st15 (D1 : G_code_Decode n v = some (⟨15, A, B, C⟩, 0)) (D2 : G_ringref5_DecodeOf n v = some (⟨15, A, B, C⟩, 0)) : StepIs n r m := by
  unfold StepIs
  obtain ⟨t, r', m', h1, h2, h3, h4, h5, h6⟩ := mem15 hn rok.nx ok hA hB ha hb a0 b0 (C := C)
  have h1 : G_cpu_memory_h n ⟨r.fR, wi .u32 (r.fPc + 4), r.fRing⟩ ⟨15, A, B, C⟩ ⟨m.fAt, m.fBytes, m.fMay⟩ = _ := h1
  have h2 : G_ringref5_move_h n ⟨r.fR, wi .u32 (r.fPc + 4), r.fRing⟩ ⟨15, A, B, C⟩ ⟨m.fAt, m.fBytes, m.fMay⟩ _ = _ := h2
  by_cases c : t.fKind = 0
  · have ht := h6 c
    subst ht
    by_cases hr : r.fRing = 0
    · rw [hr] at h1 h2; simp only [G_cpu_Step_h, G_ringref5_StepOf_h, F, W, D1, D2, G_cpu_Step_h_C1, G_ringref5_StepOf_h_C1, if_true, if_false, Option.bind_some, Int.reduceEq, reduceIte, Int.reduceLE, Int.reduceLT, ge_iff_le, gt_iff_lt, hA, hB, ha, hb, and_self, Int.reduceBEq, Int.reduceBNe, bne_self_eq_false, beq_self_eq_true, Bool.false_eq_true, G_cpu_Step_h_C2, G_cpu_Step_h_C3, G_cpu_Step_h_C4, G_cpu_Step_h_C5, G_ringref5_StepOf_h_C2, G_ringref5_StepOf_h_C3, G_ringref5_StepOf_h_C4, G_ringref5_StepOf_h_C5, G_ringref5_StepOf_h_C6, G_ringref5_StepOf_h_C7, G_ringref5_StepOf_h_C8, G_ringref5_StepOf_h_C9, h1, h2, hr]
      exact ⟨_, _, _, rfl, rfl, h3, h4, h5⟩
    · simp only [G_cpu_Step_h, G_ringref5_StepOf_h, F, W, D1, D2, G_cpu_Step_h_C1, G_ringref5_StepOf_h_C1, if_true, if_false, Option.bind_some, Int.reduceEq, reduceIte, Int.reduceLE, Int.reduceLT, ge_iff_le, gt_iff_lt, hA, hB, ha, hb, and_self, Int.reduceBEq, Int.reduceBNe, bne_self_eq_false, beq_self_eq_true, Bool.false_eq_true, G_cpu_Step_h_C2, G_cpu_Step_h_C3, G_cpu_Step_h_C4, G_cpu_Step_h_C5, G_ringref5_StepOf_h_C2, G_ringref5_StepOf_h_C3, G_ringref5_StepOf_h_C4, G_ringref5_StepOf_h_C5, G_ringref5_StepOf_h_C6, G_ringref5_StepOf_h_C7, G_ringref5_StepOf_h_C8, G_ringref5_StepOf_h_C9, h1, h2, hr]
      exact ⟨_, _, _, rfl, rfl, h3, h4, h5⟩
  · by_cases hr : r.fRing = 0
    · rw [hr] at h1 h2; simp only [G_cpu_Step_h, G_ringref5_StepOf_h, F, W, D1, D2, G_cpu_Step_h_C1, G_ringref5_StepOf_h_C1, if_true, if_false, Option.bind_some, Int.reduceEq, reduceIte, Int.reduceLE, Int.reduceLT, ge_iff_le, gt_iff_lt, hA, hB, ha, hb, and_self, Int.reduceBEq, Int.reduceBNe, bne_self_eq_false, beq_self_eq_true, Bool.false_eq_true, G_cpu_Step_h_C2, G_cpu_Step_h_C3, G_cpu_Step_h_C4, G_cpu_Step_h_C5, G_ringref5_StepOf_h_C2, G_ringref5_StepOf_h_C3, G_ringref5_StepOf_h_C4, G_ringref5_StepOf_h_C5, G_ringref5_StepOf_h_C6, G_ringref5_StepOf_h_C7, G_ringref5_StepOf_h_C8, G_ringref5_StepOf_h_C9, h1, h2, c, hr]
      exact ⟨_, _, _, rfl, rfl, rok, h4, h5⟩
    · simp only [G_cpu_Step_h, G_ringref5_StepOf_h, F, W, D1, D2, G_cpu_Step_h_C1, G_ringref5_StepOf_h_C1, if_true, if_false, Option.bind_some, Int.reduceEq, reduceIte, Int.reduceLE, Int.reduceLT, ge_iff_le, gt_iff_lt, hA, hB, ha, hb, and_self, Int.reduceBEq, Int.reduceBNe, bne_self_eq_false, beq_self_eq_true, Bool.false_eq_true, G_cpu_Step_h_C2, G_cpu_Step_h_C3, G_cpu_Step_h_C4, G_cpu_Step_h_C5, G_ringref5_StepOf_h_C2, G_ringref5_StepOf_h_C3, G_ringref5_StepOf_h_C4, G_ringref5_StepOf_h_C5, G_ringref5_StepOf_h_C6, G_ringref5_StepOf_h_C7, G_ringref5_StepOf_h_C8, G_ringref5_StepOf_h_C9, h1, h2, c, hr]
      exact ⟨_, _, _, rfl, rfl, rok, h4, h5⟩
theorem st16 (D1 : G_code_Decode n v = some (⟨16, A, B, C⟩, 0)) (D2 : G_ringref5_DecodeOf n v = some (⟨16, A, B, C⟩, 0)) : StepIs n r m := by
  unfold StepIs
  obtain ⟨t, r', m', h1, h2, h3, h4, h5, h6⟩ := mem16 hn rok.nx ok hA hB ha hb a0 b0 (C := C)
  have h1 : G_cpu_memory_h n ⟨r.fR, wi .u32 (r.fPc + 4), r.fRing⟩ ⟨16, A, B, C⟩ ⟨m.fAt, m.fBytes, m.fMay⟩ = _ := h1
  have h2 : G_ringref5_move_h n ⟨r.fR, wi .u32 (r.fPc + 4), r.fRing⟩ ⟨16, A, B, C⟩ ⟨m.fAt, m.fBytes, m.fMay⟩ _ = _ := h2
  by_cases c : t.fKind = 0
  · have ht := h6 c
    subst ht
    by_cases hr : r.fRing = 0
    · rw [hr] at h1 h2; simp only [G_cpu_Step_h, G_ringref5_StepOf_h, F, W, D1, D2, G_cpu_Step_h_C1, G_ringref5_StepOf_h_C1, if_true, if_false, Option.bind_some, Int.reduceEq, reduceIte, Int.reduceLE, Int.reduceLT, ge_iff_le, gt_iff_lt, hA, hB, ha, hb, and_self, Int.reduceBEq, Int.reduceBNe, bne_self_eq_false, beq_self_eq_true, Bool.false_eq_true, G_cpu_Step_h_C2, G_cpu_Step_h_C3, G_cpu_Step_h_C4, G_cpu_Step_h_C5, G_ringref5_StepOf_h_C2, G_ringref5_StepOf_h_C3, G_ringref5_StepOf_h_C4, G_ringref5_StepOf_h_C5, G_ringref5_StepOf_h_C6, G_ringref5_StepOf_h_C7, G_ringref5_StepOf_h_C8, G_ringref5_StepOf_h_C9, h1, h2, hr]
      exact ⟨_, _, _, rfl, rfl, h3, h4, h5⟩
    · simp only [G_cpu_Step_h, G_ringref5_StepOf_h, F, W, D1, D2, G_cpu_Step_h_C1, G_ringref5_StepOf_h_C1, if_true, if_false, Option.bind_some, Int.reduceEq, reduceIte, Int.reduceLE, Int.reduceLT, ge_iff_le, gt_iff_lt, hA, hB, ha, hb, and_self, Int.reduceBEq, Int.reduceBNe, bne_self_eq_false, beq_self_eq_true, Bool.false_eq_true, G_cpu_Step_h_C2, G_cpu_Step_h_C3, G_cpu_Step_h_C4, G_cpu_Step_h_C5, G_ringref5_StepOf_h_C2, G_ringref5_StepOf_h_C3, G_ringref5_StepOf_h_C4, G_ringref5_StepOf_h_C5, G_ringref5_StepOf_h_C6, G_ringref5_StepOf_h_C7, G_ringref5_StepOf_h_C8, G_ringref5_StepOf_h_C9, h1, h2, hr]
      exact ⟨_, _, _, rfl, rfl, h3, h4, h5⟩
  · by_cases hr : r.fRing = 0
    · rw [hr] at h1 h2; simp only [G_cpu_Step_h, G_ringref5_StepOf_h, F, W, D1, D2, G_cpu_Step_h_C1, G_ringref5_StepOf_h_C1, if_true, if_false, Option.bind_some, Int.reduceEq, reduceIte, Int.reduceLE, Int.reduceLT, ge_iff_le, gt_iff_lt, hA, hB, ha, hb, and_self, Int.reduceBEq, Int.reduceBNe, bne_self_eq_false, beq_self_eq_true, Bool.false_eq_true, G_cpu_Step_h_C2, G_cpu_Step_h_C3, G_cpu_Step_h_C4, G_cpu_Step_h_C5, G_ringref5_StepOf_h_C2, G_ringref5_StepOf_h_C3, G_ringref5_StepOf_h_C4, G_ringref5_StepOf_h_C5, G_ringref5_StepOf_h_C6, G_ringref5_StepOf_h_C7, G_ringref5_StepOf_h_C8, G_ringref5_StepOf_h_C9, h1, h2, c, hr]
      exact ⟨_, _, _, rfl, rfl, rok, h4, h5⟩
    · simp only [G_cpu_Step_h, G_ringref5_StepOf_h, F, W, D1, D2, G_cpu_Step_h_C1, G_ringref5_StepOf_h_C1, if_true, if_false, Option.bind_some, Int.reduceEq, reduceIte, Int.reduceLE, Int.reduceLT, ge_iff_le, gt_iff_lt, hA, hB, ha, hb, and_self, Int.reduceBEq, Int.reduceBNe, bne_self_eq_false, beq_self_eq_true, Bool.false_eq_true, G_cpu_Step_h_C2, G_cpu_Step_h_C3, G_cpu_Step_h_C4, G_cpu_Step_h_C5, G_ringref5_StepOf_h_C2, G_ringref5_StepOf_h_C3, G_ringref5_StepOf_h_C4, G_ringref5_StepOf_h_C5, G_ringref5_StepOf_h_C6, G_ringref5_StepOf_h_C7, G_ringref5_StepOf_h_C8, G_ringref5_StepOf_h_C9, h1, h2, c, hr]
      exact ⟨_, _, _, rfl, rfl, rok, h4, h5⟩
theorem st17 (D1 : G_code_Decode n v = some (⟨17, A, B, C⟩, 0)) (D2 : G_ringref5_DecodeOf n v = some (⟨17, A, B, C⟩, 0)) : StepIs n r m := by
  unfold StepIs
  obtain ⟨t, r', m', h1, h2, h3, h4, h5, h6⟩ := mem17 hn rok.nx ok hA hB ha hb a0 b0 (C := C)
  have h1 : G_cpu_memory_h n ⟨r.fR, wi .u32 (r.fPc + 4), r.fRing⟩ ⟨17, A, B, C⟩ ⟨m.fAt, m.fBytes, m.fMay⟩ = _ := h1
  have h2 : G_ringref5_move_h n ⟨r.fR, wi .u32 (r.fPc + 4), r.fRing⟩ ⟨17, A, B, C⟩ ⟨m.fAt, m.fBytes, m.fMay⟩ _ = _ := h2
  by_cases c : t.fKind = 0
  · have ht := h6 c
    subst ht
    by_cases hr : r.fRing = 0
    · rw [hr] at h1 h2; simp only [G_cpu_Step_h, G_ringref5_StepOf_h, F, W, D1, D2, G_cpu_Step_h_C1, G_ringref5_StepOf_h_C1, if_true, if_false, Option.bind_some, Int.reduceEq, reduceIte, Int.reduceLE, Int.reduceLT, ge_iff_le, gt_iff_lt, hA, hB, ha, hb, and_self, Int.reduceBEq, Int.reduceBNe, bne_self_eq_false, beq_self_eq_true, Bool.false_eq_true, G_cpu_Step_h_C2, G_cpu_Step_h_C3, G_cpu_Step_h_C4, G_cpu_Step_h_C5, G_ringref5_StepOf_h_C2, G_ringref5_StepOf_h_C3, G_ringref5_StepOf_h_C4, G_ringref5_StepOf_h_C5, G_ringref5_StepOf_h_C6, G_ringref5_StepOf_h_C7, G_ringref5_StepOf_h_C8, G_ringref5_StepOf_h_C9, h1, h2, hr]
      exact ⟨_, _, _, rfl, rfl, h3, h4, h5⟩
    · simp only [G_cpu_Step_h, G_ringref5_StepOf_h, F, W, D1, D2, G_cpu_Step_h_C1, G_ringref5_StepOf_h_C1, if_true, if_false, Option.bind_some, Int.reduceEq, reduceIte, Int.reduceLE, Int.reduceLT, ge_iff_le, gt_iff_lt, hA, hB, ha, hb, and_self, Int.reduceBEq, Int.reduceBNe, bne_self_eq_false, beq_self_eq_true, Bool.false_eq_true, G_cpu_Step_h_C2, G_cpu_Step_h_C3, G_cpu_Step_h_C4, G_cpu_Step_h_C5, G_ringref5_StepOf_h_C2, G_ringref5_StepOf_h_C3, G_ringref5_StepOf_h_C4, G_ringref5_StepOf_h_C5, G_ringref5_StepOf_h_C6, G_ringref5_StepOf_h_C7, G_ringref5_StepOf_h_C8, G_ringref5_StepOf_h_C9, h1, h2, hr]
      exact ⟨_, _, _, rfl, rfl, h3, h4, h5⟩
  · by_cases hr : r.fRing = 0
    · rw [hr] at h1 h2; simp only [G_cpu_Step_h, G_ringref5_StepOf_h, F, W, D1, D2, G_cpu_Step_h_C1, G_ringref5_StepOf_h_C1, if_true, if_false, Option.bind_some, Int.reduceEq, reduceIte, Int.reduceLE, Int.reduceLT, ge_iff_le, gt_iff_lt, hA, hB, ha, hb, and_self, Int.reduceBEq, Int.reduceBNe, bne_self_eq_false, beq_self_eq_true, Bool.false_eq_true, G_cpu_Step_h_C2, G_cpu_Step_h_C3, G_cpu_Step_h_C4, G_cpu_Step_h_C5, G_ringref5_StepOf_h_C2, G_ringref5_StepOf_h_C3, G_ringref5_StepOf_h_C4, G_ringref5_StepOf_h_C5, G_ringref5_StepOf_h_C6, G_ringref5_StepOf_h_C7, G_ringref5_StepOf_h_C8, G_ringref5_StepOf_h_C9, h1, h2, c, hr]
      exact ⟨_, _, _, rfl, rfl, rok, h4, h5⟩
    · simp only [G_cpu_Step_h, G_ringref5_StepOf_h, F, W, D1, D2, G_cpu_Step_h_C1, G_ringref5_StepOf_h_C1, if_true, if_false, Option.bind_some, Int.reduceEq, reduceIte, Int.reduceLE, Int.reduceLT, ge_iff_le, gt_iff_lt, hA, hB, ha, hb, and_self, Int.reduceBEq, Int.reduceBNe, bne_self_eq_false, beq_self_eq_true, Bool.false_eq_true, G_cpu_Step_h_C2, G_cpu_Step_h_C3, G_cpu_Step_h_C4, G_cpu_Step_h_C5, G_ringref5_StepOf_h_C2, G_ringref5_StepOf_h_C3, G_ringref5_StepOf_h_C4, G_ringref5_StepOf_h_C5, G_ringref5_StepOf_h_C6, G_ringref5_StepOf_h_C7, G_ringref5_StepOf_h_C8, G_ringref5_StepOf_h_C9, h1, h2, c, hr]
      exact ⟨_, _, _, rfl, rfl, rok, h4, h5⟩
theorem st18 (D1 : G_code_Decode n v = some (⟨18, A, B, C⟩, 0)) (D2 : G_ringref5_DecodeOf n v = some (⟨18, A, B, C⟩, 0)) : StepIs n r m := by
  unfold StepIs
  obtain ⟨t, r', m', h1, h2, h3, h4, h5, h6⟩ := mem18 hn rok.nx ok hA hB ha hb a0 b0 (C := C)
  have h1 : G_cpu_memory_h n ⟨r.fR, wi .u32 (r.fPc + 4), r.fRing⟩ ⟨18, A, B, C⟩ ⟨m.fAt, m.fBytes, m.fMay⟩ = _ := h1
  have h2 : G_ringref5_move_h n ⟨r.fR, wi .u32 (r.fPc + 4), r.fRing⟩ ⟨18, A, B, C⟩ ⟨m.fAt, m.fBytes, m.fMay⟩ _ = _ := h2
  by_cases c : t.fKind = 0
  · have ht := h6 c
    subst ht
    by_cases hr : r.fRing = 0
    · rw [hr] at h1 h2; simp only [G_cpu_Step_h, G_ringref5_StepOf_h, F, W, D1, D2, G_cpu_Step_h_C1, G_ringref5_StepOf_h_C1, if_true, if_false, Option.bind_some, Int.reduceEq, reduceIte, Int.reduceLE, Int.reduceLT, ge_iff_le, gt_iff_lt, hA, hB, ha, hb, and_self, Int.reduceBEq, Int.reduceBNe, bne_self_eq_false, beq_self_eq_true, Bool.false_eq_true, G_cpu_Step_h_C2, G_cpu_Step_h_C3, G_cpu_Step_h_C4, G_cpu_Step_h_C5, G_ringref5_StepOf_h_C2, G_ringref5_StepOf_h_C3, G_ringref5_StepOf_h_C4, G_ringref5_StepOf_h_C5, G_ringref5_StepOf_h_C6, G_ringref5_StepOf_h_C7, G_ringref5_StepOf_h_C8, G_ringref5_StepOf_h_C9, h1, h2, hr]
      exact ⟨_, _, _, rfl, rfl, h3, h4, h5⟩
    · simp only [G_cpu_Step_h, G_ringref5_StepOf_h, F, W, D1, D2, G_cpu_Step_h_C1, G_ringref5_StepOf_h_C1, if_true, if_false, Option.bind_some, Int.reduceEq, reduceIte, Int.reduceLE, Int.reduceLT, ge_iff_le, gt_iff_lt, hA, hB, ha, hb, and_self, Int.reduceBEq, Int.reduceBNe, bne_self_eq_false, beq_self_eq_true, Bool.false_eq_true, G_cpu_Step_h_C2, G_cpu_Step_h_C3, G_cpu_Step_h_C4, G_cpu_Step_h_C5, G_ringref5_StepOf_h_C2, G_ringref5_StepOf_h_C3, G_ringref5_StepOf_h_C4, G_ringref5_StepOf_h_C5, G_ringref5_StepOf_h_C6, G_ringref5_StepOf_h_C7, G_ringref5_StepOf_h_C8, G_ringref5_StepOf_h_C9, h1, h2, hr]
      exact ⟨_, _, _, rfl, rfl, h3, h4, h5⟩
  · by_cases hr : r.fRing = 0
    · rw [hr] at h1 h2; simp only [G_cpu_Step_h, G_ringref5_StepOf_h, F, W, D1, D2, G_cpu_Step_h_C1, G_ringref5_StepOf_h_C1, if_true, if_false, Option.bind_some, Int.reduceEq, reduceIte, Int.reduceLE, Int.reduceLT, ge_iff_le, gt_iff_lt, hA, hB, ha, hb, and_self, Int.reduceBEq, Int.reduceBNe, bne_self_eq_false, beq_self_eq_true, Bool.false_eq_true, G_cpu_Step_h_C2, G_cpu_Step_h_C3, G_cpu_Step_h_C4, G_cpu_Step_h_C5, G_ringref5_StepOf_h_C2, G_ringref5_StepOf_h_C3, G_ringref5_StepOf_h_C4, G_ringref5_StepOf_h_C5, G_ringref5_StepOf_h_C6, G_ringref5_StepOf_h_C7, G_ringref5_StepOf_h_C8, G_ringref5_StepOf_h_C9, h1, h2, c, hr]
      exact ⟨_, _, _, rfl, rfl, rok, h4, h5⟩
    · simp only [G_cpu_Step_h, G_ringref5_StepOf_h, F, W, D1, D2, G_cpu_Step_h_C1, G_ringref5_StepOf_h_C1, if_true, if_false, Option.bind_some, Int.reduceEq, reduceIte, Int.reduceLE, Int.reduceLT, ge_iff_le, gt_iff_lt, hA, hB, ha, hb, and_self, Int.reduceBEq, Int.reduceBNe, bne_self_eq_false, beq_self_eq_true, Bool.false_eq_true, G_cpu_Step_h_C2, G_cpu_Step_h_C3, G_cpu_Step_h_C4, G_cpu_Step_h_C5, G_ringref5_StepOf_h_C2, G_ringref5_StepOf_h_C3, G_ringref5_StepOf_h_C4, G_ringref5_StepOf_h_C5, G_ringref5_StepOf_h_C6, G_ringref5_StepOf_h_C7, G_ringref5_StepOf_h_C8, G_ringref5_StepOf_h_C9, h1, h2, c, hr]
      exact ⟨_, _, _, rfl, rfl, rok, h4, h5⟩
theorem st19 (D1 : G_code_Decode n v = some (⟨19, A, B, C⟩, 0)) (D2 : G_ringref5_DecodeOf n v = some (⟨19, A, B, C⟩, 0)) : StepIs n r m := by
  unfold StepIs
  by_cases hr : r.fRing = 0
  · simp only [G_cpu_Step_h, G_ringref5_StepOf_h, F, W, D1, D2, G_cpu_Step_h_C1, G_ringref5_StepOf_h_C1, if_true, if_false, Option.bind_some, Int.reduceEq, reduceIte, Int.reduceLE, Int.reduceLT, ge_iff_le, gt_iff_lt, hA, hB, ha, hb, and_self, Int.reduceBEq, Int.reduceBNe, bne_self_eq_false, beq_self_eq_true, Bool.false_eq_true, G_cpu_Step_h_C2, G_cpu_Step_h_C3, G_cpu_Step_h_C4, G_cpu_Step_h_C5, G_ringref5_StepOf_h_C2, G_ringref5_StepOf_h_C3, G_ringref5_StepOf_h_C4, G_ringref5_StepOf_h_C5, G_ringref5_StepOf_h_C6, G_ringref5_StepOf_h_C7, G_ringref5_StepOf_h_C8, G_ringref5_StepOf_h_C9, G_cpu_jump_h, G_cpu_jump_h_C1, G_cpu_jump_h_C2, G_cpu_other, G_cpu_other_C1, G_cpu_other_C2, hr]
    exact ⟨_, _, _, rfl, rfl, rok.to (w32r _), ok, rfl⟩
  · simp only [G_cpu_Step_h, G_ringref5_StepOf_h, F, W, D1, D2, G_cpu_Step_h_C1, G_ringref5_StepOf_h_C1, if_true, if_false, Option.bind_some, Int.reduceEq, reduceIte, Int.reduceLE, Int.reduceLT, ge_iff_le, gt_iff_lt, hA, hB, ha, hb, and_self, Int.reduceBEq, Int.reduceBNe, bne_self_eq_false, beq_self_eq_true, Bool.false_eq_true, G_cpu_Step_h_C2, G_cpu_Step_h_C3, G_cpu_Step_h_C4, G_cpu_Step_h_C5, G_ringref5_StepOf_h_C2, G_ringref5_StepOf_h_C3, G_ringref5_StepOf_h_C4, G_ringref5_StepOf_h_C5, G_ringref5_StepOf_h_C6, G_ringref5_StepOf_h_C7, G_ringref5_StepOf_h_C8, G_ringref5_StepOf_h_C9, G_cpu_jump_h, G_cpu_jump_h_C1, G_cpu_jump_h_C2, G_cpu_other, G_cpu_other_C1, G_cpu_other_C2, hr]
    exact ⟨_, _, _, rfl, rfl, rok.to (w32r _), ok, rfl⟩
theorem st20 (D1 : G_code_Decode n v = some (⟨20, A, B, C⟩, 0)) (D2 : G_ringref5_DecodeOf n v = some (⟨20, A, B, C⟩, 0)) : StepIs n r m := by
  unfold StepIs
  have hc : a = 0 ∨ ¬ a = 0 := by omega
  rcases hc with hc | hc
  · by_cases hr : r.fRing = 0
    · simp only [G_cpu_Step_h, G_ringref5_StepOf_h, F, W, D1, D2, G_cpu_Step_h_C1, G_ringref5_StepOf_h_C1, if_true, if_false, Option.bind_some, Int.reduceEq, reduceIte, Int.reduceLE, Int.reduceLT, ge_iff_le, gt_iff_lt, hA, hB, ha, hb, and_self, Int.reduceBEq, Int.reduceBNe, bne_self_eq_false, beq_self_eq_true, Bool.false_eq_true, G_cpu_Step_h_C2, G_cpu_Step_h_C3, G_cpu_Step_h_C4, G_cpu_Step_h_C5, G_ringref5_StepOf_h_C2, G_ringref5_StepOf_h_C3, G_ringref5_StepOf_h_C4, G_ringref5_StepOf_h_C5, G_ringref5_StepOf_h_C6, G_ringref5_StepOf_h_C7, G_ringref5_StepOf_h_C8, G_ringref5_StepOf_h_C9, G_cpu_jump_h, G_cpu_jump_h_C1, G_cpu_jump_h_C2, G_cpu_other, G_cpu_other_C1, G_cpu_other_C2, hc, hr]
      exact ⟨_, _, _, rfl, rfl, rok.to (w32r _), ok, rfl⟩
    · simp only [G_cpu_Step_h, G_ringref5_StepOf_h, F, W, D1, D2, G_cpu_Step_h_C1, G_ringref5_StepOf_h_C1, if_true, if_false, Option.bind_some, Int.reduceEq, reduceIte, Int.reduceLE, Int.reduceLT, ge_iff_le, gt_iff_lt, hA, hB, ha, hb, and_self, Int.reduceBEq, Int.reduceBNe, bne_self_eq_false, beq_self_eq_true, Bool.false_eq_true, G_cpu_Step_h_C2, G_cpu_Step_h_C3, G_cpu_Step_h_C4, G_cpu_Step_h_C5, G_ringref5_StepOf_h_C2, G_ringref5_StepOf_h_C3, G_ringref5_StepOf_h_C4, G_ringref5_StepOf_h_C5, G_ringref5_StepOf_h_C6, G_ringref5_StepOf_h_C7, G_ringref5_StepOf_h_C8, G_ringref5_StepOf_h_C9, G_cpu_jump_h, G_cpu_jump_h_C1, G_cpu_jump_h_C2, G_cpu_other, G_cpu_other_C1, G_cpu_other_C2, hc, hr]
      exact ⟨_, _, _, rfl, rfl, rok.to (w32r _), ok, rfl⟩
  · by_cases hr : r.fRing = 0
    · simp only [G_cpu_Step_h, G_ringref5_StepOf_h, F, W, D1, D2, G_cpu_Step_h_C1, G_ringref5_StepOf_h_C1, if_true, if_false, Option.bind_some, Int.reduceEq, reduceIte, Int.reduceLE, Int.reduceLT, ge_iff_le, gt_iff_lt, hA, hB, ha, hb, and_self, Int.reduceBEq, Int.reduceBNe, bne_self_eq_false, beq_self_eq_true, Bool.false_eq_true, G_cpu_Step_h_C2, G_cpu_Step_h_C3, G_cpu_Step_h_C4, G_cpu_Step_h_C5, G_ringref5_StepOf_h_C2, G_ringref5_StepOf_h_C3, G_ringref5_StepOf_h_C4, G_ringref5_StepOf_h_C5, G_ringref5_StepOf_h_C6, G_ringref5_StepOf_h_C7, G_ringref5_StepOf_h_C8, G_ringref5_StepOf_h_C9, G_cpu_jump_h, G_cpu_jump_h_C1, G_cpu_jump_h_C2, G_cpu_other, G_cpu_other_C1, G_cpu_other_C2, hc, hr]
      exact ⟨_, _, _, rfl, rfl, rok.to (w32r _), ok, rfl⟩
    · simp only [G_cpu_Step_h, G_ringref5_StepOf_h, F, W, D1, D2, G_cpu_Step_h_C1, G_ringref5_StepOf_h_C1, if_true, if_false, Option.bind_some, Int.reduceEq, reduceIte, Int.reduceLE, Int.reduceLT, ge_iff_le, gt_iff_lt, hA, hB, ha, hb, and_self, Int.reduceBEq, Int.reduceBNe, bne_self_eq_false, beq_self_eq_true, Bool.false_eq_true, G_cpu_Step_h_C2, G_cpu_Step_h_C3, G_cpu_Step_h_C4, G_cpu_Step_h_C5, G_ringref5_StepOf_h_C2, G_ringref5_StepOf_h_C3, G_ringref5_StepOf_h_C4, G_ringref5_StepOf_h_C5, G_ringref5_StepOf_h_C6, G_ringref5_StepOf_h_C7, G_ringref5_StepOf_h_C8, G_ringref5_StepOf_h_C9, G_cpu_jump_h, G_cpu_jump_h_C1, G_cpu_jump_h_C2, G_cpu_other, G_cpu_other_C1, G_cpu_other_C2, hc, hr]
      exact ⟨_, _, _, rfl, rfl, rok.to (w32r _), ok, rfl⟩
theorem st21 (D1 : G_code_Decode n v = some (⟨21, A, B, C⟩, 0)) (D2 : G_ringref5_DecodeOf n v = some (⟨21, A, B, C⟩, 0)) : StepIs n r m := by
  unfold StepIs
  have hc : decide (a < b) = true ∨ decide (a < b) = false := by cases decide (a < b) <;> simp
  rcases hc with hc | hc
  · by_cases hr : r.fRing = 0
    · simp only [G_cpu_Step_h, G_ringref5_StepOf_h, F, W, D1, D2, G_cpu_Step_h_C1, G_ringref5_StepOf_h_C1, if_true, if_false, Option.bind_some, Int.reduceEq, reduceIte, Int.reduceLE, Int.reduceLT, ge_iff_le, gt_iff_lt, hA, hB, ha, hb, and_self, Int.reduceBEq, Int.reduceBNe, bne_self_eq_false, beq_self_eq_true, Bool.false_eq_true, G_cpu_Step_h_C2, G_cpu_Step_h_C3, G_cpu_Step_h_C4, G_cpu_Step_h_C5, G_ringref5_StepOf_h_C2, G_ringref5_StepOf_h_C3, G_ringref5_StepOf_h_C4, G_ringref5_StepOf_h_C5, G_ringref5_StepOf_h_C6, G_ringref5_StepOf_h_C7, G_ringref5_StepOf_h_C8, G_ringref5_StepOf_h_C9, G_cpu_jump_h, G_cpu_jump_h_C1, G_cpu_jump_h_C2, G_cpu_other, G_cpu_other_C1, G_cpu_other_C2, hc, hr]
      exact ⟨_, _, _, rfl, rfl, rok.to (w32r _), ok, rfl⟩
    · simp only [G_cpu_Step_h, G_ringref5_StepOf_h, F, W, D1, D2, G_cpu_Step_h_C1, G_ringref5_StepOf_h_C1, if_true, if_false, Option.bind_some, Int.reduceEq, reduceIte, Int.reduceLE, Int.reduceLT, ge_iff_le, gt_iff_lt, hA, hB, ha, hb, and_self, Int.reduceBEq, Int.reduceBNe, bne_self_eq_false, beq_self_eq_true, Bool.false_eq_true, G_cpu_Step_h_C2, G_cpu_Step_h_C3, G_cpu_Step_h_C4, G_cpu_Step_h_C5, G_ringref5_StepOf_h_C2, G_ringref5_StepOf_h_C3, G_ringref5_StepOf_h_C4, G_ringref5_StepOf_h_C5, G_ringref5_StepOf_h_C6, G_ringref5_StepOf_h_C7, G_ringref5_StepOf_h_C8, G_ringref5_StepOf_h_C9, G_cpu_jump_h, G_cpu_jump_h_C1, G_cpu_jump_h_C2, G_cpu_other, G_cpu_other_C1, G_cpu_other_C2, hc, hr]
      exact ⟨_, _, _, rfl, rfl, rok.to (w32r _), ok, rfl⟩
  · by_cases hr : r.fRing = 0
    · simp only [G_cpu_Step_h, G_ringref5_StepOf_h, F, W, D1, D2, G_cpu_Step_h_C1, G_ringref5_StepOf_h_C1, if_true, if_false, Option.bind_some, Int.reduceEq, reduceIte, Int.reduceLE, Int.reduceLT, ge_iff_le, gt_iff_lt, hA, hB, ha, hb, and_self, Int.reduceBEq, Int.reduceBNe, bne_self_eq_false, beq_self_eq_true, Bool.false_eq_true, G_cpu_Step_h_C2, G_cpu_Step_h_C3, G_cpu_Step_h_C4, G_cpu_Step_h_C5, G_ringref5_StepOf_h_C2, G_ringref5_StepOf_h_C3, G_ringref5_StepOf_h_C4, G_ringref5_StepOf_h_C5, G_ringref5_StepOf_h_C6, G_ringref5_StepOf_h_C7, G_ringref5_StepOf_h_C8, G_ringref5_StepOf_h_C9, G_cpu_jump_h, G_cpu_jump_h_C1, G_cpu_jump_h_C2, G_cpu_other, G_cpu_other_C1, G_cpu_other_C2, hc, hr]
      exact ⟨_, _, _, rfl, rfl, rok.to (w32r _), ok, rfl⟩
    · simp only [G_cpu_Step_h, G_ringref5_StepOf_h, F, W, D1, D2, G_cpu_Step_h_C1, G_ringref5_StepOf_h_C1, if_true, if_false, Option.bind_some, Int.reduceEq, reduceIte, Int.reduceLE, Int.reduceLT, ge_iff_le, gt_iff_lt, hA, hB, ha, hb, and_self, Int.reduceBEq, Int.reduceBNe, bne_self_eq_false, beq_self_eq_true, Bool.false_eq_true, G_cpu_Step_h_C2, G_cpu_Step_h_C3, G_cpu_Step_h_C4, G_cpu_Step_h_C5, G_ringref5_StepOf_h_C2, G_ringref5_StepOf_h_C3, G_ringref5_StepOf_h_C4, G_ringref5_StepOf_h_C5, G_ringref5_StepOf_h_C6, G_ringref5_StepOf_h_C7, G_ringref5_StepOf_h_C8, G_ringref5_StepOf_h_C9, G_cpu_jump_h, G_cpu_jump_h_C1, G_cpu_jump_h_C2, G_cpu_other, G_cpu_other_C1, G_cpu_other_C2, hc, hr]
      exact ⟨_, _, _, rfl, rfl, rok.to (w32r _), ok, rfl⟩
theorem st22 (D1 : G_code_Decode n v = some (⟨22, A, B, C⟩, 0)) (D2 : G_ringref5_DecodeOf n v = some (⟨22, A, B, C⟩, 0)) : StepIs n r m := by
  unfold StepIs
  by_cases hr : r.fRing = 0
  · simp only [G_cpu_Step_h, G_ringref5_StepOf_h, F, W, D1, D2, G_cpu_Step_h_C1, G_ringref5_StepOf_h_C1, if_true, if_false, Option.bind_some, Int.reduceEq, reduceIte, Int.reduceLE, Int.reduceLT, ge_iff_le, gt_iff_lt, hA, hB, ha, hb, and_self, Int.reduceBEq, Int.reduceBNe, bne_self_eq_false, beq_self_eq_true, Bool.false_eq_true, G_cpu_Step_h_C2, G_cpu_Step_h_C3, G_cpu_Step_h_C4, G_cpu_Step_h_C5, G_ringref5_StepOf_h_C2, G_ringref5_StepOf_h_C3, G_ringref5_StepOf_h_C4, G_ringref5_StepOf_h_C5, G_ringref5_StepOf_h_C6, G_ringref5_StepOf_h_C7, G_ringref5_StepOf_h_C8, G_ringref5_StepOf_h_C9, G_cpu_jump_h, G_cpu_jump_h_C1, G_cpu_jump_h_C2, G_cpu_other, G_cpu_other_C1, G_cpu_other_C2, hr]
    exact ⟨_, _, _, rfl, rfl, rok.set (w32r _) (w32r _), ok, rfl⟩
  · simp only [G_cpu_Step_h, G_ringref5_StepOf_h, F, W, D1, D2, G_cpu_Step_h_C1, G_ringref5_StepOf_h_C1, if_true, if_false, Option.bind_some, Int.reduceEq, reduceIte, Int.reduceLE, Int.reduceLT, ge_iff_le, gt_iff_lt, hA, hB, ha, hb, and_self, Int.reduceBEq, Int.reduceBNe, bne_self_eq_false, beq_self_eq_true, Bool.false_eq_true, G_cpu_Step_h_C2, G_cpu_Step_h_C3, G_cpu_Step_h_C4, G_cpu_Step_h_C5, G_ringref5_StepOf_h_C2, G_ringref5_StepOf_h_C3, G_ringref5_StepOf_h_C4, G_ringref5_StepOf_h_C5, G_ringref5_StepOf_h_C6, G_ringref5_StepOf_h_C7, G_ringref5_StepOf_h_C8, G_ringref5_StepOf_h_C9, G_cpu_jump_h, G_cpu_jump_h_C1, G_cpu_jump_h_C2, G_cpu_other, G_cpu_other_C1, G_cpu_other_C2, hr]
    exact ⟨_, _, _, rfl, rfl, rok.set (w32r _) (w32r _), ok, rfl⟩
theorem st23 (D1 : G_code_Decode n v = some (⟨23, A, B, C⟩, 0)) (D2 : G_ringref5_DecodeOf n v = some (⟨23, A, B, C⟩, 0)) : StepIs n r m := by
  unfold StepIs
  by_cases hr : r.fRing = 0
  · simp only [G_cpu_Step_h, G_ringref5_StepOf_h, F, W, D1, D2, G_cpu_Step_h_C1, G_ringref5_StepOf_h_C1, if_true, if_false, Option.bind_some, Int.reduceEq, reduceIte, Int.reduceLE, Int.reduceLT, ge_iff_le, gt_iff_lt, hA, hB, ha, hb, and_self, Int.reduceBEq, Int.reduceBNe, bne_self_eq_false, beq_self_eq_true, Bool.false_eq_true, G_cpu_Step_h_C2, G_cpu_Step_h_C3, G_cpu_Step_h_C4, G_cpu_Step_h_C5, G_ringref5_StepOf_h_C2, G_ringref5_StepOf_h_C3, G_ringref5_StepOf_h_C4, G_ringref5_StepOf_h_C5, G_ringref5_StepOf_h_C6, G_ringref5_StepOf_h_C7, G_ringref5_StepOf_h_C8, G_ringref5_StepOf_h_C9, G_cpu_jump_h, G_cpu_jump_h_C1, G_cpu_jump_h_C2, G_cpu_other, G_cpu_other_C1, G_cpu_other_C2, hr]
    exact ⟨_, _, _, rfl, rfl, rok.to a0, ok, rfl⟩
  · simp only [G_cpu_Step_h, G_ringref5_StepOf_h, F, W, D1, D2, G_cpu_Step_h_C1, G_ringref5_StepOf_h_C1, if_true, if_false, Option.bind_some, Int.reduceEq, reduceIte, Int.reduceLE, Int.reduceLT, ge_iff_le, gt_iff_lt, hA, hB, ha, hb, and_self, Int.reduceBEq, Int.reduceBNe, bne_self_eq_false, beq_self_eq_true, Bool.false_eq_true, G_cpu_Step_h_C2, G_cpu_Step_h_C3, G_cpu_Step_h_C4, G_cpu_Step_h_C5, G_ringref5_StepOf_h_C2, G_ringref5_StepOf_h_C3, G_ringref5_StepOf_h_C4, G_ringref5_StepOf_h_C5, G_ringref5_StepOf_h_C6, G_ringref5_StepOf_h_C7, G_ringref5_StepOf_h_C8, G_ringref5_StepOf_h_C9, G_cpu_jump_h, G_cpu_jump_h_C1, G_cpu_jump_h_C2, G_cpu_other, G_cpu_other_C1, G_cpu_other_C2, hr]
    exact ⟨_, _, _, rfl, rfl, rok.to a0, ok, rfl⟩
theorem st24 (D1 : G_code_Decode n v = some (⟨24, A, B, C⟩, 0)) (D2 : G_ringref5_DecodeOf n v = some (⟨24, A, B, C⟩, 0)) : StepIs n r m := by
  unfold StepIs
  by_cases hr : r.fRing = 0
  · simp only [G_cpu_Step_h, G_ringref5_StepOf_h, F, W, D1, D2, G_cpu_Step_h_C1, G_ringref5_StepOf_h_C1, if_true, if_false, Option.bind_some, Int.reduceEq, reduceIte, Int.reduceLE, Int.reduceLT, ge_iff_le, gt_iff_lt, hA, hB, ha, hb, and_self, Int.reduceBEq, Int.reduceBNe, bne_self_eq_false, beq_self_eq_true, Bool.false_eq_true, G_cpu_Step_h_C2, G_cpu_Step_h_C3, G_cpu_Step_h_C4, G_cpu_Step_h_C5, G_ringref5_StepOf_h_C2, G_ringref5_StepOf_h_C3, G_ringref5_StepOf_h_C4, G_ringref5_StepOf_h_C5, G_ringref5_StepOf_h_C6, G_ringref5_StepOf_h_C7, G_ringref5_StepOf_h_C8, G_ringref5_StepOf_h_C9, G_cpu_jump_h, G_cpu_jump_h_C1, G_cpu_jump_h_C2, G_cpu_other, G_cpu_other_C1, G_cpu_other_C2, hr]
    exact ⟨_, _, _, rfl, rfl, rok.to (w32r _), ok, rfl⟩
  · simp only [G_cpu_Step_h, G_ringref5_StepOf_h, F, W, D1, D2, G_cpu_Step_h_C1, G_ringref5_StepOf_h_C1, if_true, if_false, Option.bind_some, Int.reduceEq, reduceIte, Int.reduceLE, Int.reduceLT, ge_iff_le, gt_iff_lt, hA, hB, ha, hb, and_self, Int.reduceBEq, Int.reduceBNe, bne_self_eq_false, beq_self_eq_true, Bool.false_eq_true, G_cpu_Step_h_C2, G_cpu_Step_h_C3, G_cpu_Step_h_C4, G_cpu_Step_h_C5, G_ringref5_StepOf_h_C2, G_ringref5_StepOf_h_C3, G_ringref5_StepOf_h_C4, G_ringref5_StepOf_h_C5, G_ringref5_StepOf_h_C6, G_ringref5_StepOf_h_C7, G_ringref5_StepOf_h_C8, G_ringref5_StepOf_h_C9, G_cpu_jump_h, G_cpu_jump_h_C1, G_cpu_jump_h_C2, G_cpu_other, G_cpu_other_C1, G_cpu_other_C2, hr]
    exact ⟨_, _, _, rfl, rfl, rok.to (w32r _), ok, rfl⟩
theorem st25 (D1 : G_code_Decode n v = some (⟨25, A, B, C⟩, 0)) (D2 : G_ringref5_DecodeOf n v = some (⟨25, A, B, C⟩, 0)) : StepIs n r m := by
  unfold StepIs
  obtain ⟨t, r', m', h1, h2, h3, h4, h5, h6⟩ := mem25 hn rok.nx ok hA hB ha hb a0 b0 (C := C)
  have h1 : G_cpu_memory_h n ⟨r.fR, wi .u32 (r.fPc + 4), r.fRing⟩ ⟨25, A, B, C⟩ ⟨m.fAt, m.fBytes, m.fMay⟩ = _ := h1
  have h2 : G_ringref5_move_h n ⟨r.fR, wi .u32 (r.fPc + 4), r.fRing⟩ ⟨25, A, B, C⟩ ⟨m.fAt, m.fBytes, m.fMay⟩ _ = _ := h2
  by_cases c : t.fKind = 0
  · have ht := h6 c
    subst ht
    by_cases hr : r.fRing = 0
    · rw [hr] at h1 h2; simp only [G_cpu_Step_h, G_ringref5_StepOf_h, F, W, D1, D2, G_cpu_Step_h_C1, G_ringref5_StepOf_h_C1, if_true, if_false, Option.bind_some, Int.reduceEq, reduceIte, Int.reduceLE, Int.reduceLT, ge_iff_le, gt_iff_lt, hA, hB, ha, hb, and_self, Int.reduceBEq, Int.reduceBNe, bne_self_eq_false, beq_self_eq_true, Bool.false_eq_true, G_cpu_Step_h_C2, G_cpu_Step_h_C3, G_cpu_Step_h_C4, G_cpu_Step_h_C5, G_ringref5_StepOf_h_C2, G_ringref5_StepOf_h_C3, G_ringref5_StepOf_h_C4, G_ringref5_StepOf_h_C5, G_ringref5_StepOf_h_C6, G_ringref5_StepOf_h_C7, G_ringref5_StepOf_h_C8, G_ringref5_StepOf_h_C9, h1, h2, hr]
      exact ⟨_, _, _, rfl, rfl, h3, h4, h5⟩
    · simp only [G_cpu_Step_h, G_ringref5_StepOf_h, F, W, D1, D2, G_cpu_Step_h_C1, G_ringref5_StepOf_h_C1, if_true, if_false, Option.bind_some, Int.reduceEq, reduceIte, Int.reduceLE, Int.reduceLT, ge_iff_le, gt_iff_lt, hA, hB, ha, hb, and_self, Int.reduceBEq, Int.reduceBNe, bne_self_eq_false, beq_self_eq_true, Bool.false_eq_true, G_cpu_Step_h_C2, G_cpu_Step_h_C3, G_cpu_Step_h_C4, G_cpu_Step_h_C5, G_ringref5_StepOf_h_C2, G_ringref5_StepOf_h_C3, G_ringref5_StepOf_h_C4, G_ringref5_StepOf_h_C5, G_ringref5_StepOf_h_C6, G_ringref5_StepOf_h_C7, G_ringref5_StepOf_h_C8, G_ringref5_StepOf_h_C9, h1, h2, hr]
      exact ⟨_, _, _, rfl, rfl, h3, h4, h5⟩
  · by_cases hr : r.fRing = 0
    · rw [hr] at h1 h2; simp only [G_cpu_Step_h, G_ringref5_StepOf_h, F, W, D1, D2, G_cpu_Step_h_C1, G_ringref5_StepOf_h_C1, if_true, if_false, Option.bind_some, Int.reduceEq, reduceIte, Int.reduceLE, Int.reduceLT, ge_iff_le, gt_iff_lt, hA, hB, ha, hb, and_self, Int.reduceBEq, Int.reduceBNe, bne_self_eq_false, beq_self_eq_true, Bool.false_eq_true, G_cpu_Step_h_C2, G_cpu_Step_h_C3, G_cpu_Step_h_C4, G_cpu_Step_h_C5, G_ringref5_StepOf_h_C2, G_ringref5_StepOf_h_C3, G_ringref5_StepOf_h_C4, G_ringref5_StepOf_h_C5, G_ringref5_StepOf_h_C6, G_ringref5_StepOf_h_C7, G_ringref5_StepOf_h_C8, G_ringref5_StepOf_h_C9, h1, h2, c, hr]
      exact ⟨_, _, _, rfl, rfl, rok, h4, h5⟩
    · simp only [G_cpu_Step_h, G_ringref5_StepOf_h, F, W, D1, D2, G_cpu_Step_h_C1, G_ringref5_StepOf_h_C1, if_true, if_false, Option.bind_some, Int.reduceEq, reduceIte, Int.reduceLE, Int.reduceLT, ge_iff_le, gt_iff_lt, hA, hB, ha, hb, and_self, Int.reduceBEq, Int.reduceBNe, bne_self_eq_false, beq_self_eq_true, Bool.false_eq_true, G_cpu_Step_h_C2, G_cpu_Step_h_C3, G_cpu_Step_h_C4, G_cpu_Step_h_C5, G_ringref5_StepOf_h_C2, G_ringref5_StepOf_h_C3, G_ringref5_StepOf_h_C4, G_ringref5_StepOf_h_C5, G_ringref5_StepOf_h_C6, G_ringref5_StepOf_h_C7, G_ringref5_StepOf_h_C8, G_ringref5_StepOf_h_C9, h1, h2, c, hr]
      exact ⟨_, _, _, rfl, rfl, rok, h4, h5⟩
theorem st26 (D1 : G_code_Decode n v = some (⟨26, A, B, C⟩, 0)) (D2 : G_ringref5_DecodeOf n v = some (⟨26, A, B, C⟩, 0)) : StepIs n r m := by
  unfold StepIs
  by_cases hr : r.fRing = 0
  · have hr2 : (r.fRing != 0) = false := by rw [hr]; rfl
    simp only [G_cpu_Step_h, G_ringref5_StepOf_h, F, W, D1, D2, G_cpu_Step_h_C1, G_ringref5_StepOf_h_C1, if_true, if_false, Option.bind_some, Int.reduceEq, reduceIte, Int.reduceLE, Int.reduceLT, ge_iff_le, gt_iff_lt, hA, hB, ha, hb, and_self, Int.reduceBEq, Int.reduceBNe, bne_self_eq_false, beq_self_eq_true, Bool.false_eq_true, G_cpu_Step_h_C2, G_cpu_Step_h_C3, G_cpu_Step_h_C4, G_cpu_Step_h_C5, G_ringref5_StepOf_h_C2, G_ringref5_StepOf_h_C3, G_ringref5_StepOf_h_C4, G_ringref5_StepOf_h_C5, G_ringref5_StepOf_h_C6, G_ringref5_StepOf_h_C7, G_ringref5_StepOf_h_C8, G_ringref5_StepOf_h_C9, G_cpu_jump_h, G_cpu_jump_h_C1, G_cpu_jump_h_C2, G_cpu_other, G_cpu_other_C1, G_cpu_other_C2, hr, hr2]
    exact ⟨_, _, _, rfl, rfl, rok.to a0, ok, rfl⟩
  · have hr2 : (r.fRing != 0) = true := by simpa using hr
    simp only [G_cpu_Step_h, G_ringref5_StepOf_h, F, W, D1, D2, G_cpu_Step_h_C1, G_ringref5_StepOf_h_C1, if_true, if_false, Option.bind_some, Int.reduceEq, reduceIte, Int.reduceLE, Int.reduceLT, ge_iff_le, gt_iff_lt, hA, hB, ha, hb, and_self, Int.reduceBEq, Int.reduceBNe, bne_self_eq_false, beq_self_eq_true, Bool.false_eq_true, hr, hr2]
    exact ⟨_, _, _, rfl, rfl, rok, ok, rfl⟩
end
theorem step {n : Nat} (hn : 100 ≤ n) {r : S_api_Regs} (rok : RegsOk r) {m : S_ringref5_Room} (ok : RoomOk m) : StepIs n r m := by
  have F := fetch (want := 4) ok hn rok.p.1
  have W := word (want := 4) ok hn rok.p.1
  rcases hf : fw m r.fPc 4 with ⟨v, _ | t⟩
  · simp only [hf] at F W
    have hv := fw_range ok hf
    have D1 := dec_code n hv.1 hv.2
    have D2 := dec_ref n hv.1 hv.2
    rcases hd : dec v with ⟨⟨O, A, B, C⟩, e⟩
    rw [hd] at D1 D2
    by_cases he : e = 0
    · subst he
      obtain ⟨o0, o1, A0, A1, B0, B1, _, _⟩ := dec_in hd
      simp only [] at o0 o1 A0 A1 B0 B1
      obtain ⟨a, ha, a0⟩ := getA_r rok A0 A1
      obtain ⟨b, hb, b0⟩ := getA_r rok B0 B1
      have hO : O = 1 ∨ O = 2 ∨ O = 3 ∨ O = 4 ∨ O = 5 ∨ O = 6 ∨ O = 7 ∨ O = 8 ∨ O = 9 ∨ O = 10 ∨ O = 11 ∨ O = 12 ∨ O = 13 ∨ O = 14 ∨ O = 15 ∨ O = 16 ∨ O = 17 ∨ O = 18 ∨ O = 19 ∨ O = 20 ∨ O = 21 ∨ O = 22 ∨ O = 23 ∨ O = 24 ∨ O = 25 ∨ O = 26 := by omega
      rcases hO with rfl | rfl | rfl | rfl | rfl | rfl | rfl | rfl | rfl | rfl | rfl | rfl | rfl | rfl | rfl | rfl | rfl | rfl | rfl | rfl | rfl | rfl | rfl | rfl | rfl | rfl
      · exact st1 hn rok ok (by omega) (by omega) ha hb a0 b0 F W D1 D2
      · exact st2 hn rok ok (by omega) (by omega) ha hb a0 b0 F W D1 D2
      · exact st3 hn rok ok (by omega) (by omega) ha hb a0 b0 F W D1 D2
      · exact st4 hn rok ok (by omega) (by omega) ha hb a0 b0 F W D1 D2
      · exact st5 hn rok ok (by omega) (by omega) ha hb a0 b0 F W D1 D2
      · exact st6 hn rok ok (by omega) (by omega) ha hb a0 b0 F W D1 D2
      · exact st7 hn rok ok (by omega) (by omega) ha hb a0 b0 F W D1 D2
      · exact st8 hn rok ok (by omega) (by omega) ha hb a0 b0 F W D1 D2
      · exact st9 hn rok ok (by omega) (by omega) ha hb a0 b0 F W D1 D2
      · exact st10 hn rok ok (by omega) (by omega) ha hb a0 b0 F W D1 D2
      · exact st11 hn rok ok (by omega) (by omega) ha hb a0 b0 F W D1 D2
      · exact st12 hn rok ok (by omega) (by omega) ha hb a0 b0 F W D1 D2
      · exact st13 hn rok ok (by omega) (by omega) ha hb a0 b0 F W D1 D2
      · exact st14 hn rok ok (by omega) (by omega) ha hb a0 b0 F W D1 D2
      · exact st15 hn rok ok (by omega) (by omega) ha hb a0 b0 F W D1 D2
      · exact st16 hn rok ok (by omega) (by omega) ha hb a0 b0 F W D1 D2
      · exact st17 hn rok ok (by omega) (by omega) ha hb a0 b0 F W D1 D2
      · exact st18 hn rok ok (by omega) (by omega) ha hb a0 b0 F W D1 D2
      · exact st19 hn rok ok (by omega) (by omega) ha hb a0 b0 F W D1 D2
      · exact st20 hn rok ok (by omega) (by omega) ha hb a0 b0 F W D1 D2
      · exact st21 hn rok ok (by omega) (by omega) ha hb a0 b0 F W D1 D2
      · exact st22 hn rok ok (by omega) (by omega) ha hb a0 b0 F W D1 D2
      · exact st23 hn rok ok (by omega) (by omega) ha hb a0 b0 F W D1 D2
      · exact st24 hn rok ok (by omega) (by omega) ha hb a0 b0 F W D1 D2
      · exact st25 hn rok ok (by omega) (by omega) ha hb a0 b0 F W D1 D2
      · exact st26 hn rok ok (by omega) (by omega) ha hb a0 b0 F W D1 D2
    · unfold StepIs
      simp only [G_cpu_Step_h, G_ringref5_StepOf_h, F, W, D1, D2, G_cpu_Step_h_C1, G_ringref5_StepOf_h_C1, he, if_true, if_false, Option.bind_some]
      exact ⟨_, _, _, rfl, rfl, rok, ok, rfl⟩
  · have hk := fw_kind hf
    have h2 : ¬ t.fKind = 0 := by omega
    simp only [hf] at F W
    unfold StepIs
    simp only [G_cpu_Step_h, G_ringref5_StepOf_h, F, W, h2, if_false, Option.bind_some]
    exact ⟨_, _, _, rfl, rfl, rok, ok, rfl⟩
end Go.Proofs.Ytdkfkpoenbenmaa.cpuSteps
