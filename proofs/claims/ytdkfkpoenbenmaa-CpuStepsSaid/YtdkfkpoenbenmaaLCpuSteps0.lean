/- The plain law of CpuSteps: all of it. -/
import Derived.Test.YtdkfkpoenbenmaaLCpu5
import Derived.Test.YtdkfkpoenbenmaaLib
namespace Go.Proofs.Ytdkfkpoenbenmaa.cpuSteps
open Go.RowKit help pv
set_option linter.all false
set_option maxRecDepth 100000

theorem eqL {n : Nat} {l : List Int} (hl : l.length < 4611686018427387903) : ∀ (k i : Nat), l.length - i < k → i ≤ l.length → G_slices_Equal_byte_byte_L1 n l l k (i : Int) = some .x1
  | 0, i, h, _ => by omega
  | k + 1, i, hk, hi => by
    rw [G_slices_Equal_byte_byte_L1]
    by_cases hlt : (i : Int) < (l.length : Int)
    · obtain ⟨x, hx⟩ := get_lt hlt
      rw [if_pos hlt, getI_nat, hx, Option.bind_some, Option.bind_some, if_pos rfl, wi_succ (by omega)]
      exact eqL hl k (i + 1) (by omega) (by omega)
    · rw [if_neg hlt]
theorem eq_same {n : Nat} {l : List Int} (hl : l.length < 4611686018427387903) (hn : l.length < n) : G_slices_Equal_byte_byte n l l = some true := by
  unfold G_slices_Equal_byte_byte
  have e : G_slices_Equal_byte_byte_L1 n l l n 0 = _ := eqL (n := n) hl n 0 (by omega) (by omega)
  rw [if_pos rfl, e, Option.bind_some]
theorem neqRegs (r : S_api_Regs) : eqRes .neq (eqS_api_Regs r r) = false := by
  have : eqS_api_Regs r r = true := by simp [eqS_api_Regs]
  rw [this]; rfl
theorem neqTrap (r : S_api_Trap) : eqRes .neq (eqS_api_Trap r r) = false := by
  have : eqS_api_Trap r r = true := by simp [eqS_api_Trap]
  rw [this]; rfl
theorem loop {n c : Nat} (hc : c ≤ 40) (hn : 100 ≤ n) : ∀ (k i : Nat) (r : S_api_Regs) (m : S_ringref5_Room), RegsOk r → RoomOk m → m.fBytes.length < n → c - i < k → i ≤ c →
    G_ringlaw5_CpuSteps_L3 n (c : Int) k (i : Int) m.fAt m.fMay m.fBytes m.fAt m.fMay m.fBytes r r = some .x1
  | 0, i, _, _, _, _, _, h, _ => by omega
  | k + 1, i, r, m, rok, ok, hl, hk, hi => by
    rw [G_ringlaw5_CpuSteps_L3]
    by_cases hlt : (i : Int) < (c : Int)
    · obtain ⟨r', t, m', h1, h2, h3, h4, h5⟩ := step hn rok ok
      have h1 : G_cpu_Step_h n r ⟨m.fAt, m.fBytes, m.fMay⟩ = _ := h1
      have h2 : G_ringref5_StepOf_h n r ⟨m.fAt, m.fBytes, m.fMay⟩ = _ := h2
      rw [if_pos hlt, h1, Option.bind_some, h2, Option.bind_some]
      unfold G_ringlaw5_CpuSteps_C2
      simp only [neqRegs, neqTrap, eq_same h4.l (show m'.fBytes.length < n by omega), Option.bind_some, Bool.false_eq_true, if_false, Bool.not_true]
      rw [wi_succ (by omega)]
      by_cases hq : t.fKind > 1
      · rw [if_pos hq]
        exact loop hc hn k (i + 1) ⟨r'.fR, wi .u32 (r'.fPc + 4), r'.fRing⟩ m' h3.nx h4 (by omega) (by omega) (by omega)
      · rw [if_neg hq]
        exact loop hc hn k (i + 1) r' m' h3 h4 (by omega) (by omega) (by omega)
    · rw [if_neg hlt]
def m0 : S_ringref5_Room := ⟨0, [254, 255, 16, 2], 4⟩
def r0 : S_api_Regs := ⟨fun _ => 0, 0, 1⟩
theorem m0ok : RoomOk m0 := ⟨by decide, by decide⟩
theorem fw0 : fw m0 0 4 = (34668542, none) := by kernel_rfl
theorem dec0 : dec 34668542 = (⟨2, 1, 0, -2⟩, 0) := by
  have h : (enc (ins 34668542)).2 = 0 := by decide +kernel
  unfold dec
  rw [if_pos h]
  have h2 : (ins 34668542).fOp = 2 ∧ (ins 34668542).fA = 1 ∧ (ins 34668542).fB = 0 ∧ (ins 34668542).fC = -2 := by decide +kernel
  obtain ⟨x1, x2, x3, x4⟩ := h2
  rcases hi : ins 34668542 with ⟨a, b, c, d⟩
  rw [hi] at x1 x2 x3 x4
  simp only [] at x1 x2 x3 x4
  rw [x1, x2, x3, x4]
theorem cpus0 {n : Nat} (hn : 100 ≤ n) : G_ringlaw5_cpus n = some true := by
  have F := fetch (n := n) (m := m0) (at_ := 0) (want := 4) m0ok hn (by decide)
  rw [fw0] at F
  simp only [] at F
  have D1 := dec_code n (w := 34668542) (by decide) (by decide)
  rw [dec0] at D1
  have g1 : getA r0.fR 1 = some 0 := rfl
  have hS : G_cpu_Step_h n r0 m0 = some (⟨setA r0.fR 1 (wi .u32 (-2)), wi .u32 (0 + 4), 1⟩, ⟨0, 0⟩, m0) := by
    unfold G_cpu_Step_h
    have F : G_cpu_fetch_h n m0 r0.fPc 4 = _ := F
    rw [F, Option.bind_some]
    simp only [D1, G_cpu_Step_h_C1, G_cpu_Step_h_C5, G_cpu_Step_h_C4, G_cpu_other, G_cpu_other_C1, G_cpu_other_C2, if_true, if_false, Option.bind_some, Int.reduceEq, reduceIte, Int.reduceLE, Int.reduceLT, ge_iff_le, Int.reduceBEq, Bool.false_eq_true, and_self, g1]
    rfl
  unfold G_ringlaw5_cpus
  have hS : G_cpu_Step_h n ⟨fun (_ : Fin 8) => 0, 0, 1⟩ ⟨0, [254, 255, 16, 2], 4⟩ = _ := hS
  rw [hS, Option.bind_some]
  unfold G_ringlaw5_cpus_C1
  have e1 : eqRes .eql (eqS_api_Trap ⟨0, 0⟩ ⟨0, 0⟩) = true := rfl
  have e2 : setA r0.fR 1 (wi .u32 (-2)) 1 = 4294967294 := by
    have : setA r0.fR 1 (wi .u32 (-2)) 1 = wi .u32 (-2) := rfl
    rw [this, w32]; rfl
  have e3 : (wi .u32 (0 + 4) == 4) = true := by rw [w32]; rfl
  simp only [e1, e2, e3, if_true, Option.bind_some]
theorem rest {n : Nat} (x : Int) (h0 : -9223372036854775808 ≤ x) : ∃ c : Nat, c ≤ 40 ∧ G_ringref5_Rest n x 41 = some (c : Int) := by
  unfold G_ringref5_Rest
  rw [if_pos (by decide)]
  have hr : -40 ≤ remI x 41 ∧ remI x 41 ≤ 40 := by
    unfold remI
    have h1 := Int.lt_tmod_of_pos x (show (0 : Int) < 41 by decide)
    have h2 := Int.tmod_lt_of_pos x (show (0 : Int) < 41 by decide)
    omega
  by_cases h : remI x 41 < 0
  · rw [if_pos h, wi64 (by omega) (by omega)]
    exact ⟨(remI x 41 + 41).toNat, by omega, by congr 1; omega⟩
  · rw [if_neg h]
    exact ⟨(remI x 41).toNat, by omega, by congr 1; omega⟩
theorem law (r : S_api_Regs) (m : S_ringref5_Room) (x : Int) (h0 : okS_api_Regs r) (h1 : okS_ringref5_Room m) (h2 : (Lit.int .i64 x).wf = true) : ∃ n, G_ringlaw5_CpuSteps n r m x = some true := by
  have rok : RegsOk r := by
    obtain ⟨a1, a2, a3⟩ := h0
    refine ⟨fun i => ?_, ?_⟩
    · have := a1 i
      simp [Lit.wf, IntKind.min, IntKind.max, IntKind.signed, IntKind.bits] at this
      omega
    · simp [Lit.wf, IntKind.min, IntKind.max, IntKind.signed, IntKind.bits] at a2
      omega
  obtain ⟨b1, ⟨b2, b3⟩, b4⟩ := h1
  have ok : RoomOk m := by
    refine ⟨fun y hy => ?_, by omega⟩
    have := b3 y hy
    simp [Lit.wf, IntKind.min, IntKind.max, IntKind.signed, IntKind.bits] at this
    omega
  have hx : -9223372036854775808 ≤ x := by
    simp [Lit.wf, IntKind.min, IntKind.max, IntKind.signed, IntKind.bits] at h2
    omega
  refine ⟨m.fBytes.length + 1000, ?_⟩
  generalize hn : m.fBytes.length + 1000 = n
  obtain ⟨c, hc, h3⟩ := rest (n := n) x hx
  unfold G_ringlaw5_CpuSteps G_slices_Clone_byte_byte
  rw [cpus0 (by omega), Option.bind_some, if_pos rfl, app_arg b2 (by omega), Option.bind_some, Option.bind_some, h3, Option.bind_some]
  have e : G_ringlaw5_CpuSteps_L3 n (c : Int) n 0 m.fAt m.fMay m.fBytes m.fAt m.fMay m.fBytes r r = _ := loop hc (by omega) n 0 r m rok ok (by omega) (by omega) (by omega)
  rw [e, Option.bind_some]
end Go.Proofs.Ytdkfkpoenbenmaa.cpuSteps
