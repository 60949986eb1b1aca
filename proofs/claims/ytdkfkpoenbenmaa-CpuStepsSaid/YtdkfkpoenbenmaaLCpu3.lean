/- The plain law of CpuSteps, third part: reckoning, and one step. -/
import Derived.Test.YtdkfkpoenbenmaaLCpu2
namespace Go.Proofs.Ytdkfkpoenbenmaa.cpuSteps
open Go.RowKit help pv
set_option linter.all false
set_option maxRecDepth 100000

theorem twoL1 {n A s : Nat} {b : Int} (hA : A ≤ 4294967295) (hs : s < 32) (hb : remI (wi .u64 b) 32 = (s : Int)) : ∀ (k j : Nat), s - j < k → j ≤ s →
    G_ringref5_two_L1 n b k ((A * 2 ^ j : Nat) : Int) (j : Int) = some (.x0 ((A * 2 ^ s : Nat) : Int))
  | 0, j, h, _ => by omega
  | k + 1, j, hk, hj => by
    rw [G_ringref5_two_L1, hb]
    by_cases c : j = s
    · subst c; rw [if_neg (by omega)]
    · have hp : 2 ^ (j + 1) ≤ 2 ^ 31 := Nat.pow_le_pow_right (by omega) (by omega)
      have hm : A * 2 ^ (j + 1) ≤ 4294967295 * 2 ^ 31 := Nat.mul_le_mul hA hp
      have e1 : wi .u64 (((A * 2 ^ j : Nat) : Int) * 2) = ((A * 2 ^ (j + 1) : Nat) : Int) := by
        rw [w64u]
        have : A * 2 ^ (j + 1) = A * 2 ^ j * 2 := by rw [Nat.pow_succ, Nat.mul_assoc]
        omega
      have e2 : wi .u64 ((j : Int) + 1) = ((j + 1 : Nat) : Int) := by rw [w64u]; omega
      rw [if_pos (by omega), e1, e2]
      exact twoL1 hA hs hb k (j + 1) (by omega) (by omega)
theorem twoL2 {n A s : Nat} {b : Int} (hA : A ≤ 4294967295) (hs : s < 32) (hb : remI (wi .u64 b) 32 = (s : Int)) : ∀ (k j : Nat), s - j < k → j ≤ s →
    G_ringref5_two_L2 n b k ((A / 2 ^ j : Nat) : Int) (j : Int) = some (.x0 ((A / 2 ^ s : Nat) : Int))
  | 0, j, h, _ => by omega
  | k + 1, j, hk, hj => by
    rw [G_ringref5_two_L2, hb]
    by_cases c : j = s
    · subst c; rw [if_neg (by omega)]
    · have hd : A / 2 ^ j ≤ A := Nat.div_le_self _ _
      have e1 : quoI .u64 ((A / 2 ^ j : Nat) : Int) 2 = ((A / 2 ^ (j + 1) : Nat) : Int) := by
        have : A / 2 ^ (j + 1) = A / 2 ^ j / 2 := by rw [Nat.pow_succ, Nat.div_div_eq_div_mul]
        rw [this]
        generalize A / 2 ^ j = q at *
        have h2 : ((q : Int)).tdiv 2 = (q : Int) / 2 := Int.tdiv_eq_ediv_of_nonneg (by omega)
        have h3 := w64u ((q : Int) / 2)
        unfold wi at h3
        unfold quoI
        rw [h2, h3]
        omega
      have e2 : wi .u64 ((j : Int) + 1) = ((j + 1 : Nat) : Int) := by rw [w64u]; omega
      rw [if_pos (by omega), e1, e2]
      exact twoL2 hA hs hb k (j + 1) (by omega) (by omega)
theorem reckon_is {n : Nat} (hn : 100 ≤ n) {op a b : Int} (a0 : 0 ≤ a) (a1 : a ≤ 4294967295) (b0 : 0 ≤ b) (b1 : b ≤ 4294967295) (o0 : 5 ≤ op) (o1 : op ≤ 13) (hz : op = 8 → b ≠ 0) :
    ∃ v, G_cpu_reckon n op a b = some (v, true) ∧ G_ringref5_two n op a b = some v ∧ 0 ≤ v ∧ v ≤ 4294967295 := by
  have wa : wi .u64 a = a := by rw [w64u]; omega
  have wb : wi .u64 b = b := by rw [w64u]; omega
  have hs : ∃ s : Nat, remI (wi .u64 b) 32 = (s : Int) ∧ remI b 32 = (s : Int) ∧ s < 32 := by
    rw [wb, rem_nn b0]
    exact ⟨(b % 32).toNat, by omega, by omega, by omega⟩
  obtain ⟨s, hs1, hs2, hs3⟩ := hs
  obtain ⟨X, rfl⟩ := Int.eq_ofNat_of_zero_le a0
  obtain ⟨Y, rfl⟩ := Int.eq_ofNat_of_zero_le b0
  have cs : op = 5 ∨ op = 6 ∨ op = 7 ∨ op = 8 ∨ op = 9 ∨ op = 10 ∨ op = 11 ∨ op = 12 ∨ op = 13 := by omega
  unfold G_cpu_reckon G_ringref5_two
  rw [wa, wb]
  rcases cs with rfl | rfl | rfl | rfl | rfl | rfl | rfl | rfl | rfl
  · rw [if_pos rfl, if_pos rfl]
    refine ⟨_, rfl, ?_, ?_⟩
    · rw [w32, w32, w64u]; congr 1; omega
    · rw [w32]; omega
  · rw [if_neg (by decide), if_pos rfl, if_neg (by decide), if_pos rfl]
    refine ⟨_, rfl, ?_, ?_⟩
    · rw [w32, w32, w64u, w64u]; congr 1; omega
    · rw [w32]; omega
  · rw [if_neg (by decide), if_neg (by decide), if_pos rfl, if_neg (by decide), if_neg (by decide), if_pos rfl]
    generalize (X : Int) * (Y : Int) = z
    refine ⟨_, rfl, ?_, ?_⟩
    · rw [w32, w32, w64u]; congr 1; omega
    · rw [w32]; omega
  · have hb := hz rfl
    rw [if_neg (by decide), if_neg (by decide), if_neg (by decide), if_pos rfl, if_neg hb, if_pos hb, if_neg (by decide), if_neg (by decide), if_neg (by decide), if_pos rfl, if_pos hb]
    have h2 : (X : Int).tdiv (Y : Int) = ((X / Y : Nat) : Int) := by rw [Int.tdiv_eq_ediv_of_nonneg a0]; simp
    have h3 : X / Y ≤ X := Nat.div_le_self _ _
    have h4 := w64u ((X / Y : Nat) : Int)
    have h5 := w32 ((X / Y : Nat) : Int)
    unfold wi at h4 h5
    unfold quoI
    rw [h2, h4, h5, w32]
    refine ⟨_, rfl, ?_, ?_⟩
    · congr 1; omega
    · omega
  · rw [if_neg (by decide), if_neg (by decide), if_neg (by decide), if_neg (by decide), if_pos rfl, if_neg (by decide), if_neg (by decide), if_neg (by decide), if_neg (by decide), if_pos rfl]
    have hx : X &&& Y < 2 ^ 32 := Nat.and_lt_two_pow _ (by omega)
    rw [u64_and X Y (by omega) (by omega), u32_and_nat X Y (by omega) (by omega)]
    refine ⟨_, rfl, ?_, ?_⟩
    · rw [w32]; congr 1; omega
    · omega
  · rw [if_neg (by decide), if_neg (by decide), if_neg (by decide), if_neg (by decide), if_neg (by decide), if_pos rfl, if_neg (by decide), if_neg (by decide), if_neg (by decide), if_neg (by decide), if_neg (by decide), if_pos rfl]
    have hx : X ||| Y < 2 ^ 32 := Nat.or_lt_two_pow (by omega) (by omega)
    rw [u64_or X Y (by omega) (by omega), u32_or_nat X Y (by omega) (by omega)]
    refine ⟨_, rfl, ?_, ?_⟩
    · rw [w32]; congr 1; omega
    · omega
  · rw [if_neg (by decide), if_neg (by decide), if_neg (by decide), if_neg (by decide), if_neg (by decide), if_neg (by decide), if_pos rfl, if_neg (by decide), if_neg (by decide), if_neg (by decide), if_neg (by decide), if_neg (by decide), if_neg (by decide), if_pos rfl]
    have hx : X ^^^ Y < 2 ^ 32 := Nat.xor_lt_two_pow (by omega) (by omega)
    have hy := or_xor_and X Y
    rw [u64_and X Y (by omega) (by omega), u64_or X Y (by omega) (by omega), u32_xor X Y (by omega) (by omega)]
    refine ⟨_, rfl, ?_, ?_⟩
    · rw [w32, w64u]; congr 1; omega
    · omega
  · rw [hs2, if_neg (by decide), if_neg (by decide), if_neg (by decide), if_neg (by decide), if_neg (by decide), if_neg (by decide), if_neg (by decide), if_pos rfl, if_pos (show (0 : Int) ≤ (s : Int) by omega), if_neg (by decide), if_neg (by decide), if_neg (by decide), if_neg (by decide), if_neg (by decide), if_neg (by decide), if_neg (by decide), if_pos rfl]
    have e := twoL1 (n := n) (show X ≤ 4294967295 by omega) hs3 hs1 n 0 (by omega) (by omega)
    rw [Nat.pow_zero, Nat.mul_one] at e
    have e : G_ringref5_two_L1 n (Y : Int) n (X : Int) 0 = _ := e
    rw [e, shl_u32 s (by omega), Option.bind_some]
    refine ⟨_, rfl, ?_, ?_⟩
    · simp only [w32]; simp
    · omega
  · rw [hs2, if_neg (by decide), if_neg (by decide), if_neg (by decide), if_neg (by decide), if_neg (by decide), if_neg (by decide), if_neg (by decide), if_neg (by decide), if_pos (show (0 : Int) ≤ (s : Int) by omega), if_neg (by decide), if_neg (by decide), if_neg (by decide), if_neg (by decide), if_neg (by decide), if_neg (by decide), if_neg (by decide), if_neg (by decide), if_pos rfl]
    have e := twoL2 (n := n) (show X ≤ 4294967295 by omega) hs3 hs1 n 0 (by omega) (by omega)
    rw [Nat.pow_zero, Nat.div_one] at e
    have e : G_ringref5_two_L2 n (Y : Int) n (X : Int) 0 = _ := e
    have h3 : X / 2 ^ s ≤ X := Nat.div_le_self _ _
    have h4 : (X : Int) / 2 ^ s = ((X / 2 ^ s : Nat) : Int) := by simp
    rw [e, shr_u32 s (by omega), Option.bind_some, h4]
    clear e h4
    generalize X / 2 ^ s = q at *
    refine ⟨_, rfl, ?_, ?_⟩
    · simp only [w32]; congr 1; omega
    · omega
structure RegsOk (r : S_api_Regs) : Prop where
  x : ∀ i, 0 ≤ r.fR i ∧ r.fR i ≤ 4294967295
  p : 0 ≤ r.fPc ∧ r.fPc ≤ 4294967295
def nx (r : S_api_Regs) : S_api_Regs := ⟨r.fR, wi .u32 (r.fPc + 4), r.fRing⟩
theorem w32r (x : Int) : 0 ≤ wi .u32 x ∧ wi .u32 x ≤ 4294967295 := by rw [w32]; omega
theorem RegsOk.nx {r : S_api_Regs} (h : RegsOk r) : RegsOk (nx r) := ⟨h.x, w32r _⟩
theorem RegsOk.set {r : S_api_Regs} (h : RegsOk r) {A x p g : Int} (hx : 0 ≤ x ∧ x ≤ 4294967295) (hp : 0 ≤ p ∧ p ≤ 4294967295) : RegsOk ⟨setA r.fR A x, p, g⟩ := by
  refine ⟨fun i => ?_, hp⟩
  simp only [setA]
  split
  · exact hx
  · exact h.x i
theorem RegsOk.to {r : S_api_Regs} (h : RegsOk r) {p g : Int} (hp : 0 ≤ p ∧ p ≤ 4294967295) : RegsOk ⟨r.fR, p, g⟩ := ⟨h.x, hp⟩
theorem getA_r {r : S_api_Regs} (h : RegsOk r) {A : Int} (h0 : 0 ≤ A) (h1 : A ≤ 7) : ∃ a, getA r.fR A = some a ∧ 0 ≤ a ∧ a ≤ 4294967295 := by
  refine ⟨r.fR ⟨A.toNat, by omega⟩, ?_, h.x _⟩
  unfold getA
  rw [dif_pos (by omega)]
end Go.Proofs.Ytdkfkpoenbenmaa.cpuSteps
