/- The plain law of CpuSteps, fourth part: one step. -/
import Derived.Test.YtdkfkpoenbenmaaLCpu3
namespace Go.Proofs.Ytdkfkpoenbenmaa.cpuSteps
open Go.RowKit help pv
set_option linter.all false
set_option maxRecDepth 100000

section
variable {n : Nat} (hn : 100 ≤ n) {r : S_api_Regs} (rok : RegsOk r) {m : S_ringref5_Room} (ok : RoomOk m) {A B C a b : Int} (hA : 0 ≤ A ∧ A < 8) (hB : 0 ≤ B ∧ B < 8) (ha : getA r.fR A = some a) (hb : getA r.fR B = some b) (a0 : 0 ≤ a ∧ a ≤ 4294967295) (b0 : 0 ≤ b ∧ b ≤ 4294967295)
def MemIs (n : Nat) (r : S_api_Regs) (m : S_ringref5_Room) (i : S_api_Ins) (at_ : Int) : Prop := ∃ t r' m', G_cpu_memory_h n r i m = some (t, r', m') ∧ G_ringref5_move_h n r i m at_ = some (r', t, m') ∧ RegsOk r' ∧ RoomOk m' ∧ m'.fBytes.length = m.fBytes.length ∧ (t.fKind = 0 → t = ⟨0, 0⟩)
include hn rok ok hA hB ha hb a0 b0
theorem mem15 : MemIs n r m ⟨15, A, B, C⟩ (wi .u32 (b + wi .u32 C)) := by
  have hat := w32r (b + wi .u32 C)
  unfold MemIs
  have F := fetch (want := 1) ok hn hat.1
  have W := word (want := 1) ok hn hat.1
  rcases hf : fw m (wi .u32 (b + wi .u32 C)) 1 with ⟨v, _ | t⟩
  · simp only [hf] at F W
    simp only [G_cpu_memory_h, G_ringref5_move_h, G_ringref5_move_h_C1, G_cpu_memory_h_C1, hA, hB, ha, hb, and_self, if_true, if_false, Option.bind_some, Int.reduceEq, reduceIte, F, W]
    exact ⟨_, _, _, rfl, rfl, rok.set (fw_range ok hf) rok.p, ok, rfl, fun _ => rfl⟩
  · have hk := fw_kind hf
    have h2 : ¬ t.fKind = 0 := by omega
    simp only [hf] at F W
    simp only [G_cpu_memory_h, G_ringref5_move_h, G_ringref5_move_h_C1, G_cpu_memory_h_C1, hA, hB, ha, hb, and_self, if_true, if_false, Option.bind_some, Int.reduceEq, reduceIte, F, W, h2]
    exact ⟨_, _, _, rfl, rfl, rok, ok, rfl, fun h => absurd h h2⟩
theorem mem16 : MemIs n r m ⟨16, A, B, C⟩ (wi .u32 (b + wi .u32 C)) := by
  have hat := w32r (b + wi .u32 C)
  unfold MemIs
  have hl := (load_is n ok (wi .u32 (b + wi .u32 C)) 1).1
  by_cases c : (ld m (wi .u32 (b + wi .u32 C)) 1).2 = 0
  · simp only [G_cpu_memory_h, G_ringref5_move_h, G_ringref5_move_h_C1, G_cpu_memory_h_C1, hA, hB, ha, hb, and_self, if_true, if_false, Option.bind_some, Int.reduceEq, reduceIte, hl, c]
    exact ⟨_, _, _, rfl, rfl, rok.set (w32r _) rok.p, ok, rfl, fun _ => rfl⟩
  · simp only [G_cpu_memory_h, G_ringref5_move_h, G_ringref5_move_h_C1, G_cpu_memory_h_C1, hA, hB, ha, hb, and_self, if_true, if_false, Option.bind_some, Int.reduceEq, reduceIte, hl, c]
    exact ⟨_, _, _, rfl, rfl, rok, ok, rfl, fun h => by cases h⟩
theorem mem17 : MemIs n r m ⟨17, A, B, C⟩ (wi .u32 (b + wi .u32 C)) := by
  have hat := w32r (b + wi .u32 C)
  unfold MemIs
  have P := put (w := a) a0.1 ok hn hat.1
  have hL : G_ringref5_Room_lay_h n ⟨m.fAt, m.fBytes, m.fMay⟩ (wi .u32 (b + wi .u32 C)) a = _ := lay a0.1 a0.2 ok hn hat.1 hat.2
  have hw := ww_ok ok (wi .u32 (b + wi .u32 C)) a
  rcases hf : ww m (wi .u32 (b + wi .u32 C)) a with ⟨_ | t, m'⟩
  · rw [hf] at hw
    simp only [hf] at P hL
    simp only [G_cpu_memory_h, G_ringref5_move_h, G_ringref5_move_h_C1, G_cpu_memory_h_C1, hA, hB, ha, hb, and_self, if_true, if_false, Option.bind_some, Int.reduceEq, reduceIte, P, hL]
    exact ⟨_, _, _, rfl, rfl, rok, hw.1, hw.2, fun _ => rfl⟩
  · have hk := ww_kind (show (ww m (wi .u32 (b + wi .u32 C)) a).1 = some t by rw [hf])
    rw [hf] at hw
    simp only [hf] at P hL
    simp only [G_cpu_memory_h, G_ringref5_move_h, G_ringref5_move_h_C1, G_cpu_memory_h_C1, hA, hB, ha, hb, and_self, if_true, if_false, Option.bind_some, Int.reduceEq, reduceIte, P, hL]
    exact ⟨_, _, _, rfl, rfl, rok, hw.1, hw.2, fun h => by omega⟩
theorem mem18 : MemIs n r m ⟨18, A, B, C⟩ (wi .u32 (b + wi .u32 C)) := by
  have hat := w32r (b + wi .u32 C)
  unfold MemIs
  have h8 : 0 ≤ wi .u8 a ∧ wi .u8 a ≤ 255 := by rw [w8]; omega
  have hs := store_is n ok (wi .u32 (b + wi .u32 C)) h8.1 h8.2
  have hs1 := hs.1
  by_cases c : (st m (wi .u32 (b + wi .u32 C)) (wi .u8 a)).1 = 0
  · simp only [G_cpu_memory_h, G_ringref5_move_h, G_ringref5_move_h_C1, G_cpu_memory_h_C1, hA, hB, ha, hb, and_self, if_true, if_false, Option.bind_some, Int.reduceEq, reduceIte, hs1, c]
    exact ⟨_, _, _, rfl, rfl, rok, hs.2.1, hs.2.2, fun _ => rfl⟩
  · simp only [G_cpu_memory_h, G_ringref5_move_h, G_ringref5_move_h_C1, G_cpu_memory_h_C1, hA, hB, ha, hb, and_self, if_true, if_false, Option.bind_some, Int.reduceEq, reduceIte, hs1, c]
    exact ⟨_, _, _, rfl, rfl, rok, hs.2.1, hs.2.2, fun h => by cases h⟩
theorem mem25 : MemIs n r m ⟨25, A, B, C⟩ (wi .u32 (b + wi .u32 C)) := by
  have hat := w32r (b + wi .u32 C)
  unfold MemIs
  have F := fetch (want := 1) ok hn hat.1
  have W := word (want := 1) ok hn hat.1
  rcases hf : fw m (wi .u32 (b + wi .u32 C)) 1 with ⟨v, _ | t⟩
  · have P := put (w := a) a0.1 ok hn hat.1
    have hL : G_ringref5_Room_lay_h n ⟨m.fAt, m.fBytes, m.fMay⟩ (wi .u32 (b + wi .u32 C)) a = _ := lay a0.1 a0.2 ok hn hat.1 hat.2
    have hw := ww_ok ok (wi .u32 (b + wi .u32 C)) a
    simp only [hf] at F W
    rcases hg : ww m (wi .u32 (b + wi .u32 C)) a with ⟨_ | t, m'⟩
    · rw [hg] at hw
      simp only [hg] at P hL
      simp only [G_cpu_memory_h, G_ringref5_move_h, G_ringref5_move_h_C1, G_cpu_memory_h_C1, hA, hB, ha, hb, and_self, if_true, if_false, Option.bind_some, Int.reduceEq, reduceIte, F, W, P, hL]
      exact ⟨_, _, _, rfl, rfl, rok.set (fw_range ok hf) rok.p, hw.1, hw.2, fun _ => rfl⟩
    · have hk := ww_kind (show (ww m (wi .u32 (b + wi .u32 C)) a).1 = some t by rw [hg])
      rw [hg] at hw
      simp only [hg] at P hL
      have h2 : ¬ t.fKind = 0 := by omega
      simp only [G_cpu_memory_h, G_ringref5_move_h, G_ringref5_move_h_C1, G_cpu_memory_h_C1, hA, hB, ha, hb, and_self, if_true, if_false, Option.bind_some, Int.reduceEq, reduceIte, F, W, P, hL, h2]
      exact ⟨_, _, _, rfl, rfl, rok, hw.1, hw.2, fun h => absurd h h2⟩
  · have hk := fw_kind hf
    have h2 : ¬ t.fKind = 0 := by omega
    simp only [hf] at F W
    simp only [G_cpu_memory_h, G_ringref5_move_h, G_ringref5_move_h_C1, G_cpu_memory_h_C1, hA, hB, ha, hb, and_self, if_true, if_false, Option.bind_some, Int.reduceEq, reduceIte, F, W, h2]
    exact ⟨_, _, _, rfl, rfl, rok, ok, rfl, fun h => absurd h h2⟩
end
end Go.Proofs.Ytdkfkpoenbenmaa.cpuSteps
