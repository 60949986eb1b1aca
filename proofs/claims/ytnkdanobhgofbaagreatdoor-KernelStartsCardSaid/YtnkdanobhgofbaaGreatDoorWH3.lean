/- KernelStarts: Sync with nothing to write; boot.Make. -/
import Derived.Test.YtnkdanobhgofbaaGreatDoorWH2
import Derived.Test.YtnkdanobhgofbaaGreatDoorWLL
namespace Go.Proofs.YtnkdanobhgofbaaGreatDoor.pv
set_option linter.all false
set_option maxRecDepth 100000
open Go.RowKit
namespace ks
theorem sortf0 (N d : Nat) : G_slices_SortFunc Tryz.prog (N + 100) (d + 10) [] = some ((), [], ()) := by kernel_rfl
theorem sort1 (N d : Nat) : G_slices_Sort Tryz.prog (N + 100) (d + 10) [1] = some ((), [1], ()) := by kernel_rfl
variable {P : Program}
theorem writes_eq (hP : P = Tryz.prog) (N d : Nat) (hN : 1000 ≤ N) (s1 : Unit × Unit × Ar 4 S_snap_Tree × List S_quota_Row × List S_inode_Node × Unit × Unit × Unit) (s2 : DD) (s3 s4 : List Int) (s5 : Wt) (s6 : Unit × Int × Int × Int × Unit) (s8 : List (Int × Int)) : G_fs_FS_writes P N (d + 11) s1 s2 s3 s4 s5 s6 [] s8 = some ([], s1, [], ()) := by
  obtain ⟨M, rfl⟩ : ∃ M, N = M + 100 := ⟨N - 100, by omega⟩
  have hs := sortf0 M d
  rw [← hP] at hs
  rw [G_fs_FS_writes_eq hP]
  refine rr4_eq (E := EE P) (prim := prims) (sm := sums) (N := M + 100) (d := d + 10) (g := 56) (r := 3) (ks := []) (os := [(.bx (.pr (.rf 1 []) (.pr (.rf 5 []) (.pr (.ar 4 c_snap_Tree) (.pr (.sl c_quota_Row) (.pr (.sl c_inode_Node) (.pr (.sr 8) (.pr (.sr 7) .un)))))))), (.bx (.pr (.sr 2) (.pr (.sr 3) (.pr (.sr 4) (.pr cI .un))))), (.rw 5 1 (.i .u8)), (.rw 5 1 (.i .u8)), (.rw 179 2 c_disk_write), (.bx (.pr (.rf 1 []) (.pr cI (.pr cI (.pr (.i .u32) .un))))), .no, (.mp cI cI)]) (it := 10) (a := cI) (b := .sl (.i .u8)) (σ := List S_journal_Write) (li := 18) (u := ()) (own := true) (l := 6) (lg := 16) (fun cur s ρ => G_fs_FS_writes_R3_X cur s1 s2 s3 s4 s5 s6 [] s8 s ρ)
    (fun e s ρ => planX (G_fs_FS_writes_R3_X none s1 s2 s3 s4 s5 s6 [] s8 s ρ) 18 (.it cI (.sl (.i .u8)) true 6 16 ρ none (some e))) (fun _ _ _ => rfl) (fun _ _ _ => rfl) (fun _ _ _ _ => rfl)
    (fun p s => if lenOk (s.length + 1) 32 = true then some ((s : List S_journal_Write) ++ [((show Int from p.1), (show List Int from p.2), ())]) else none) (fun p s ρ => ?_)
    (fun s => (G_slices_SortFunc P (M + 100) (d + 10) s).bind fun x => some (x.2.1, s1, [], ())) (fun s ρ => ?_) [] [] _ (fun π hπ => ?_)
  · refine (G_fs_FS_writes_R3_S_eq hP (M + 100) (d + 10) p s1 s2 s3 s4 s5 s6 [] s8 s ρ).trans ?_
    simp only [List.length_singleton]
    cases lenOk (s.length + 1) 32 with
    | true => rfl
    | false => rfl
  · exact G_fs_FS_writes_R3_E_eq hP (M + 100) (d + 10) s1 s2 s3 s4 s5 s6 [] s8 s ρ
  · have := List.perm_nil.1 hπ
    subst this
    exact ⟨[], rfl, by rw [hs]; rfl⟩
theorem commit_eq (hP : P = Tryz.prog) {n : Nat} (N d : Nat) (hN : 1000 ≤ N) : G_journal_Log_Commit P N (d + 4) [] lg0 dd (secs n).flatten (secs n).flatten [] = some (0, lg0, dd, (secs n).flatten, (secs n).flatten, [], ()) := by
  obtain ⟨M, rfl⟩ : ∃ M, N = M + 1 := ⟨N - 1, by omega⟩
  have hr : G_journal_Log_right P (M + 1) (d + 3) [] lg0 dd (secs n).flatten (secs n).flatten [] = some (0, ()) := by
    rw [G_journal_Log_right_eq hP, G_journal_Log_Room_eq hP, Option.bind_some, dF (by decide), cond_false]
    show G_journal_Log_right_L5 P (M + 1) (d + 2) (M + 1) [] 0 0 lg0 dd (secs n).flatten (secs n).flatten [] [] = _
    rw [G_journal_Log_right_L5_eq hP, dF (by decide), cond_false]
  rw [G_journal_Log_Commit_eq hP, hr, Option.bind_some, neF rfl, cond_false, flush_eq hP (secs_sec n) (secs_sec n), Option.bind_some]
  rfl
theorem sync_eq (hP : P = Tryz.prog) {n : Nat} (N d : Nat) (hN : 1000 ≤ N) : G_fs_FS_Sync P N (d + 12) fs0 dd (secs n).flatten (secs n).flatten [] lg0 [] [] = some (0, fs0, dd, lg0, [], (secs n).flatten, (secs n).flatten, [], ()) := by
  rw [G_fs_FS_Sync_eq hP, writes_eq hP N d hN, Option.bind_some]
  rw [show G_journal_Log_Commit P N (d + 11) [] lg0 dd (secs n).flatten (secs n).flatten [] = _ from commit_eq hP N (d + 7) hN, Option.bind_some, neF rfl, cond_false]
theorem make_eq (hP : P = Tryz.prog) {n : Nat} (hn : n ≤ 256) (h64 : 64 ≤ n) (N d : Nat) (hN : 1000 ≤ N) : G_boot_Make P N (d + 24) n [] = some (Sum.inr (((), 0, ()), dd, (secs n).flatten, (secs n).flatten, [], ())) := by
  have hk : mkOk (wi .i64 ((n : Int) * 64)) 1 = true := by
    rw [wi64 (by omega) (by omega)]
    unfold mkOk
    rw [dT (by omega), Nat.ble_eq_true_of_le (by unfold maxLen; omega), Nat.ble_eq_true_of_le (by omega)]; rfl
  have hz : List.replicate (wi .i64 ((n : Int) * 64)).toNat (0 : Int) = (Z n).flatten := by
    rw [wi64 (by omega) (by omega), Z_flat, show ((n : Int) * 64).toNat = n * 64 by omega]
  rw [G_boot_Make_eq hP, G_disk_New_eq hP, dF (by omega), cond_false, Option.bind_some, dF (by omega), cond_false, hk, cond_true, cond_true, hz, Option.bind_some]
  show G_boot_Make_J2_1 P N (d + 23) [] 0 dd (Z n).flatten (Z n).flatten [] = _
  rw [G_boot_Make_J2_1_eq hP, neF rfl, cond_false, show G_fs_Format P N (d + 23) dd (Z n).flatten (Z n).flatten [] = _ from format_eq hP hn h64 N (d + 3) hN, Option.bind_some, neF rfl, cond_false]
  rw [show G_fs_Mount P N (d + 23) dd (secs n).flatten (secs n).flatten [] = _ from mount_eq hP hn h64 N (d + 3) hN (secs n).flatten [], Option.bind_some, neF rfl, cond_false, dF (by decide), cond_false]
  obtain ⟨M, rfl⟩ : ∃ M, N = M + 1 := ⟨N - 1, by omega⟩
  show G_boot_Make_L13 P (M + 1) (d + 23) (M + 1) [] 0 0 dd (secs n).flatten (secs n).flatten [] fs0 lg0 [] [] = _
  rw [G_boot_Make_L13_eq hP, dF (by decide), cond_false, show G_fs_FS_Sync P (M + 1) (d + 23) fs0 dd (secs n).flatten (secs n).flatten [] lg0 [] [] = _ from sync_eq hP (M + 1) (d + 11) hN, Option.bind_some, neF rfl, cond_false]
/-- no disk of so many sectors, or too few of them -/
theorem make_bad (hP : P = Tryz.prog) (n : Int) (h : n < 64 ∨ 256 < n) (N d : Nat) (hN : 1000 ≤ N) : ∃ e : Int, e ≠ 0 ∧ G_boot_Make P N (d + 24) n [] = some (Sum.inl (((), e, ()), ())) := by
  by_cases h1 : n < 16
  · refine ⟨1, by decide, ?_⟩
    rw [G_boot_Make_eq hP, G_disk_New_eq hP, dT h1, cond_true, Option.bind_some, cond_true, Option.bind_some]
    show G_boot_Make_J2 P N (d + 23) [] 1 = _
    rw [G_boot_Make_J2_eq hP, neT (by decide), cond_true]
  by_cases h2 : n > 256
  · refine ⟨1, by decide, ?_⟩
    rw [G_boot_Make_eq hP, G_disk_New_eq hP, dF h1, cond_false, dT h2, Option.bind_some, cond_true, Option.bind_some]
    show G_boot_Make_J2 P N (d + 23) [] 1 = _
    rw [G_boot_Make_J2_eq hP, neT (by decide), cond_true]
  · refine ⟨6, by decide, ?_⟩
    obtain ⟨m, rfl⟩ : ∃ m : Nat, n = m := ⟨n.toNat, by omega⟩
    have hk : mkOk (wi .i64 ((m : Int) * 64)) 1 = true := by
      rw [wi64 (by omega) (by omega)]
      unfold mkOk
      rw [dT (by omega), Nat.ble_eq_true_of_le (by unfold maxLen; omega), Nat.ble_eq_true_of_le (by omega)]; rfl
    have hz : List.replicate (wi .i64 ((m : Int) * 64)).toNat (0 : Int) = (Z m).flatten := by
      rw [wi64 (by omega) (by omega), Z_flat, show ((m : Int) * 64).toNat = m * 64 by omega]
    rw [G_boot_Make_eq hP, G_disk_New_eq hP, dF h1, cond_false, dF h2, Option.bind_some, cond_false, hk, cond_true, cond_true, hz, Option.bind_some]
    show G_boot_Make_J2_1 P N (d + 23) [] 0 dd (Z m).flatten (Z m).flatten [] = _
    rw [G_boot_Make_J2_1_eq hP, neF rfl, cond_false, G_fs_Format_eq hP, size_eq hP (Z_sec m) (by omega), Option.bind_some, dT (by show (m : Int) < 64; omega), cond_true, Option.bind_some]
    rfl
end ks
end Go.Proofs.YtnkdanobhgofbaaGreatDoor.pv
namespace Go.Proofs.YtnkdanobhgofbaaGreatDoor.pv
set_option linter.all false
set_option maxRecDepth 100000
open Go.RowKit
namespace ks
abbrev RR := Int × Int × Int × Unit × Unit
theorem add1 (N d : Nat) : G_spread_Run_Add_v2 Tryz.prog (N + 100) (d + 20) 1 1 10 (1, 0, 0, (), ()) [] = some (0, (1, 0, 1, (), ()), [(1, 1, 10, 0, 0, 0, 0, 0, 0, 0, 1, 1, true, false, 0, ())], ()) := by kernel_rfl
theorem add2 (N d : Nat) : G_spread_Run_Add_v2 Tryz.prog (N + 100) (d + 20) 1 1 10 (2, 0, 0, (), ()) [] = some (0, (2, 0, 1, (), ()), [(1, 1, 10, 0, 0, 0, 0, 0, 0, 0, 1, 3, true, false, 0, ())], ()) := by kernel_rfl
theorem add3 (N d : Nat) : G_spread_Run_Add_v2 Tryz.prog (N + 100) (d + 20) 1 1 10 (3, 0, 0, (), ()) [] = some (0, (3, 0, 1, (), ()), [(1, 1, 10, 0, 0, 0, 0, 0, 0, 0, 1, 7, true, false, 0, ())], ()) := by kernel_rfl
theorem add4 (N d : Nat) : G_spread_Run_Add_v2 Tryz.prog (N + 100) (d + 20) 1 1 10 (4, 0, 0, (), ()) [] = some (0, (4, 0, 1, (), ()), [(1, 1, 10, 0, 0, 0, 0, 0, 0, 0, 1, 15, true, false, 0, ())], ()) := by kernel_rfl
theorem mmake (N d : Nat) (f s : Int) : G_space_Memory_Make_v2 Tryz.prog (N + 100) (d + 20) (f, s, 0, (), (), ()) [] [] = some ((1, 0, ()), (f, s, 0, (), (), ()), [[]], [(1, some 0)], ()) := by kernel_rfl
theorem pnew (N d : Nat) : G_pipe_New Tryz.prog N (d + 20) = some ((), (nA 16 (), ()), ()) := by kernel_rfl
theorem wnew (N d : Nat) : G_wheel_New Tryz.prog N (d + 20) 0 = some ((), (0, (), ()), ()) := by kernel_rfl
def openT : S_open_Table := (nA 32 ((0, 0, 0, false, 0, ()), 0, ()), nA 17 (nA 8 0), ())
theorem onew (N d : Nat) : G_open_New Tryz.prog N (d + 20) = some ((), openT, ()) := by kernel_rfl
def procT : S_proc_Table := (⟨[(0, 0, 0, 0, ()), (1, 0, 1, 0, ()), (0, 0, 0, 0, ()), (0, 0, 0, 0, ()), (0, 0, 0, 0, ()), (0, 0, 0, 0, ()), (0, 0, 0, 0, ()), (0, 0, 0, 0, ()), (0, 0, 0, 0, ()), (0, 0, 0, 0, ()), (0, 0, 0, 0, ()), (0, 0, 0, 0, ()), (0, 0, 0, 0, ()), (0, 0, 0, 0, ()), (0, 0, 0, 0, ()), (0, 0, 0, 0, ()), (0, 0, 0, 0, ())], rfl⟩, ())
theorem prnew (N d : Nat) : G_proc_New Tryz.prog N (d + 20) = some ((), procT, ()) := by kernel_rfl
theorem all1 (N d : Nat) : G_proc_Table_All Tryz.prog (N + 100) (d + 20) procT = some ([1], ()) := by kernel_rfl
theorem eq1 (N d : Nat) : G_slices_Equal_f6 Tryz.prog (N + 100) (d + 20) [1] [1] = some (true, ()) := by kernel_rfl
theorem con1 (N d : Nat) : G_slices_Contains Tryz.prog (N + 100) (d + 20) [1] 1 = some (true, ()) := by kernel_rfl
theorem same0 (N d : Nat) : G_ringref5_SameCred Tryz.prog (N + 100) (d + 20) (0, 0, [], 0, 0, 0, ()) (0, 0, [], 0, 0, 0, ()) = some (true, ()) := by kernel_rfl
theorem same1 (N d : Nat) : G_ringref5_SameCred Tryz.prog (N + 100) (d + 20) (0, 0, [], 127, 0, 0, ()) (0, 0, [], 127, 0, 0, ()) = some (true, ()) := by kernel_rfl
theorem clone0 (N d : Nat) : G_slices_Clone_f30 Tryz.prog N (d + 20) [] = some ((), [], ()) := by kernel_rfl
end ks
end Go.Proofs.YtnkdanobhgofbaaGreatDoor.pv
namespace Go.Proofs.YtnkdanobhgofbaaGreatDoor.pv
set_option linter.all false
set_option maxRecDepth 100000
open Go.RowKit
namespace ks
def task0 : S_kernel_task := (0, (nA 8 0, 0, 0, ()), (0, 0, [], 0, 0, 0, ()), [], [], (0, 0, nA 16 0, ()), false, ())
def task1 : S_kernel_task := (1, (nA 8 0, 0, 1, ()), (0, 0, [], 127, 0, 0, ()), [1], [], (0, 0, nA 16 0, ()), false, ())
def tasks1 : Ar 17 S_kernel_task := ⟨[task0, task1, task0, task0, task0, task0, task0, task0, task0, task0, task0, task0, task0, task0, task0, task0, task0], rfl⟩
abbrev KK := Int × Unit × Unit × Unit × Unit × Unit × Unit × Unit × Ar 17 S_kernel_task × Int × Unit
def kk (cpus : Int) : KK := (cpus, (), (), (), (), (), (), (), tasks1, 0, ())
variable {P : Program}
theorem add_eq (hP : P = Tryz.prog) (N d : Nat) (hN : 1000 ≤ N) (c : Int) (h0 : 1 ≤ c) (h1 : c ≤ 4) : ∃ (x : RR) (y : List S_spread_task), G_spread_Run_Add_v2 P N (d + 20) 1 1 10 (c, 0, 0, (), ()) [] = some (0, x, y, ()) := by
  subst hP
  obtain ⟨M, rfl⟩ : ∃ M, N = M + 100 := ⟨N - 100, by omega⟩
  rcases (by omega : c = 1 ∨ c = 2 ∨ c = 3 ∨ c = 4) with rfl | rfl | rfl | rfl
  · exact ⟨_, _, add1 M d⟩
  · exact ⟨_, _, add2 M d⟩
  · exact ⟨_, _, add3 M d⟩
  · exact ⟨_, _, add4 M d⟩
theorem start_eq (hP : P = Tryz.prog) {n : Nat} (hn : n ≤ 256) (h64 : 64 ≤ n) (N d : Nat) (hN : 1000 ≤ N) (c f s : Int) (c0 : 1 ≤ c) (c1 : c ≤ 4) (f0 : 4 ≤ f) (f1 : f ≤ 64) (s0 : 0 ≤ s) (s1 : s ≤ 64) :
    ∃ (x : RR) (y : List S_spread_task), G_kernel_Start P N (d + 24) c f s dd (secs n).flatten (secs n).flatten [] [] = some (Sum.inr (((), 0, ()), dd, [[]], (secs n).flatten, [], kk c, (f, s, 0, (), (), ()), [(1, some 0)], fs0, lg0, [], [], (nA 16 (), ()), x, y, (0, (), ()), openT, procT, ())) := by
  obtain ⟨M, rfl⟩ : ∃ M, N = M + 100 := ⟨N - 100, by omega⟩
  obtain ⟨x, y, ha⟩ := add_eq hP (M + 100) (d + 3) hN c c0 c1
  refine ⟨x, y, ?_⟩
  have g1 := pnew (M + 100) (d + 3)
  have g2 := wnew (M + 100) (d + 3)
  have g3 := onew (M + 100) (d + 3)
  have g4 := prnew (M + 100) (d + 3)
  have g5 := mmake M (d + 3) f s
  rw [← hP] at g1 g2 g3 g4 g5
  rw [G_kernel_Start_eq hP, show G_pipe_New P (M + 100) (d + 23) = _ from g1, Option.bind_some, show G_wheel_New P (M + 100) (d + 23) 0 = _ from g2, Option.bind_some, show G_open_New P (M + 100) (d + 23) = _ from g3, Option.bind_some, show G_proc_New P (M + 100) (d + 23) = _ from g4, Option.bind_some,
    G_spread_New_eq hP, dF (by omega), cond_false, dF (by omega), Option.bind_some, cond_false, Option.bind_some]
  simp only
  rw [G_kernel_Start_J4_1_eq hP, neF rfl, cond_false, G_kernel_Start_J6_1_eq hP, G_space_New_eq hP, dF (by omega), cond_false, dF (by omega), cond_false, dF (by omega), cond_false, dF (by omega), Option.bind_some, cond_false, Option.bind_some]
  simp only
  rw [G_kernel_Start_J7_3_eq hP, neF rfl, cond_false, G_kernel_Start_J9_3_eq hP, show G_fs_Mount P (M + 100) (d + 23) dd (secs n).flatten (secs n).flatten [] = _ from mount_eq hP hn h64 (M + 100) (d + 3) hN (secs n).flatten [], Option.bind_some, neF rfl, cond_false]
  rw [show G_space_Memory_Make_v2 P (M + 100) (d + 23) (f, s, 0, (), (), ()) [] [] = _ from g5, Option.bind_some, neF rfl, cond_false]
  rw [show G_spread_Run_Add_v2 P (M + 100) (d + 23) 1 1 10 (c, 0, 0, (), ()) [] = _ from ha, Option.bind_some, neF rfl, cond_false]
  rfl
/-- wrong arguments -/
theorem start_bad (hP : P = Tryz.prog) {n : Nat} (N d : Nat) (hN : 1000 ≤ N) (c f s : Int) (h : c < 1 ∨ 4 < c ∨ f < 4 ∨ 64 < f ∨ s < 0 ∨ 64 < s) :
    G_kernel_Start P N (d + 24) c f s dd (secs n).flatten (secs n).flatten [] [] = some (Sum.inl (((), 1, ()), dd, [], (secs n).flatten, [], ())) := by
  have g1 := pnew N (d + 3)
  have g2 := wnew N (d + 3)
  have g3 := onew N (d + 3)
  have g4 := prnew N (d + 3)
  rw [← hP] at g1 g2 g3 g4
  rw [G_kernel_Start_eq hP, show G_pipe_New P N (d + 23) = _ from g1, Option.bind_some, show G_wheel_New P N (d + 23) 0 = _ from g2, Option.bind_some, show G_open_New P N (d + 23) = _ from g3, Option.bind_some, show G_proc_New P N (d + 23) = _ from g4, Option.bind_some]
  by_cases hc : c < 1 ∨ 4 < c
  · have hs : G_spread_New P N (d + 23) c = some (Sum.inl (((), 1, ()), ())) := by
      rw [G_spread_New_eq hP]
      by_cases h1 : c < 1
      · rw [dT h1, cond_true, Option.bind_some, cond_true]
      · rw [dF h1, cond_false, dT (by omega), Option.bind_some, cond_true]
    rw [hs, Option.bind_some]
    simp only
    rw [G_kernel_Start_J4_eq hP, neT (by decide), cond_true]
  · rw [G_spread_New_eq hP, dF (by omega), cond_false, dF (by omega), Option.bind_some, cond_false, Option.bind_some]
    simp only
    rw [G_kernel_Start_J4_1_eq hP, neF rfl, cond_false, G_kernel_Start_J6_1_eq hP]
    have hs : G_space_New P N (d + 23) f s = some (Sum.inl (((), 1, ()), ())) := by
      rw [G_space_New_eq hP]
      by_cases h1 : f < 4
      · rw [dT h1, cond_true, Option.bind_some, cond_true]
      by_cases h2 : f > 64
      · rw [dF h1, cond_false, dT h2, cond_true, Option.bind_some, cond_true]
      by_cases h3 : s < 0
      · rw [dF h1, cond_false, dF h2, cond_false, dT h3, cond_true, Option.bind_some, cond_true]
      · rw [dF h1, cond_false, dF h2, cond_false, dF h3, cond_false, dT (by omega), Option.bind_some, cond_true]
    rw [hs, Option.bind_some]
    simp only
    rw [G_kernel_Start_J7_2_eq hP, neT (by decide), cond_true]
end ks
end Go.Proofs.YtnkdanobhgofbaaGreatDoor.pv
namespace Go.Proofs.YtnkdanobhgofbaaGreatDoor.pv
set_option linter.all false
set_option maxRecDepth 100000
open Go.RowKit
namespace ks
variable {P : Program}
/-- what State and the accessors tell of a process -/
def er (p : Int) : Int := if p < 1 ∨ 16 < p then 1 else if p = 1 then 0 else 4
theorem living_eq (hP : P = Tryz.prog) (N d : Nat) (p : Int) (a1 : KK) (a2) (a3) (a4) (a5) (a6) (a7) (a8) (a9) (a10) (a11) (a12) (a13) (a14) (a15) (a16) : G_kernel_Kernel_living P N (d + 4) p a1 a2 a3 a4 a5 a6 a7 a8 a9 a10 a11 a12 a13 a14 a15 a16 procT = some (er p, ()) := by
  rw [G_kernel_Kernel_living_eq hP, G_proc_Table_State_eq hP, G_proc_number_eq hP]
  unfold er
  by_cases h1 : p < 1
  · rw [dF (by omega), cond_false, Option.bind_some, Option.bind_some, Bool.not_false, cond_true, Option.bind_some, if_pos (.inl h1), bF (by decide), cond_false]; rfl
  by_cases h2 : 16 < p
  · rw [dT (by omega), cond_true, dF (by omega), Option.bind_some, Option.bind_some, Bool.not_false, cond_true, Option.bind_some, if_pos (.inr h2), bF (by decide), cond_false]; rfl
  have hg : ∀ j : Fin 17, (gA procT.1 j).1 = if j.1 = 1 then 1 else 0 := by decide
  rw [dT (by omega), cond_true, dT (by omega), Option.bind_some, Option.bind_some, Bool.not_true, cond_false, dif_pos (inb_true (by omega) (by omega)), Option.bind_some, bT rfl, cond_true, hg, Option.bind_some]
  have e0 : (if p < 1 ∨ 16 < p then (1 : Int) else if p = 1 then 0 else 4) = if p = 1 then 0 else 4 := if_neg (by omega)
  rw [e0]
  by_cases h3 : p = 1
  · subst h3; rfl
  · rw [if_neg (by show ¬ p.toNat = 1; omega), if_neg h3]; rfl
theorem space_eq (hP : P = Tryz.prog) (N d : Nat) (p c : Int) (a2) (a3) (a4) (a5) (a6) (a7) (a8) (a9) (a10) (a11) (a12) (a13) (a14) (a15) (a16) : G_kernel_Kernel_Space P N (d + 5) p (kk c) a2 a3 a4 a5 a6 a7 a8 a9 a10 a11 a12 a13 a14 a15 a16 procT = some ((if p = 1 then 1 else 0, er p, ()), ()) := by
  rw [G_kernel_Kernel_Space_eq hP, living_eq hP, Option.bind_some]
  by_cases h3 : p = 1
  · subst h3; rfl
  · have : er p ≠ 0 := by unfold er; split <;> simp [h3]
    rw [neT this, cond_true, if_neg h3]
def reg (p : Int) : S_api_Regs := if p = 1 then (nA 8 0, 0, 1, ()) else (nA 8 0, 0, 0, ())
theorem regs_eq (hP : P = Tryz.prog) (N d : Nat) (p c : Int) (a2) (a3) (a4) (a5) (a6) (a7) (a8) (a9) (a10) (a11) (a12) (a13) (a14) (a15) (a16) : G_kernel_Kernel_Regs P N (d + 5) p (kk c) a2 a3 a4 a5 a6 a7 a8 a9 a10 a11 a12 a13 a14 a15 a16 procT = some ((reg p, er p, ()), ()) := by
  rw [G_kernel_Kernel_Regs_eq hP, living_eq hP, Option.bind_some]
  by_cases h3 : p = 1
  · subst h3; rfl
  · have : er p ≠ 0 := by unfold er; split <;> simp [h3]
    rw [neT this, cond_true, reg, if_neg h3]
def crd (p : Int) : S_api_Cred := if p = 1 then (0, 0, [], 127, 0, 0, ()) else (0, 0, [], 0, 0, 0, ())
theorem cred_eq (hP : P = Tryz.prog) (N d : Nat) (p c : Int) (a2) (a3) (a4) (a5) (a6) (a7) (a8) (a9) (a10) (a11) (a12) (a13) (a14) (a15) (a16) : G_kernel_Kernel_Cred P N (d + 21) p (kk c) a2 a3 a4 a5 a6 a7 a8 a9 a10 a11 a12 a13 a14 a15 a16 procT = some ((crd p, er p, ()), ()) := by
  have hl := living_eq hP N (d + 16) p (kk c) a2 a3 a4 a5 a6 a7 a8 a9 a10 a11 a12 a13 a14 a15 a16
  rw [G_kernel_Kernel_Cred_eq hP, show G_kernel_Kernel_living P N (d + 20) p (kk c) a2 a3 a4 a5 a6 a7 a8 a9 a10 a11 a12 a13 a14 a15 a16 procT = _ from hl, Option.bind_some]
  by_cases h3 : p = 1
  · subst h3
    have h := clone0 N d
    rw [← hP] at h
    rw [neF (show ((er 1, ()) : Int × Unit).1 = 0 from rfl), cond_false, dif_pos (inb_true (by decide) (by decide))]
    show ((G_slices_Clone_f30 P N (d + 20) []).bind _) = _
    rw [h]; rfl
  · have : er p ≠ 0 := by unfold er; split <;> simp [h3]
    rw [neT this, cond_true, crd, if_neg h3]
def mp1 : List (Int × Option Nat) := [(1, some 0)]
theorem spaces_eq (hP : P = Tryz.prog) (N d : Nat) (hN : 1000 ≤ N) (st : Int × Int × Int × Unit × Unit × Unit) : G_space_Memory_Spaces P N (d + 11) st mp1 = some ([1], st, mp1, ()) := by
  obtain ⟨M, rfl⟩ : ∃ M, N = M + 100 := ⟨N - 100, by omega⟩
  have hs := sort1 M d
  rw [← hP] at hs
  rw [G_space_Memory_Spaces_eq hP]
  refine rr4_eq (E := EE P) (prim := prims) (sm := sums) (N := M + 100) (d := d + 10) (g := 14) (r := 3) (ks := []) (os := [(.bx (.pr cI (.pr cI (.pr cI (.pr .ns (.pr (.sr 2) .un)))))), .no]) (it := 9) (a := cI) (b := .vm 2) (σ := List Int) (li := 6) (u := ()) (own := true) (l := 1) (lg := 4) (fun cur s ρ => G_space_Memory_Spaces_R3_X cur st mp1 s ρ)
    (fun e s ρ => planX (G_space_Memory_Spaces_R3_X none st mp1 s ρ) 6 (.it cI (.vm 2) true 1 4 ρ none (some e))) (fun _ _ _ => rfl) (fun _ _ _ => rfl) (fun _ _ _ _ => rfl)
    (fun p s => if lenOk (s.length + 1) 8 = true then some ((s : List Int) ++ [(show Int from p.1)]) else none) (fun p s ρ => ?_)
    (fun s => (G_slices_Sort P (M + 100) (d + 10) s).bind fun x => some (x.2.1, st, mp1, ())) (fun s ρ => ?_) [] mp1 _ (fun π hπ => ?_)
  · refine (G_space_Memory_Spaces_R3_S_eq hP (M + 100) (d + 10) p st mp1 s ρ).trans ?_
    simp only [List.length_singleton]
    cases lenOk (s.length + 1) 8 with
    | true => rfl
    | false => rfl
  · exact G_space_Memory_Spaces_R3_E_eq hP (M + 100) (d + 10) st mp1 s ρ
  · have hπ : List.Perm (α := Int × Option Nat) π [(1, some 0)] := hπ
    have := List.perm_singleton.1 hπ
    subst this
    refine ⟨[1], rfl, ?_⟩
    show (G_slices_Sort P (M + 100) (d + 10) [1]).bind _ = _
    rw [hs]; rfl
theorem law (hP : P = Tryz.prog) (N d : Nat) (hN : 1000 ≤ N) (c f s n p : Int) : ∃ g, G_ringlaw5_KernelStarts P N (d + 40) c f s n p [] = some (true, g, ()) := by
  rw [G_ringlaw5_KernelStarts_eq hP]
  by_cases hs : n < 64 ∨ 256 < n
  · obtain ⟨e, he, h⟩ := make_bad hP n hs N (d + 15) hN
    rw [show G_boot_Make P N (d + 39) n [] = _ from h, Option.bind_some]
    simp only
    rw [G_ringlaw5_KernelStarts_J2_eq hP, neT he, cond_true]
    exact ⟨_, rfl⟩
  obtain ⟨m, rfl⟩ : ∃ m : Nat, n = m := ⟨n.toNat, by omega⟩
  rw [show G_boot_Make P N (d + 39) m [] = _ from make_eq hP (by omega) (by omega) N (d + 15) hN, Option.bind_some]
  simp only
  rw [G_ringlaw5_KernelStarts_J2_1_eq hP, neF rfl, cond_false]
  by_cases hb : c < 1 ∨ 4 < c ∨ f < 4 ∨ 64 < f ∨ s < 0 ∨ 64 < s
  · rw [show G_kernel_Start P N (d + 39) c f s dd (secs m).flatten (secs m).flatten [] [] = _ from start_bad hP N (d + 15) hN c f s hb, Option.bind_some]
    simp only
    rw [G_ringlaw5_KernelStarts_J5_eq hP]
    have hc : ((bif (decide (c < 1)) then some true else bif (decide (c > 4)) then some true else bif (decide (f < 4)) then some true else bif (decide (f > 64)) then some true else bif (decide (s < 0)) then some true else some (decide (s > 64))) : Option Bool) = some true := by
      by_cases q1 : c < 1
      · rw [dT q1, cond_true]
      by_cases q2 : c > 4
      · rw [dF q1, cond_false, dT q2, cond_true]
      by_cases q3 : f < 4
      · rw [dF q1, cond_false, dF q2, cond_false, dT q3, cond_true]
      by_cases q4 : f > 64
      · rw [dF q1, cond_false, dF q2, cond_false, dF q3, cond_false, dT q4, cond_true]
      by_cases q5 : s < 0
      · rw [dF q1, cond_false, dF q2, cond_false, dF q3, cond_false, dF q4, cond_false, dT q5, cond_true]
      · rw [dF q1, cond_false, dF q2, cond_false, dF q3, cond_false, dF q4, cond_false, dF q5, cond_false, dT (by omega)]
    rw [hc, Option.bind_some, cond_true, bT rfl, cond_true, Option.bind_some]
    exact ⟨_, rfl⟩
  obtain ⟨x, y, h⟩ := start_eq hP (n := m) (by omega) (by omega) N (d + 15) hN c f s (by omega) (by omega) (by omega) (by omega) (by omega) (by omega)
  rw [show G_kernel_Start P N (d + 39) c f s dd (secs m).flatten (secs m).flatten [] [] = _ from h, Option.bind_some]
  simp only
  rw [G_ringlaw5_KernelStarts_J5_1_eq hP, dF (by omega), cond_false, dF (by omega), cond_false, dF (by omega), cond_false, dF (by omega), cond_false, dF (by omega), cond_false, dF (by omega), Option.bind_some, cond_false, neF rfl, cond_false]
  obtain ⟨M, rfl⟩ : ∃ M, N = M + 100 := ⟨N - 100, by omega⟩
  have k1 := all1 M (d + 18)
  have k2 := eq1 M (d + 19)
  have k3 := same0 M (d + 19)
  have k4 := same1 M (d + 19)
  have k5 := con1 M (d + 19)
  rw [← hP] at k1 k2 k3 k4 k5
  have sp : ∀ a2 a3 a4 a5 a6 a7 a8 a9 a10 a11 a12 a13 a14 a15 a16, G_kernel_Kernel_Space P (M + 100) (d + 39) p (kk c) a2 a3 a4 a5 a6 a7 a8 a9 a10 a11 a12 a13 a14 a15 a16 procT = _ := space_eq hP (M + 100) (d + 34) p c
  have rg : ∀ a2 a3 a4 a5 a6 a7 a8 a9 a10 a11 a12 a13 a14 a15 a16, G_kernel_Kernel_Regs P (M + 100) (d + 39) p (kk c) a2 a3 a4 a5 a6 a7 a8 a9 a10 a11 a12 a13 a14 a15 a16 procT = _ := regs_eq hP (M + 100) (d + 34) p c
  have cr : ∀ a2 a3 a4 a5 a6 a7 a8 a9 a10 a11 a12 a13 a14 a15 a16, G_kernel_Kernel_Cred P (M + 100) (d + 39) p (kk c) a2 a3 a4 a5 a6 a7 a8 a9 a10 a11 a12 a13 a14 a15 a16 procT = _ := cred_eq hP (M + 100) (d + 18) p c
  rw [G_kernel_Kernel_Procs_eq hP, show G_proc_Table_All P (M + 100) (d + 38) procT = _ from k1, Option.bind_some, Option.bind_some, show G_slices_Equal_f6 P (M + 100) (d + 39) [1] [1] = _ from k2, Option.bind_some, Bool.not_true, cond_false, sp, Option.bind_some, rg, Option.bind_some, cr, Option.bind_some]
  by_cases h1 : p = 1
  · subst h1
    rw [dF (by decide), cond_false, dF (by decide), Option.bind_some, cond_false, cond_false, G_ringlaw5_KernelStarts_J17_eq hP, neF rfl, cond_false]
    rw [bT (by rfl), cond_true, G_kernel_Kernel_Memory_eq hP, Option.bind_some]
    rw [show G_space_Memory_Spaces P (M + 100) (d + 39) (f, s, 0, (), (), ()) [(1, some 0)] = _ from spaces_eq hP (M + 100) (d + 28) hN _, Option.bind_some]
    show ∃ g, ((G_slices_Contains P (M + 100) (d + 39) [1] 1).bind _) = some (true, g, ())
    rw [k5, Option.bind_some, cond_true, cond_true]
    rw [show eqT c_api_Regs (reg 1) ((nA 8 0, 0, 1, ()) : S_api_Regs) = true from eqT_refl c_api_Regs (by decide) _, cond_true, cond_true]
    show ∃ g, ((G_ringref5_SameCred P (M + 100) (d + 39) (0, 0, [], 127, 0, 0, ()) (0, 0, [], 127, 0, 0, ())).bind _) = some (true, g, ())
    rw [k4, Option.bind_some]
    exact ⟨_, rfl⟩
  · have fin : ∀ (w : Int) (s1 s2 s3 s4 s5 s6 s7 s8 s9 s10 s11 s12 s13 s14 s15 s16 s17 s18), w ≠ 0 → ∃ g, G_ringlaw5_KernelStarts_J17 P (M + 100) (d + 39) 0 w w w w s1 s2 s3 s4 s5 s6 s7 s8 s9 s10 s11 s12 s13 s14 s15 s16 s17 s18 (nA 8 0, 0, 0, ()) (0, 0, [], 0, 0, 0, ()) = some (true, g, ()) := by
      intro w s1 s2 s3 s4 s5 s6 s7 s8 s9 s10 s11 s12 s13 s14 s15 s16 s17 s18 hw
      rw [G_ringlaw5_KernelStarts_J17_eq hP, neT hw, cond_true, bT rfl, cond_true, cond_true, cond_true, bT rfl, cond_true]
      rw [show eqT c_api_Regs ((nA 8 0, 0, 0, ()) : S_api_Regs) ((nA 8 0, 0, 0, ()) : S_api_Regs) = true from eqT_refl c_api_Regs (by decide) _, cond_true, show G_ringref5_SameCred P (M + 100) (d + 39) (0, 0, [], 0, 0, 0, ()) (0, 0, [], 0, 0, 0, ()) = _ from k3, Option.bind_some, Option.bind_some]
      exact ⟨_, rfl⟩
    rw [reg, crd, if_neg h1, if_neg h1, if_neg h1]
    by_cases h2 : p < 1 ∨ 16 < p
    · have : ((bif (decide (p < 1)) then some true else some (decide (p > 16))) : Option Bool) = some true := by
        by_cases q : p < 1
        · rw [dT q, cond_true]
        · rw [dF q, cond_false, dT (by omega)]
      rw [this, Option.bind_some, cond_true, show er p = 1 from if_pos h2]
      exact fin 1 _ _ _ _ _ _ _ _ _ _ _ _ _ _ _ _ _ _ (by decide)
    · rw [dF (by omega), cond_false, dF (by omega), Option.bind_some, cond_false, dT (by omega), cond_true, show er p = 4 from (if_neg h2).trans (if_neg h1)]
      exact fin 4 _ _ _ _ _ _ _ _ _ _ _ _ _ _ _ _ _ _ (by decide)
end ks
end Go.Proofs.YtnkdanobhgofbaaGreatDoor.pv
