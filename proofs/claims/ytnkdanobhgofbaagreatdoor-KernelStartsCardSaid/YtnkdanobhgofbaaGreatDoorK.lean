-- pruned
/- What the functions compute: written by g4.py. -/
import Derived.Test.YtnkdanobhgofbaaGreatDoorVFF
import Derived.Test.YtnkdanobhgofbaaGreatDoorProg
import Derived.KernelRfl
set_option maxRecDepth 100000
set_option linter.all false
namespace Go.Proofs.YtnkdanobhgofbaaGreatDoor.pv
open Go.RowKit
noncomputable section
abbrev cI : Ty := .i .i64
abbrev c_space_entry : Ty := (.pr (.vp 1) (.pr cI .un))
abbrev S_space_entry : Type := Option Nat × Int × Unit
abbrev c_boot_File : Ty := (.pr .str (.pr cI (.pr cI (.pr cI (.pr cI (.pr (.sl (.i .u8)) .un))))))
abbrev S_boot_File : Type := List UInt8 × Int × Int × Int × Int × List (Int) × Unit
abbrev c_disk_write : Ty := (.pr cI (.pr (.sl (.i .u8)) .un))
abbrev S_disk_write : Type := Int × List (Int) × Unit
abbrev c_snap_Tree : Ty := (.pr (.ar 16 cI) (.pr (.ar 32 (.i .u8)) .un))
abbrev S_snap_Tree : Type := Ar 16 (Int) × Ar 32 (Int) × Unit
abbrev c_inode_Node : Ty := (.pr cI (.pr cI (.pr cI (.pr cI (.pr cI (.pr cI (.pr cI (.pr (.sl cI) .un))))))))
abbrev S_inode_Node : Type := Int × Int × Int × Int × Int × Int × Int × List (Int) × Unit
abbrev c_extent_Ext : Ty := (.pr cI (.pr cI .un))
abbrev S_extent_Ext : Type := Int × Int × Unit
abbrev c_journal_Write : Ty := (.pr cI (.pr (.sl (.i .u8)) .un))
abbrev S_journal_Write : Type := Int × List (Int) × Unit
abbrev c_quota_Row : Ty := (.pr cI (.pr cI .un))
abbrev S_quota_Row : Type := Int × Int × Unit
abbrev c_api_Regs : Ty := (.pr (.ar 8 (.i .u32)) (.pr (.i .u32) (.pr cI .un)))
abbrev S_api_Regs : Type := Ar 8 (Int) × Int × Int × Unit
abbrev c_api_Cred : Ty := (.pr cI (.pr cI (.pr (.sl cI) (.pr cI (.pr cI (.pr cI .un))))))
abbrev S_api_Cred : Type := Int × Int × List (Int) × Int × Int × Int × Unit
abbrev c_mount_Mount : Ty := (.pr cI (.pr cI .un))
abbrev S_mount_Mount : Type := Int × Int × Unit
abbrev c_sig_Set : Ty := (.pr cI (.pr cI (.pr (.ar 16 cI) .un)))
abbrev S_sig_Set : Type := Int × Int × Ar 16 (Int) × Unit
abbrev c_kernel_task : Ty := (.pr cI (.pr c_api_Regs (.pr c_api_Cred (.pr (.sl cI) (.pr (.sl c_mount_Mount) (.pr c_sig_Set (.pr .bl .un)))))))
abbrev S_kernel_task : Type := Int × S_api_Regs × S_api_Cred × List (Int) × List (S_mount_Mount) × S_sig_Set × Bool × Unit
abbrev c_pipe_Pipes : Ty := (.pr (.ar 16 (.nz .np)) .un)
abbrev S_pipe_Pipes : Type := Ar 16 (Unit) × Unit
abbrev c_open_Thing : Ty := (.pr cI (.pr cI (.pr cI (.pr .bl (.pr cI .un)))))
abbrev S_open_Thing : Type := Int × Int × Int × Bool × Int × Unit
abbrev c_open_file : Ty := (.pr c_open_Thing (.pr cI .un))
abbrev S_open_file : Type := S_open_Thing × Int × Unit
abbrev c_open_Table : Ty := (.pr (.ar 32 c_open_file) (.pr (.ar 17 (.ar 8 cI)) .un))
abbrev S_open_Table : Type := Ar 32 (S_open_file) × Ar 17 (Ar 8 (Int)) × Unit
abbrev c_proc_entry : Ty := (.pr cI (.pr cI (.pr cI (.pr cI .un))))
abbrev S_proc_entry : Type := Int × Int × Int × Int × Unit
abbrev c_proc_Table : Ty := (.pr (.ar 17 c_proc_entry) .un)
abbrev S_proc_Table : Type := Ar 17 (S_proc_entry) × Unit
abbrev c_spread_task : Ty := (.pr cI (.pr cI (.pr cI (.pr cI (.pr cI (.pr cI (.pr cI (.pr cI (.pr cI (.pr cI (.pr cI (.pr cI (.pr .bl (.pr .bl (.pr cI .un)))))))))))))))
abbrev S_spread_task : Type := Int × Int × Int × Int × Int × Int × Int × Int × Int × Int × Int × Int × Bool × Bool × Int × Unit
abbrev c_kernel_Kernel : Ty := (.pr cI (.pr (.nz .np) (.pr (.nz .np) (.pr (.nz .np) (.pr (.nz .np) (.pr (.nz .np) (.pr (.nz .np) (.pr (.nz .np) (.pr (.ar 17 c_kernel_task) (.pr (.i .u32) .un))))))))))
abbrev S_kernel_Kernel : Type := Int × Unit × Unit × Unit × Unit × Unit × Unit × Unit × Ar 17 (S_kernel_task) × Int × Unit
abbrev c_space_Memory : Ty := (.pr cI (.pr cI (.pr cI (.pr (.sl (.vp 1)) (.pr (.nz .nm) .un)))))
abbrev S_space_Memory : Type := Int × Int × Int × List (Option Nat) × Unit × Unit
abbrev c_disk_Disk : Ty := (.pr (.sl (.i .u8)) (.pr (.sl (.i .u8)) (.pr (.sl c_disk_write) (.pr cI .un))))
abbrev S_disk_Disk : Type := List (Int) × List (Int) × List (S_disk_write) × Int × Unit
abbrev c_fs_FS : Ty := (.pr (.nz .np) (.pr (.nz .np) (.pr (.ar 4 c_snap_Tree) (.pr (.sl c_quota_Row) (.pr (.sl c_inode_Node) (.pr (.nz .nm) (.pr (.nz .nm) .un)))))))
abbrev S_fs_FS : Type := Unit × Unit × Ar 4 (S_snap_Tree) × List (S_quota_Row) × List (S_inode_Node) × Unit × Unit × Unit
abbrev c_wheel_timer : Ty := (.pr (.i .u32) (.pr cI .un))
abbrev S_wheel_timer : Type := Int × Int × Unit
abbrev c_wheel_Wheel : Ty := (.pr (.i .u32) (.pr (.sl c_wheel_timer) .un))
abbrev S_wheel_Wheel : Type := Int × List (S_wheel_timer) × Unit
abbrev c_spread_Run : Ty := (.pr cI (.pr cI (.pr cI (.pr (.sl c_spread_task) .un))))
abbrev S_spread_Run : Type := Int × Int × Int × List (S_spread_task) × Unit
abbrev c_journal_Log : Ty := (.pr (.nz .np) (.pr cI (.pr cI (.pr (.i .u32) .un))))
abbrev S_journal_Log : Type := Unit × Int × Int × Int × Unit
abbrev c_fs_txn : Ty := (.pr (.nz .np) (.pr (.ar 4 c_snap_Tree) (.pr (.sl c_quota_Row) (.pr (.sl c_inode_Node) (.pr (.nz .nm) (.pr (.nz .nm) (.pr (.sl cI) (.pr .bl (.pr cI .un)))))))))
abbrev S_fs_txn : Type := Unit × Ar 4 (S_snap_Tree) × List (S_quota_Row) × List (S_inode_Node) × Unit × Unit × List (Int) × Bool × Int × Unit
abbrev c_lift_Req : Ty := (.pr cI (.pr (.sl (.i .u8)) (.pr .bl .un)))
abbrev S_lift_Req : Type := Int × List (Int) × Bool × Unit
abbrev c_space_page : Ty := (.pr (.ar 16 (.i .u8)) (.pr cI (.pr .bl (.pr cI .un))))
abbrev S_space_page : Type := Ar 16 (Int) × Int × Bool × Int × Unit
abbrev c_pipe_one : Ty := (.pr (.ar 2 cI) (.pr (.sl (.i .u8)) .un))
abbrev S_pipe_one : Type := Ar 2 (Int) × List (Int) × Unit
def TT : List TI := [⟨1, 0, .oth, []⟩,
 ⟨1, 8, .oth, []⟩,
 ⟨1, 8, .oth, []⟩,
 ⟨1, 8, (.int .i64), [.i .i64]⟩,
 ⟨1, 1, .bool, [.b]⟩,
 ⟨1, 1, (.int .u8), [.i .u8]⟩,
 ⟨1, 1, .oth, []⟩,
 ⟨4, 24, (.st [(0, 2), (1, 3), (2, 4), (3, 6)]), []⟩,
 ⟨4, 24, (.st [(0, 2), (1, 3), (2, 4), (3, 6)]), []⟩,
 ⟨1, 16, .str, [.s]⟩,
 ⟨1, 16, .oth, []⟩,
 ⟨1, 16, .oth, []⟩,
 ⟨1, 8, .oth, []⟩,
 ⟨2, 24, (.st [(0, 9), (1, 12)]), []⟩,
 ⟨2, 24, (.st [(0, 9), (1, 12)]), []⟩,
 ⟨1, 8, .oth, []⟩,
 ⟨1, 8, .oth, []⟩,
 ⟨1, 8, .oth, []⟩,
 ⟨1, 8, (.st [(0, 17)]), []⟩,
 ⟨1, 8, (.st [(0, 17)]), []⟩,
 ⟨1, 16, .oth, []⟩,
 ⟨1, 4, .oth, []⟩,
 ⟨1, 8, (.ptr 95), [.np]⟩,
 ⟨1, 8, (.int .i64), [.i .i64]⟩,
 ⟨1, 0, .oth, []⟩,
 ⟨1, 8, .oth, []⟩,
 ⟨1, 8, (.ptr 77), [.np]⟩,
 ⟨1, 0, .oth, []⟩,
 ⟨1, 8, .oth, []⟩,
 ⟨1, 8, .oth, []⟩,
 ⟨1, 24, (.sl 3), [.sl]⟩,
 ⟨1, 8, .oth, []⟩,
 ⟨1, 0, .oth, []⟩,
 ⟨1, 8, .oth, []⟩,
 ⟨1, 4, (.int .u32), [.i .u32]⟩,
 ⟨8, 32, (.arr 8 34), (zr 8 [.i .u32])⟩,
 ⟨10, 48, (.st [(0, 35), (8, 34), (9, 3)]), []⟩,
 ⟨10, 48, (.st [(0, 35), (8, 34), (9, 3)]), (za (zr 8 [.i .u32]) [.i .u32, .i .i64])⟩,
 ⟨1, 0, .oth, []⟩,
 ⟨1, 8, .oth, []⟩,
 ⟨6, 64, (.st [(0, 3), (1, 3), (2, 30), (3, 3), (4, 3), (5, 3)]), []⟩,
 ⟨6, 64, (.st [(0, 3), (1, 3), (2, 30), (3, 3), (4, 3), (5, 3)]), [.i .i64, .i .i64, .sl, .i .i64, .i .i64, .i .i64]⟩,
 ⟨1, 0, .oth, []⟩,
 ⟨1, 8, .oth, []⟩,
 ⟨1, 8, .oth, []⟩,
 ⟨1, 8, .oth, []⟩,
 ⟨1, 8, (.ptr 91), [.np]⟩,
 ⟨1, 8, .oth, []⟩,
 ⟨1, 8, .oth, []⟩,
 ⟨1, 24, (.sl 57), [.sl]⟩,
 ⟨1, 8, .oth, []⟩,
 ⟨1, 8, .oth, []⟩,
 ⟨1, 8, (.ptr 127), [.np]⟩,
 ⟨1, 0, .oth, []⟩,
 ⟨1, 8, .oth, []⟩,
 ⟨1, 24, (.sl 5), [.sl]⟩,
 ⟨6, 72, (.st [(0, 9), (1, 3), (2, 3), (3, 3), (4, 3), (5, 55)]), []⟩,
 ⟨6, 72, (.st [(0, 9), (1, 3), (2, 3), (3, 3), (4, 3), (5, 55)]), [.s, .i .i64, .i .i64, .i .i64, .i .i64, .sl]⟩,
 ⟨1, 8, .oth, []⟩,
 ⟨1, 8, .oth, []⟩,
 ⟨1, 8, (.ptr 145), [.np]⟩,
 ⟨1, 8, .oth, []⟩,
 ⟨1, 8, (.ptr 148), [.np]⟩,
 ⟨1, 8, .oth, []⟩,
 ⟨1, 8, (.ptr 157), [.np]⟩,
 ⟨1, 8, .oth, []⟩,
 ⟨1, 8, (.ptr 162), [.np]⟩,
 ⟨1, 8, .oth, []⟩,
 ⟨1, 8, (.ptr 165), [.np]⟩,
 ⟨1, 24, (.sl 386), [.sl]⟩,
 ⟨16, 128, (.arr 16 3), (zr 16 [.i .i64])⟩,
 ⟨18, 144, (.st [(0, 3), (1, 3), (2, 70)]), []⟩,
 ⟨18, 144, (.st [(0, 3), (1, 3), (2, 70)]), (za [.i .i64, .i .i64] (zr 16 [.i .i64]))⟩,
 ⟨38, 320, (.st [(0, 3), (1, 37), (11, 41), (17, 30), (18, 69), (19, 72), (37, 4)]), []⟩,
 ⟨38, 320, (.st [(0, 3), (1, 37), (11, 41), (17, 30), (18, 69), (19, 72), (37, 4)]), (za [.i .i64] (za (zr 8 [.i .u32]) (za [.i .u32, .i .i64, .i .i64, .i .i64, .sl, .i .i64, .i .i64, .i .i64, .sl, .sl, .i .i64, .i .i64] (za (zr 16 [.i .i64]) [.b]))))⟩,
 ⟨646, 5440, (.arr 17 74), (zr 17 (za [.i .i64] (za (zr 8 [.i .u32]) (za [.i .u32, .i .i64, .i .i64, .i .i64, .sl, .i .i64, .i .i64, .i .i64, .sl, .sl, .i .i64, .i .i64] (za (zr 16 [.i .i64]) [.b])))))⟩,
 ⟨655, 5512, (.st [(0, 3), (1, 46), (2, 52), (3, 60), (4, 68), (5, 62), (6, 64), (7, 66), (8, 75), (654, 34)]), []⟩,
 ⟨655, 5512, (.st [(0, 3), (1, 46), (2, 52), (3, 60), (4, 68), (5, 62), (6, 64), (7, 66), (8, 75), (654, 34)]), (za [.i .i64, .np, .np, .np, .np, .np, .np, .np] (za (zr 17 (za [.i .i64] (za (zr 8 [.i .u32]) (za [.i .u32, .i .i64, .i .i64, .i .i64, .sl, .i .i64, .i .i64, .i .i64, .sl, .sl, .i .i64, .i .i64] (za (zr 16 [.i .i64]) [.b]))))) [.i .u32]))⟩,
 ⟨1, 0, .oth, []⟩,
 ⟨1, 8, .oth, []⟩,
 ⟨1, 0, .oth, []⟩,
 ⟨1, 8, .oth, []⟩,
 ⟨1, 8, (.ptr 74), [.np]⟩,
 ⟨1, 8, .oth, []⟩,
 ⟨1, 8, .oth, []⟩,
 ⟨1, 8, .oth, []⟩,
 ⟨1, 8, .oth, []⟩,
 ⟨1, 8, .oth, []⟩,
 ⟨1, 24, (.sl 365), [.sl]⟩,
 ⟨1, 8, .oth, [.nm]⟩,
 ⟨5, 56, (.st [(0, 3), (1, 3), (2, 3), (3, 88), (4, 89)]), []⟩,
 ⟨5, 56, (.st [(0, 3), (1, 3), (2, 3), (3, 88), (4, 89)]), [.i .i64, .i .i64, .i .i64, .sl, .nm]⟩,
 ⟨1, 8, .oth, []⟩,
 ⟨1, 24, (.sl 179), [.sl]⟩,
 ⟨4, 80, (.st [(0, 55), (1, 55), (2, 93), (3, 3)]), []⟩,
 ⟨4, 80, (.st [(0, 55), (1, 55), (2, 93), (3, 3)]), [.sl, .sl, .sl, .i .i64]⟩,
 ⟨1, 8, .oth, []⟩,
 ⟨1, 8, .oth, []⟩,
 ⟨32, 32, (.arr 32 5), []⟩,
 ⟨32, 32, (.arr 32 5), (zr 32 [.i .u8])⟩,
 ⟨48, 160, (.st [(0, 70), (16, 99)]), []⟩,
 ⟨48, 160, (.st [(0, 70), (16, 99)]), (za (zr 16 [.i .i64]) (zr 32 [.i .u8]))⟩,
 ⟨192, 640, (.arr 4 101), []⟩,
 ⟨192, 640, (.arr 4 101), (zr 4 (za (zr 16 [.i .i64]) (zr 32 [.i .u8])))⟩,
 ⟨1, 8, .oth, []⟩,
 ⟨1, 0, .oth, []⟩,
 ⟨1, 8, .oth, []⟩,
 ⟨1, 8, .oth, []⟩,
 ⟨8, 80, (.st [(0, 3), (1, 3), (2, 3), (3, 3), (4, 3), (5, 3), (6, 3), (7, 30)]), []⟩,
 ⟨8, 80, (.st [(0, 3), (1, 3), (2, 3), (3, 3), (4, 3), (5, 3), (6, 3), (7, 30)]), [.i .i64, .i .i64, .i .i64, .i .i64, .i .i64, .i .i64, .i .i64, .sl]⟩,
 ⟨1, 8, .oth, []⟩,
 ⟨1, 8, .oth, []⟩,
 ⟨1, 8, .oth, []⟩,
 ⟨1, 8, (.ptr 188), [.np]⟩,
 ⟨1, 0, .oth, []⟩,
 ⟨1, 8, .oth, []⟩,
 ⟨1, 0, .oth, []⟩,
 ⟨1, 8, .oth, []⟩,
 ⟨1, 24, (.sl 109), [.sl]⟩,
 ⟨1, 0, .oth, []⟩,
 ⟨1, 8, .oth, []⟩,
 ⟨1, 24, (.sl 196), [.sl]⟩,
 ⟨1, 0, .oth, []⟩,
 ⟨1, 8, .oth, []⟩,
 ⟨1, 8, .oth, [.nm]⟩,
 ⟨1, 8, .oth, [.nm]⟩,
 ⟨198, 720, (.st [(0, 22), (1, 113), (2, 103), (194, 121), (195, 118), (196, 124), (197, 125)]), []⟩,
 ⟨198, 720, (.st [(0, 22), (1, 113), (2, 103), (194, 121), (195, 118), (196, 124), (197, 125)]), (za [.np, .np] (za (zr 4 (za (zr 16 [.i .i64]) (zr 32 [.i .u8]))) [.sl, .sl, .nm, .nm]))⟩,
 ⟨1, 8, .oth, []⟩,
 ⟨1, 8, (.ptr 201), [.np]⟩,
 ⟨1, 8, .oth, []⟩,
 ⟨1, 8, .oth, []⟩,
 ⟨1, 24, .oth, []⟩,
 ⟨1, 0, .oth, []⟩,
 ⟨1, 8, .oth, []⟩,
 ⟨1, 8, .oth, []⟩,
 ⟨1, 8, .oth, []⟩,
 ⟨1, 8, .oth, []⟩,
 ⟨1, 8, .oth, []⟩,
 ⟨1, 8, .oth, []⟩,
 ⟨1, 24, (.sl 186), [.sl]⟩,
 ⟨1, 8, .oth, []⟩,
 ⟨1, 8, (.ptr 383), [.np]⟩,
 ⟨16, 128, (.arr 16 142), (zr 16 [.np])⟩,
 ⟨16, 128, (.st [(0, 143)]), []⟩,
 ⟨16, 128, (.st [(0, 143)]), (zr 16 [.np])⟩,
 ⟨1, 24, (.sl 388), [.sl]⟩,
 ⟨2, 32, (.st [(0, 34), (1, 146)]), []⟩,
 ⟨2, 32, (.st [(0, 34), (1, 146)]), [.i .u32, .sl]⟩,
 ⟨5, 40, (.st [(0, 3), (1, 3), (2, 3), (3, 4), (4, 3)]), []⟩,
 ⟨5, 40, (.st [(0, 3), (1, 3), (2, 3), (3, 4), (4, 3)]), [.i .i64, .i .i64, .i .i64, .b, .i .i64]⟩,
 ⟨6, 48, (.st [(0, 150), (5, 3)]), []⟩,
 ⟨6, 48, (.st [(0, 150), (5, 3)]), [.i .i64, .i .i64, .i .i64, .b, .i .i64, .i .i64]⟩,
 ⟨192, 1536, (.arr 32 152), (zr 32 [.i .i64, .i .i64, .i .i64, .b, .i .i64, .i .i64])⟩,
 ⟨8, 64, (.arr 8 3), (zr 8 [.i .i64])⟩,
 ⟨136, 1088, (.arr 17 154), (zr 17 (zr 8 [.i .i64]))⟩,
 ⟨328, 2624, (.st [(0, 153), (192, 155)]), []⟩,
 ⟨328, 2624, (.st [(0, 153), (192, 155)]), (za (zr 32 [.i .i64, .i .i64, .i .i64, .b, .i .i64, .i .i64]) (zr 17 (zr 8 [.i .i64])))⟩,
 ⟨4, 32, (.st [(0, 3), (1, 3), (2, 3), (3, 3)]), []⟩,
 ⟨4, 32, (.st [(0, 3), (1, 3), (2, 3), (3, 3)]), [.i .i64, .i .i64, .i .i64, .i .i64]⟩,
 ⟨68, 544, (.arr 17 159), (zr 17 [.i .i64, .i .i64, .i .i64, .i .i64])⟩,
 ⟨68, 544, (.st [(0, 160)]), []⟩,
 ⟨68, 544, (.st [(0, 160)]), (zr 17 [.i .i64, .i .i64, .i .i64, .i .i64])⟩,
 ⟨1, 24, (.sl 172), [.sl]⟩,
 ⟨4, 48, (.st [(0, 3), (1, 3), (2, 3), (3, 163)]), []⟩,
 ⟨4, 48, (.st [(0, 3), (1, 3), (2, 3), (3, 163)]), [.i .i64, .i .i64, .i .i64, .sl]⟩,
 ⟨1, 8, .oth, [.nm]⟩,
 ⟨1, 8, .oth, []⟩,
 ⟨1, 8, (.ptr 172), [.np]⟩,
 ⟨1, 8, .oth, []⟩,
 ⟨1, 8, .oth, []⟩,
 ⟨15, 112, (.st [(0, 3), (1, 3), (2, 3), (3, 3), (4, 3), (5, 3), (6, 3), (7, 3), (8, 3), (9, 3), (10, 3), (11, 3), (12, 4), (13, 4), (14, 3)]), []⟩,
 ⟨15, 112, (.st [(0, 3), (1, 3), (2, 3), (3, 3), (4, 3), (5, 3), (6, 3), (7, 3), (8, 3), (9, 3), (10, 3), (11, 3), (12, 4), (13, 4), (14, 3)]), [.i .i64, .i .i64, .i .i64, .i .i64, .i .i64, .i .i64, .i .i64, .i .i64, .i .i64, .i .i64, .i .i64, .i .i64, .b, .b, .i .i64]⟩,
 ⟨1, 8, .oth, []⟩,
 ⟨1, 8, .oth, []⟩,
 ⟨1, 8, (.int .u64), [.i .u64]⟩,
 ⟨1, 8, .oth, []⟩,
 ⟨1, 8, .oth, []⟩,
 ⟨2, 32, (.st [(0, 3), (1, 55)]), []⟩,
 ⟨2, 32, (.st [(0, 3), (1, 55)]), [.i .i64, .sl]⟩,
 ⟨1, 8, .oth, []⟩,
 ⟨1, 8, .oth, []⟩,
 ⟨1, 8, .oth, []⟩,
 ⟨1, 0, .oth, []⟩,
 ⟨1, 8, .oth, []⟩,
 ⟨2, 32, (.st [(0, 3), (1, 55)]), []⟩,
 ⟨2, 32, (.st [(0, 3), (1, 55)]), [.i .i64, .sl]⟩,
 ⟨4, 32, (.st [(0, 22), (1, 3), (2, 3), (3, 34)]), []⟩,
 ⟨4, 32, (.st [(0, 22), (1, 3), (2, 3), (3, 34)]), [.np, .i .i64, .i .i64, .i .u32]⟩,
 ⟨1, 16, .oth, []⟩,
 ⟨1, 16, .oth, [.ni]⟩,
 ⟨1, 8, .oth, []⟩,
 ⟨1, 8, .oth, []⟩,
 ⟨1, 0, .oth, []⟩,
 ⟨1, 8, .oth, []⟩,
 ⟨2, 16, (.st [(0, 3), (1, 3)]), []⟩,
 ⟨2, 16, (.st [(0, 3), (1, 3)]), [.i .i64, .i .i64]⟩,
 ⟨1, 8, .oth, []⟩,
 ⟨1, 8, .oth, []⟩,
 ⟨1, 8, .oth, [.nm]⟩,
 ⟨200, 752, (.st [(0, 52), (1, 103), (193, 121), (194, 118), (195, 199), (196, 124), (197, 30), (198, 4), (199, 3)]), []⟩,
 ⟨200, 752, (.st [(0, 52), (1, 103), (193, 121), (194, 118), (195, 199), (196, 124), (197, 30), (198, 4), (199, 3)]), (za [.np] (za (zr 4 (za (zr 16 [.i .i64]) (zr 32 [.i .u8]))) [.sl, .sl, .nm, .nm, .sl, .b, .i .i64]))⟩,
 ⟨1, 8, .oth, []⟩,
 ⟨1, 8, .oth, []⟩,
 ⟨1, 8, .oth, []⟩,
 ⟨1, 8, .oth, []⟩,
 ⟨1, 8, .oth, []⟩,
 ⟨1, 8, .oth, []⟩,
 ⟨1, 8, .oth, []⟩,
 ⟨1, 8, .oth, []⟩,
 ⟨1, 8, .oth, []⟩,
 ⟨1, 24, (.sl 213), [.sl]⟩,
 ⟨3, 40, (.st [(0, 3), (1, 55), (2, 4)]), []⟩,
 ⟨3, 40, (.st [(0, 3), (1, 55), (2, 4)]), [.i .i64, .sl, .b]⟩,
 ⟨1, 8, .oth, []⟩,
 ⟨1, 8, .oth, []⟩,
 ⟨1, 8, .oth, []⟩,
 ⟨1, 8, .oth, [.nf]⟩,
 ⟨1, 0, .oth, []⟩,
 ⟨1, 8, .oth, []⟩,
 ⟨1, 8, .oth, []⟩,
 ⟨1, 8, .oth, []⟩,
 ⟨1, 8, (.int .i64), [.i .i64]⟩,
 ⟨1, 0, .oth, []⟩,
 ⟨1, 8, .oth, []⟩,
 ⟨1, 8, .oth, []⟩,
 ⟨1, 8, .oth, []⟩,
 ⟨1, 8, .oth, []⟩,
 ⟨1, 8, .oth, []⟩,
 ⟨1, 8, .oth, []⟩,
 ⟨1, 8, (.int .u64), [.i .u64]⟩,
 ⟨1, 8, .oth, []⟩,
 ⟨1, 24, (.sl 236), [.sl]⟩,
 ⟨1, 0, .oth, []⟩,
 ⟨1, 8, .oth, []⟩,
 ⟨2, 16, (.st [(0, 3), (1, 3)]), []⟩,
 ⟨2, 16, (.st [(0, 3), (1, 3)]), [.i .i64, .i .i64]⟩,
 ⟨1, 8, .oth, []⟩,
 ⟨1, 8, .oth, []⟩,
 ⟨1, 0, .oth, []⟩,
 ⟨1, 8, .oth, []⟩,
 ⟨1, 8, .oth, []⟩,
 ⟨1, 8, .oth, []⟩,
 ⟨1, 8, .oth, []⟩,
 ⟨1, 8, .oth, []⟩,
 ⟨1, 0, .oth, []⟩,
 ⟨1, 8, .oth, []⟩,
 ⟨1, 8, .oth, []⟩,
 ⟨1, 0, .oth, []⟩,
 ⟨1, 8, .oth, []⟩,
 ⟨1, 8, .oth, []⟩,
 ⟨1, 8, .oth, []⟩,
 ⟨1, 8, .oth, []⟩,
 ⟨1, 0, .oth, []⟩,
 ⟨1, 8, .oth, []⟩,
 ⟨1, 8, .oth, []⟩,
 ⟨1, 8, .oth, []⟩,
 ⟨1, 8, .oth, []⟩,
 ⟨1, 8, .oth, []⟩,
 ⟨1, 8, .oth, []⟩,
 ⟨1, 8, .oth, []⟩,
 ⟨1, 8, .oth, []⟩,
 ⟨1, 8, .oth, []⟩,
 ⟨1, 8, .oth, []⟩,
 ⟨1, 8, .oth, []⟩,
 ⟨1, 8, .oth, []⟩,
 ⟨1, 8, .oth, []⟩,
 ⟨1, 8, .oth, []⟩,
 ⟨1, 8, .oth, []⟩,
 ⟨1, 8, .oth, []⟩,
 ⟨1, 8, .oth, []⟩,
 ⟨1, 24, .oth, []⟩,
 ⟨1, 0, .oth, []⟩,
 ⟨1, 8, .oth, []⟩,
 ⟨2, 24, (.st [(0, 9), (1, 3)]), []⟩,
 ⟨2, 24, (.st [(0, 9), (1, 3)]), []⟩,
 ⟨1, 8, .oth, []⟩,
 ⟨1, 8, .oth, []⟩,
 ⟨1, 8, .oth, []⟩,
 ⟨1, 8, .oth, []⟩,
 ⟨1, 8, .oth, []⟩,
 ⟨1, 0, .oth, []⟩,
 ⟨1, 8, .oth, []⟩,
 ⟨1, 8, .oth, []⟩,
 ⟨1, 8, .oth, []⟩,
 ⟨1, 8, .oth, []⟩,
 ⟨1, 8, .oth, []⟩,
 ⟨1, 8, .oth, []⟩,
 ⟨1, 8, .oth, []⟩,
 ⟨1, 8, .oth, []⟩,
 ⟨1, 0, .oth, []⟩,
 ⟨1, 8, .oth, []⟩,
 ⟨1, 8, .oth, []⟩,
 ⟨1, 8, .oth, []⟩,
 ⟨1, 0, .oth, []⟩,
 ⟨1, 8, .oth, []⟩,
 ⟨1, 8, .oth, []⟩,
 ⟨1, 8, .oth, []⟩,
 ⟨1, 8, .oth, []⟩,
 ⟨1, 8, .oth, []⟩,
 ⟨1, 8, .oth, []⟩,
 ⟨1, 8, .oth, []⟩,
 ⟨1, 8, .oth, []⟩,
 ⟨1, 8, .oth, []⟩,
 ⟨1, 8, .oth, []⟩,
 ⟨1, 8, .oth, []⟩,
 ⟨1, 8, .oth, []⟩,
 ⟨1, 8, .oth, []⟩,
 ⟨1, 8, .oth, []⟩,
 ⟨1, 8, .oth, []⟩,
 ⟨1, 8, .oth, []⟩,
 ⟨256, 256, (.arr 256 4), []⟩,
 ⟨256, 256, (.arr 256 4), []⟩,
 ⟨1, 0, .oth, []⟩,
 ⟨1, 8, .oth, []⟩,
 ⟨1, 8, .oth, []⟩,
 ⟨1, 8, .oth, []⟩,
 ⟨1, 8, .oth, []⟩,
 ⟨1, 8, .oth, []⟩,
 ⟨1, 8, .oth, []⟩,
 ⟨256, 256, (.arr 256 5), []⟩,
 ⟨2, 2, (.st [(0, 5), (1, 5)]), []⟩,
 ⟨2, 2, (.st [(0, 5), (1, 5)]), []⟩,
 ⟨32, 32, (.arr 16 322), []⟩,
 ⟨1, 0, .oth, []⟩,
 ⟨1, 8, .oth, []⟩,
 ⟨1, 8, .oth, []⟩,
 ⟨1, 8, .oth, []⟩,
 ⟨1, 8, .oth, []⟩,
 ⟨1, 8, .oth, []⟩,
 ⟨1, 8, .oth, []⟩,
 ⟨1, 8, .oth, []⟩,
 ⟨1, 8, .oth, []⟩,
 ⟨1, 8, .oth, []⟩,
 ⟨1, 8, .oth, []⟩,
 ⟨1, 8, .oth, []⟩,
 ⟨1, 8, .oth, []⟩,
 ⟨1, 8, .oth, []⟩,
 ⟨1, 8, .oth, []⟩,
 ⟨1, 8, .oth, []⟩,
 ⟨1, 8, .oth, []⟩,
 ⟨1, 8, .oth, []⟩,
 ⟨1, 8, .oth, []⟩,
 ⟨1, 8, .oth, []⟩,
 ⟨1, 8, .oth, []⟩,
 ⟨1, 8, .oth, []⟩,
 ⟨1, 8, .oth, []⟩,
 ⟨1, 8, .oth, []⟩,
 ⟨4, 40, (.st [(0, 17), (1, 17), (2, 17), (3, 9)]), []⟩,
 ⟨4, 40, (.st [(0, 17), (1, 17), (2, 17), (3, 9)]), []⟩,
 ⟨0, 0, (.arr 0 16), []⟩,
 ⟨0, 0, (.st [(0, 350)]), []⟩,
 ⟨0, 0, (.st [(0, 350)]), []⟩,
 ⟨1, 8, .oth, []⟩,
 ⟨1, 1, .oth, []⟩,
 ⟨1, 1, .oth, []⟩,
 ⟨1, 8, .oth, []⟩,
 ⟨1, 8, .oth, []⟩,
 ⟨1, 4, .oth, []⟩,
 ⟨1, 4, .oth, []⟩,
 ⟨11, 48, (.st [(0, 12), (1, 12), (2, 34), (3, 354), (4, 5), (5, 5), (6, 355), (7, 356), (8, 357), (9, 358), (10, 359)]), []⟩,
 ⟨11, 48, (.st [(0, 12), (1, 12), (2, 34), (3, 354), (4, 5), (5, 5), (6, 355), (7, 356), (8, 357), (9, 358), (10, 359)]), []⟩,
 ⟨1, 8, .oth, []⟩,
 ⟨1, 8, .oth, []⟩,
 ⟨1, 8, .oth, []⟩,
 ⟨1, 8, (.ptr 372), [.np]⟩,
 ⟨2, 16, (.st [(0, 365), (1, 3)]), []⟩,
 ⟨2, 16, (.st [(0, 365), (1, 3)]), [.np, .i .i64]⟩,
 ⟨1, 0, .oth, []⟩,
 ⟨1, 8, .oth, []⟩,
 ⟨16, 16, (.arr 16 5), (zr 16 [.i .u8])⟩,
 ⟨19, 40, (.st [(0, 370), (16, 3), (17, 4), (18, 3)]), []⟩,
 ⟨19, 40, (.st [(0, 370), (16, 3), (17, 4), (18, 3)]), (za (zr 16 [.i .u8]) [.i .i64, .b, .i .i64])⟩,
 ⟨1, 8, .oth, []⟩,
 ⟨1, 8, .oth, []⟩,
 ⟨1, 8, .oth, []⟩,
 ⟨1, 8, (.st [(0, 52)]), []⟩,
 ⟨1, 8, (.st [(0, 52)]), []⟩,
 ⟨1, 8, .oth, []⟩,
 ⟨1, 0, .oth, []⟩,
 ⟨1, 8, .oth, []⟩,
 ⟨2, 16, (.arr 2 3), (zr 2 [.i .i64])⟩,
 ⟨3, 40, (.st [(0, 381), (2, 55)]), []⟩,
 ⟨3, 40, (.st [(0, 381), (2, 55)]), (za (zr 2 [.i .i64]) [.sl])⟩,
 ⟨1, 8, .oth, []⟩,
 ⟨2, 16, (.st [(0, 3), (1, 3)]), []⟩,
 ⟨2, 16, (.st [(0, 3), (1, 3)]), [.i .i64, .i .i64]⟩,
 ⟨2, 16, (.st [(0, 34), (1, 3)]), []⟩,
 ⟨2, 16, (.st [(0, 34), (1, 3)]), [.i .u32, .i .i64]⟩]
def cds : List (Nat × Ty) := [(0, (.tp .un)),
 (3, cI),
 (4, .bl),
 (5, (.i .u8)),
 (9, .str),
 (22, (.nz .np)),
 (23, cI),
 (24, (.tp (.pr (.nz .np) (.pr cI .un)))),
 (26, (.nz .np)),
 (27, (.tp (.pr (.nz .np) (.pr cI .un)))),
 (30, (.sl cI)),
 (32, (.tp (.pr cI (.pr cI .un)))),
 (34, (.i .u32)),
 (35, (.ar 8 (.i .u32))),
 (37, c_api_Regs),
 (38, (.tp (.pr c_api_Regs (.pr cI .un)))),
 (41, c_api_Cred),
 (42, (.tp (.pr c_api_Cred (.pr cI .un)))),
 (46, (.nz .np)),
 (49, (.sl c_boot_File)),
 (52, (.nz .np)),
 (53, (.tp (.pr (.nz .np) (.pr cI .un)))),
 (55, (.sl (.i .u8))),
 (57, c_boot_File),
 (60, (.nz .np)),
 (62, (.nz .np)),
 (64, (.nz .np)),
 (66, (.nz .np)),
 (68, (.nz .np)),
 (69, (.sl c_mount_Mount)),
 (70, (.ar 16 cI)),
 (72, c_sig_Set),
 (74, c_kernel_task),
 (75, (.ar 17 c_kernel_task)),
 (77, c_kernel_Kernel),
 (78, (.tp (.pr (.nz .np) (.pr cI .un)))),
 (80, (.tp (.pr (.nz .np) (.pr cI .un)))),
 (82, (.nz .np)),
 (88, (.sl (.vp 1))),
 (89, (.nz .nm)),
 (91, c_space_Memory),
 (93, (.sl c_disk_write)),
 (95, c_disk_Disk),
 (99, (.ar 32 (.i .u8))),
 (101, c_snap_Tree),
 (103, (.ar 4 c_snap_Tree)),
 (105, (.tp (.pr (.sl (.i .u8)) (.pr cI .un)))),
 (109, c_inode_Node),
 (113, (.nz .np)),
 (114, (.tp (.pr (.nz .np) (.pr cI .un)))),
 (116, (.tp (.pr (.ar 4 c_snap_Tree) (.pr cI .un)))),
 (118, (.sl c_inode_Node)),
 (119, (.tp (.pr (.sl c_inode_Node) (.pr cI .un)))),
 (121, (.sl c_quota_Row)),
 (122, (.tp (.pr (.sl c_quota_Row) (.pr cI .un)))),
 (124, (.nz .nm)),
 (125, (.nz .nm)),
 (127, c_fs_FS),
 (129, (.nz .np)),
 (140, (.sl c_journal_Write)),
 (142, (.nz .np)),
 (143, (.ar 16 (.nz .np))),
 (145, c_pipe_Pipes),
 (146, (.sl c_wheel_timer)),
 (148, c_wheel_Wheel),
 (150, c_open_Thing),
 (152, c_open_file),
 (153, (.ar 32 c_open_file)),
 (154, (.ar 8 cI)),
 (155, (.ar 17 (.ar 8 cI))),
 (157, c_open_Table),
 (159, c_proc_entry),
 (160, (.ar 17 c_proc_entry)),
 (162, c_proc_Table),
 (163, (.sl c_spread_task)),
 (165, c_spread_Run),
 (166, (.vm 2)),
 (168, (.nz .np)),
 (172, c_spread_task),
 (175, (.i .u64)),
 (179, c_disk_write),
 (183, (.tp (.pr (.sl c_journal_Write) (.pr (.i .u32) (.pr .bl (.pr cI .un)))))),
 (186, c_journal_Write),
 (188, c_journal_Log),
 (193, (.tp (.pr c_inode_Node (.pr cI .un)))),
 (196, c_quota_Row),
 (199, (.nz .nm)),
 (201, c_fs_txn),
 (211, (.sl c_lift_Req)),
 (213, c_lift_Req),
 (217, (.nz .nf)),
 (218, (.tp (.pr cI (.pr .bl .un)))),
 (222, cI),
 (223, (.tp (.pr cI (.pr cI .un)))),
 (230, (.i .u64)),
 (232, (.sl c_extent_Ext)),
 (233, (.tp (.pr (.sl c_extent_Ext) (.pr cI .un)))),
 (236, c_extent_Ext),
 (239, (.tp (.pr (.sl cI) (.pr cI .un)))),
 (365, (.vp 1)),
 (367, c_space_entry),
 (370, (.ar 16 (.i .u8))),
 (372, c_space_page),
 (381, (.ar 2 cI)),
 (383, c_pipe_one),
 (386, c_mount_Mount),
 (388, c_wheel_timer)]
def sgs : List (Nat × Nat × List (Ty × List OK)) := [(15, 0, [((.tp (.pr (.nz .np) (.pr cI .un))), []), ((.tp (.pr (.rf 0 []) (.pr cI .un))), [(.bx (.pr (.sr 1) (.pr (.sr 2) (.pr (.sr 3) (.pr cI .un))))), (.rw 5 1 (.i .u8)), (.rw 5 1 (.i .u8)), (.rw 179 2 c_disk_write)])]),
 (33, 4, [(cI, [])]),
 (63, 4, [(.bl, [])]),
 (64, 0, [((.sr 0), [(.rw 5 1 (.i .u8))])]),
 (34, 4, [(cI, [(.rw 5 1 (.i .u8)), (.rw 179 2 c_disk_write)])]),
 (35, 0, [((.ar 32 (.i .u8)), [])]),
 (70, 0, [(.bl, [])]),
 (65, 0, [(cI, [])]),
 (36, 0, [((.tp (.pr (.sl (.i .u8)) (.pr cI .un))), [])]),
 (109, 0, [(cI, [])]),
 (85, 0, [(cI, [])]),
 (66, 0, [(cI, [])]),
 (110, 0, [((.tp (.pr (.sl c_extent_Ext) (.pr cI .un))), [])]),
 (67, 0, [((.tp (.pr (.sl (.i .u8)) (.pr cI .un))), [])]),
 (37, 0, [((.tp (.pr (.sr 0) (.pr cI .un))), [(.rw 5 1 (.i .u8))])]),
 (38, 0, [((.sl (.i .u8)), [])]),
 (39, 4, [((.tp .un), [(.rw 5 1 (.i .u8)), (.rw 179 2 c_disk_write)])]),
 (16, 4, [(cI, [(.rw 5 1 (.i .u8)), (.rw 5 1 (.i .u8)), (.rw 179 2 c_disk_write)])]),
 (40, 4, [((.tp (.pr (.sl (.i .u8)) (.pr cI .un))), [])]),
 (41, 0, [(.bl, [])]),
 (111, 4, [(cI, [])]),
 (68, 4, [((.tp (.pr (.sl c_journal_Write) (.pr (.i .u32) (.pr .bl (.pr cI .un))))), [])]),
 (42, 4, [((.tp (.pr (.nz .np) (.pr cI .un))), [(.rw 5 1 (.i .u8)), (.rw 179 2 c_disk_write)]), ((.tp (.pr (.rf 6 []) (.pr cI .un))), [(.rw 5 1 (.i .u8)), (.rw 179 2 c_disk_write), (.bx (.pr (.rf 0 []) (.pr cI (.pr cI (.pr (.i .u32) .un)))))])]),
 (69, 0, [((.tp (.pr (.ar 4 c_snap_Tree) (.pr cI .un))), [])]),
 (43, 4, [((.tp (.pr (.ar 4 c_snap_Tree) (.pr cI .un))), [])]),
 (144, 0, [((.tp (.pr (.sl cI) (.pr cI .un))), [])]),
 (113, 0, [((.tp (.pr (.sl cI) (.pr cI .un))), [])]),
 (71, 0, [((.tp (.pr c_inode_Node (.pr cI .un))), [])]),
 (44, 4, [((.tp (.pr (.sl c_inode_Node) (.pr cI .un))), [])]),
 (114, 0, [(cI, [])]),
 (72, 0, [((.tp (.pr (.sl (.i .u8)) (.pr cI .un))), [])]),
 (45, 0, [((.tp (.pr (.sl c_quota_Row) (.pr cI .un))), [])]),
 (31, 0, [(cI, [])]),
 (12, 0, [(.bl, [])]),
 (46, 0, [((.sl cI), [])]),
 (17, 4, [((.tp (.pr (.rf 6 []) (.pr cI .un))), [(.rw 5 1 (.i .u8)), (.rw 179 2 c_disk_write), (.bx (.pr (.rf 0 []) (.pr (.rf 7 []) (.pr (.ar 4 c_snap_Tree) (.pr (.sl c_quota_Row) (.pr (.sl c_inode_Node) (.pr (.sr 8) (.pr (.sr 9) .un)))))))), (.bx (.pr (.rf 0 []) (.pr cI (.pr cI (.pr (.i .u32) .un))))), (.mp cI (.sl (.i .u8))), (.mp cI cI)])]),
 (108, 0, [(cI, [])]),
 (62, 0, [(cI, [])]),
 (163, 1, [((.tp .un), [])]),
 (134, 1, [((.tp .un), [])]),
 (92, 1, [((.tp .un), [])]),
 (56, 8, [((.sl c_journal_Write), [(.mp cI (.sl (.i .u8)))])]),
 (120, 5, [(cI, [])]),
 (88, 5, [(cI, [])]),
 (55, 5, [(cI, [(.rw 5 1 (.i .u8)), (.rw 5 1 (.i .u8)), (.rw 179 2 c_disk_write)])]),
 (19, 8, [(cI, [(.mp cI (.sl (.i .u8))), (.rw 5 1 (.i .u8)), (.rw 5 1 (.i .u8)), (.rw 179 2 c_disk_write)])]),
 (4, 0, [((.tp (.pr (.nz .np) (.pr cI .un))), []), ((.tp (.pr (.rf 0 []) (.pr cI .un))), [(.bx (.pr (.sr 1) (.pr (.sr 2) (.pr (.sr 3) (.pr cI .un))))), (.rw 5 1 (.i .u8)), (.rw 5 1 (.i .u8)), (.rw 179 2 c_disk_write)])]),
 (20, 0, [((.rf 0 []), [(.bx c_pipe_Pipes)])]),
 (21, 0, [((.rf 0 []), [(.bx (.pr (.i .u32) (.pr .ns .un)))])]),
 (22, 0, [((.rf 0 []), [(.bx c_open_Table)])]),
 (23, 0, [((.rf 0 []), [(.bx c_proc_Table)])]),
 (24, 0, [((.tp (.pr (.nz .np) (.pr cI .un))), []), ((.tp (.pr (.rf 0 []) (.pr cI .un))), [(.bx (.pr cI (.pr cI (.pr cI (.pr (.sr 1) .un))))), (.rw 172 15 c_spread_task)])]),
 (25, 0, [((.tp (.pr (.nz .np) (.pr cI .un))), []), ((.tp (.pr (.rf 0 []) (.pr cI .un))), [(.bx (.pr cI (.pr cI (.pr cI (.pr .ns (.pr (.sr 1) .un)))))), (.mp cI (.vm 2))])]),
 (26, 1, [((.tp (.pr cI (.pr cI .un))), [])]),
 (57, 0, [(.bl, [])]),
 (27, 0, [(cI, [])]),
 (26, 3, [((.tp (.pr cI (.pr cI .un))), [(.mp cI (.vm 2))])]),
 (58, 2, [((.ep 1 15 []), []), ((.nz .np), [])]),
 (94, 2, [((.tp (.pr cI (.pr .bl .un))), [])]),
 (95, 2, [((.tp .un), [])]),
 (135, 2, [((.ep 1 15 []), []), ((.nz .np), [])]),
 (171, 1, [(.bl, [])]),
 (136, 2, [((.ep 1 15 []), []), ((.nz .np), [])]),
 (96, 2, [((.tp .un), [(.rw 172 15 c_spread_task)])]),
 (59, 2, [((.tp .un), [(.rw 172 15 c_spread_task)])]),
 (27, 2, [(cI, [(.rw 172 15 c_spread_task)])]),
 (5, 5, [((.tp (.pr (.nz .np) (.pr cI .un))), [(.rw 5 1 (.i .u8)), (.rw 179 2 c_disk_write)]), ((.tp (.pr (.rf 7 []) (.pr cI .un))), [(.rw 5 1 (.i .u8)), (.rw 179 2 c_disk_write), (.bx (.pr cI (.pr (.rf 8 []) (.pr (.rf 10 []) (.pr (.rf 14 []) (.pr (.rf 15 []) (.pr (.rf 17 []) (.pr (.rf 18 []) (.pr (.rf 19 []) (.pr (.ar 17 c_kernel_task) (.pr (.i .u32) .un))))))))))), (.bx (.pr cI (.pr cI (.pr cI (.pr .ns (.pr (.sr 9) .un)))))), (.mp cI (.vm 2)), (.bx (.pr (.rf 0 []) (.pr (.rf 11 []) (.pr (.ar 4 c_snap_Tree) (.pr (.sl c_quota_Row) (.pr (.sl c_inode_Node) (.pr (.sr 12) (.pr (.sr 13) .un)))))))), (.bx (.pr (.rf 0 []) (.pr cI (.pr cI (.pr (.i .u32) .un))))), (.mp cI (.sl (.i .u8))), (.mp cI cI), (.bx c_pipe_Pipes), (.bx (.pr cI (.pr cI (.pr cI (.pr (.sr 16) .un))))), (.rw 172 15 c_spread_task), (.bx (.pr (.i .u32) (.pr .ns .un))), (.bx c_open_Table), (.bx c_proc_Table)])]),
 (28, 1, [((.sl cI), [])]),
 (7, 17, [((.sl cI), [])]),
 (6, 0, [(.bl, [])]),
 (97, 0, [(.bl, [])]),
 (60, 1, [((.tp (.pr cI (.pr cI .un))), [])]),
 (29, 17, [(cI, [])]),
 (8, 17, [((.tp (.pr cI (.pr cI .un))), [])]),
 (9, 17, [((.tp (.pr c_api_Regs (.pr cI .un))), [])]),
 (30, 0, [((.sr 0), [(.rw 3 1 cI)])]),
 (10, 17, [((.tp (.pr c_api_Cred (.pr cI .un))), [])]),
 (11, 0, [(.bl, [])]),
 (13, 17, [((.rf 1 []), [])]),
 (98, 1, [((.tp .un), [])]),
 (61, 1, [((.tp .un), [])]),
 (32, 1, [((.tp .un), [])]),
 (14, 2, [((.sl cI), [(.mp cI (.vm 2))])]),
 (3, 1, [(.bl, [])])]
def pols : List (Nat × Nat × Pol) := [(3, 1, ⟨[], [(2, ⟨[], [0, 1, 2, 4, 11, 12]⟩), (5, ⟨[], [0, 1, 2, 4, 13, 14]⟩), (17, ⟨[], [13, 15, 16, 17, 18, 19, 20, 21]⟩)], [], [], [(5, 60), (6, 10), (13, 103), (18, 10)], [], []⟩),
 (4, 0, ⟨[], [(2, ⟨[], [1, 6, 7]⟩)], [(13, ⟨[], [6, 9, 38, 39, 40]⟩)], [], [], [], []⟩),
 (15, 0, ⟨[], [], [], [.tb 256 2 179 2 c_disk_write], [(1, 10)], [], []⟩),
 (16, 4, ⟨[(7, [.fs 3])], [], [(5, ⟨[.fs 3], [0, 3, 17, 18]⟩), (11, ⟨[], [0, 5, 26]⟩), (21, ⟨[], [0, 7, 9, 60]⟩)], [], [(18, 59)], [77], []⟩),
 (34, 4, ⟨[], [], [], [], [(1, 19)], [29], []⟩),
 (35, 0, ⟨[], [], [], [], [(1, 10)], [], []⟩),
 (36, 0, ⟨[], [], [(6, ⟨[.th 5 5 1 (.i .u8)], [1, 5, 15]⟩), (9, ⟨[.th 5 5 1 (.i .u8)], [1, 5, 15, 21, 22]⟩), (15, ⟨[], [1, 5, 32]⟩)], [.fs 2], [], [], []⟩),
 (65, 0, ⟨[], [], [(2, ⟨[], [1, 6]⟩), (5, ⟨[], [1, 3, 6, 12, 13]⟩)], [], [(7, 21), (10, 33)], [], []⟩),
 (70, 0, ⟨[], [], [], [], [(1, 4)], [], []⟩),
 (37, 0, ⟨[], [], [], [.th 2 5 1 (.i .u8)], [], [], []⟩),
 (66, 0, ⟨[], [], [], [], [(2, 40), (5, 41), (7, 90), (9, 99)], [], []⟩),
 (109, 0, ⟨[], [], [(4, ⟨[], [8, 9, 10]⟩)], [], [(6, 19)], [], []⟩),
 (67, 0, ⟨[], [], [(6, ⟨[], [6, 18, 19, 20]⟩)], [.fs 2], [], [], []⟩),
 (110, 0, ⟨[], [], [(6, ⟨[.th 5 236 2 c_extent_Ext], [5, 14, 15, 16]⟩)], [.fs 2], [(9, 32)], [], []⟩),
 (38, 0, ⟨[], [], [], [.fs 2], [], [], []⟩),
 (39, 4, ⟨[], [], [], [.tb 0 2 179 2 c_disk_write], [], [], []⟩),
 (17, 4, ⟨[], [(5, ⟨[], [0, 5, 6]⟩)], [(19, ⟨[], [12, 86, 87, 88]⟩)], [], [(2, 36)], [], []⟩),
 (40, 4, ⟨[], [], [], [.fs 4], [(1, 13)], [], []⟩),
 (41, 0, ⟨[], [], [(4, ⟨[], [0, 1, 12, 13]⟩)], [], [], [], []⟩),
 (42, 4, ⟨[], [], [(6, ⟨[], [0, 1, 2, 8, 9, 29, 30, 31]⟩), (12, ⟨[], [0, 1, 2, 9, 55, 56, 57]⟩)], [], [(8, 53)], [], []⟩),
 (68, 4, ⟨[], [], [], [], [(6, 51)], [], []⟩),
 (111, 4, ⟨[], [], [], [], [(1, 24)], [], []⟩),
 (43, 4, ⟨[(10, [.fs 4])], [], [(3, ⟨[.th 4 5 1 (.i .u8)], [0, 2, 4, 13]⟩), (14, ⟨[], [0, 2, 8, 43]⟩), (17, ⟨[], [0, 2, 8, 10, 43, 49, 50]⟩)], [], [(11, 41), (19, 65)], [], []⟩),
 (69, 0, ⟨[], [], [(5, ⟨[], [0, 2, 4, 13]⟩), (8, ⟨[], [0, 2, 4, 5, 13, 16]⟩)], [], [(15, 56)], [], []⟩),
 (44, 4, ⟨[], [], [(3, ⟨[.th 6 109 8 c_inode_Node], [0, 6, 15, 16]⟩), (9, ⟨[.th 6 109 8 c_inode_Node], [0, 6, 9, 15, 16, 27]⟩)], [.fs 4], [], [], []⟩),
 (71, 0, ⟨[], [], [], [], [(9, 76)], [], []⟩),
 (113, 0, ⟨[(8, [.fs 4])], [], [(5, ⟨[.th 4 236 2 c_extent_Ext], [0, 4, 5]⟩)], [], [(5, 23), (12, 61)], [], []⟩),
 (144, 0, ⟨[], [], [(3, ⟨[.th 4 3 1 cI], [4, 8, 9, 10]⟩), (8, ⟨[.th 4 3 1 cI], [4, 6, 8, 9, 10, 46, 47]⟩)], [.fs 2], [(5, 44)], [], []⟩),
 (45, 0, ⟨[(9, [.fs 4])], [], [(5, ⟨[.th 4 196 2 c_quota_Row], [0, 4, 20, 21]⟩)], [], [(1, 16), (10, 64)], [], []⟩),
 (72, 0, ⟨[], [], [(7, ⟨[], [5, 19, 20, 21]⟩)], [.fs 2], [], [], []⟩),
 (114, 0, ⟨[], [], [(4, ⟨[], [0, 8, 9, 10]⟩)], [], [(6, 47)], [], []⟩),
 (46, 0, ⟨[], [], [(3, ⟨[.th 5 3 1 cI], [1, 5, 8, 9, 10]⟩)], [.fs 4], [(5, 29)], [], []⟩),
 (31, 0, ⟨[], [], [(2, ⟨[], [0, 1, 7, 8]⟩)], [], [], [], []⟩),
 (56, 8, ⟨[], [], [(3, ⟨[.th 3 186 2 c_journal_Write], [3, 10]⟩)], [.fs 2], [], [], []⟩),
 (108, 0, ⟨[], [(7, ⟨[], [0, 2]⟩), (4, ⟨[], [0, 2]⟩)], [], [], [], [], []⟩),
 (134, 1, ⟨[], [], [(2, ⟨[], [0, 1, 2, 3, 4, 10, 11]⟩)], [], [], [], []⟩),
 (163, 1, ⟨[], [], [(1, ⟨[], [0, 1, 2, 3, 8]⟩), (4, ⟨[], [0, 1, 2, 3, 8, 9]⟩)], [], [(4, 34)], [], []⟩),
 (55, 5, ⟨[(9, [.fs 6])], [], [], [], [], [], []⟩),
 (88, 5, ⟨[], [], [(5, ⟨[], [0, 5, 14, 15, 16]⟩)], [], [(7, 61)], [], []⟩),
 (5, 5, ⟨[(18, [.nb 138 (.pr cI (.pr (.nz .np) (.pr (.rf 620 []) (.pr (.rf 58 []) (.pr (.nz .np) (.pr (.rf 74 []) (.pr (.rf 90 []) (.pr (.rf 106 []) (.pr (.ar 17 c_kernel_task) (.pr (.i .u32) .un)))))))))), .nb 12 (.pr cI (.pr (.nz .np) (.pr (.rf 83 []) (.pr (.rf 13 []) (.pr (.nz .np) (.pr (.rf 14 []) (.pr (.rf 15 []) (.pr (.rf 16 []) (.pr (.ar 17 c_kernel_task) (.pr (.i .u32) .un)))))))))), .nb 12 (.pr cI (.pr (.nz .np) (.pr (.rf 51 []) (.pr (.rf 13 []) (.pr (.nz .np) (.pr (.rf 14 []) (.pr (.rf 15 []) (.pr (.rf 16 []) (.pr (.ar 17 c_kernel_task) (.pr (.i .u32) .un)))))))))), .nb 12 (.pr cI (.pr (.rf 13 []) (.pr (.rf 53 []) (.pr (.rf 15 []) (.pr (.nz .np) (.pr (.rf 16 []) (.pr (.rf 17 []) (.pr (.rf 18 []) (.pr (.ar 17 c_kernel_task) (.pr (.i .u32) .un)))))))))), .nb 12 (.pr cI (.pr (.nz .np) (.pr (.rf 53 []) (.pr (.rf 13 []) (.pr (.rf 14 []) (.pr (.rf 16 []) (.pr (.rf 17 []) (.pr (.rf 18 []) (.pr (.ar 17 c_kernel_task) (.pr (.i .u32) .un)))))))))), .nb 12 (.pr cI (.pr (.rf 13 []) (.pr (.rf 55 []) (.pr (.rf 15 []) (.pr (.rf 16 []) (.pr (.rf 18 []) (.pr (.rf 19 []) (.pr (.rf 20 []) (.pr (.ar 17 c_kernel_task) (.pr (.i .u32) .un))))))))))])], [(7, ⟨[], [3, 10, 11]⟩), (9, ⟨[], [3, 10]⟩), (4, ⟨[], [1, 2, 3, 10, 11]⟩), (6, ⟨[], [1, 2, 3, 10]⟩)], [], [], [], [81], []⟩),
 (24, 0, ⟨[], [], [], [.tb 160 3 172 15 c_spread_task], [(1, 9)], [], []⟩),
 (25, 0, ⟨[], [], [], [], [(1, 19)], [], []⟩),
 (26, 1, ⟨[], [], [(2, ⟨[], [0, 4]⟩)], [], [], [], []⟩),
 (27, 0, ⟨[], [], [], [], [(1, 20)], [], []⟩),
 (57, 0, ⟨[], [], [], [], [(3, 4), (5, 4)], [], []⟩),
 (26, 3, ⟨[], [], [(2, ⟨[], [0, 4]⟩)], [], [], [], []⟩),
 (27, 2, ⟨[], [], [], [], [(1, 20)], [], []⟩),
 (58, 2, ⟨[], [], [(2, ⟨[], [0, 1, 10, 11]⟩)], [], [], [], []⟩),
 (59, 2, ⟨[], [(5, ⟨[], [0, 3]⟩)], [], [], [(3, 24)], [], []⟩),
 (94, 2, ⟨[], [], [(3, ⟨[], [4, 5, 11, 12, 13]⟩)], [], [(5, 33)], [], []⟩),
 (96, 2, ⟨[], [(5, ⟨[], [0, 2, 3, 7, 8]⟩)], [(1, ⟨[], [0, 7, 8]⟩)], [], [], [], []⟩),
 (135, 2, ⟨[], [], [(2, ⟨[], [0, 1, 10, 11]⟩)], [], [], [], []⟩),
 (136, 2, ⟨[], [], [(3, ⟨[], [0, 1, 5, 12, 13]⟩)], [], [(6, 42)], [], []⟩),
 (171, 1, ⟨[], [], [], [], [(1, 2)], [], []⟩),
 (28, 1, ⟨[], [], [(3, ⟨[.th 3 3 1 cI], [3, 9, 10]⟩)], [.fs 2], [], [], []⟩),
 (6, 0, ⟨[], [], [(4, ⟨[], [0, 1, 12, 13]⟩)], [], [], [], []⟩),
 (29, 17, ⟨[], [], [], [], [(2, 21)], [], []⟩),
 (97, 0, ⟨[], [], [], [], [(1, 2)], [], []⟩),
 (10, 17, ⟨[], [], [], [], [], [24], []⟩),
 (11, 0, ⟨[], [], [], [], [(1, 4)], [], []⟩),
 (14, 2, ⟨[], [], [(3, ⟨[.th 3 3 1 cI], [3, 9]⟩)], [.fs 2], [], [], []⟩),
 (61, 1, ⟨[], [], [(2, ⟨[], [0, 1, 2, 3, 8, 9]⟩)], [], [], [], []⟩),
 (98, 1, ⟨[], [], [(1, ⟨[], [0, 1, 2, 6]⟩), (4, ⟨[], [0, 1, 2, 6, 7]⟩)], [], [(4, 30)], [], []⟩)]
def aras : List (Nat × List Nat) := [(3, [2]), (5, [2]), (26, [2])]
def gbs : List (Nat × Nat) := [(372, 1)]
def mpcs : List (Nat × Ty × Ty) := [(89, cI, (.vm 2)), (124, cI, (.sl (.i .u8))), (125, cI, cI), (166, cI, c_space_entry), (199, cI, .bl)]
def cons : List Nat := []
def looks : List Nat := [6, 12, 30, 31, 41, 64]
def kps : List (Nat × Nat × List Nat) := [(33, 4, [0, 1, 2, 3]), (63, 4, [1, 2, 3]), (34, 4, [1]), (39, 4, [2]), (40, 4, [0, 1, 2, 3]), (111, 4, [0, 1, 2, 3]), (68, 4, [0, 1, 2, 3]), (42, 4, [1]), (43, 4, [0, 1, 2, 3]), (44, 4, [0, 1, 2, 3]), (17, 4, [1]), (56, 8, [1, 2, 3, 4, 5, 7]), (120, 5, [0, 1, 2, 3, 4]), (88, 5, [0, 1, 2, 3, 4]), (19, 8, [7]), (26, 1, [0]), (58, 2, [0, 1]), (94, 2, [0, 1]), (135, 2, [0, 1]), (171, 1, [0]), (136, 2, [0, 1]), (5, 5, [1]), (28, 1, [0]), (7, 17, [0, 1, 2, 3, 4, 5, 6, 7, 8, 9, 10, 11, 12, 13, 14, 15, 16]), (60, 1, [0]), (29, 17, [0, 1, 2, 3, 4, 5, 6, 7, 8, 9, 10, 11, 12, 13, 14, 15, 16]), (8, 17, [0, 1, 2, 3, 4, 5, 6, 7, 8, 9, 10, 11, 12, 13, 14, 15, 16]), (9, 17, [0, 1, 2, 3, 4, 5, 6, 7, 8, 9, 10, 11, 12, 13, 14, 15, 16]), (10, 17, [0, 1, 2, 3, 4, 5, 6, 7, 8, 9, 10, 11, 12, 13, 14, 15, 16]), (13, 17, [0, 1, 2, 3, 4, 5, 6, 7, 8, 9, 10, 11, 12, 13, 14, 15, 16])]
def EE (P : Program) : Env := ⟨P, TT, alst cds, al2 sgs, fun f n => (al2 pols f n).getD ⟨[], [], [], [], [], [], []⟩, fun f => (alst aras f).getD [], alst gbs, alst mpcs, fun f => memN f cons, fun f => memN f looks, fun f n => (al2 kps f n).getD []⟩
/-- slices.Clone: told by a walk of its own; what never runs hands nothing back -/
def prims {P : Program} : PrimT (EE P) := fun g => match g with
  | 64 => some fun vs hs => match vs, hs with
    | [⟨.sl (.i .u8), xs⟩], [] => bif Nat.ble (List.length (α := Int) xs) 100000 then some ((), xs, ()) else none
    | _, _ => none
  | 30 => some fun vs hs => match vs, hs with
    | [⟨.sl (.i .i64), xs⟩], [] => bif Nat.ble (List.length (α := Int) xs) 100000 then some ((), xs, ()) else none
    | _, _ => none
  | 18 => some fun _ _ => none
  | 47 => some fun _ _ => none
  | 89 => some fun _ _ => none
  | 93 => some fun _ _ => none
  | 99 => some fun _ _ => none
  | 100 => some fun _ _ => none
  | 101 => some fun _ _ => none
  | 104 => some fun _ _ => none
  | 112 => some fun _ _ => none
  | 143 => some fun _ _ => none
  | 164 => some fun _ _ => none
  | 165 => some fun _ _ => none
  | 166 => some fun _ _ => none
  | 172 => some fun _ _ => none
  | _ => none
def sums : SumT := fun _ _ => none
variable {P : Program}
def arM {n : Nat} {α β : Type} (f : α → β) (x : Ar n α) : Ar n β := ⟨x.1.map f, by rw [List.length_map]; exact x.2⟩
/-- ringhall/disk.New -/
def G_disk_New (P : Program) (N d : Nat) (sectors_9 : Int) : Option ((((Unit × Int × Unit)) × Unit) ⊕ (((Unit × Int × Unit)) × ((Unit × Unit × Unit × Int × Unit)) × (List (Int)) × (List (Int)) × (List (S_disk_write)) × Unit)) := R4 (EE P) prims sums N d 15 [⟨cI, sectors_9⟩] []
/-- (*ringhall/disk.Disk).Size -/
def G_disk_Disk_Size (P : Program) (N d : Nat) (s26 : (Unit × Unit × Unit × Int × Unit)) (s27 : List (Int)) (s28 : List (Int)) (s29 : List (S_disk_write)) : Option ((Int) × Unit) := R4 (EE P) prims sums N d 33 [⟨(.rf 0 []), ()⟩] [(.ob (.bx (.pr (.sr 1) (.pr (.sr 2) (.pr (.sr 3) (.pr cI .un))))) s26), (.ob (.rw 5 1 (.i .u8)) s27), (.ob (.rw 5 1 (.i .u8)) s28), (.ob (.rw 179 2 c_disk_write) s29)]
/-- (*ringhall/disk.Disk).goes -/
def G_disk_Disk_goes (P : Program) (N d : Nat) (s48 : (Unit × Unit × Unit × Int × Unit)) (s49 : List (Int)) (s50 : List (Int)) (s51 : List (S_disk_write)) : Option ((Bool) × ((Unit × Unit × Unit × Int × Unit)) × Unit) := R4 (EE P) prims sums N d 63 [⟨(.rf 0 []), ()⟩] [(.ob (.bx (.pr (.sr 1) (.pr (.sr 2) (.pr (.sr 3) (.pr cI .un))))) s48), (.ob (.rw 5 1 (.i .u8)) s49), (.ob (.rw 5 1 (.i .u8)) s50), (.ob (.rw 179 2 c_disk_write) s51)]
/-- slices.Clone[[]byte,byte] -/
def G_slices_Clone (P : Program) (N d : Nat) (s_53 : List (Int)) : Option ((Unit) × (List (Int)) × Unit) := R4 (EE P) prims sums N d 64 [⟨(.sl (.i .u8)), s_53⟩] []
/-- (*ringhall/disk.Disk).Write -/
def G_disk_Disk_Write (P : Program) (N d : Nat) (n_40 : Int) (data_41 : List (Int)) (s42 : (Unit × Unit × Unit × Int × Unit)) (s43 : List (Int)) (s44 : List (Int)) (s45 : List (S_disk_write)) : Option ((Int) × ((Unit × Unit × Unit × Int × Unit)) × (List (Int)) × (List (S_disk_write)) × Unit) := R4 (EE P) prims sums N d 34 [⟨(.rf 0 []), ()⟩, ⟨cI, n_40⟩, ⟨(.sl (.i .u8)), data_41⟩] [(.ob (.bx (.pr (.sr 1) (.pr (.sr 2) (.pr (.sr 3) (.pr cI .un))))) s42), (.ob (.rw 5 1 (.i .u8)) s43), (.ob (.rw 5 1 (.i .u8)) s44), (.ob (.rw 179 2 c_disk_write) s45)]
/-- (ringhall/bits.Set).With -/
def G_bits_Set_With (P : Program) (N d : Nat) (s_64 : Ar 32 (Int)) (n_65 : Int) : Option ((Ar 32 (Int)) × Unit) := R4 (EE P) prims sums N d 35 [⟨(.ar 32 (.i .u8)), s_64⟩, ⟨cI, n_65⟩] []
/-- (ringhall/snap.Forest).There -/
def G_snap_Forest_There (P : Program) (N d : Nat) (f_84 : Ar 4 (S_snap_Tree)) (k_85 : Int) : Option ((Bool) × Unit) := R4 (EE P) prims sums N d 70 [⟨(.ar 4 c_snap_Tree), f_84⟩, ⟨cI, k_85⟩] []
/-- ringhall/snap.Pack -/
def G_snap_Pack (P : Program) (N d : Nat) (f_70 : Ar 4 (S_snap_Tree)) : Option (((List (Int) × Int × Unit)) × Unit) := R4 (EE P) prims sums N d 36 [⟨(.ar 4 c_snap_Tree), f_70⟩] []
/-- ringhall/inode.Pack -/
def G_inode_Pack (P : Program) (N d : Nat) (n_110 : S_inode_Node) : Option (((Unit × Int × Unit)) × (List (Int)) × Unit) := R4 (EE P) prims sums N d 37 [⟨c_inode_Node, n_110⟩] []
/-- ringhall/check.Mark -/
def G_check_Mark (P : Program) (N d : Nat) (size_172 : Int) : Option ((List (Int)) × Unit) := R4 (EE P) prims sums N d 38 [⟨cI, size_172⟩] []
/-- (*ringhall/disk.Disk).Flush -/
def G_disk_Disk_Flush (P : Program) (N d : Nat) (s177 : (Unit × Unit × Unit × Int × Unit)) (s178 : List (Int)) (s179 : List (Int)) (s180 : List (S_disk_write)) : Option (((Unit)) × ((Unit × Unit × Unit × Int × Unit)) × (List (Int)) × (List (S_disk_write)) × Unit) := R4 (EE P) prims sums N d 39 [⟨(.rf 0 []), ()⟩] [(.ob (.bx (.pr (.sr 1) (.pr (.sr 2) (.pr (.sr 3) (.pr cI .un))))) s177), (.ob (.rw 5 1 (.i .u8)) s178), (.ob (.rw 5 1 (.i .u8)) s179), (.ob (.rw 179 2 c_disk_write) s180)]
/-- ringhall/fs.Format -/
def G_fs_Format (P : Program) (N d : Nat) (s22 : (Unit × Unit × Unit × Int × Unit)) (s23 : List (Int)) (s24 : List (Int)) (s25 : List (S_disk_write)) : Option ((Int) × ((Unit × Unit × Unit × Int × Unit)) × (List (Int)) × (List (Int)) × (List (S_disk_write)) × Unit) := R4 (EE P) prims sums N d 16 [⟨(.rf 0 []), ()⟩] [(.ob (.bx (.pr (.sr 1) (.pr (.sr 2) (.pr (.sr 3) (.pr cI .un))))) s22), (.ob (.rw 5 1 (.i .u8)) s23), (.ob (.rw 5 1 (.i .u8)) s24), (.ob (.rw 179 2 c_disk_write) s25)]
def G_fs_Format_L5 (P : Program) (N d : Nat) (k : Nat) (zero_32 : List (Int)) (t_33 : Int) (t_34 : Int) (s35 : (Unit × Unit × Unit × Int × Unit)) (s36 : List (Int)) (s37 : List (Int)) (s38 : List (S_disk_write)) : Option ((Int) × ((Unit × Unit × Unit × Int × Unit)) × (List (Int)) × (List (Int)) × (List (S_disk_write)) × Unit) := RL4 (EE P) prims sums N d 16 5 [] [(.bx (.pr (.sr 4) (.pr (.sr 5) (.pr (.sr 6) (.pr cI .un))))), .no, .no, .no] k ⟨[(0, ⟨(.rf 0 []), ()⟩), (3, ⟨(.sl (.i .u8)), zero_32⟩), (17, ⟨cI, t_33⟩), (18, ⟨cI, t_34⟩)], [(0, (.ob (.bx (.pr (.sr 8) (.pr (.sr 9) (.pr (.sr 10) (.pr cI .un))))) s35)), (1, .none), (2, .none), (3, .none), (4, (.gh 0 ⟨(.rf 0 []), ()⟩)), (5, (.gh 1 ⟨(.sr 1), ()⟩)), (6, (.gh 2 ⟨(.sr 2), ()⟩)), (7, (.gh 3 ⟨(.sr 3), ()⟩)), (8, (.ob (.rw 5 1 (.i .u8)) s36)), (9, (.ob (.rw 5 1 (.i .u8)) s37)), (10, (.ob (.rw 179 2 c_disk_write) s38))], 11⟩
def G_fs_Format_L11 (P : Program) (N d : Nat) (k : Nat) (t_56 : Int) (s57 : (Unit × Unit × Unit × Int × Unit)) (s58 : List (Int)) (s59 : List (Int)) (s60 : List (S_disk_write)) (s61 : Ar 4 (S_snap_Tree)) : Option ((Int) × ((Unit × Unit × Unit × Int × Unit)) × (List (Int)) × (List (Int)) × (List (S_disk_write)) × Unit) := RL4 (EE P) prims sums N d 16 11 [] [(.bx (.pr (.sr 4) (.pr (.sr 5) (.pr (.sr 6) (.pr cI .un))))), .no, .no, .no] k ⟨[(0, ⟨(.rf 0 []), ()⟩), (5, ⟨(.rf 11 []), ()⟩), (26, ⟨cI, t_56⟩)], [(0, (.ob (.bx (.pr (.sr 8) (.pr (.sr 9) (.pr (.sr 10) (.pr cI .un))))) s57)), (1, .none), (2, .none), (3, .none), (4, (.gh 0 ⟨(.rf 0 []), ()⟩)), (5, (.gh 1 ⟨(.sr 1), ()⟩)), (6, (.gh 2 ⟨(.sr 2), ()⟩)), (7, (.gh 3 ⟨(.sr 3), ()⟩)), (8, (.ob (.rw 5 1 (.i .u8)) s58)), (9, (.ob (.rw 5 1 (.i .u8)) s59)), (10, (.ob (.rw 179 2 c_disk_write) s60)), (11, (.ob (.bx (.ar 4 c_snap_Tree)) s61))], 12⟩
def G_fs_Format_L21 (P : Program) (N d : Nat) (k : Nat) (b_161 : List (Int)) (t_162 : Int) (s163 : (Unit × Unit × Unit × Int × Unit)) (s164 : List (Int)) (s165 : List (Int)) (s166 : List (S_disk_write)) (s167 : List (Int)) : Option ((Int) × ((Unit × Unit × Unit × Int × Unit)) × (List (Int)) × (List (Int)) × (List (S_disk_write)) × Unit) := RL4 (EE P) prims sums N d 16 21 [] [(.bx (.pr (.sr 4) (.pr (.sr 5) (.pr (.sr 6) (.pr cI .un))))), .no, .no, .no] k ⟨[(0, ⟨(.rf 0 []), ()⟩), (7, ⟨(.sl (.i .u8)), b_161⟩), (9, ⟨(.sr 11), ()⟩), (60, ⟨cI, t_162⟩)], [(0, (.ob (.bx (.pr (.sr 8) (.pr (.sr 9) (.pr (.sr 10) (.pr cI .un))))) s163)), (1, .none), (2, .none), (3, .none), (4, (.gh 0 ⟨(.rf 0 []), ()⟩)), (5, (.gh 1 ⟨(.sr 1), ()⟩)), (6, (.gh 2 ⟨(.sr 2), ()⟩)), (7, (.gh 3 ⟨(.sr 3), ()⟩)), (8, (.ob (.rw 5 1 (.i .u8)) s164)), (9, (.ob (.rw 5 1 (.i .u8)) s165)), (10, (.ob (.rw 179 2 c_disk_write) s166)), (11, (.ob (.rw 5 1 (.i .u8)) s167))], 12⟩
/-- (*ringhall/disk.Disk).Read -/
def G_disk_Disk_Read (P : Program) (N d : Nat) (n_188 : Int) (s189 : (Unit × Unit × Unit × Int × Unit)) (s190 : List (Int)) (s191 : List (Int)) (s192 : List (S_disk_write)) : Option (((List (Int) × Int × Unit)) × Unit) := R4 (EE P) prims sums N d 40 [⟨(.rf 0 []), ()⟩, ⟨cI, n_188⟩] [(.ob (.bx (.pr (.sr 1) (.pr (.sr 2) (.pr (.sr 3) (.pr cI .un))))) s189), (.ob (.rw 5 1 (.i .u8)) s190), (.ob (.rw 5 1 (.i .u8)) s191), (.ob (.rw 179 2 c_disk_write) s192)]
/-- slices.Equal[[]byte,byte] -/
def G_slices_Equal (P : Program) (N d : Nat) (s_200 : List (Int)) (s_201 : List (Int)) : Option ((Bool) × Unit) := R4 (EE P) prims sums N d 41 [⟨(.sl (.i .u8)), s_200⟩, ⟨(.sl (.i .u8)), s_201⟩] []
def G_slices_Equal_L4 (P : Program) (N d : Nat) (k : Nat) (s_202 : List (Int)) (s_203 : List (Int)) (t_204 : Int) (t_205 : Int) : Option ((Bool) × Unit) := RL4 (EE P) prims sums N d 41 4 [] [] k ⟨[(0, ⟨(.sl (.i .u8)), s_202⟩), (1, ⟨(.sl (.i .u8)), s_203⟩), (12, ⟨cI, t_204⟩), (13, ⟨cI, t_205⟩)], [], 0⟩
/-- ringhall/journal.region -/
def G_journal_region (P : Program) (N d : Nat) (at_223 : Int) (size_224 : Int) (s225 : (Unit × Unit × Unit × Int × Unit)) (s226 : List (Int)) (s227 : List (Int)) (s228 : List (S_disk_write)) : Option ((Int) × Unit) := R4 (EE P) prims sums N d 111 [⟨(.rf 0 []), ()⟩, ⟨cI, at_223⟩, ⟨cI, size_224⟩] [(.ob (.bx (.pr (.sr 1) (.pr (.sr 2) (.pr (.sr 3) (.pr cI .un))))) s225), (.ob (.rw 5 1 (.i .u8)) s226), (.ob (.rw 5 1 (.i .u8)) s227), (.ob (.rw 179 2 c_disk_write) s228)]
/-- ringhall/journal.Scan -/
def G_journal_Scan (P : Program) (N d : Nat) (at_217 : Int) (size_218 : Int) (s219 : (Unit × Unit × Unit × Int × Unit)) (s220 : List (Int)) (s221 : List (Int)) (s222 : List (S_disk_write)) : Option (((List (S_journal_Write) × Int × Bool × Int × Unit)) × Unit) := R4 (EE P) prims sums N d 68 [⟨(.rf 0 []), ()⟩, ⟨cI, at_217⟩, ⟨cI, size_218⟩] [(.ob (.bx (.pr (.sr 1) (.pr (.sr 2) (.pr (.sr 3) (.pr cI .un))))) s219), (.ob (.rw 5 1 (.i .u8)) s220), (.ob (.rw 5 1 (.i .u8)) s221), (.ob (.rw 179 2 c_disk_write) s222)]
/-- ringhall/journal.Open -/
def G_journal_Open (P : Program) (N d : Nat) (at_211 : Int) (size_212 : Int) (s213 : (Unit × Unit × Unit × Int × Unit)) (s214 : List (Int)) (s215 : List (Int)) (s216 : List (S_disk_write)) : Option ((((Unit × Int × Unit)) × ((Unit × Unit × Unit × Int × Unit)) × (List (Int)) × (List (S_disk_write)) × Unit) ⊕ (((Unit × Int × Unit)) × ((Unit × Unit × Unit × Int × Unit)) × (List (Int)) × (List (S_disk_write)) × ((Unit × Int × Int × Int × Unit)) × Unit)) := R4 (EE P) prims sums N d 42 [⟨(.rf 0 []), ()⟩, ⟨cI, at_211⟩, ⟨cI, size_212⟩] [(.ob (.bx (.pr (.sr 1) (.pr (.sr 2) (.pr (.sr 3) (.pr cI .un))))) s213), (.ob (.rw 5 1 (.i .u8)) s214), (.ob (.rw 5 1 (.i .u8)) s215), (.ob (.rw 179 2 c_disk_write) s216)]
def G_journal_Open_L6 (P : Program) (N d : Nat) (k : Nat) (at_237 : Int) (size_238 : Int) (l_239 : List (S_journal_Write)) (seq_240 : Int) (t_241 : List (S_journal_Write)) (t_242 : Int) (t_243 : Int) (s244 : (Unit × Unit × Unit × Int × Unit)) (s245 : List (Int)) (s246 : List (Int)) (s247 : List (S_disk_write)) : Option ((((Unit × Int × Unit)) × ((Unit × Unit × Unit × Int × Unit)) × (List (Int)) × (List (S_disk_write)) × Unit) ⊕ (((Unit × Int × Unit)) × ((Unit × Unit × Unit × Int × Unit)) × (List (Int)) × (List (S_disk_write)) × ((Unit × Int × Int × Int × Unit)) × Unit)) := RL4 (EE P) prims sums N d 42 6 [] [(.bx (.pr (.sr 1) (.pr (.sr 4) (.pr (.sr 5) (.pr cI .un))))), (.rw 5 1 (.i .u8)), .no, .no] k ⟨[(0, ⟨(.rf 0 []), ()⟩), (1, ⟨cI, at_237⟩), (2, ⟨cI, size_238⟩), (8, ⟨(.sl c_journal_Write), l_239⟩), (9, ⟨(.i .u32), seq_240⟩), (29, ⟨(.sl c_journal_Write), t_241⟩), (30, ⟨cI, t_242⟩), (31, ⟨cI, t_243⟩)], [(0, (.ob (.bx (.pr (.sr 1) (.pr (.sr 8) (.pr (.sr 9) (.pr cI .un))))) s244)), (1, (.ob (.rw 5 1 (.i .u8)) s245)), (2, .none), (3, .none), (4, (.gh 0 ⟨(.rf 0 []), ()⟩)), (5, (.gh 1 ⟨(.sr 1), ()⟩)), (6, (.gh 2 ⟨(.sr 2), ()⟩)), (7, (.gh 3 ⟨(.sr 3), ()⟩)), (8, (.ob (.rw 5 1 (.i .u8)) s246)), (9, (.ob (.rw 179 2 c_disk_write) s247))], 10⟩
/-- ringhall/snap.Unpack -/
def G_snap_Unpack (P : Program) (N d : Nat) (b_286 : List (Int)) : Option (((Ar 4 (S_snap_Tree) × Int × Unit)) × Unit) := R4 (EE P) prims sums N d 69 [⟨(.sl (.i .u8)), b_286⟩] []
/-- ringhall/check.Load -/
def G_check_Load (P : Program) (N d : Nat) (s273 : (Unit × Unit × Unit × Int × Unit)) (s274 : List (Int)) (s275 : List (Int)) (s276 : List (S_disk_write)) : Option (((Ar 4 (S_snap_Tree) × Int × Unit)) × Unit) := R4 (EE P) prims sums N d 43 [⟨(.ic 22 (.rf 0 [])), ()⟩] [(.ob (.bx (.pr (.sr 1) (.pr (.sr 2) (.pr (.sr 3) (.pr cI .un))))) s273), (.ob (.rw 5 1 (.i .u8)) s274), (.ob (.rw 5 1 (.i .u8)) s275), (.ob (.rw 179 2 c_disk_write) s276)]
def G_check_Load_L3 (P : Program) (N d : Nat) (k : Nat) (t_277 : Int) (s278 : (Unit × Unit × Unit × Int × Unit)) (s279 : List (Int)) (s280 : List (Int)) (s281 : List (S_disk_write)) (s282 : Ar 4 (S_snap_Tree)) (s283 : List (Int)) : Option (((Ar 4 (S_snap_Tree) × Int × Unit)) × Unit) := RL4 (EE P) prims sums N d 43 3 [] [(.bx (.pr (.sr 1) (.pr (.sr 2) (.pr (.sr 3) (.pr cI .un))))), (.rw 5 1 (.i .u8)), (.rw 5 1 (.i .u8)), (.rw 179 2 c_disk_write)] k ⟨[(0, ⟨(.ic 22 (.rf 0 [])), ()⟩), (2, ⟨(.rf 8 []), ()⟩), (4, ⟨(.sr 9), ()⟩), (13, ⟨cI, t_277⟩)], [(0, (.ob (.bx (.pr (.sr 1) (.pr (.sr 2) (.pr (.sr 3) (.pr cI .un))))) s278)), (1, (.ob (.rw 5 1 (.i .u8)) s279)), (2, (.ob (.rw 5 1 (.i .u8)) s280)), (3, (.ob (.rw 179 2 c_disk_write) s281)), (4, (.gh 0 ⟨(.rf 0 []), ()⟩)), (5, (.gh 1 ⟨(.sr 1), ()⟩)), (6, (.gh 2 ⟨(.sr 2), ()⟩)), (7, (.gh 3 ⟨(.sr 3), ()⟩)), (8, (.ob (.bx (.ar 4 c_snap_Tree)) s282)), (9, (.ob (.rw 5 1 (.i .u8)) s283))], 10⟩
def G_check_Load_L14 (P : Program) (N d : Nat) (k : Nat) (t_310 : Int) (s311 : (Unit × Unit × Unit × Int × Unit)) (s312 : List (Int)) (s313 : List (Int)) (s314 : List (S_disk_write)) (s315 : Ar 4 (S_snap_Tree)) (s316 : Ar 4 (S_snap_Tree)) : Option (((Ar 4 (S_snap_Tree) × Int × Unit)) × Unit) := RL4 (EE P) prims sums N d 43 14 [] [(.bx (.pr (.sr 1) (.pr (.sr 2) (.pr (.sr 3) (.pr cI .un))))), (.rw 5 1 (.i .u8)), (.rw 5 1 (.i .u8)), (.rw 179 2 c_disk_write)] k ⟨[(0, ⟨(.ic 22 (.rf 0 [])), ()⟩), (2, ⟨(.rf 8 []), ()⟩), (8, ⟨(.rf 9 []), ()⟩), (43, ⟨cI, t_310⟩)], [(0, (.ob (.bx (.pr (.sr 1) (.pr (.sr 2) (.pr (.sr 3) (.pr cI .un))))) s311)), (1, (.ob (.rw 5 1 (.i .u8)) s312)), (2, (.ob (.rw 5 1 (.i .u8)) s313)), (3, (.ob (.rw 179 2 c_disk_write) s314)), (4, (.gh 0 ⟨(.rf 0 []), ()⟩)), (5, (.gh 1 ⟨(.sr 1), ()⟩)), (6, (.gh 2 ⟨(.sr 2), ()⟩)), (7, (.gh 3 ⟨(.sr 3), ()⟩)), (8, (.ob (.bx (.ar 4 c_snap_Tree)) s315)), (9, (.ob (.bx (.ar 4 c_snap_Tree)) s316))], 10⟩
def G_check_Load_L17 (P : Program) (N d : Nat) (k317 : Nat) (k : Nat) (k_319 : Int) (t_320 : Int) (t_321 : Ar 16 (Int)) (t_322 : Int) (s323 : (Unit × Unit × Unit × Int × Unit)) (s324 : List (Int)) (s325 : List (Int)) (s326 : List (S_disk_write)) (s327 : Ar 4 (S_snap_Tree)) (s328 : Ar 4 (S_snap_Tree)) : Option (((Ar 4 (S_snap_Tree) × Int × Unit)) × Unit) := RL4 (EE P) prims sums N d 43 17 [k317] [(.bx (.pr (.sr 1) (.pr (.sr 2) (.pr (.sr 3) (.pr cI .un))))), (.rw 5 1 (.i .u8)), (.rw 5 1 (.i .u8)), (.rw 179 2 c_disk_write)] k ⟨[(0, ⟨(.ic 22 (.rf 0 [])), ()⟩), (2, ⟨(.rf 8 []), ()⟩), (8, ⟨(.rf 9 []), ()⟩), (10, ⟨cI, k_319⟩), (43, ⟨cI, t_320⟩), (49, ⟨(.ar 16 cI), t_321⟩), (50, ⟨cI, t_322⟩)], [(0, (.ob (.bx (.pr (.sr 1) (.pr (.sr 2) (.pr (.sr 3) (.pr cI .un))))) s323)), (1, (.ob (.rw 5 1 (.i .u8)) s324)), (2, (.ob (.rw 5 1 (.i .u8)) s325)), (3, (.ob (.rw 179 2 c_disk_write) s326)), (4, (.gh 0 ⟨(.rf 0 []), ()⟩)), (5, (.gh 1 ⟨(.sr 1), ()⟩)), (6, (.gh 2 ⟨(.sr 2), ()⟩)), (7, (.gh 3 ⟨(.sr 3), ()⟩)), (8, (.ob (.bx (.ar 4 c_snap_Tree)) s327)), (9, (.ob (.bx (.ar 4 c_snap_Tree)) s328))], 10⟩
/-- ringhall/inode.Unpack -/
def G_inode_Unpack (P : Program) (N d : Nat) (b_360 : List (Int)) : Option (((S_inode_Node × Int × Unit)) × Unit) := R4 (EE P) prims sums N d 71 [⟨(.sl (.i .u8)), b_360⟩] []
/-- ringhall/check.Tree -/
def G_check_Tree (P : Program) (N d : Nat) (t_335 : S_snap_Tree) (s336 : (Unit × Unit × Unit × Int × Unit)) (s337 : List (Int)) (s338 : List (Int)) (s339 : List (S_disk_write)) : Option (((List (S_inode_Node) × Int × Unit)) × Unit) := R4 (EE P) prims sums N d 44 [⟨(.ic 22 (.rf 0 [])), ()⟩, ⟨c_snap_Tree, t_335⟩] [(.ob (.bx (.pr (.sr 1) (.pr (.sr 2) (.pr (.sr 3) (.pr cI .un))))) s336), (.ob (.rw 5 1 (.i .u8)) s337), (.ob (.rw 5 1 (.i .u8)) s338), (.ob (.rw 179 2 c_disk_write) s339)]
def G_check_Tree_L3 (P : Program) (N d : Nat) (k : Nat) (t_340 : Ar 16 (Int)) (t_341 : Int) (s342 : (Unit × Unit × Unit × Int × Unit)) (s343 : List (Int)) (s344 : List (Int)) (s345 : List (S_disk_write)) (s346 : List (S_inode_Node)) : Option (((List (S_inode_Node) × Int × Unit)) × Unit) := RL4 (EE P) prims sums N d 44 3 [] [(.bx (.pr (.sr 1) (.pr (.sr 2) (.pr (.sr 3) (.pr cI .un))))), (.rw 5 1 (.i .u8)), (.rw 5 1 (.i .u8)), (.rw 179 2 c_disk_write)] k ⟨[(0, ⟨(.ic 22 (.rf 0 [])), ()⟩), (6, ⟨(.sr 8), ()⟩), (15, ⟨(.ar 16 cI), t_340⟩), (16, ⟨cI, t_341⟩)], [(0, (.ob (.bx (.pr (.sr 1) (.pr (.sr 2) (.pr (.sr 3) (.pr cI .un))))) s342)), (1, (.ob (.rw 5 1 (.i .u8)) s343)), (2, (.ob (.rw 5 1 (.i .u8)) s344)), (3, (.ob (.rw 179 2 c_disk_write) s345)), (4, (.gh 0 ⟨(.rf 0 []), ()⟩)), (5, (.gh 1 ⟨(.sr 1), ()⟩)), (6, (.gh 2 ⟨(.sr 2), ()⟩)), (7, (.gh 3 ⟨(.sr 3), ()⟩)), (8, (.ob (.rw 109 8 c_inode_Node) s346))], 9⟩
def G_check_Tree_L9 (P : Program) (N d : Nat) (k347 : Nat) (k : Nat) (b_350 : List (Int)) (t_351 : Ar 16 (Int)) (t_352 : Int) (t_353 : Int) (s354 : (Unit × Unit × Unit × Int × Unit)) (s355 : List (Int)) (s356 : List (Int)) (s357 : List (S_disk_write)) (s358 : List (S_inode_Node)) : Option (((List (S_inode_Node) × Int × Unit)) × Unit) := RL4 (EE P) prims sums N d 44 9 [k347] [(.bx (.pr (.sr 1) (.pr (.sr 2) (.pr (.sr 3) (.pr cI .un))))), (.rw 5 1 (.i .u8)), (.rw 5 1 (.i .u8)), (.rw 179 2 c_disk_write)] k ⟨[(0, ⟨(.ic 22 (.rf 0 [])), ()⟩), (6, ⟨(.sr 8), ()⟩), (9, ⟨(.sl (.i .u8)), b_350⟩), (15, ⟨(.ar 16 cI), t_351⟩), (16, ⟨cI, t_352⟩), (27, ⟨cI, t_353⟩)], [(0, (.ob (.bx (.pr (.sr 1) (.pr (.sr 2) (.pr (.sr 3) (.pr cI .un))))) s354)), (1, (.ob (.rw 5 1 (.i .u8)) s355)), (2, (.ob (.rw 5 1 (.i .u8)) s356)), (3, (.ob (.rw 179 2 c_disk_write) s357)), (4, (.gh 0 ⟨(.rf 0 []), ()⟩)), (5, (.gh 1 ⟨(.sr 1), ()⟩)), (6, (.gh 2 ⟨(.sr 2), ()⟩)), (7, (.gh 3 ⟨(.sr 3), ()⟩)), (8, (.ob (.rw 109 8 c_inode_Node) s358))], 9⟩
/-- ringhall/quota.Unpack -/
def G_quota_Unpack (P : Program) (N d : Nat) (b_405 : List (Int)) : Option (((List (S_quota_Row) × Int × Unit)) × Unit) := R4 (EE P) prims sums N d 45 [⟨(.sl (.i .u8)), b_405⟩] []
/-- slices.Contains[[]int,int] -/
def G_slices_Contains (P : Program) (N d : Nat) (s_451 : List (Int)) (v_452 : Int) : Option ((Bool) × Unit) := R4 (EE P) prims sums N d 12 [⟨(.sl cI), s_451⟩, ⟨cI, v_452⟩] []
/-- ringhall/orphan.Lost -/
def G_orphan_Lost (P : Program) (N d : Nat) (l_442 : List (S_inode_Node)) (held_443 : List (Int)) : Option ((List (Int)) × Unit) := R4 (EE P) prims sums N d 46 [⟨(.sl c_inode_Node), l_442⟩, ⟨(.sl cI), held_443⟩] []
/-- ringhall/fs.Mount -/
def G_fs_Mount (P : Program) (N d : Nat) (s184 : (Unit × Unit × Unit × Int × Unit)) (s185 : List (Int)) (s186 : List (Int)) (s187 : List (S_disk_write)) : Option (((Unit × Int × Unit)) × ((Unit × Unit × Unit × Int × Unit)) × (List (Int)) × (List (S_disk_write)) × ((Unit × Unit × Ar 4 (S_snap_Tree) × List (S_quota_Row) × List (S_inode_Node) × Unit × Unit × Unit)) × ((Unit × Int × Int × Int × Unit)) × (List ((Int) × (List (Int)))) × (List ((Int) × (Int))) × Unit) := R4 (EE P) prims sums N d 17 [⟨(.rf 0 []), ()⟩] [(.ob (.bx (.pr (.sr 1) (.pr (.sr 2) (.pr (.sr 3) (.pr cI .un))))) s184), (.ob (.rw 5 1 (.i .u8)) s185), (.ob (.rw 5 1 (.i .u8)) s186), (.ob (.rw 179 2 c_disk_write) s187)]
def G_fs_Mount_J5 (P : Program) (N d : Nat) (e_268 : Int) (s269 : (Unit × Unit × Unit × Int × Unit)) (s270 : List (Int)) (s271 : List (Int)) (s272 : List (S_disk_write)) : Option (((Unit × Int × Unit)) × ((Unit × Unit × Unit × Int × Unit)) × (List (Int)) × (List (S_disk_write)) × ((Unit × Unit × Ar 4 (S_snap_Tree) × List (S_quota_Row) × List (S_inode_Node) × Unit × Unit × Unit)) × ((Unit × Int × Int × Int × Unit)) × (List ((Int) × (List (Int)))) × (List ((Int) × (Int))) × Unit) := RJ (EE P) prims sums N d 17 5 [] [(.bx (.pr (.sr 1) (.pr (.sr 4) (.pr (.sr 5) (.pr cI .un))))), (.rw 5 1 (.i .u8)), .no, .no] ⟨[(0, ⟨(.rf 0 []), ()⟩), (5, ⟨cI, e_268⟩), (6, ⟨(.nz .np), ()⟩)], [(0, (.ob (.bx (.pr (.sr 1) (.pr (.sr 8) (.pr (.sr 9) (.pr cI .un))))) s269)), (1, (.ob (.rw 5 1 (.i .u8)) s270)), (2, .none), (3, .none), (4, (.gh 0 ⟨(.rf 0 []), ()⟩)), (5, (.gh 1 ⟨(.sr 1), ()⟩)), (6, (.gh 2 ⟨(.sr 2), ()⟩)), (7, (.gh 3 ⟨(.sr 3), ()⟩)), (8, (.ob (.rw 5 1 (.i .u8)) s271)), (9, (.ob (.rw 179 2 c_disk_write) s272))], 10⟩
def G_fs_Mount_J5_1 (P : Program) (N d : Nat) (e_477 : Int) (s478 : (Unit × Unit × Unit × Int × Unit)) (s479 : List (Int)) (s480 : List (Int)) (s481 : List (S_disk_write)) (s482 : (Unit × Int × Int × Int × Unit)) : Option (((Unit × Int × Unit)) × ((Unit × Unit × Unit × Int × Unit)) × (List (Int)) × (List (S_disk_write)) × ((Unit × Unit × Ar 4 (S_snap_Tree) × List (S_quota_Row) × List (S_inode_Node) × Unit × Unit × Unit)) × ((Unit × Int × Int × Int × Unit)) × (List ((Int) × (List (Int)))) × (List ((Int) × (Int))) × Unit) := RJ (EE P) prims sums N d 17 5 [] [(.bx (.pr (.sr 1) (.pr (.sr 4) (.pr (.sr 5) (.pr cI .un))))), (.rw 5 1 (.i .u8)), .no, .no] ⟨[(0, ⟨(.rf 0 []), ()⟩), (5, ⟨cI, e_477⟩), (6, ⟨(.rf 10 []), ()⟩)], [(0, (.ob (.bx (.pr (.sr 1) (.pr (.sr 8) (.pr (.sr 9) (.pr cI .un))))) s478)), (1, (.ob (.rw 5 1 (.i .u8)) s479)), (2, .none), (3, .none), (4, (.gh 0 ⟨(.rf 0 []), ()⟩)), (5, (.gh 1 ⟨(.sr 1), ()⟩)), (6, (.gh 2 ⟨(.sr 2), ()⟩)), (7, (.gh 3 ⟨(.sr 3), ()⟩)), (8, (.ob (.rw 5 1 (.i .u8)) s480)), (9, (.ob (.rw 179 2 c_disk_write) s481)), (10, (.ob (.bx (.pr (.rf 0 []) (.pr cI (.pr cI (.pr (.i .u32) .un))))) s482))], 11⟩
def G_fs_Mount_L19_1 (P : Program) (N d : Nat) (k : Nat) (t_488 : List (Int)) (t_489 : Int) (t_490 : Int) (s491 : (Unit × Unit × Unit × Int × Unit)) (s492 : List (Int)) (s493 : List (Int)) (s494 : List (S_disk_write)) (s495 : (Unit × Unit × Ar 4 (S_snap_Tree) × List (S_quota_Row) × List (S_inode_Node) × Unit × Unit × Unit)) (s496 : (Unit × Int × Int × Int × Unit)) (s497 : List ((Int) × (List (Int)))) (s498 : List ((Int) × (Int))) : Option (((Unit × Int × Unit)) × ((Unit × Unit × Unit × Int × Unit)) × (List (Int)) × (List (S_disk_write)) × ((Unit × Unit × Ar 4 (S_snap_Tree) × List (S_quota_Row) × List (S_inode_Node) × Unit × Unit × Unit)) × ((Unit × Int × Int × Int × Unit)) × (List ((Int) × (List (Int)))) × (List ((Int) × (Int))) × Unit) := RL4 (EE P) prims sums N d 17 19 [] [(.bx (.pr (.sr 1) (.pr (.sr 4) (.pr (.sr 5) (.pr cI .un))))), (.rw 5 1 (.i .u8)), .no, .no] k ⟨[(12, ⟨(.rf 10 []), ()⟩), (86, ⟨(.sl cI), t_488⟩), (87, ⟨cI, t_489⟩), (88, ⟨cI, t_490⟩)], [(0, (.ob (.bx (.pr (.sr 1) (.pr (.sr 8) (.pr (.sr 9) (.pr cI .un))))) s491)), (1, (.ob (.rw 5 1 (.i .u8)) s492)), (2, .none), (3, .none), (4, (.gh 0 ⟨(.rf 0 []), ()⟩)), (5, (.gh 1 ⟨(.sr 1), ()⟩)), (6, (.gh 2 ⟨(.sr 2), ()⟩)), (7, (.gh 3 ⟨(.sr 3), ()⟩)), (8, (.ob (.rw 5 1 (.i .u8)) s493)), (9, (.ob (.rw 179 2 c_disk_write) s494)), (10, (.ob (.bx (.pr (.rf 0 []) (.pr (.rf 11 []) (.pr (.ar 4 c_snap_Tree) (.pr (.sl c_quota_Row) (.pr (.sl c_inode_Node) (.pr (.sr 12) (.pr (.sr 13) .un)))))))) s495)), (11, (.ob (.bx (.pr (.rf 0 []) (.pr cI (.pr cI (.pr (.i .u32) .un))))) s496)), (12, (.ob (.mp cI (.sl (.i .u8))) s497)), (13, (.ob (.mp cI cI) s498))], 14⟩
/-- slices.SortFunc[[]ringhall/journal.Write,ringhall/journal.Write] -/
def G_slices_SortFunc (P : Program) (N d : Nat) (s542 : List (S_journal_Write)) : Option (((Unit)) × (List (S_journal_Write)) × Unit) := R4 (EE P) prims sums N d 92 [⟨(.sr 0), ()⟩, ⟨(.cl 93 .un), (())⟩] [(.ob (.rw 186 2 c_journal_Write) s542)]
/-- (*ringhall/fs.FS).writes -/
def G_fs_FS_writes (P : Program) (N d : Nat) (s523 : (Unit × Unit × Ar 4 (S_snap_Tree) × List (S_quota_Row) × List (S_inode_Node) × Unit × Unit × Unit)) (s524 : (Unit × Unit × Unit × Int × Unit)) (s525 : List (Int)) (s526 : List (Int)) (s527 : List (S_disk_write)) (s528 : (Unit × Int × Int × Int × Unit)) (s529 : List ((Int) × (List (Int)))) (s530 : List ((Int) × (Int))) : Option ((List (S_journal_Write)) × ((Unit × Unit × Ar 4 (S_snap_Tree) × List (S_quota_Row) × List (S_inode_Node) × Unit × Unit × Unit)) × (List ((Int) × (List (Int)))) × Unit) := R4 (EE P) prims sums N d 56 [⟨(.rf 0 []), ()⟩] [(.ob (.bx (.pr (.rf 1 []) (.pr (.rf 5 []) (.pr (.ar 4 c_snap_Tree) (.pr (.sl c_quota_Row) (.pr (.sl c_inode_Node) (.pr (.sr 6) (.pr (.sr 7) .un)))))))) s523), (.ob (.bx (.pr (.sr 2) (.pr (.sr 3) (.pr (.sr 4) (.pr cI .un))))) s524), (.ob (.rw 5 1 (.i .u8)) s525), (.ob (.rw 5 1 (.i .u8)) s526), (.ob (.rw 179 2 c_disk_write) s527), (.ob (.bx (.pr (.rf 1 []) (.pr cI (.pr cI (.pr (.i .u32) .un))))) s528), (.ob (.mp cI (.sl (.i .u8))) s529), (.ob (.mp cI cI) s530)]
def G_fs_FS_writes_R3 (P : Program) (N d : Nat) (s531 : (Unit × Unit × Ar 4 (S_snap_Tree) × List (S_quota_Row) × List (S_inode_Node) × Unit × Unit × Unit)) (s532 : (Unit × Unit × Unit × Int × Unit)) (s533 : List (Int)) (s534 : List (Int)) (s535 : List (S_disk_write)) (s536 : (Unit × Int × Int × Int × Unit)) (s537 : List ((Int) × (List (Int)))) (s538 : List ((Int) × (Int))) (s539 : List (S_journal_Write)) (s540 : List ((Int) × (List (Int)))) : Option ((List (S_journal_Write)) × ((Unit × Unit × Ar 4 (S_snap_Tree) × List (S_quota_Row) × List (S_inode_Node) × Unit × Unit × Unit)) × (List ((Int) × (List (Int)))) × Unit) := RR4 (EE P) prims sums N d 56 3 [] [(.bx (.pr (.rf 1 []) (.pr (.rf 5 []) (.pr (.ar 4 c_snap_Tree) (.pr (.sl c_quota_Row) (.pr (.sl c_inode_Node) (.pr (.sr 8) (.pr (.sr 7) .un)))))))), (.bx (.pr (.sr 2) (.pr (.sr 3) (.pr (.sr 4) (.pr cI .un))))), (.rw 5 1 (.i .u8)), (.rw 5 1 (.i .u8)), (.rw 179 2 c_disk_write), (.bx (.pr (.rf 1 []) (.pr cI (.pr cI (.pr (.i .u32) .un))))), .no, (.mp cI cI)] 10 ⟨[(3, ⟨(.sr 17), ()⟩), (10, ⟨(.sr 18), ()⟩)], [(0, (.ob (.bx (.pr (.rf 1 []) (.pr (.rf 5 []) (.pr (.ar 4 c_snap_Tree) (.pr (.sl c_quota_Row) (.pr (.sl c_inode_Node) (.pr (.sr 6) (.pr (.sr 7) .un)))))))) s531)), (1, (.ob (.bx (.pr (.sr 2) (.pr (.sr 3) (.pr (.sr 4) (.pr cI .un))))) s532)), (2, (.ob (.rw 5 1 (.i .u8)) s533)), (3, (.ob (.rw 5 1 (.i .u8)) s534)), (4, (.ob (.rw 179 2 c_disk_write) s535)), (5, (.ob (.bx (.pr (.rf 1 []) (.pr cI (.pr cI (.pr (.i .u32) .un))))) s536)), (6, (.ex (.lk cI (.sl (.i .u8)) 16 s537))), (7, (.ob (.mp cI cI) s538)), (8, (.gh 0 ⟨(.rf 0 []), ()⟩)), (9, (.gh 1 ⟨(.rf 1 []), ()⟩)), (10, (.gh 2 ⟨(.sr 2), ()⟩)), (11, (.gh 3 ⟨(.sr 3), ()⟩)), (12, (.gh 4 ⟨(.sr 4), ()⟩)), (13, (.gh 5 ⟨(.rf 5 []), ()⟩)), (14, (.gh 6 ⟨(.sr 6), ()⟩)), (15, (.gh 7 ⟨(.sr 7), ()⟩)), (16, (.ex .gs)), (17, (.ob (.rw 186 2 c_journal_Write) s539)), (18, (.ex (.it cI (.sl (.i .u8)) true 6 16 s540 none none)))], 19⟩
def G_fs_FS_writes_R3_X (cur : Option ((Int) × (List (Int)))) (s531 : (Unit × Unit × Ar 4 (S_snap_Tree) × List (S_quota_Row) × List (S_inode_Node) × Unit × Unit × Unit)) (s532 : (Unit × Unit × Unit × Int × Unit)) (s533 : List (Int)) (s534 : List (Int)) (s535 : List (S_disk_write)) (s536 : (Unit × Int × Int × Int × Unit)) (s537 : List ((Int) × (List (Int)))) (s538 : List ((Int) × (Int))) (s539 : List (S_journal_Write)) (s540 : List ((Int) × (List (Int)))) : XS := ⟨[(3, ⟨(.sr 17), ()⟩), (10, ⟨(.sr 18), ()⟩)], [(0, (.ob (.bx (.pr (.rf 1 []) (.pr (.rf 5 []) (.pr (.ar 4 c_snap_Tree) (.pr (.sl c_quota_Row) (.pr (.sl c_inode_Node) (.pr (.sr 6) (.pr (.sr 7) .un)))))))) s531)), (1, (.ob (.bx (.pr (.sr 2) (.pr (.sr 3) (.pr (.sr 4) (.pr cI .un))))) s532)), (2, (.ob (.rw 5 1 (.i .u8)) s533)), (3, (.ob (.rw 5 1 (.i .u8)) s534)), (4, (.ob (.rw 179 2 c_disk_write) s535)), (5, (.ob (.bx (.pr (.rf 1 []) (.pr cI (.pr cI (.pr (.i .u32) .un))))) s536)), (6, (.ex (.lk cI (.sl (.i .u8)) 16 s537))), (7, (.ob (.mp cI cI) s538)), (8, (.gh 0 ⟨(.rf 0 []), ()⟩)), (9, (.gh 1 ⟨(.rf 1 []), ()⟩)), (10, (.gh 2 ⟨(.sr 2), ()⟩)), (11, (.gh 3 ⟨(.sr 3), ()⟩)), (12, (.gh 4 ⟨(.sr 4), ()⟩)), (13, (.gh 5 ⟨(.rf 5 []), ()⟩)), (14, (.gh 6 ⟨(.sr 6), ()⟩)), (15, (.gh 7 ⟨(.sr 7), ()⟩)), (16, (.ex .gs)), (17, (.ob (.rw 186 2 c_journal_Write) s539)), (18, (.ex (.it cI (.sl (.i .u8)) true 6 16 s540 cur none)))], 19⟩
def G_fs_FS_writes_R3_S (P : Program) (N d : Nat) (p541 : (Int) × (List (Int))) (s531 : (Unit × Unit × Ar 4 (S_snap_Tree) × List (S_quota_Row) × List (S_inode_Node) × Unit × Unit × Unit)) (s532 : (Unit × Unit × Unit × Int × Unit)) (s533 : List (Int)) (s534 : List (Int)) (s535 : List (S_disk_write)) (s536 : (Unit × Int × Int × Int × Unit)) (s537 : List ((Int) × (List (Int)))) (s538 : List ((Int) × (Int))) (s539 : List (S_journal_Write)) (s540 : List ((Int) × (List (Int)))) : Option XS := RS4 (EE P) prims sums N d 56 3 [(.bx (.pr (.rf 1 []) (.pr (.rf 5 []) (.pr (.ar 4 c_snap_Tree) (.pr (.sl c_quota_Row) (.pr (.sl c_inode_Node) (.pr (.sr 8) (.pr (.sr 7) .un)))))))), (.bx (.pr (.sr 2) (.pr (.sr 3) (.pr (.sr 4) (.pr cI .un))))), (.rw 5 1 (.i .u8)), (.rw 5 1 (.i .u8)), (.rw 179 2 c_disk_write), (.bx (.pr (.rf 1 []) (.pr cI (.pr cI (.pr (.i .u32) .un))))), .no, (.mp cI cI)] ⟨[(3, ⟨(.sr 17), ()⟩), (10, ⟨(.sr 18), ()⟩)], [(0, (.ob (.bx (.pr (.rf 1 []) (.pr (.rf 5 []) (.pr (.ar 4 c_snap_Tree) (.pr (.sl c_quota_Row) (.pr (.sl c_inode_Node) (.pr (.sr 6) (.pr (.sr 7) .un)))))))) s531)), (1, (.ob (.bx (.pr (.sr 2) (.pr (.sr 3) (.pr (.sr 4) (.pr cI .un))))) s532)), (2, (.ob (.rw 5 1 (.i .u8)) s533)), (3, (.ob (.rw 5 1 (.i .u8)) s534)), (4, (.ob (.rw 179 2 c_disk_write) s535)), (5, (.ob (.bx (.pr (.rf 1 []) (.pr cI (.pr cI (.pr (.i .u32) .un))))) s536)), (6, (.ex (.lk cI (.sl (.i .u8)) 16 s537))), (7, (.ob (.mp cI cI) s538)), (8, (.gh 0 ⟨(.rf 0 []), ()⟩)), (9, (.gh 1 ⟨(.rf 1 []), ()⟩)), (10, (.gh 2 ⟨(.sr 2), ()⟩)), (11, (.gh 3 ⟨(.sr 3), ()⟩)), (12, (.gh 4 ⟨(.sr 4), ()⟩)), (13, (.gh 5 ⟨(.rf 5 []), ()⟩)), (14, (.gh 6 ⟨(.sr 6), ()⟩)), (15, (.gh 7 ⟨(.sr 7), ()⟩)), (16, (.ex .gs)), (17, (.ob (.rw 186 2 c_journal_Write) s539)), (18, (.ex (.it cI (.sl (.i .u8)) true 6 16 s540 none (some (some p541)))))], 19⟩
def G_fs_FS_writes_R3_E (P : Program) (N d : Nat) (s531 : (Unit × Unit × Ar 4 (S_snap_Tree) × List (S_quota_Row) × List (S_inode_Node) × Unit × Unit × Unit)) (s532 : (Unit × Unit × Unit × Int × Unit)) (s533 : List (Int)) (s534 : List (Int)) (s535 : List (S_disk_write)) (s536 : (Unit × Int × Int × Int × Unit)) (s537 : List ((Int) × (List (Int)))) (s538 : List ((Int) × (Int))) (s539 : List (S_journal_Write)) (s540 : List ((Int) × (List (Int)))) : Option ((List (S_journal_Write)) × ((Unit × Unit × Ar 4 (S_snap_Tree) × List (S_quota_Row) × List (S_inode_Node) × Unit × Unit × Unit)) × (List ((Int) × (List (Int)))) × Unit) := RE4 (EE P) prims sums N d 56 3 [] [(.bx (.pr (.rf 1 []) (.pr (.rf 5 []) (.pr (.ar 4 c_snap_Tree) (.pr (.sl c_quota_Row) (.pr (.sl c_inode_Node) (.pr (.sr 8) (.pr (.sr 7) .un)))))))), (.bx (.pr (.sr 2) (.pr (.sr 3) (.pr (.sr 4) (.pr cI .un))))), (.rw 5 1 (.i .u8)), (.rw 5 1 (.i .u8)), (.rw 179 2 c_disk_write), (.bx (.pr (.rf 1 []) (.pr cI (.pr cI (.pr (.i .u32) .un))))), .no, (.mp cI cI)] ⟨[(3, ⟨(.sr 17), ()⟩), (10, ⟨(.sr 18), ()⟩)], [(0, (.ob (.bx (.pr (.rf 1 []) (.pr (.rf 5 []) (.pr (.ar 4 c_snap_Tree) (.pr (.sl c_quota_Row) (.pr (.sl c_inode_Node) (.pr (.sr 6) (.pr (.sr 7) .un)))))))) s531)), (1, (.ob (.bx (.pr (.sr 2) (.pr (.sr 3) (.pr (.sr 4) (.pr cI .un))))) s532)), (2, (.ob (.rw 5 1 (.i .u8)) s533)), (3, (.ob (.rw 5 1 (.i .u8)) s534)), (4, (.ob (.rw 179 2 c_disk_write) s535)), (5, (.ob (.bx (.pr (.rf 1 []) (.pr cI (.pr cI (.pr (.i .u32) .un))))) s536)), (6, (.ex (.lk cI (.sl (.i .u8)) 16 s537))), (7, (.ob (.mp cI cI) s538)), (8, (.gh 0 ⟨(.rf 0 []), ()⟩)), (9, (.gh 1 ⟨(.rf 1 []), ()⟩)), (10, (.gh 2 ⟨(.sr 2), ()⟩)), (11, (.gh 3 ⟨(.sr 3), ()⟩)), (12, (.gh 4 ⟨(.sr 4), ()⟩)), (13, (.gh 5 ⟨(.rf 5 []), ()⟩)), (14, (.gh 6 ⟨(.sr 6), ()⟩)), (15, (.gh 7 ⟨(.sr 7), ()⟩)), (16, (.ex .gs)), (17, (.ob (.rw 186 2 c_journal_Write) s539)), (18, (.ex (.it cI (.sl (.i .u8)) true 6 16 s540 none (some none))))], 19⟩
/-- (*ringhall/journal.Log).Room -/
def G_journal_Log_Room (P : Program) (N d : Nat) (s601 : (Unit × Int × Int × Int × Unit)) (s602 : (Unit × Unit × Unit × Int × Unit)) (s603 : List (Int)) (s604 : List (Int)) (s605 : List (S_disk_write)) : Option ((Int) × Unit) := R4 (EE P) prims sums N d 120 [⟨(.rf 0 []), ()⟩] [(.ob (.bx (.pr (.rf 1 []) (.pr cI (.pr cI (.pr (.i .u32) .un))))) s601), (.ob (.bx (.pr (.sr 2) (.pr (.sr 3) (.pr (.sr 4) (.pr cI .un))))) s602), (.ob (.rw 5 1 (.i .u8)) s603), (.ob (.rw 5 1 (.i .u8)) s604), (.ob (.rw 179 2 c_disk_write) s605)]
/-- (*ringhall/journal.Log).right -/
def G_journal_Log_right (P : Program) (N d : Nat) (l_595 : List (S_journal_Write)) (s596 : (Unit × Int × Int × Int × Unit)) (s597 : (Unit × Unit × Unit × Int × Unit)) (s598 : List (Int)) (s599 : List (Int)) (s600 : List (S_disk_write)) : Option ((Int) × Unit) := R4 (EE P) prims sums N d 88 [⟨(.rf 0 []), ()⟩, ⟨(.sl c_journal_Write), l_595⟩] [(.ob (.bx (.pr (.rf 1 []) (.pr cI (.pr cI (.pr (.i .u32) .un))))) s596), (.ob (.bx (.pr (.sr 2) (.pr (.sr 3) (.pr (.sr 4) (.pr cI .un))))) s597), (.ob (.rw 5 1 (.i .u8)) s598), (.ob (.rw 5 1 (.i .u8)) s599), (.ob (.rw 179 2 c_disk_write) s600)]
def G_journal_Log_right_L5 (P : Program) (N d : Nat) (k : Nat) (t_607 : List (S_journal_Write)) (t_608 : Int) (t_609 : Int) (s610 : (Unit × Int × Int × Int × Unit)) (s611 : (Unit × Unit × Unit × Int × Unit)) (s612 : List (Int)) (s613 : List (Int)) (s614 : List (S_disk_write)) (s615 : List ((Int) × (Bool))) : Option ((Int) × Unit) := RL4 (EE P) prims sums N d 88 5 [] [(.bx (.pr (.rf 1 []) (.pr cI (.pr cI (.pr (.i .u32) .un))))), (.bx (.pr (.sr 2) (.pr (.sr 3) (.pr (.sr 4) (.pr cI .un))))), (.rw 5 1 (.i .u8)), (.rw 5 1 (.i .u8)), (.rw 179 2 c_disk_write)] k ⟨[(0, ⟨(.rf 0 []), ()⟩), (5, ⟨(.sr 10), ()⟩), (14, ⟨(.sl c_journal_Write), t_607⟩), (15, ⟨cI, t_608⟩), (16, ⟨cI, t_609⟩)], [(0, (.ob (.bx (.pr (.rf 1 []) (.pr cI (.pr cI (.pr (.i .u32) .un))))) s610)), (1, (.ob (.bx (.pr (.sr 2) (.pr (.sr 3) (.pr (.sr 4) (.pr cI .un))))) s611)), (2, (.ob (.rw 5 1 (.i .u8)) s612)), (3, (.ob (.rw 5 1 (.i .u8)) s613)), (4, (.ob (.rw 179 2 c_disk_write) s614)), (5, (.gh 0 ⟨(.rf 0 []), ()⟩)), (6, (.gh 1 ⟨(.rf 1 []), ()⟩)), (7, (.gh 2 ⟨(.sr 2), ()⟩)), (8, (.gh 3 ⟨(.sr 3), ()⟩)), (9, (.gh 4 ⟨(.sr 4), ()⟩)), (10, (.ob (.mp cI .bl) s615))], 11⟩
/-- (*ringhall/journal.Log).Commit -/
def G_journal_Log_Commit (P : Program) (N d : Nat) (l_589 : List (S_journal_Write)) (s590 : (Unit × Int × Int × Int × Unit)) (s591 : (Unit × Unit × Unit × Int × Unit)) (s592 : List (Int)) (s593 : List (Int)) (s594 : List (S_disk_write)) : Option ((Int) × ((Unit × Int × Int × Int × Unit)) × ((Unit × Unit × Unit × Int × Unit)) × (List (Int)) × (List (Int)) × (List (S_disk_write)) × Unit) := R4 (EE P) prims sums N d 55 [⟨(.rf 0 []), ()⟩, ⟨(.sl c_journal_Write), l_589⟩] [(.ob (.bx (.pr (.rf 1 []) (.pr cI (.pr cI (.pr (.i .u32) .un))))) s590), (.ob (.bx (.pr (.sr 2) (.pr (.sr 3) (.pr (.sr 4) (.pr cI .un))))) s591), (.ob (.rw 5 1 (.i .u8)) s592), (.ob (.rw 5 1 (.i .u8)) s593), (.ob (.rw 179 2 c_disk_write) s594)]
/-- (*ringhall/fs.FS).Sync -/
def G_fs_FS_Sync (P : Program) (N d : Nat) (s515 : (Unit × Unit × Ar 4 (S_snap_Tree) × List (S_quota_Row) × List (S_inode_Node) × Unit × Unit × Unit)) (s516 : (Unit × Unit × Unit × Int × Unit)) (s517 : List (Int)) (s518 : List (Int)) (s519 : List (S_disk_write)) (s520 : (Unit × Int × Int × Int × Unit)) (s521 : List ((Int) × (List (Int)))) (s522 : List ((Int) × (Int))) : Option ((Int) × ((Unit × Unit × Ar 4 (S_snap_Tree) × List (S_quota_Row) × List (S_inode_Node) × Unit × Unit × Unit)) × ((Unit × Unit × Unit × Int × Unit)) × ((Unit × Int × Int × Int × Unit)) × (List ((Int) × (List (Int)))) × (List (Int)) × (List (Int)) × (List (S_disk_write)) × Unit) := R4 (EE P) prims sums N d 19 [⟨(.rf 0 []), ()⟩] [(.ob (.bx (.pr (.rf 1 []) (.pr (.rf 5 []) (.pr (.ar 4 c_snap_Tree) (.pr (.sl c_quota_Row) (.pr (.sl c_inode_Node) (.pr (.sr 6) (.pr (.sr 7) .un)))))))) s515), (.ob (.bx (.pr (.sr 2) (.pr (.sr 3) (.pr (.sr 4) (.pr cI .un))))) s516), (.ob (.rw 5 1 (.i .u8)) s517), (.ob (.rw 5 1 (.i .u8)) s518), (.ob (.rw 179 2 c_disk_write) s519), (.ob (.bx (.pr (.rf 1 []) (.pr cI (.pr cI (.pr (.i .u32) .un))))) s520), (.ob (.mp cI (.sl (.i .u8))) s521), (.ob (.mp cI cI) s522)]
/-- ringhall/boot.Make -/
def G_boot_Make (P : Program) (N d : Nat) (sectors_7 : Int) (files_8 : List (S_boot_File)) : Option ((((Unit × Int × Unit)) × Unit) ⊕ (((Unit × Int × Unit)) × ((Unit × Unit × Unit × Int × Unit)) × (List (Int)) × (List (Int)) × (List (S_disk_write)) × Unit)) := R4 (EE P) prims sums N d 4 [⟨cI, sectors_7⟩, ⟨(.sl c_boot_File), files_8⟩] []
def G_boot_Make_J2 (P : Program) (N d : Nat) (files_14 : List (S_boot_File)) (e_15 : Int) : Option ((((Unit × Int × Unit)) × Unit) ⊕ (((Unit × Int × Unit)) × ((Unit × Unit × Unit × Int × Unit)) × (List (Int)) × (List (Int)) × (List (S_disk_write)) × Unit)) := RJ (EE P) prims sums N d 4 2 [] [] ⟨[(1, ⟨(.sl c_boot_File), files_14⟩), (6, ⟨(.nz .np), ()⟩), (7, ⟨cI, e_15⟩)], [], 0⟩
def G_boot_Make_J2_1 (P : Program) (N d : Nat) (files_16 : List (S_boot_File)) (e_17 : Int) (s18 : (Unit × Unit × Unit × Int × Unit)) (s19 : List (Int)) (s20 : List (Int)) (s21 : List (S_disk_write)) : Option ((((Unit × Int × Unit)) × Unit) ⊕ (((Unit × Int × Unit)) × ((Unit × Unit × Unit × Int × Unit)) × (List (Int)) × (List (Int)) × (List (S_disk_write)) × Unit)) := RJ (EE P) prims sums N d 4 2 [] [] ⟨[(1, ⟨(.sl c_boot_File), files_16⟩), (6, ⟨(.rf 0 []), ()⟩), (7, ⟨cI, e_17⟩)], [(0, (.ob (.bx (.pr (.sr 1) (.pr (.sr 2) (.pr (.sr 3) (.pr cI .un))))) s18)), (1, (.ob (.rw 5 1 (.i .u8)) s19)), (2, (.ob (.rw 5 1 (.i .u8)) s20)), (3, (.ob (.rw 179 2 c_disk_write) s21))], 4⟩
def G_boot_Make_L13 (P : Program) (N d : Nat) (k : Nat) (t_502 : List (S_boot_File)) (t_503 : Int) (t_504 : Int) (s505 : (Unit × Unit × Unit × Int × Unit)) (s506 : List (Int)) (s507 : List (Int)) (s508 : List (S_disk_write)) (s509 : (Unit × Unit × Ar 4 (S_snap_Tree) × List (S_quota_Row) × List (S_inode_Node) × Unit × Unit × Unit)) (s510 : (Unit × Int × Int × Int × Unit)) (s511 : List ((Int) × (List (Int)))) (s512 : List ((Int) × (Int))) : Option ((((Unit × Int × Unit)) × Unit) ⊕ (((Unit × Int × Unit)) × ((Unit × Unit × Unit × Int × Unit)) × (List (Int)) × (List (Int)) × (List (S_disk_write)) × Unit)) := RL4 (EE P) prims sums N d 4 13 [] [] k ⟨[(6, ⟨(.rf 0 []), ()⟩), (9, ⟨(.rf 4 []), ()⟩), (38, ⟨(.sl c_boot_File), t_502⟩), (39, ⟨cI, t_503⟩), (40, ⟨cI, t_504⟩)], [(0, (.ob (.bx (.pr (.sr 1) (.pr (.sr 2) (.pr (.sr 3) (.pr cI .un))))) s505)), (1, (.ob (.rw 5 1 (.i .u8)) s506)), (2, (.ob (.rw 5 1 (.i .u8)) s507)), (3, (.ob (.rw 179 2 c_disk_write) s508)), (4, (.ob (.bx (.pr (.rf 0 []) (.pr (.rf 5 []) (.pr (.ar 4 c_snap_Tree) (.pr (.sl c_quota_Row) (.pr (.sl c_inode_Node) (.pr (.sr 6) (.pr (.sr 7) .un)))))))) s509)), (5, (.ob (.bx (.pr (.rf 0 []) (.pr cI (.pr cI (.pr (.i .u32) .un))))) s510)), (6, (.ob (.mp cI (.sl (.i .u8))) s511)), (7, (.ob (.mp cI cI) s512))], 8⟩
/-- ringhall/pipe.New -/
def G_pipe_New (P : Program) (N d : Nat)  : Option ((Unit) × (S_pipe_Pipes) × Unit) := R4 (EE P) prims sums N d 20 [] []
/-- ringhall/wheel.New -/
def G_wheel_New (P : Program) (N d : Nat) (now_656 : Int) : Option ((Unit) × ((Int × Unit × Unit)) × Unit) := R4 (EE P) prims sums N d 21 [⟨(.i .u32), now_656⟩] []
/-- ringhall/open.New -/
def G_open_New (P : Program) (N d : Nat)  : Option ((Unit) × (S_open_Table) × Unit) := R4 (EE P) prims sums N d 22 [] []
/-- ringhall/proc.New -/
def G_proc_New (P : Program) (N d : Nat)  : Option ((Unit) × (S_proc_Table) × Unit) := R4 (EE P) prims sums N d 23 [] []
/-- ringhall/spread.New -/
def G_spread_New (P : Program) (N d : Nat) (cpus_660 : Int) : Option ((((Unit × Int × Unit)) × Unit) ⊕ (((Unit × Int × Unit)) × ((Int × Int × Int × Unit × Unit)) × (List (S_spread_task)) × Unit)) := R4 (EE P) prims sums N d 24 [⟨cI, cpus_660⟩] []
/-- ringhall/space.New -/
def G_space_New (P : Program) (N d : Nat) (frames_690 : Int) (slots_691 : Int) : Option ((((Unit × Int × Unit)) × Unit) ⊕ (((Unit × Int × Unit)) × ((Int × Int × Int × Unit × Unit × Unit)) × (List ((Int) × (Option Nat))) × Unit)) := R4 (EE P) prims sums N d 25 [⟨cI, frames_690⟩, ⟨cI, slots_691⟩] []
/-- (*ringhall/space.Memory).Make -/
def G_space_Memory_Make_v2 (P : Program) (N d : Nat) (s760 : (Int × Int × Int × Unit × Unit × Unit)) (s761 : List ((Int) × (Option Nat))) (s762 : List (List ((Int) × (S_space_entry)))) : Option (((Int × Int × Unit)) × ((Int × Int × Int × Unit × Unit × Unit)) × (List (List ((Int) × (S_space_entry)))) × (List ((Int) × (Option Nat))) × Unit) := R4 (EE P) prims sums N d 26 [⟨(.rf 0 []), ()⟩] [(.ob (.bx (.pr cI (.pr cI (.pr cI (.pr .ns (.pr (.sr 1) .un)))))) s760), (.ob (.mp cI (.vm 2)) s761), (.ob (.am 2 cI c_space_entry) s762)]
/-- (*ringhall/spread.Run).Add -/
def G_spread_Run_Add_v2 (P : Program) (N d : Nat) (t_829 : Int) (class_830 : Int) (v_831 : Int) (s832 : (Int × Int × Int × Unit × Unit)) (s833 : List (S_spread_task)) : Option ((Int) × ((Int × Int × Int × Unit × Unit)) × (List (S_spread_task)) × Unit) := R4 (EE P) prims sums N d 27 [⟨(.rf 0 []), ()⟩, ⟨cI, t_829⟩, ⟨cI, class_830⟩, ⟨cI, v_831⟩] [(.ob (.bx (.pr cI (.pr cI (.pr cI (.pr (.sr 1) .un))))) s832), (.ob (.rw 172 15 c_spread_task) s833)]
/-- ringhall/kernel.Start -/
def G_kernel_Start (P : Program) (N d : Nat) (cpus_647 : Int) (frames_648 : Int) (slots_649 : Int) (s650 : (Unit × Unit × Unit × Int × Unit)) (s651 : List (Int)) (s652 : List (Int)) (s653 : List (S_disk_write)) (s654 : List (List ((Int) × (S_space_entry)))) : Option ((((Unit × Int × Unit)) × ((Unit × Unit × Unit × Int × Unit)) × (List (List ((Int) × (S_space_entry)))) × (List (Int)) × (List (S_disk_write)) × Unit) ⊕ (((Unit × Int × Unit)) × ((Unit × Unit × Unit × Int × Unit)) × (List (List ((Int) × (S_space_entry)))) × (List (Int)) × (List (S_disk_write)) × ((Int × Unit × Unit × Unit × Unit × Unit × Unit × Unit × Ar 17 (S_kernel_task) × Int × Unit)) × ((Int × Int × Int × Unit × Unit × Unit)) × (List ((Int) × (Option Nat))) × ((Unit × Unit × Ar 4 (S_snap_Tree) × List (S_quota_Row) × List (S_inode_Node) × Unit × Unit × Unit)) × ((Unit × Int × Int × Int × Unit)) × (List ((Int) × (List (Int)))) × (List ((Int) × (Int))) × (S_pipe_Pipes) × ((Int × Int × Int × Unit × Unit)) × (List (S_spread_task)) × ((Int × Unit × Unit)) × (S_open_Table) × (S_proc_Table) × Unit)) := R4 (EE P) prims sums N d 5 [⟨cI, cpus_647⟩, ⟨cI, frames_648⟩, ⟨cI, slots_649⟩, ⟨(.rf 0 []), ()⟩] [(.ob (.bx (.pr (.sr 1) (.pr (.sr 2) (.pr (.sr 3) (.pr cI .un))))) s650), (.ob (.rw 5 1 (.i .u8)) s651), (.ob (.rw 5 1 (.i .u8)) s652), (.ob (.rw 179 2 c_disk_write) s653), (.ob (.am 2 cI c_space_entry) s654)]
def G_kernel_Start_J4 (P : Program) (N d : Nat) (frames_665 : Int) (slots_666 : Int) (e_667 : Int) (s668 : (Unit × Unit × Unit × Int × Unit)) (s669 : List (Int)) (s670 : List (List ((Int) × (S_space_entry)))) (s671 : List (Int)) (s672 : List (S_disk_write)) (s673 : (Int × Unit × Unit × Unit × Unit × Unit × Unit × Unit × Ar 17 ((Int × S_api_Regs × (Int × Int × Unit × Int × Int × Int × Unit) × Unit × Unit × S_sig_Set × Bool × Unit)) × Int × Unit)) (s674 : S_pipe_Pipes) (s675 : (Int × Unit × Unit)) (s676 : S_open_Table) (s677 : S_proc_Table) : Option ((((Unit × Int × Unit)) × ((Unit × Unit × Unit × Int × Unit)) × (List (List ((Int) × (S_space_entry)))) × (List (Int)) × (List (S_disk_write)) × Unit) ⊕ (((Unit × Int × Unit)) × ((Unit × Unit × Unit × Int × Unit)) × (List (List ((Int) × (S_space_entry)))) × (List (Int)) × (List (S_disk_write)) × ((Int × Unit × Unit × Unit × Unit × Unit × Unit × Unit × Ar 17 (S_kernel_task) × Int × Unit)) × ((Int × Int × Int × Unit × Unit × Unit)) × (List ((Int) × (Option Nat))) × ((Unit × Unit × Ar 4 (S_snap_Tree) × List (S_quota_Row) × List (S_inode_Node) × Unit × Unit × Unit)) × ((Unit × Int × Int × Int × Unit)) × (List ((Int) × (List (Int)))) × (List ((Int) × (Int))) × (S_pipe_Pipes) × ((Int × Int × Int × Unit × Unit)) × (List (S_spread_task)) × ((Int × Unit × Unit)) × (S_open_Table) × (S_proc_Table) × Unit)) := RJ (EE P) prims sums N d 5 4 [] [(.bx (.pr (.sr 1) (.pr (.sr 5) (.pr (.sr 6) (.pr cI .un))))), (.rw 5 1 (.i .u8)), .no, .no, (.am 2 cI c_space_entry)] ⟨[(1, ⟨cI, frames_665⟩), (2, ⟨cI, slots_666⟩), (3, ⟨(.rf 0 []), ()⟩), (10, ⟨(.rf 12 []), ()⟩), (11, ⟨cI, e_667⟩)], [(0, (.ob (.bx (.pr (.sr 1) (.pr (.sr 10) (.pr (.sr 11) (.pr cI .un))))) s668)), (1, (.ob (.rw 5 1 (.i .u8)) s669)), (2, .none), (3, .none), (4, (.ob (.am 2 cI c_space_entry) s670)), (5, (.gh 0 ⟨(.rf 0 []), ()⟩)), (6, (.gh 1 ⟨(.sr 1), ()⟩)), (7, (.gh 2 ⟨(.sr 2), ()⟩)), (8, (.gh 3 ⟨(.sr 3), ()⟩)), (9, (.gh 4 ⟨.dead, ()⟩)), (10, (.ob (.rw 5 1 (.i .u8)) s671)), (11, (.ob (.rw 179 2 c_disk_write) s672)), (12, (.ob (.bx (.pr cI (.pr (.nz .np) (.pr (.nz .np) (.pr (.rf 13 []) (.pr (.nz .np) (.pr (.rf 14 []) (.pr (.rf 15 []) (.pr (.rf 16 []) (.pr (.ar 17 (.pr cI (.pr c_api_Regs (.pr (.pr cI (.pr cI (.pr .ns (.pr cI (.pr cI (.pr cI .un)))))) (.pr .ns (.pr .ns (.pr c_sig_Set (.pr .bl .un)))))))) (.pr (.i .u32) .un))))))))))) s673)), (13, (.ob (.bx c_pipe_Pipes) s674)), (14, (.ob (.bx (.pr (.i .u32) (.pr .ns .un))) s675)), (15, (.ob (.bx c_open_Table) s676)), (16, (.ob (.bx c_proc_Table) s677))], 17⟩
def G_kernel_Start_J6 (P : Program) (N d : Nat) (frames_678 : Int) (slots_679 : Int) (s680 : (Unit × Unit × Unit × Int × Unit)) (s681 : List (Int)) (s682 : List (List ((Int) × (S_space_entry)))) (s683 : List (Int)) (s684 : List (S_disk_write)) (s685 : (Int × Unit × Unit × Unit × Unit × Unit × Unit × Unit × Ar 17 ((Int × S_api_Regs × (Int × Int × Unit × Int × Int × Int × Unit) × Unit × Unit × S_sig_Set × Bool × Unit)) × Int × Unit)) (s686 : S_pipe_Pipes) (s687 : (Int × Unit × Unit)) (s688 : S_open_Table) (s689 : S_proc_Table) : Option ((((Unit × Int × Unit)) × ((Unit × Unit × Unit × Int × Unit)) × (List (List ((Int) × (S_space_entry)))) × (List (Int)) × (List (S_disk_write)) × Unit) ⊕ (((Unit × Int × Unit)) × ((Unit × Unit × Unit × Int × Unit)) × (List (List ((Int) × (S_space_entry)))) × (List (Int)) × (List (S_disk_write)) × ((Int × Unit × Unit × Unit × Unit × Unit × Unit × Unit × Ar 17 (S_kernel_task) × Int × Unit)) × ((Int × Int × Int × Unit × Unit × Unit)) × (List ((Int) × (Option Nat))) × ((Unit × Unit × Ar 4 (S_snap_Tree) × List (S_quota_Row) × List (S_inode_Node) × Unit × Unit × Unit)) × ((Unit × Int × Int × Int × Unit)) × (List ((Int) × (List (Int)))) × (List ((Int) × (Int))) × (S_pipe_Pipes) × ((Int × Int × Int × Unit × Unit)) × (List (S_spread_task)) × ((Int × Unit × Unit)) × (S_open_Table) × (S_proc_Table) × Unit)) := RJ (EE P) prims sums N d 5 6 [] [(.bx (.pr (.sr 1) (.pr (.sr 5) (.pr (.sr 6) (.pr cI .un))))), (.rw 5 1 (.i .u8)), .no, .no, (.am 2 cI c_space_entry)] ⟨[(1, ⟨cI, frames_678⟩), (2, ⟨cI, slots_679⟩), (3, ⟨(.rf 0 []), ()⟩), (10, ⟨(.rf 12 []), ()⟩)], [(0, (.ob (.bx (.pr (.sr 1) (.pr (.sr 10) (.pr (.sr 11) (.pr cI .un))))) s680)), (1, (.ob (.rw 5 1 (.i .u8)) s681)), (2, .none), (3, .none), (4, (.ob (.am 2 cI c_space_entry) s682)), (5, (.gh 0 ⟨(.rf 0 []), ()⟩)), (6, (.gh 1 ⟨(.sr 1), ()⟩)), (7, (.gh 2 ⟨(.sr 2), ()⟩)), (8, (.gh 3 ⟨(.sr 3), ()⟩)), (9, (.gh 4 ⟨.dead, ()⟩)), (10, (.ob (.rw 5 1 (.i .u8)) s683)), (11, (.ob (.rw 179 2 c_disk_write) s684)), (12, (.ob (.bx (.pr cI (.pr (.nz .np) (.pr (.nz .np) (.pr (.rf 13 []) (.pr (.nz .np) (.pr (.rf 14 []) (.pr (.rf 15 []) (.pr (.rf 16 []) (.pr (.ar 17 (.pr cI (.pr c_api_Regs (.pr (.pr cI (.pr cI (.pr .ns (.pr cI (.pr cI (.pr cI .un)))))) (.pr .ns (.pr .ns (.pr c_sig_Set (.pr .bl .un)))))))) (.pr (.i .u32) .un))))))))))) s685)), (13, (.ob (.bx c_pipe_Pipes) s686)), (14, (.ob (.bx (.pr (.i .u32) (.pr .ns .un))) s687)), (15, (.ob (.bx c_open_Table) s688)), (16, (.ob (.bx c_proc_Table) s689))], 17⟩
def G_kernel_Start_J4_1 (P : Program) (N d : Nat) (frames_770 : Int) (slots_771 : Int) (e_772 : Int) (s773 : (Unit × Unit × Unit × Int × Unit)) (s774 : List (Int)) (s775 : List (List ((Int) × (S_space_entry)))) (s776 : List (Int)) (s777 : List (S_disk_write)) (s778 : (Int × Unit × Unit × Unit × Unit × Unit × Unit × Unit × Ar 17 ((Int × S_api_Regs × (Int × Int × Unit × Int × Int × Int × Unit) × Unit × Unit × S_sig_Set × Bool × Unit)) × Int × Unit)) (s779 : S_pipe_Pipes) (s780 : (Int × Int × Int × Unit × Unit)) (s781 : List (S_spread_task)) (s782 : (Int × Unit × Unit)) (s783 : S_open_Table) (s784 : S_proc_Table) : Option ((((Unit × Int × Unit)) × ((Unit × Unit × Unit × Int × Unit)) × (List (List ((Int) × (S_space_entry)))) × (List (Int)) × (List (S_disk_write)) × Unit) ⊕ (((Unit × Int × Unit)) × ((Unit × Unit × Unit × Int × Unit)) × (List (List ((Int) × (S_space_entry)))) × (List (Int)) × (List (S_disk_write)) × ((Int × Unit × Unit × Unit × Unit × Unit × Unit × Unit × Ar 17 (S_kernel_task) × Int × Unit)) × ((Int × Int × Int × Unit × Unit × Unit)) × (List ((Int) × (Option Nat))) × ((Unit × Unit × Ar 4 (S_snap_Tree) × List (S_quota_Row) × List (S_inode_Node) × Unit × Unit × Unit)) × ((Unit × Int × Int × Int × Unit)) × (List ((Int) × (List (Int)))) × (List ((Int) × (Int))) × (S_pipe_Pipes) × ((Int × Int × Int × Unit × Unit)) × (List (S_spread_task)) × ((Int × Unit × Unit)) × (S_open_Table) × (S_proc_Table) × Unit)) := RJ (EE P) prims sums N d 5 4 [] [(.bx (.pr (.sr 1) (.pr (.sr 5) (.pr (.sr 6) (.pr cI .un))))), (.rw 5 1 (.i .u8)), .no, .no, (.am 2 cI c_space_entry)] ⟨[(1, ⟨cI, frames_770⟩), (2, ⟨cI, slots_771⟩), (3, ⟨(.rf 0 []), ()⟩), (10, ⟨(.rf 12 []), ()⟩), (11, ⟨cI, e_772⟩)], [(0, (.ob (.bx (.pr (.sr 1) (.pr (.sr 10) (.pr (.sr 11) (.pr cI .un))))) s773)), (1, (.ob (.rw 5 1 (.i .u8)) s774)), (2, .none), (3, .none), (4, (.ob (.am 2 cI c_space_entry) s775)), (5, (.gh 0 ⟨(.rf 0 []), ()⟩)), (6, (.gh 1 ⟨(.sr 1), ()⟩)), (7, (.gh 2 ⟨(.sr 2), ()⟩)), (8, (.gh 3 ⟨(.sr 3), ()⟩)), (9, (.gh 4 ⟨.dead, ()⟩)), (10, (.ob (.rw 5 1 (.i .u8)) s776)), (11, (.ob (.rw 179 2 c_disk_write) s777)), (12, (.ob (.bx (.pr cI (.pr (.nz .np) (.pr (.nz .np) (.pr (.rf 13 []) (.pr (.rf 14 []) (.pr (.rf 16 []) (.pr (.rf 17 []) (.pr (.rf 18 []) (.pr (.ar 17 (.pr cI (.pr c_api_Regs (.pr (.pr cI (.pr cI (.pr .ns (.pr cI (.pr cI (.pr cI .un)))))) (.pr .ns (.pr .ns (.pr c_sig_Set (.pr .bl .un)))))))) (.pr (.i .u32) .un))))))))))) s778)), (13, (.ob (.bx c_pipe_Pipes) s779)), (14, (.ob (.bx (.pr cI (.pr cI (.pr cI (.pr (.sr 15) .un))))) s780)), (15, (.ob (.rw 172 15 c_spread_task) s781)), (16, (.ob (.bx (.pr (.i .u32) (.pr .ns .un))) s782)), (17, (.ob (.bx c_open_Table) s783)), (18, (.ob (.bx c_proc_Table) s784))], 19⟩
def G_kernel_Start_J6_1 (P : Program) (N d : Nat) (frames_785 : Int) (slots_786 : Int) (s787 : (Unit × Unit × Unit × Int × Unit)) (s788 : List (Int)) (s789 : List (List ((Int) × (S_space_entry)))) (s790 : List (Int)) (s791 : List (S_disk_write)) (s792 : (Int × Unit × Unit × Unit × Unit × Unit × Unit × Unit × Ar 17 ((Int × S_api_Regs × (Int × Int × Unit × Int × Int × Int × Unit) × Unit × Unit × S_sig_Set × Bool × Unit)) × Int × Unit)) (s793 : S_pipe_Pipes) (s794 : (Int × Int × Int × Unit × Unit)) (s795 : List (S_spread_task)) (s796 : (Int × Unit × Unit)) (s797 : S_open_Table) (s798 : S_proc_Table) : Option ((((Unit × Int × Unit)) × ((Unit × Unit × Unit × Int × Unit)) × (List (List ((Int) × (S_space_entry)))) × (List (Int)) × (List (S_disk_write)) × Unit) ⊕ (((Unit × Int × Unit)) × ((Unit × Unit × Unit × Int × Unit)) × (List (List ((Int) × (S_space_entry)))) × (List (Int)) × (List (S_disk_write)) × ((Int × Unit × Unit × Unit × Unit × Unit × Unit × Unit × Ar 17 (S_kernel_task) × Int × Unit)) × ((Int × Int × Int × Unit × Unit × Unit)) × (List ((Int) × (Option Nat))) × ((Unit × Unit × Ar 4 (S_snap_Tree) × List (S_quota_Row) × List (S_inode_Node) × Unit × Unit × Unit)) × ((Unit × Int × Int × Int × Unit)) × (List ((Int) × (List (Int)))) × (List ((Int) × (Int))) × (S_pipe_Pipes) × ((Int × Int × Int × Unit × Unit)) × (List (S_spread_task)) × ((Int × Unit × Unit)) × (S_open_Table) × (S_proc_Table) × Unit)) := RJ (EE P) prims sums N d 5 6 [] [(.bx (.pr (.sr 1) (.pr (.sr 5) (.pr (.sr 6) (.pr cI .un))))), (.rw 5 1 (.i .u8)), .no, .no, (.am 2 cI c_space_entry)] ⟨[(1, ⟨cI, frames_785⟩), (2, ⟨cI, slots_786⟩), (3, ⟨(.rf 0 []), ()⟩), (10, ⟨(.rf 12 []), ()⟩)], [(0, (.ob (.bx (.pr (.sr 1) (.pr (.sr 10) (.pr (.sr 11) (.pr cI .un))))) s787)), (1, (.ob (.rw 5 1 (.i .u8)) s788)), (2, .none), (3, .none), (4, (.ob (.am 2 cI c_space_entry) s789)), (5, (.gh 0 ⟨(.rf 0 []), ()⟩)), (6, (.gh 1 ⟨(.sr 1), ()⟩)), (7, (.gh 2 ⟨(.sr 2), ()⟩)), (8, (.gh 3 ⟨(.sr 3), ()⟩)), (9, (.gh 4 ⟨.dead, ()⟩)), (10, (.ob (.rw 5 1 (.i .u8)) s790)), (11, (.ob (.rw 179 2 c_disk_write) s791)), (12, (.ob (.bx (.pr cI (.pr (.nz .np) (.pr (.nz .np) (.pr (.rf 13 []) (.pr (.rf 14 []) (.pr (.rf 16 []) (.pr (.rf 17 []) (.pr (.rf 18 []) (.pr (.ar 17 (.pr cI (.pr c_api_Regs (.pr (.pr cI (.pr cI (.pr .ns (.pr cI (.pr cI (.pr cI .un)))))) (.pr .ns (.pr .ns (.pr c_sig_Set (.pr .bl .un)))))))) (.pr (.i .u32) .un))))))))))) s792)), (13, (.ob (.bx c_pipe_Pipes) s793)), (14, (.ob (.bx (.pr cI (.pr cI (.pr cI (.pr (.sr 15) .un))))) s794)), (15, (.ob (.rw 172 15 c_spread_task) s795)), (16, (.ob (.bx (.pr (.i .u32) (.pr .ns .un))) s796)), (17, (.ob (.bx c_open_Table) s797)), (18, (.ob (.bx c_proc_Table) s798))], 19⟩
def G_kernel_Start_J7_2 (P : Program) (N d : Nat) (e_802 : Int) (s803 : (Unit × Unit × Unit × Int × Unit)) (s804 : List (Int)) (s805 : List (List ((Int) × (S_space_entry)))) (s806 : List (Int)) (s807 : List (S_disk_write)) (s808 : (Int × Unit × Unit × Unit × Unit × Unit × Unit × Unit × Ar 17 ((Int × S_api_Regs × (Int × Int × Unit × Int × Int × Int × Unit) × Unit × Unit × S_sig_Set × Bool × Unit)) × Int × Unit)) (s809 : S_pipe_Pipes) (s810 : (Int × Int × Int × Unit × Unit)) (s811 : List (S_spread_task)) (s812 : (Int × Unit × Unit)) (s813 : S_open_Table) (s814 : S_proc_Table) : Option ((((Unit × Int × Unit)) × ((Unit × Unit × Unit × Int × Unit)) × (List (List ((Int) × (S_space_entry)))) × (List (Int)) × (List (S_disk_write)) × Unit) ⊕ (((Unit × Int × Unit)) × ((Unit × Unit × Unit × Int × Unit)) × (List (List ((Int) × (S_space_entry)))) × (List (Int)) × (List (S_disk_write)) × ((Int × Unit × Unit × Unit × Unit × Unit × Unit × Unit × Ar 17 (S_kernel_task) × Int × Unit)) × ((Int × Int × Int × Unit × Unit × Unit)) × (List ((Int) × (Option Nat))) × ((Unit × Unit × Ar 4 (S_snap_Tree) × List (S_quota_Row) × List (S_inode_Node) × Unit × Unit × Unit)) × ((Unit × Int × Int × Int × Unit)) × (List ((Int) × (List (Int)))) × (List ((Int) × (Int))) × (S_pipe_Pipes) × ((Int × Int × Int × Unit × Unit)) × (List (S_spread_task)) × ((Int × Unit × Unit)) × (S_open_Table) × (S_proc_Table) × Unit)) := RJ (EE P) prims sums N d 5 7 [] [(.bx (.pr (.sr 1) (.pr (.sr 5) (.pr (.sr 6) (.pr cI .un))))), (.rw 5 1 (.i .u8)), .no, .no, (.am 2 cI c_space_entry)] ⟨[(3, ⟨(.rf 0 []), ()⟩), (10, ⟨(.rf 12 []), ()⟩), (11, ⟨cI, e_802⟩)], [(0, (.ob (.bx (.pr (.sr 1) (.pr (.sr 10) (.pr (.sr 11) (.pr cI .un))))) s803)), (1, (.ob (.rw 5 1 (.i .u8)) s804)), (2, .none), (3, .none), (4, (.ob (.am 2 cI c_space_entry) s805)), (5, (.gh 0 ⟨(.rf 0 []), ()⟩)), (6, (.gh 1 ⟨(.sr 1), ()⟩)), (7, (.gh 2 ⟨(.sr 2), ()⟩)), (8, (.gh 3 ⟨(.sr 3), ()⟩)), (9, (.gh 4 ⟨.dead, ()⟩)), (10, (.ob (.rw 5 1 (.i .u8)) s806)), (11, (.ob (.rw 179 2 c_disk_write) s807)), (12, (.ob (.bx (.pr cI (.pr (.nz .np) (.pr (.nz .np) (.pr (.rf 13 []) (.pr (.rf 14 []) (.pr (.rf 16 []) (.pr (.rf 17 []) (.pr (.rf 18 []) (.pr (.ar 17 (.pr cI (.pr c_api_Regs (.pr (.pr cI (.pr cI (.pr .ns (.pr cI (.pr cI (.pr cI .un)))))) (.pr .ns (.pr .ns (.pr c_sig_Set (.pr .bl .un)))))))) (.pr (.i .u32) .un))))))))))) s808)), (13, (.ob (.bx c_pipe_Pipes) s809)), (14, (.ob (.bx (.pr cI (.pr cI (.pr cI (.pr (.sr 15) .un))))) s810)), (15, (.ob (.rw 172 15 c_spread_task) s811)), (16, (.ob (.bx (.pr (.i .u32) (.pr .ns .un))) s812)), (17, (.ob (.bx c_open_Table) s813)), (18, (.ob (.bx c_proc_Table) s814))], 19⟩
def G_kernel_Start_J9_2 (P : Program) (N d : Nat) (s815 : (Unit × Unit × Unit × Int × Unit)) (s816 : List (Int)) (s817 : List (List ((Int) × (S_space_entry)))) (s818 : List (Int)) (s819 : List (S_disk_write)) (s820 : (Int × Unit × Unit × Unit × Unit × Unit × Unit × Unit × Ar 17 ((Int × S_api_Regs × (Int × Int × Unit × Int × Int × Int × Unit) × Unit × Unit × S_sig_Set × Bool × Unit)) × Int × Unit)) (s821 : S_pipe_Pipes) (s822 : (Int × Int × Int × Unit × Unit)) (s823 : List (S_spread_task)) (s824 : (Int × Unit × Unit)) (s825 : S_open_Table) (s826 : S_proc_Table) : Option ((((Unit × Int × Unit)) × ((Unit × Unit × Unit × Int × Unit)) × (List (List ((Int) × (S_space_entry)))) × (List (Int)) × (List (S_disk_write)) × Unit) ⊕ (((Unit × Int × Unit)) × ((Unit × Unit × Unit × Int × Unit)) × (List (List ((Int) × (S_space_entry)))) × (List (Int)) × (List (S_disk_write)) × ((Int × Unit × Unit × Unit × Unit × Unit × Unit × Unit × Ar 17 (S_kernel_task) × Int × Unit)) × ((Int × Int × Int × Unit × Unit × Unit)) × (List ((Int) × (Option Nat))) × ((Unit × Unit × Ar 4 (S_snap_Tree) × List (S_quota_Row) × List (S_inode_Node) × Unit × Unit × Unit)) × ((Unit × Int × Int × Int × Unit)) × (List ((Int) × (List (Int)))) × (List ((Int) × (Int))) × (S_pipe_Pipes) × ((Int × Int × Int × Unit × Unit)) × (List (S_spread_task)) × ((Int × Unit × Unit)) × (S_open_Table) × (S_proc_Table) × Unit)) := RJ (EE P) prims sums N d 5 9 [] [(.bx (.pr (.sr 1) (.pr (.sr 5) (.pr (.sr 6) (.pr cI .un))))), (.rw 5 1 (.i .u8)), .no, .no, (.am 2 cI c_space_entry)] ⟨[(3, ⟨(.rf 0 []), ()⟩), (10, ⟨(.rf 12 []), ()⟩)], [(0, (.ob (.bx (.pr (.sr 1) (.pr (.sr 10) (.pr (.sr 11) (.pr cI .un))))) s815)), (1, (.ob (.rw 5 1 (.i .u8)) s816)), (2, .none), (3, .none), (4, (.ob (.am 2 cI c_space_entry) s817)), (5, (.gh 0 ⟨(.rf 0 []), ()⟩)), (6, (.gh 1 ⟨(.sr 1), ()⟩)), (7, (.gh 2 ⟨(.sr 2), ()⟩)), (8, (.gh 3 ⟨(.sr 3), ()⟩)), (9, (.gh 4 ⟨.dead, ()⟩)), (10, (.ob (.rw 5 1 (.i .u8)) s818)), (11, (.ob (.rw 179 2 c_disk_write) s819)), (12, (.ob (.bx (.pr cI (.pr (.nz .np) (.pr (.nz .np) (.pr (.rf 13 []) (.pr (.rf 14 []) (.pr (.rf 16 []) (.pr (.rf 17 []) (.pr (.rf 18 []) (.pr (.ar 17 (.pr cI (.pr c_api_Regs (.pr (.pr cI (.pr cI (.pr .ns (.pr cI (.pr cI (.pr cI .un)))))) (.pr .ns (.pr .ns (.pr c_sig_Set (.pr .bl .un)))))))) (.pr (.i .u32) .un))))))))))) s820)), (13, (.ob (.bx c_pipe_Pipes) s821)), (14, (.ob (.bx (.pr cI (.pr cI (.pr cI (.pr (.sr 15) .un))))) s822)), (15, (.ob (.rw 172 15 c_spread_task) s823)), (16, (.ob (.bx (.pr (.i .u32) (.pr .ns .un))) s824)), (17, (.ob (.bx c_open_Table) s825)), (18, (.ob (.bx c_proc_Table) s826))], 19⟩
def G_kernel_Start_J7_3 (P : Program) (N d : Nat) (e_941 : Int) (s942 : (Unit × Unit × Unit × Int × Unit)) (s943 : List (Int)) (s944 : List (List ((Int) × (S_space_entry)))) (s945 : List (Int)) (s946 : List (S_disk_write)) (s947 : (Int × Unit × Unit × Unit × Unit × Unit × Unit × Unit × Ar 17 ((Int × S_api_Regs × (Int × Int × Unit × Int × Int × Int × Unit) × Unit × Unit × S_sig_Set × Bool × Unit)) × Int × Unit)) (s948 : (Int × Int × Int × Unit × Unit × Unit)) (s949 : List ((Int) × (Option Nat))) (s950 : S_pipe_Pipes) (s951 : (Int × Int × Int × Unit × Unit)) (s952 : List (S_spread_task)) (s953 : (Int × Unit × Unit)) (s954 : S_open_Table) (s955 : S_proc_Table) : Option ((((Unit × Int × Unit)) × ((Unit × Unit × Unit × Int × Unit)) × (List (List ((Int) × (S_space_entry)))) × (List (Int)) × (List (S_disk_write)) × Unit) ⊕ (((Unit × Int × Unit)) × ((Unit × Unit × Unit × Int × Unit)) × (List (List ((Int) × (S_space_entry)))) × (List (Int)) × (List (S_disk_write)) × ((Int × Unit × Unit × Unit × Unit × Unit × Unit × Unit × Ar 17 (S_kernel_task) × Int × Unit)) × ((Int × Int × Int × Unit × Unit × Unit)) × (List ((Int) × (Option Nat))) × ((Unit × Unit × Ar 4 (S_snap_Tree) × List (S_quota_Row) × List (S_inode_Node) × Unit × Unit × Unit)) × ((Unit × Int × Int × Int × Unit)) × (List ((Int) × (List (Int)))) × (List ((Int) × (Int))) × (S_pipe_Pipes) × ((Int × Int × Int × Unit × Unit)) × (List (S_spread_task)) × ((Int × Unit × Unit)) × (S_open_Table) × (S_proc_Table) × Unit)) := RJ (EE P) prims sums N d 5 7 [] [(.bx (.pr (.sr 1) (.pr (.sr 5) (.pr (.sr 6) (.pr cI .un))))), (.rw 5 1 (.i .u8)), .no, .no, (.am 2 cI c_space_entry)] ⟨[(3, ⟨(.rf 0 []), ()⟩), (10, ⟨(.rf 12 []), ()⟩), (11, ⟨cI, e_941⟩)], [(0, (.ob (.bx (.pr (.sr 1) (.pr (.sr 10) (.pr (.sr 11) (.pr cI .un))))) s942)), (1, (.ob (.rw 5 1 (.i .u8)) s943)), (2, .none), (3, .none), (4, (.ob (.am 2 cI c_space_entry) s944)), (5, (.gh 0 ⟨(.rf 0 []), ()⟩)), (6, (.gh 1 ⟨(.sr 1), ()⟩)), (7, (.gh 2 ⟨(.sr 2), ()⟩)), (8, (.gh 3 ⟨(.sr 3), ()⟩)), (9, (.gh 4 ⟨.dead, ()⟩)), (10, (.ob (.rw 5 1 (.i .u8)) s945)), (11, (.ob (.rw 179 2 c_disk_write) s946)), (12, (.ob (.bx (.pr cI (.pr (.rf 13 []) (.pr (.nz .np) (.pr (.rf 15 []) (.pr (.rf 16 []) (.pr (.rf 18 []) (.pr (.rf 19 []) (.pr (.rf 20 []) (.pr (.ar 17 (.pr cI (.pr c_api_Regs (.pr (.pr cI (.pr cI (.pr .ns (.pr cI (.pr cI (.pr cI .un)))))) (.pr .ns (.pr .ns (.pr c_sig_Set (.pr .bl .un)))))))) (.pr (.i .u32) .un))))))))))) s947)), (13, (.ob (.bx (.pr cI (.pr cI (.pr cI (.pr .ns (.pr (.sr 14) .un)))))) s948)), (14, (.ob (.mp cI (.vm 2)) s949)), (15, (.ob (.bx c_pipe_Pipes) s950)), (16, (.ob (.bx (.pr cI (.pr cI (.pr cI (.pr (.sr 17) .un))))) s951)), (17, (.ob (.rw 172 15 c_spread_task) s952)), (18, (.ob (.bx (.pr (.i .u32) (.pr .ns .un))) s953)), (19, (.ob (.bx c_open_Table) s954)), (20, (.ob (.bx c_proc_Table) s955))], 21⟩
def G_kernel_Start_J9_3 (P : Program) (N d : Nat) (s956 : (Unit × Unit × Unit × Int × Unit)) (s957 : List (Int)) (s958 : List (List ((Int) × (S_space_entry)))) (s959 : List (Int)) (s960 : List (S_disk_write)) (s961 : (Int × Unit × Unit × Unit × Unit × Unit × Unit × Unit × Ar 17 ((Int × S_api_Regs × (Int × Int × Unit × Int × Int × Int × Unit) × Unit × Unit × S_sig_Set × Bool × Unit)) × Int × Unit)) (s962 : (Int × Int × Int × Unit × Unit × Unit)) (s963 : List ((Int) × (Option Nat))) (s964 : S_pipe_Pipes) (s965 : (Int × Int × Int × Unit × Unit)) (s966 : List (S_spread_task)) (s967 : (Int × Unit × Unit)) (s968 : S_open_Table) (s969 : S_proc_Table) : Option ((((Unit × Int × Unit)) × ((Unit × Unit × Unit × Int × Unit)) × (List (List ((Int) × (S_space_entry)))) × (List (Int)) × (List (S_disk_write)) × Unit) ⊕ (((Unit × Int × Unit)) × ((Unit × Unit × Unit × Int × Unit)) × (List (List ((Int) × (S_space_entry)))) × (List (Int)) × (List (S_disk_write)) × ((Int × Unit × Unit × Unit × Unit × Unit × Unit × Unit × Ar 17 (S_kernel_task) × Int × Unit)) × ((Int × Int × Int × Unit × Unit × Unit)) × (List ((Int) × (Option Nat))) × ((Unit × Unit × Ar 4 (S_snap_Tree) × List (S_quota_Row) × List (S_inode_Node) × Unit × Unit × Unit)) × ((Unit × Int × Int × Int × Unit)) × (List ((Int) × (List (Int)))) × (List ((Int) × (Int))) × (S_pipe_Pipes) × ((Int × Int × Int × Unit × Unit)) × (List (S_spread_task)) × ((Int × Unit × Unit)) × (S_open_Table) × (S_proc_Table) × Unit)) := RJ (EE P) prims sums N d 5 9 [] [(.bx (.pr (.sr 1) (.pr (.sr 5) (.pr (.sr 6) (.pr cI .un))))), (.rw 5 1 (.i .u8)), .no, .no, (.am 2 cI c_space_entry)] ⟨[(3, ⟨(.rf 0 []), ()⟩), (10, ⟨(.rf 12 []), ()⟩)], [(0, (.ob (.bx (.pr (.sr 1) (.pr (.sr 10) (.pr (.sr 11) (.pr cI .un))))) s956)), (1, (.ob (.rw 5 1 (.i .u8)) s957)), (2, .none), (3, .none), (4, (.ob (.am 2 cI c_space_entry) s958)), (5, (.gh 0 ⟨(.rf 0 []), ()⟩)), (6, (.gh 1 ⟨(.sr 1), ()⟩)), (7, (.gh 2 ⟨(.sr 2), ()⟩)), (8, (.gh 3 ⟨(.sr 3), ()⟩)), (9, (.gh 4 ⟨.dead, ()⟩)), (10, (.ob (.rw 5 1 (.i .u8)) s959)), (11, (.ob (.rw 179 2 c_disk_write) s960)), (12, (.ob (.bx (.pr cI (.pr (.rf 13 []) (.pr (.nz .np) (.pr (.rf 15 []) (.pr (.rf 16 []) (.pr (.rf 18 []) (.pr (.rf 19 []) (.pr (.rf 20 []) (.pr (.ar 17 (.pr cI (.pr c_api_Regs (.pr (.pr cI (.pr cI (.pr .ns (.pr cI (.pr cI (.pr cI .un)))))) (.pr .ns (.pr .ns (.pr c_sig_Set (.pr .bl .un)))))))) (.pr (.i .u32) .un))))))))))) s961)), (13, (.ob (.bx (.pr cI (.pr cI (.pr cI (.pr .ns (.pr (.sr 14) .un)))))) s962)), (14, (.ob (.mp cI (.vm 2)) s963)), (15, (.ob (.bx c_pipe_Pipes) s964)), (16, (.ob (.bx (.pr cI (.pr cI (.pr cI (.pr (.sr 17) .un))))) s965)), (17, (.ob (.rw 172 15 c_spread_task) s966)), (18, (.ob (.bx (.pr (.i .u32) (.pr .ns .un))) s967)), (19, (.ob (.bx c_open_Table) s968)), (20, (.ob (.bx c_proc_Table) s969))], 21⟩
/-- (*ringhall/proc.Table).All -/
def G_proc_Table_All (P : Program) (N d : Nat) (s1026 : S_proc_Table) : Option ((List (Int)) × Unit) := R4 (EE P) prims sums N d 28 [⟨(.rf 0 []), ()⟩] [(.ob (.bx c_proc_Table) s1026)]
/-- (*ringhall/kernel.Kernel).Procs -/
def G_kernel_Kernel_Procs (P : Program) (N d : Nat) (s1009 : (Int × Unit × Unit × Unit × Unit × Unit × Unit × Unit × Ar 17 (S_kernel_task) × Int × Unit)) (s1010 : (Int × Int × Int × Unit × Unit × Unit)) (s1011 : List ((Int) × (Option Nat))) (s1012 : (Unit × Unit × Ar 4 (S_snap_Tree) × List (S_quota_Row) × List (S_inode_Node) × Unit × Unit × Unit)) (s1013 : (Unit × Unit × Unit × Int × Unit)) (s1014 : List (Int)) (s1015 : List (Int)) (s1016 : List (S_disk_write)) (s1017 : (Unit × Int × Int × Int × Unit)) (s1018 : List ((Int) × (List (Int)))) (s1019 : List ((Int) × (Int))) (s1020 : S_pipe_Pipes) (s1021 : (Int × Int × Int × Unit × Unit)) (s1022 : List (S_spread_task)) (s1023 : (Int × Unit × Unit)) (s1024 : S_open_Table) (s1025 : S_proc_Table) : Option ((List (Int)) × Unit) := R4 (EE P) prims sums N d 7 [⟨(.rf 0 []), ()⟩] [(.ob (.bx (.pr cI (.pr (.rf 1 []) (.pr (.rf 3 []) (.pr (.rf 11 []) (.pr (.rf 12 []) (.pr (.rf 14 []) (.pr (.rf 15 []) (.pr (.rf 16 []) (.pr (.ar 17 c_kernel_task) (.pr (.i .u32) .un))))))))))) s1009), (.ob (.bx (.pr cI (.pr cI (.pr cI (.pr .ns (.pr (.sr 2) .un)))))) s1010), (.ob (.mp cI (.vm 2)) s1011), (.ob (.bx (.pr (.rf 4 []) (.pr (.rf 8 []) (.pr (.ar 4 c_snap_Tree) (.pr (.sl c_quota_Row) (.pr (.sl c_inode_Node) (.pr (.sr 9) (.pr (.sr 10) .un)))))))) s1012), (.ob (.bx (.pr (.sr 5) (.pr (.sr 6) (.pr (.sr 7) (.pr cI .un))))) s1013), (.ob (.rw 5 1 (.i .u8)) s1014), (.ob (.rw 5 1 (.i .u8)) s1015), (.ob (.rw 179 2 c_disk_write) s1016), (.ob (.bx (.pr (.rf 4 []) (.pr cI (.pr cI (.pr (.i .u32) .un))))) s1017), (.ob (.mp cI (.sl (.i .u8))) s1018), (.ob (.mp cI cI) s1019), (.ob (.bx c_pipe_Pipes) s1020), (.ob (.bx (.pr cI (.pr cI (.pr cI (.pr (.sr 13) .un))))) s1021), (.ob (.rw 172 15 c_spread_task) s1022), (.ob (.bx (.pr (.i .u32) (.pr .ns .un))) s1023), (.ob (.bx c_open_Table) s1024), (.ob (.bx c_proc_Table) s1025)]
/-- slices.Equal[[]int,int] -/
def G_slices_Equal_f6 (P : Program) (N d : Nat) (s_1035 : List (Int)) (s_1036 : List (Int)) : Option ((Bool) × Unit) := R4 (EE P) prims sums N d 6 [⟨(.sl cI), s_1035⟩, ⟨(.sl cI), s_1036⟩] []
/-- ringhall/proc.number -/
def G_proc_number (P : Program) (N d : Nat) (p_1083 : Int) : Option ((Bool) × Unit) := R4 (EE P) prims sums N d 97 [⟨cI, p_1083⟩] []
/-- (*ringhall/proc.Table).State -/
def G_proc_Table_State (P : Program) (N d : Nat) (p_1081 : Int) (s1082 : S_proc_Table) : Option (((Int × Int × Unit)) × Unit) := R4 (EE P) prims sums N d 60 [⟨(.rf 0 []), ()⟩, ⟨cI, p_1081⟩] [(.ob (.bx c_proc_Table) s1082)]
/-- (*ringhall/kernel.Kernel).living -/
def G_kernel_Kernel_living (P : Program) (N d : Nat) (p_1063 : Int) (s1064 : (Int × Unit × Unit × Unit × Unit × Unit × Unit × Unit × Ar 17 (S_kernel_task) × Int × Unit)) (s1065 : (Int × Int × Int × Unit × Unit × Unit)) (s1066 : List ((Int) × (Option Nat))) (s1067 : (Unit × Unit × Ar 4 (S_snap_Tree) × List (S_quota_Row) × List (S_inode_Node) × Unit × Unit × Unit)) (s1068 : (Unit × Unit × Unit × Int × Unit)) (s1069 : List (Int)) (s1070 : List (Int)) (s1071 : List (S_disk_write)) (s1072 : (Unit × Int × Int × Int × Unit)) (s1073 : List ((Int) × (List (Int)))) (s1074 : List ((Int) × (Int))) (s1075 : S_pipe_Pipes) (s1076 : (Int × Int × Int × Unit × Unit)) (s1077 : List (S_spread_task)) (s1078 : (Int × Unit × Unit)) (s1079 : S_open_Table) (s1080 : S_proc_Table) : Option ((Int) × Unit) := R4 (EE P) prims sums N d 29 [⟨(.rf 0 []), ()⟩, ⟨cI, p_1063⟩] [(.ob (.bx (.pr cI (.pr (.rf 1 []) (.pr (.rf 3 []) (.pr (.rf 11 []) (.pr (.rf 12 []) (.pr (.rf 14 []) (.pr (.rf 15 []) (.pr (.rf 16 []) (.pr (.ar 17 c_kernel_task) (.pr (.i .u32) .un))))))))))) s1064), (.ob (.bx (.pr cI (.pr cI (.pr cI (.pr .ns (.pr (.sr 2) .un)))))) s1065), (.ob (.mp cI (.vm 2)) s1066), (.ob (.bx (.pr (.rf 4 []) (.pr (.rf 8 []) (.pr (.ar 4 c_snap_Tree) (.pr (.sl c_quota_Row) (.pr (.sl c_inode_Node) (.pr (.sr 9) (.pr (.sr 10) .un)))))))) s1067), (.ob (.bx (.pr (.sr 5) (.pr (.sr 6) (.pr (.sr 7) (.pr cI .un))))) s1068), (.ob (.rw 5 1 (.i .u8)) s1069), (.ob (.rw 5 1 (.i .u8)) s1070), (.ob (.rw 179 2 c_disk_write) s1071), (.ob (.bx (.pr (.rf 4 []) (.pr cI (.pr cI (.pr (.i .u32) .un))))) s1072), (.ob (.mp cI (.sl (.i .u8))) s1073), (.ob (.mp cI cI) s1074), (.ob (.bx c_pipe_Pipes) s1075), (.ob (.bx (.pr cI (.pr cI (.pr cI (.pr (.sr 13) .un))))) s1076), (.ob (.rw 172 15 c_spread_task) s1077), (.ob (.bx (.pr (.i .u32) (.pr .ns .un))) s1078), (.ob (.bx c_open_Table) s1079), (.ob (.bx c_proc_Table) s1080)]
/-- (*ringhall/kernel.Kernel).Space -/
def G_kernel_Kernel_Space (P : Program) (N d : Nat) (p_1045 : Int) (s1046 : (Int × Unit × Unit × Unit × Unit × Unit × Unit × Unit × Ar 17 (S_kernel_task) × Int × Unit)) (s1047 : (Int × Int × Int × Unit × Unit × Unit)) (s1048 : List ((Int) × (Option Nat))) (s1049 : (Unit × Unit × Ar 4 (S_snap_Tree) × List (S_quota_Row) × List (S_inode_Node) × Unit × Unit × Unit)) (s1050 : (Unit × Unit × Unit × Int × Unit)) (s1051 : List (Int)) (s1052 : List (Int)) (s1053 : List (S_disk_write)) (s1054 : (Unit × Int × Int × Int × Unit)) (s1055 : List ((Int) × (List (Int)))) (s1056 : List ((Int) × (Int))) (s1057 : S_pipe_Pipes) (s1058 : (Int × Int × Int × Unit × Unit)) (s1059 : List (S_spread_task)) (s1060 : (Int × Unit × Unit)) (s1061 : S_open_Table) (s1062 : S_proc_Table) : Option (((Int × Int × Unit)) × Unit) := R4 (EE P) prims sums N d 8 [⟨(.rf 0 []), ()⟩, ⟨cI, p_1045⟩] [(.ob (.bx (.pr cI (.pr (.rf 1 []) (.pr (.rf 3 []) (.pr (.rf 11 []) (.pr (.rf 12 []) (.pr (.rf 14 []) (.pr (.rf 15 []) (.pr (.rf 16 []) (.pr (.ar 17 c_kernel_task) (.pr (.i .u32) .un))))))))))) s1046), (.ob (.bx (.pr cI (.pr cI (.pr cI (.pr .ns (.pr (.sr 2) .un)))))) s1047), (.ob (.mp cI (.vm 2)) s1048), (.ob (.bx (.pr (.rf 4 []) (.pr (.rf 8 []) (.pr (.ar 4 c_snap_Tree) (.pr (.sl c_quota_Row) (.pr (.sl c_inode_Node) (.pr (.sr 9) (.pr (.sr 10) .un)))))))) s1049), (.ob (.bx (.pr (.sr 5) (.pr (.sr 6) (.pr (.sr 7) (.pr cI .un))))) s1050), (.ob (.rw 5 1 (.i .u8)) s1051), (.ob (.rw 5 1 (.i .u8)) s1052), (.ob (.rw 179 2 c_disk_write) s1053), (.ob (.bx (.pr (.rf 4 []) (.pr cI (.pr cI (.pr (.i .u32) .un))))) s1054), (.ob (.mp cI (.sl (.i .u8))) s1055), (.ob (.mp cI cI) s1056), (.ob (.bx c_pipe_Pipes) s1057), (.ob (.bx (.pr cI (.pr cI (.pr cI (.pr (.sr 13) .un))))) s1058), (.ob (.rw 172 15 c_spread_task) s1059), (.ob (.bx (.pr (.i .u32) (.pr .ns .un))) s1060), (.ob (.bx c_open_Table) s1061), (.ob (.bx c_proc_Table) s1062)]
/-- (*ringhall/kernel.Kernel).Regs -/
def G_kernel_Kernel_Regs (P : Program) (N d : Nat) (p_1092 : Int) (s1093 : (Int × Unit × Unit × Unit × Unit × Unit × Unit × Unit × Ar 17 (S_kernel_task) × Int × Unit)) (s1094 : (Int × Int × Int × Unit × Unit × Unit)) (s1095 : List ((Int) × (Option Nat))) (s1096 : (Unit × Unit × Ar 4 (S_snap_Tree) × List (S_quota_Row) × List (S_inode_Node) × Unit × Unit × Unit)) (s1097 : (Unit × Unit × Unit × Int × Unit)) (s1098 : List (Int)) (s1099 : List (Int)) (s1100 : List (S_disk_write)) (s1101 : (Unit × Int × Int × Int × Unit)) (s1102 : List ((Int) × (List (Int)))) (s1103 : List ((Int) × (Int))) (s1104 : S_pipe_Pipes) (s1105 : (Int × Int × Int × Unit × Unit)) (s1106 : List (S_spread_task)) (s1107 : (Int × Unit × Unit)) (s1108 : S_open_Table) (s1109 : S_proc_Table) : Option (((S_api_Regs × Int × Unit)) × Unit) := R4 (EE P) prims sums N d 9 [⟨(.rf 0 []), ()⟩, ⟨cI, p_1092⟩] [(.ob (.bx (.pr cI (.pr (.rf 1 []) (.pr (.rf 3 []) (.pr (.rf 11 []) (.pr (.rf 12 []) (.pr (.rf 14 []) (.pr (.rf 15 []) (.pr (.rf 16 []) (.pr (.ar 17 c_kernel_task) (.pr (.i .u32) .un))))))))))) s1093), (.ob (.bx (.pr cI (.pr cI (.pr cI (.pr .ns (.pr (.sr 2) .un)))))) s1094), (.ob (.mp cI (.vm 2)) s1095), (.ob (.bx (.pr (.rf 4 []) (.pr (.rf 8 []) (.pr (.ar 4 c_snap_Tree) (.pr (.sl c_quota_Row) (.pr (.sl c_inode_Node) (.pr (.sr 9) (.pr (.sr 10) .un)))))))) s1096), (.ob (.bx (.pr (.sr 5) (.pr (.sr 6) (.pr (.sr 7) (.pr cI .un))))) s1097), (.ob (.rw 5 1 (.i .u8)) s1098), (.ob (.rw 5 1 (.i .u8)) s1099), (.ob (.rw 179 2 c_disk_write) s1100), (.ob (.bx (.pr (.rf 4 []) (.pr cI (.pr cI (.pr (.i .u32) .un))))) s1101), (.ob (.mp cI (.sl (.i .u8))) s1102), (.ob (.mp cI cI) s1103), (.ob (.bx c_pipe_Pipes) s1104), (.ob (.bx (.pr cI (.pr cI (.pr cI (.pr (.sr 13) .un))))) s1105), (.ob (.rw 172 15 c_spread_task) s1106), (.ob (.bx (.pr (.i .u32) (.pr .ns .un))) s1107), (.ob (.bx c_open_Table) s1108), (.ob (.bx c_proc_Table) s1109)]
/-- slices.Clone[[]int,int] -/
def G_slices_Clone_f30 (P : Program) (N d : Nat) (s_1133 : List (Int)) : Option ((Unit) × (List (Int)) × Unit) := R4 (EE P) prims sums N d 30 [⟨(.sl cI), s_1133⟩] []
/-- (*ringhall/kernel.Kernel).Cred -/
def G_kernel_Kernel_Cred (P : Program) (N d : Nat) (p_1113 : Int) (s1114 : (Int × Unit × Unit × Unit × Unit × Unit × Unit × Unit × Ar 17 (S_kernel_task) × Int × Unit)) (s1115 : (Int × Int × Int × Unit × Unit × Unit)) (s1116 : List ((Int) × (Option Nat))) (s1117 : (Unit × Unit × Ar 4 (S_snap_Tree) × List (S_quota_Row) × List (S_inode_Node) × Unit × Unit × Unit)) (s1118 : (Unit × Unit × Unit × Int × Unit)) (s1119 : List (Int)) (s1120 : List (Int)) (s1121 : List (S_disk_write)) (s1122 : (Unit × Int × Int × Int × Unit)) (s1123 : List ((Int) × (List (Int)))) (s1124 : List ((Int) × (Int))) (s1125 : S_pipe_Pipes) (s1126 : (Int × Int × Int × Unit × Unit)) (s1127 : List (S_spread_task)) (s1128 : (Int × Unit × Unit)) (s1129 : S_open_Table) (s1130 : S_proc_Table) : Option (((S_api_Cred × Int × Unit)) × Unit) := R4 (EE P) prims sums N d 10 [⟨(.rf 0 []), ()⟩, ⟨cI, p_1113⟩] [(.ob (.bx (.pr cI (.pr (.rf 1 []) (.pr (.rf 3 []) (.pr (.rf 11 []) (.pr (.rf 12 []) (.pr (.rf 14 []) (.pr (.rf 15 []) (.pr (.rf 16 []) (.pr (.ar 17 c_kernel_task) (.pr (.i .u32) .un))))))))))) s1114), (.ob (.bx (.pr cI (.pr cI (.pr cI (.pr .ns (.pr (.sr 2) .un)))))) s1115), (.ob (.mp cI (.vm 2)) s1116), (.ob (.bx (.pr (.rf 4 []) (.pr (.rf 8 []) (.pr (.ar 4 c_snap_Tree) (.pr (.sl c_quota_Row) (.pr (.sl c_inode_Node) (.pr (.sr 9) (.pr (.sr 10) .un)))))))) s1117), (.ob (.bx (.pr (.sr 5) (.pr (.sr 6) (.pr (.sr 7) (.pr cI .un))))) s1118), (.ob (.rw 5 1 (.i .u8)) s1119), (.ob (.rw 5 1 (.i .u8)) s1120), (.ob (.rw 179 2 c_disk_write) s1121), (.ob (.bx (.pr (.rf 4 []) (.pr cI (.pr cI (.pr (.i .u32) .un))))) s1122), (.ob (.mp cI (.sl (.i .u8))) s1123), (.ob (.mp cI cI) s1124), (.ob (.bx c_pipe_Pipes) s1125), (.ob (.bx (.pr cI (.pr cI (.pr cI (.pr (.sr 13) .un))))) s1126), (.ob (.rw 172 15 c_spread_task) s1127), (.ob (.bx (.pr (.i .u32) (.pr .ns .un))) s1128), (.ob (.bx c_open_Table) s1129), (.ob (.bx c_proc_Table) s1130)]
/-- ringhall/ringref5.SameCred -/
def G_ringref5_SameCred (P : Program) (N d : Nat) (a_1162 : S_api_Cred) (b_1163 : S_api_Cred) : Option ((Bool) × Unit) := R4 (EE P) prims sums N d 11 [⟨c_api_Cred, a_1162⟩, ⟨c_api_Cred, b_1163⟩] []
/-- (*ringhall/kernel.Kernel).Memory -/
def G_kernel_Kernel_Memory (P : Program) (N d : Nat) (s1168 : (Int × Unit × Unit × Unit × Unit × Unit × Unit × Unit × Ar 17 (S_kernel_task) × Int × Unit)) (s1169 : (Int × Int × Int × Unit × Unit × Unit)) (s1170 : List ((Int) × (Option Nat))) (s1171 : (Unit × Unit × Ar 4 (S_snap_Tree) × List (S_quota_Row) × List (S_inode_Node) × Unit × Unit × Unit)) (s1172 : (Unit × Unit × Unit × Int × Unit)) (s1173 : List (Int)) (s1174 : List (Int)) (s1175 : List (S_disk_write)) (s1176 : (Unit × Int × Int × Int × Unit)) (s1177 : List ((Int) × (List (Int)))) (s1178 : List ((Int) × (Int))) (s1179 : S_pipe_Pipes) (s1180 : (Int × Int × Int × Unit × Unit)) (s1181 : List (S_spread_task)) (s1182 : (Int × Unit × Unit)) (s1183 : S_open_Table) (s1184 : S_proc_Table) : Option ((Unit) × Unit) := R4 (EE P) prims sums N d 13 [⟨(.rf 0 []), ()⟩] [(.ob (.bx (.pr cI (.pr (.rf 1 []) (.pr (.rf 3 []) (.pr (.rf 11 []) (.pr (.rf 12 []) (.pr (.rf 14 []) (.pr (.rf 15 []) (.pr (.rf 16 []) (.pr (.ar 17 c_kernel_task) (.pr (.i .u32) .un))))))))))) s1168), (.ob (.bx (.pr cI (.pr cI (.pr cI (.pr .ns (.pr (.sr 2) .un)))))) s1169), (.ob (.mp cI (.vm 2)) s1170), (.ob (.bx (.pr (.rf 4 []) (.pr (.rf 8 []) (.pr (.ar 4 c_snap_Tree) (.pr (.sl c_quota_Row) (.pr (.sl c_inode_Node) (.pr (.sr 9) (.pr (.sr 10) .un)))))))) s1171), (.ob (.bx (.pr (.sr 5) (.pr (.sr 6) (.pr (.sr 7) (.pr cI .un))))) s1172), (.ob (.rw 5 1 (.i .u8)) s1173), (.ob (.rw 5 1 (.i .u8)) s1174), (.ob (.rw 179 2 c_disk_write) s1175), (.ob (.bx (.pr (.rf 4 []) (.pr cI (.pr cI (.pr (.i .u32) .un))))) s1176), (.ob (.mp cI (.sl (.i .u8))) s1177), (.ob (.mp cI cI) s1178), (.ob (.bx c_pipe_Pipes) s1179), (.ob (.bx (.pr cI (.pr cI (.pr cI (.pr (.sr 13) .un))))) s1180), (.ob (.rw 172 15 c_spread_task) s1181), (.ob (.bx (.pr (.i .u32) (.pr .ns .un))) s1182), (.ob (.bx c_open_Table) s1183), (.ob (.bx c_proc_Table) s1184)]
/-- slices.Sort[[]int,int] -/
def G_slices_Sort (P : Program) (N d : Nat) (s1193 : List (Int)) : Option (((Unit)) × (List (Int)) × Unit) := R4 (EE P) prims sums N d 32 [⟨(.sr 0), ()⟩] [(.ob (.rw 3 1 cI) s1193)]
/-- (*ringhall/space.Memory).Spaces -/
def G_space_Memory_Spaces (P : Program) (N d : Nat) (s1186 : (Int × Int × Int × Unit × Unit × Unit)) (s1187 : List ((Int) × (Option Nat))) : Option ((List (Int)) × ((Int × Int × Int × Unit × Unit × Unit)) × (List ((Int) × (Option Nat))) × Unit) := R4 (EE P) prims sums N d 14 [⟨(.rf 0 []), ()⟩] [(.ob (.bx (.pr cI (.pr cI (.pr cI (.pr .ns (.pr (.sr 1) .un)))))) s1186), (.ob (.mp cI (.vm 2)) s1187)]
def G_space_Memory_Spaces_R3 (P : Program) (N d : Nat) (s1188 : (Int × Int × Int × Unit × Unit × Unit)) (s1189 : List ((Int) × (Option Nat))) (s1190 : List (Int)) (s1191 : List ((Int) × (Option Nat))) : Option ((List (Int)) × ((Int × Int × Int × Unit × Unit × Unit)) × (List ((Int) × (Option Nat))) × Unit) := RR4 (EE P) prims sums N d 14 3 [] [(.bx (.pr cI (.pr cI (.pr cI (.pr .ns (.pr (.sr 2) .un)))))), .no] 9 ⟨[(3, ⟨(.sr 5), ()⟩), (9, ⟨(.sr 6), ()⟩)], [(0, (.ob (.bx (.pr cI (.pr cI (.pr cI (.pr .ns (.pr (.sr 1) .un)))))) s1188)), (1, (.ex (.lk cI (.vm 2) 4 s1189))), (2, (.gh 0 ⟨(.rf 0 []), ()⟩)), (3, (.gh 1 ⟨(.sr 1), ()⟩)), (4, (.ex .gs)), (5, (.ob (.rw 3 1 cI) s1190)), (6, (.ex (.it cI (.vm 2) true 1 4 s1191 none none)))], 7⟩
def G_space_Memory_Spaces_R3_X (cur : Option ((Int) × (Option Nat))) (s1188 : (Int × Int × Int × Unit × Unit × Unit)) (s1189 : List ((Int) × (Option Nat))) (s1190 : List (Int)) (s1191 : List ((Int) × (Option Nat))) : XS := ⟨[(3, ⟨(.sr 5), ()⟩), (9, ⟨(.sr 6), ()⟩)], [(0, (.ob (.bx (.pr cI (.pr cI (.pr cI (.pr .ns (.pr (.sr 1) .un)))))) s1188)), (1, (.ex (.lk cI (.vm 2) 4 s1189))), (2, (.gh 0 ⟨(.rf 0 []), ()⟩)), (3, (.gh 1 ⟨(.sr 1), ()⟩)), (4, (.ex .gs)), (5, (.ob (.rw 3 1 cI) s1190)), (6, (.ex (.it cI (.vm 2) true 1 4 s1191 cur none)))], 7⟩
def G_space_Memory_Spaces_R3_S (P : Program) (N d : Nat) (p1192 : (Int) × (Option Nat)) (s1188 : (Int × Int × Int × Unit × Unit × Unit)) (s1189 : List ((Int) × (Option Nat))) (s1190 : List (Int)) (s1191 : List ((Int) × (Option Nat))) : Option XS := RS4 (EE P) prims sums N d 14 3 [(.bx (.pr cI (.pr cI (.pr cI (.pr .ns (.pr (.sr 2) .un)))))), .no] ⟨[(3, ⟨(.sr 5), ()⟩), (9, ⟨(.sr 6), ()⟩)], [(0, (.ob (.bx (.pr cI (.pr cI (.pr cI (.pr .ns (.pr (.sr 1) .un)))))) s1188)), (1, (.ex (.lk cI (.vm 2) 4 s1189))), (2, (.gh 0 ⟨(.rf 0 []), ()⟩)), (3, (.gh 1 ⟨(.sr 1), ()⟩)), (4, (.ex .gs)), (5, (.ob (.rw 3 1 cI) s1190)), (6, (.ex (.it cI (.vm 2) true 1 4 s1191 none (some (some p1192)))))], 7⟩
def G_space_Memory_Spaces_R3_E (P : Program) (N d : Nat) (s1188 : (Int × Int × Int × Unit × Unit × Unit)) (s1189 : List ((Int) × (Option Nat))) (s1190 : List (Int)) (s1191 : List ((Int) × (Option Nat))) : Option ((List (Int)) × ((Int × Int × Int × Unit × Unit × Unit)) × (List ((Int) × (Option Nat))) × Unit) := RE4 (EE P) prims sums N d 14 3 [] [(.bx (.pr cI (.pr cI (.pr cI (.pr .ns (.pr (.sr 2) .un)))))), .no] ⟨[(3, ⟨(.sr 5), ()⟩), (9, ⟨(.sr 6), ()⟩)], [(0, (.ob (.bx (.pr cI (.pr cI (.pr cI (.pr .ns (.pr (.sr 1) .un)))))) s1188)), (1, (.ex (.lk cI (.vm 2) 4 s1189))), (2, (.gh 0 ⟨(.rf 0 []), ()⟩)), (3, (.gh 1 ⟨(.sr 1), ()⟩)), (4, (.ex .gs)), (5, (.ob (.rw 3 1 cI) s1190)), (6, (.ex (.it cI (.vm 2) true 1 4 s1191 none (some none))))], 7⟩
/-- ringhall/ringlaw5.KernelStarts -/
def G_ringlaw5_KernelStarts (P : Program) (N d : Nat) (cpus_1 : Int) (frames_2 : Int) (slots_3 : Int) (sectors_4 : Int) (p_5 : Int) (s6 : List (List ((Int) × (S_space_entry)))) : Option ((Bool) × (List (List ((Int) × (S_space_entry)))) × Unit) := R4 (EE P) prims sums N d 3 [⟨cI, cpus_1⟩, ⟨cI, frames_2⟩, ⟨cI, slots_3⟩, ⟨cI, sectors_4⟩, ⟨cI, p_5⟩] [(.ob (.am 2 cI c_space_entry) s6)]
def G_ringlaw5_KernelStarts_J2 (P : Program) (N d : Nat) (cpus_631 : Int) (frames_632 : Int) (slots_633 : Int) (p_634 : Int) (e_635 : Int) (s636 : List (List ((Int) × (S_space_entry)))) : Option ((Bool) × (List (List ((Int) × (S_space_entry)))) × Unit) := RJ (EE P) prims sums N d 3 2 [] [(.am 2 cI c_space_entry)] ⟨[(0, ⟨cI, cpus_631⟩), (1, ⟨cI, frames_632⟩), (2, ⟨cI, slots_633⟩), (4, ⟨cI, p_634⟩), (11, ⟨(.nz .np), ()⟩), (12, ⟨cI, e_635⟩)], [(0, (.ob (.am 2 cI c_space_entry) s636)), (1, (.gh 0 ⟨.dead, ()⟩))], 2⟩
def G_ringlaw5_KernelStarts_J2_1 (P : Program) (N d : Nat) (cpus_637 : Int) (frames_638 : Int) (slots_639 : Int) (p_640 : Int) (e_641 : Int) (s642 : List (List ((Int) × (S_space_entry)))) (s643 : (Unit × Unit × Unit × Int × Unit)) (s644 : List (Int)) (s645 : List (Int)) (s646 : List (S_disk_write)) : Option ((Bool) × (List (List ((Int) × (S_space_entry)))) × Unit) := RJ (EE P) prims sums N d 3 2 [] [(.am 2 cI c_space_entry)] ⟨[(0, ⟨cI, cpus_637⟩), (1, ⟨cI, frames_638⟩), (2, ⟨cI, slots_639⟩), (4, ⟨cI, p_640⟩), (11, ⟨(.rf 2 []), ()⟩), (12, ⟨cI, e_641⟩)], [(0, (.ob (.am 2 cI c_space_entry) s642)), (1, (.gh 0 ⟨.dead, ()⟩)), (2, (.ob (.bx (.pr (.sr 3) (.pr (.sr 4) (.pr (.sr 5) (.pr cI .un))))) s643)), (3, (.ob (.rw 5 1 (.i .u8)) s644)), (4, (.ob (.rw 5 1 (.i .u8)) s645)), (5, (.ob (.rw 179 2 c_disk_write) s646))], 6⟩
def G_ringlaw5_KernelStarts_J5 (P : Program) (N d : Nat) (cpus_976 : Int) (frames_977 : Int) (slots_978 : Int) (p_979 : Int) (f_980 : Int) (s981 : List (List ((Int) × (S_space_entry)))) : Option ((Bool) × (List (List ((Int) × (S_space_entry)))) × Unit) := RJ (EE P) prims sums N d 3 5 [] [(.am 2 cI c_space_entry)] ⟨[(0, ⟨cI, cpus_976⟩), (1, ⟨cI, frames_977⟩), (2, ⟨cI, slots_978⟩), (4, ⟨cI, p_979⟩), (13, ⟨(.nz .np), ()⟩), (14, ⟨cI, f_980⟩)], [(0, (.ob (.am 2 cI c_space_entry) s981)), (1, (.gh 0 ⟨.dead, ()⟩))], 2⟩
def G_ringlaw5_KernelStarts_J5_1 (P : Program) (N d : Nat) (cpus_984 : Int) (frames_985 : Int) (slots_986 : Int) (p_987 : Int) (f_988 : Int) (s989 : List (List ((Int) × (S_space_entry)))) (s990 : (Int × Unit × Unit × Unit × Unit × Unit × Unit × Unit × Ar 17 (S_kernel_task) × Int × Unit)) (s991 : (Int × Int × Int × Unit × Unit × Unit)) (s992 : List ((Int) × (Option Nat))) (s993 : (Unit × Unit × Ar 4 (S_snap_Tree) × List (S_quota_Row) × List (S_inode_Node) × Unit × Unit × Unit)) (s994 : (Unit × Unit × Unit × Int × Unit)) (s995 : List (Int)) (s996 : List (Int)) (s997 : List (S_disk_write)) (s998 : (Unit × Int × Int × Int × Unit)) (s999 : List ((Int) × (List (Int)))) (s1000 : List ((Int) × (Int))) (s1001 : S_pipe_Pipes) (s1002 : (Int × Int × Int × Unit × Unit)) (s1003 : List (S_spread_task)) (s1004 : (Int × Unit × Unit)) (s1005 : S_open_Table) (s1006 : S_proc_Table) : Option ((Bool) × (List (List ((Int) × (S_space_entry)))) × Unit) := RJ (EE P) prims sums N d 3 5 [] [(.am 2 cI c_space_entry)] ⟨[(0, ⟨cI, cpus_984⟩), (1, ⟨cI, frames_985⟩), (2, ⟨cI, slots_986⟩), (4, ⟨cI, p_987⟩), (13, ⟨(.rf 2 []), ()⟩), (14, ⟨cI, f_988⟩)], [(0, (.ob (.am 2 cI c_space_entry) s989)), (1, (.gh 0 ⟨.dead, ()⟩)), (2, (.ob (.bx (.pr cI (.pr (.rf 3 []) (.pr (.rf 5 []) (.pr (.rf 13 []) (.pr (.rf 14 []) (.pr (.rf 16 []) (.pr (.rf 17 []) (.pr (.rf 18 []) (.pr (.ar 17 c_kernel_task) (.pr (.i .u32) .un))))))))))) s990)), (3, (.ob (.bx (.pr cI (.pr cI (.pr cI (.pr .ns (.pr (.sr 4) .un)))))) s991)), (4, (.ob (.mp cI (.vm 2)) s992)), (5, (.ob (.bx (.pr (.rf 6 []) (.pr (.rf 10 []) (.pr (.ar 4 c_snap_Tree) (.pr (.sl c_quota_Row) (.pr (.sl c_inode_Node) (.pr (.sr 11) (.pr (.sr 12) .un)))))))) s993)), (6, (.ob (.bx (.pr (.sr 7) (.pr (.sr 8) (.pr (.sr 9) (.pr cI .un))))) s994)), (7, (.ob (.rw 5 1 (.i .u8)) s995)), (8, (.ob (.rw 5 1 (.i .u8)) s996)), (9, (.ob (.rw 179 2 c_disk_write) s997)), (10, (.ob (.bx (.pr (.rf 6 []) (.pr cI (.pr cI (.pr (.i .u32) .un))))) s998)), (11, (.ob (.mp cI (.sl (.i .u8))) s999)), (12, (.ob (.mp cI cI) s1000)), (13, (.ob (.bx c_pipe_Pipes) s1001)), (14, (.ob (.bx (.pr cI (.pr cI (.pr cI (.pr (.sr 15) .un))))) s1002)), (15, (.ob (.rw 172 15 c_spread_task) s1003)), (16, (.ob (.bx (.pr (.i .u32) (.pr .ns .un))) s1004)), (17, (.ob (.bx c_open_Table) s1005)), (18, (.ob (.bx c_proc_Table) s1006))], 19⟩
def G_ringlaw5_KernelStarts_J17 (P : Program) (N d : Nat) (s_1137 : Int) (g_1138 : Int) (h_1139 : Int) (i_1140 : Int) (want_1141 : Int) (s1142 : List (List ((Int) × (S_space_entry)))) (s1143 : (Int × Unit × Unit × Unit × Unit × Unit × Unit × Unit × Ar 17 (S_kernel_task) × Int × Unit)) (s1144 : (Int × Int × Int × Unit × Unit × Unit)) (s1145 : List ((Int) × (Option Nat))) (s1146 : (Unit × Unit × Ar 4 (S_snap_Tree) × List (S_quota_Row) × List (S_inode_Node) × Unit × Unit × Unit)) (s1147 : (Unit × Unit × Unit × Int × Unit)) (s1148 : List (Int)) (s1149 : List (Int)) (s1150 : List (S_disk_write)) (s1151 : (Unit × Int × Int × Int × Unit)) (s1152 : List ((Int) × (List (Int)))) (s1153 : List ((Int) × (Int))) (s1154 : S_pipe_Pipes) (s1155 : (Int × Int × Int × Unit × Unit)) (s1156 : List (S_spread_task)) (s1157 : (Int × Unit × Unit)) (s1158 : S_open_Table) (s1159 : S_proc_Table) (s1160 : S_api_Regs) (s1161 : S_api_Cred) : Option ((Bool) × (List (List ((Int) × (S_space_entry)))) × Unit) :=
bif (want_1141 != 0) then
(bif (g_1138 == want_1141) then
bif (h_1139 == want_1141) then
bif (i_1140 == want_1141) then
bif (s_1137 == 0) then
bif (eqT c_api_Regs (s1160 : S_api_Regs) (((nA 8 0), 0, 0, ()) : S_api_Regs)) then
(G_ringref5_SameCred P N d s1161 (0, 0, [], 0, 0, 0, ())).bind fun x1166 =>
some x1166.1
else
some false
else
some false
else
some false
else
some false
else
some false).bind fun b1167 =>
some (b1167, s1142, ())
else
bif (g_1138 == 0) then
(G_kernel_Kernel_Memory P N d s1143 s1144 s1145 s1146 s1147 s1148 s1149 s1150 s1151 s1152 s1153 s1154 s1155 s1156 s1157 s1158 s1159).bind fun x1233 =>
(G_space_Memory_Spaces P N d s1144 s1145).bind fun x1234 =>
(G_slices_Contains P N d x1234.1 s_1137).bind fun x1235 =>
bif x1235.1 then
bif (h_1139 == 0) then
bif (eqT c_api_Regs (s1160 : S_api_Regs) (((nA 8 0), 0, 1, ()) : S_api_Regs)) then
bif (i_1140 == 0) then
(G_ringref5_SameCred P N d s1161 (0, 0, [], 127, 0, 0, ())).bind fun x1236 =>
some (x1236.1, s1142, ())
else
some (false, s1142, ())
else
some (false, s1142, ())
else
some (false, s1142, ())
else
some (false, s1142, ())
else
some (false, s1142, ())
theorem G_disk_New_eq (hP : P = Tryz.prog) (N d : Nat) (sectors_9 : Int) : G_disk_New P N (d + 1) sectors_9 =
(bif (decide (sectors_9 < 16)) then
some true
else
some (decide (sectors_9 > 256))).bind fun b10 =>
bif b10 then
some (Sum.inl (((), (1 : Int), ()), ()))
else
bif mkOk (wi .i64 (sectors_9 * 64)) 1 then
bif mkOk (wi .i64 (sectors_9 * 64)) 1 then
some (Sum.inr (((), (0 : Int), ()), ((), (), (), (-1), ()), (List.replicate (wi .i64 (sectors_9 * 64)).toNat 0), (List.replicate (wi .i64 (sectors_9 * 64)).toNat 0), [], ()))
else none
else none := by subst hP; kernel_rfl
theorem G_disk_Disk_Size_eq (hP : P = Tryz.prog) (N d : Nat) (s26 : (Unit × Unit × Unit × Int × Unit)) (s27 : List (Int)) (s28 : List (Int)) (s29 : List (S_disk_write)) : G_disk_Disk_Size P N (d + 1) s26 s27 s28 s29 =
some ((wi .i64 ((s28.length : Int).tdiv 64)), ()) := by subst hP; kernel_rfl
theorem G_disk_Disk_goes_eq (hP : P = Tryz.prog) (N d : Nat) (s48 : (Unit × Unit × Unit × Int × Unit)) (s49 : List (Int)) (s50 : List (Int)) (s51 : List (S_disk_write)) : G_disk_Disk_goes P N (d + 1) s48 s49 s50 s51 =
bif (s48.2.2.2.1 == 0) then
some (false, s48, ())
else
bif (decide (s48.2.2.2.1 > 0)) then
some (true, (u3 s48 (wi .i64 (s48.2.2.2.1 - 1))), ())
else
some (true, s48, ()) := by subst hP; kernel_rfl

theorem G_disk_Disk_Write_eq (hP : P = Tryz.prog) (N d : Nat) (n_40 : Int) (data_41 : List (Int)) (s42 : (Unit × Unit × Unit × Int × Unit)) (s43 : List (Int)) (s44 : List (Int)) (s45 : List (S_disk_write)) : G_disk_Disk_Write P N (d + 1) n_40 data_41 s42 s43 s44 s45 =
(bif (decide (n_40 < 0)) then
some true
else
(G_disk_Disk_Size P N d s42 s43 s44 s45).bind fun x46 =>
bif (decide (n_40 ≥ x46.1)) then
some true
else
some ((data_41.length : Int) != 64)).bind fun b47 =>
bif b47 then
some ((1 : Int), s42, s44, s45, ())
else
(G_disk_Disk_goes P N d s42 s43 s44 s45).bind fun x52 =>
bif x52.1 then
(G_slices_Clone P N d data_41).bind fun x54 =>
bif lenOk (s45.length + ([(n_40, x54.2.1, ())] : List (S_disk_write)).length) 32 then
bif slOk (wi .i64 (n_40 * 64)) (s44.length : Int) s44.length then
bif Nat.ble ((s44.length : Int).toNat) s44.length then
some ((0 : Int), ((), (), (), x52.2.1.2.2.2.1, ()), (cpyR s44 ((wi .i64 (n_40 * 64)).toNat) ((s44.length : Int).toNat) data_41), (s45 ++ [(n_40, x54.2.1, ())]), ())
else none
else none
else none
else
some ((0 : Int), x52.2.1, s44, s45, ()) := by subst hP; kernel_rfl
theorem G_bits_Set_With_eq (hP : P = Tryz.prog) (N d : Nat) (s_64 : Ar 32 (Int)) (n_65 : Int) : G_bits_Set_With P N (d + 1) s_64 n_65 =
(bif (decide (n_65 ≥ 0)) then
some (decide (n_65 < 256))
else
some false).bind fun b66 =>
bif b66 then
if h67 : inb (wi .i64 (n_65.tdiv 8)) 32 = true then
bif decide (0 ≤ (n_65.tmod 8)) then
if h68 : inb (wi .i64 (n_65.tdiv 8)) 32 = true then
some ((sA s_64 ⟨(wi .i64 (n_65.tdiv 8)).toNat, inb_lt h68⟩ (bits .or .u8 (gA s_64 ⟨(wi .i64 (n_65.tdiv 8)).toNat, inb_lt h67⟩) (wi .u8 (1 * 2 ^ (min (n_65.tmod 8).toNat IntKind.u8.bits))))), ())
else none
else none
else none
else
some (s_64, ()) := by subst hP; kernel_rfl
theorem G_snap_Forest_There_eq (hP : P = Tryz.prog) (N d : Nat) (f_84 : Ar 4 (S_snap_Tree)) (k_85 : Int) : G_snap_Forest_There P N (d + 1) f_84 k_85 =
(bif (decide (k_85 ≥ 0)) then
bif (decide (k_85 < 4)) then
if h86 : inb k_85 4 = true then
some ((gA ((gA f_84 ⟨k_85.toNat, inb_lt h86⟩).1) ⟨0, by decide⟩) != 0)
else none
else
some false
else
some false).bind fun b87 =>
some (b87, ()) := by subst hP; kernel_rfl
theorem G_check_Mark_eq (hP : P = Tryz.prog) (N d : Nat) (size_172 : Int) : G_check_Mark P N (d + 1) size_172 =
bif mkOk 64 1 then
bif inb 5 (cpyR (List.replicate (64 : Int).toNat 0) 0 ((List.replicate (64 : Int).toNat 0).length) (i8u ([114, 105, 110, 103, 1]))).length then
(lget (cpyR (List.replicate (64 : Int).toNat 0) 0 ((List.replicate (64 : Int).toNat 0).length) (i8u ([114, 105, 110, 103, 1]))) ((5 : Int).toNat)).bind fun y173 =>
bif inb 6 (lset (cpyR (List.replicate (64 : Int).toNat 0) 0 ((List.replicate (64 : Int).toNat 0).length) (i8u ([114, 105, 110, 103, 1]))) ((5 : Int).toNat) (wi .u8 (size_172))).length then
(lget (lset (cpyR (List.replicate (64 : Int).toNat 0) 0 ((List.replicate (64 : Int).toNat 0).length) (i8u ([114, 105, 110, 103, 1]))) ((5 : Int).toNat) (wi .u8 (size_172))) ((6 : Int).toNat)).bind fun y174 =>
some ((lset (lset (cpyR (List.replicate (64 : Int).toNat 0) 0 ((List.replicate (64 : Int).toNat 0).length) (i8u ([114, 105, 110, 103, 1]))) ((5 : Int).toNat) (wi .u8 (size_172))) ((6 : Int).toNat) (wi .u8 ((size_172.fdiv 256)))), ())
else none
else none
else none := by subst hP; kernel_rfl
theorem G_disk_Disk_Flush_eq (hP : P = Tryz.prog) (N d : Nat) (s177 : (Unit × Unit × Unit × Int × Unit)) (s178 : List (Int)) (s179 : List (Int)) (s180 : List (S_disk_write)) : G_disk_Disk_Flush P N (d + 1) s177 s178 s179 s180 =
(G_disk_Disk_goes P N d s177 s178 s179 s180).bind fun x181 =>
bif x181.1 then
some ((), ((), (), (), x181.2.1.2.2.2.1, ()), (cpyR s178 0 s178.length s179), [], ())
else
some ((), x181.2.1, s178, s180, ()) := by subst hP; kernel_rfl
theorem G_fs_Format_L5_eq (hP : P = Tryz.prog) (N d : Nat) (k39 : Nat) (zero_32 : List (Int)) (t_33 : Int) (t_34 : Int) (s35 : (Unit × Unit × Unit × Int × Unit)) (s36 : List (Int)) (s37 : List (Int)) (s38 : List (S_disk_write)) : G_fs_Format_L5 P N d (k39 + 1) zero_32 t_33 t_34 s35 s36 s37 s38 =
bif (decide (t_34 < t_33)) then
(G_disk_Disk_Write P N d t_34 zero_32 s35 s36 s37 s38).bind fun x55 =>
G_fs_Format_L5 P N d k39 zero_32 t_33 (wi .i64 (t_34 + 1)) x55.2.1 s36 x55.2.2.1 x55.2.2.2.1
else
G_fs_Format_L11 P N d N 0 s35 s36 s37 s38 (nA 4 ((nA 16 0), (nA 32 0), ())) := by subst hP; kernel_rfl
theorem G_fs_Format_L11_eq (hP : P = Tryz.prog) (N d : Nat) (k62 : Nat) (t_56 : Int) (s57 : (Unit × Unit × Unit × Int × Unit)) (s58 : List (Int)) (s59 : List (Int)) (s60 : List (S_disk_write)) (s61 : Ar 4 (S_snap_Tree)) : G_fs_Format_L11 P N d (k62 + 1) t_56 s57 s58 s59 s60 s61 =
bif (decide (t_56 < 16)) then
if h63 : inb t_56 16 = true then
(G_bits_Set_With P N d ((gA (sA s61 ⟨0, by decide⟩ (u0 (gA s61 ⟨0, by decide⟩) (sA ((gA s61 ⟨0, by decide⟩).1) ⟨t_56.toNat, inb_lt h63⟩ (wi .i64 (37 + t_56))))) ⟨0, by decide⟩).2.1) (wi .i64 (37 + t_56))).bind fun x69 =>
G_fs_Format_L11 P N d k62 (wi .i64 (t_56 + 1)) s57 s58 s59 s60 (sA (sA s61 ⟨0, by decide⟩ (u0 (gA s61 ⟨0, by decide⟩) (sA ((gA s61 ⟨0, by decide⟩).1) ⟨t_56.toNat, inb_lt h63⟩ (wi .i64 (37 + t_56))))) ⟨0, by decide⟩ (u1 (gA (sA s61 ⟨0, by decide⟩ (u0 (gA s61 ⟨0, by decide⟩) (sA ((gA s61 ⟨0, by decide⟩).1) ⟨t_56.toNat, inb_lt h63⟩ (wi .i64 (37 + t_56))))) ⟨0, by decide⟩) x69.1))
else none
else
(G_snap_Pack P N d s61).bind fun x109 =>
(G_inode_Pack P N d (2, 493, 0, 0, 0, 1, 1, [], ())).bind fun x159 =>
(bif (x109.1.2.1 != 0) then
some true
else
some (x159.1.2.1 != 0)).bind fun b160 =>
bif b160 then
some ((17 : Int), s57, s58, s59, s60, ())
else
G_fs_Format_L21 P N d N x109.1.1 0 s57 s58 s59 s60 x159.2.1 := by subst hP; kernel_rfl
theorem G_fs_Format_L21_eq (hP : P = Tryz.prog) (N d : Nat) (k168 : Nat) (b_161 : List (Int)) (t_162 : Int) (s163 : (Unit × Unit × Unit × Int × Unit)) (s164 : List (Int)) (s165 : List (Int)) (s166 : List (S_disk_write)) (s167 : List (Int)) : G_fs_Format_L21 P N d (k168 + 1) b_161 t_162 s163 s164 s165 s166 s167 =
bif (decide (t_162 < 3)) then
bif slOk (wi .i64 (64 * t_162)) (wi .i64 (64 * (wi .i64 (t_162 + 1)))) b_161.length then
(G_disk_Disk_Write P N d (wi .i64 (1 + t_162)) ((List.take (wi .i64 (64 * (wi .i64 (t_162 + 1)))).toNat b_161).drop (wi .i64 (64 * t_162)).toNat) s163 s164 s165 s166).bind fun x169 =>
G_fs_Format_L21 P N d k168 b_161 (wi .i64 (t_162 + 1)) x169.2.1 s164 x169.2.2.1 x169.2.2.2.1 s167
else none
else
bif lenOk (s167.length + (32 : Int).toNat) 1 then
(G_disk_Disk_Write P N d 37 (s167 ++ List.replicate (32 : Int).toNat 0) s163 s164 s165 s166).bind fun x170 =>
(G_disk_Disk_Size P N d x170.2.1 s164 x170.2.2.1 x170.2.2.2.1).bind fun x171 =>
(G_check_Mark P N d x171.1).bind fun x175 =>
(G_disk_Disk_Write P N d 0 x175.1 x170.2.1 s164 x170.2.2.1 x170.2.2.2.1).bind fun x176 =>
(G_disk_Disk_Flush P N d x176.2.1 s164 x176.2.2.1 x176.2.2.2.1).bind fun x182 =>
some ((0 : Int), x182.2.1, x182.2.2.1, x176.2.2.1, x182.2.2.2.1, ())
else none := by subst hP; kernel_rfl
theorem G_fs_Format_eq (hP : P = Tryz.prog) (N d : Nat) (s22 : (Unit × Unit × Unit × Int × Unit)) (s23 : List (Int)) (s24 : List (Int)) (s25 : List (S_disk_write)) : G_fs_Format P N (d + 1) s22 s23 s24 s25 =
(G_disk_Disk_Size P N d s22 s23 s24 s25).bind fun x30 =>
bif (decide (x30.1 < 64)) then
some ((6 : Int), s22, s23, s24, s25, ())
else
bif mkOk 64 1 then
(G_disk_Disk_Size P N d s22 s23 s24 s25).bind fun x31 =>
G_fs_Format_L5 P N d N (List.replicate (64 : Int).toNat 0) x31.1 0 s22 s23 s24 s25
else none := by subst hP; kernel_rfl
theorem G_disk_Disk_Read_eq (hP : P = Tryz.prog) (N d : Nat) (n_188 : Int) (s189 : (Unit × Unit × Unit × Int × Unit)) (s190 : List (Int)) (s191 : List (Int)) (s192 : List (S_disk_write)) : G_disk_Disk_Read P N (d + 1) n_188 s189 s190 s191 s192 =
(bif (decide (n_188 < 0)) then
some true
else
(G_disk_Disk_Size P N d s189 s190 s191 s192).bind fun x193 =>
some (decide (n_188 ≥ x193.1))).bind fun b194 =>
bif b194 then
some (([], (1 : Int), ()), ())
else
bif slOk (wi .i64 (n_188 * 64)) (wi .i64 ((wi .i64 (n_188 + 1)) * 64)) s191.length then
bif !((Nat.ble ((wi .i64 (n_188 * 64)).toNat) ((wi .i64 ((wi .i64 (n_188 + 1)) * 64)).toNat) && Nat.ble ((wi .i64 ((wi .i64 (n_188 + 1)) * 64)).toNat) s191.length) && true) then none else
(G_slices_Clone P N d ((List.take ((wi .i64 ((wi .i64 (n_188 + 1)) * 64)).toNat) s191).drop ((wi .i64 (n_188 * 64)).toNat))).bind fun x195 =>
some ((x195.2.1, (0 : Int), ()), ())
else none := by subst hP; kernel_rfl
theorem G_slices_Equal_L4_eq (hP : P = Tryz.prog) (N d : Nat) (k206 : Nat) (s_202 : List (Int)) (s_203 : List (Int)) (t_204 : Int) (t_205 : Int) : G_slices_Equal_L4 P N d (k206 + 1) s_202 s_203 t_204 t_205 =
bif (decide (t_205 < t_204)) then
bif decide (0 ≤ t_205) then
(lget s_202 t_205.toNat).bind fun y207 =>
bif decide (0 ≤ t_205) then
(lget s_203 t_205.toNat).bind fun y208 =>
bif (y207 != y208) then
some (false, ())
else
G_slices_Equal_L4 P N d k206 s_202 s_203 t_204 (wi .i64 (t_205 + 1))
else none
else none
else
some (true, ()) := by subst hP; kernel_rfl
theorem G_slices_Equal_eq (hP : P = Tryz.prog) (N d : Nat) (s_200 : List (Int)) (s_201 : List (Int)) : G_slices_Equal P N (d + 1) s_200 s_201 =
bif ((s_200.length : Int) != (s_201.length : Int)) then
some (false, ())
else
G_slices_Equal_L4 P N d N s_200 s_201 (s_200.length : Int) 0 := by subst hP; kernel_rfl
theorem G_journal_region_eq (hP : P = Tryz.prog) (N d : Nat) (at_223 : Int) (size_224 : Int) (s225 : (Unit × Unit × Unit × Int × Unit)) (s226 : List (Int)) (s227 : List (Int)) (s228 : List (S_disk_write)) : G_journal_region P N (d + 1) at_223 size_224 s225 s226 s227 s228 =
(bif (decide (size_224 < 3)) then
some true
else
bif (decide (size_224 > 60)) then
some true
else
bif (decide (at_223 < 0)) then
some true
else
(G_disk_Disk_Size P N d s225 s226 s227 s228).bind fun x229 =>
some (decide (at_223 > (wi .i64 (x229.1 - size_224))))).bind fun b230 =>
bif b230 then
some ((1 : Int), ())
else
some ((0 : Int), ()) := by subst hP; kernel_rfl
theorem G_journal_Scan_eq (hP : P = Tryz.prog) (N d : Nat) (at_217 : Int) (size_218 : Int) (s219 : (Unit × Unit × Unit × Int × Unit)) (s220 : List (Int)) (s221 : List (Int)) (s222 : List (S_disk_write)) : G_journal_Scan P N (d + 1) at_217 size_218 s219 s220 s221 s222 =
(G_journal_region P N d at_217 size_218 s219 s220 s221 s222).bind fun x231 =>
bif (x231.1 != 0) then
some (([], (0 : Int), false, x231.1, ()), ())
else
(G_disk_Disk_Read P N d at_217 s219 s220 s221 s222).bind fun x232 =>
(lget x232.1.1 (5 : Int).toNat).bind fun y233 =>
((lget x232.1.1 (0 : Int).toNat).bind fun y234 =>
bif (y234 != 74) then
some true
else
bif (decide ((wi .i64 (y233)) < 1)) then
some true
else
some (decide ((wi .i64 (y233)) > (wi .i64 (size_218 - 2))))).bind fun b235 =>
bif b235 then
some (([], (0 : Int), false, (0 : Int), ()), ())
else
bif slOk 1 (x232.1.1.length : Int) x232.1.1.length then
none
else none := by subst hP; kernel_rfl
theorem G_journal_Open_eq (hP : P = Tryz.prog) (N d : Nat) (at_211 : Int) (size_212 : Int) (s213 : (Unit × Unit × Unit × Int × Unit)) (s214 : List (Int)) (s215 : List (Int)) (s216 : List (S_disk_write)) : G_journal_Open P N (d + 1) at_211 size_212 s213 s214 s215 s216 =
(G_journal_Scan P N d at_211 size_212 s213 s214 s215 s216).bind fun x236 =>
bif (x236.1.2.2.2.1 != 0) then
some (Sum.inl (((), x236.1.2.2.2.1, ()), s213, s215, s216, ()))
else
bif x236.1.2.2.1 then
G_journal_Open_L6 P N d N at_211 size_212 x236.1.1 x236.1.2.1 x236.1.1 (x236.1.1.length : Int) 0 s213 s214 s215 s216
else
some (Sum.inr (((), (0 : Int), ()), s213, s215, s216, ((), at_211, size_212, x236.1.2.1, ()), ())) := by subst hP; kernel_rfl
theorem G_check_Load_L3_eq (hP : P = Tryz.prog) (N d : Nat) (k284 : Nat) (t_277 : Int) (s278 : (Unit × Unit × Unit × Int × Unit)) (s279 : List (Int)) (s280 : List (Int)) (s281 : List (S_disk_write)) (s282 : Ar 4 (S_snap_Tree)) (s283 : List (Int)) : G_check_Load_L3 P N d (k284 + 1) t_277 s278 s279 s280 s281 s282 s283 =
bif (decide (t_277 < 3)) then
(G_disk_Disk_Read P N d (wi .i64 (1 + t_277)) s278 s279 s280 s281).bind fun x285 =>
bif (x285.1.2.1 != 0) then
some (((nA 4 ((nA 16 0), (nA 32 0), ())), (17 : Int), ()), ())
else
bif lenOk (s283.length + x285.1.1.length) 1 then
G_check_Load_L3 P N d k284 (wi .i64 (t_277 + 1)) s278 s279 s280 s281 s282 (s283 ++ x285.1.1)
else none
else
(G_snap_Unpack P N d s283).bind fun x307 =>
(bif (x307.1.2.1 != 0) then
some true
else
(G_snap_Forest_There P N d x307.1.1 0).bind fun x308 =>
some (!x308.1)).bind fun b309 =>
bif b309 then
some (((nA 4 ((nA 16 0), (nA 32 0), ())), (17 : Int), ()), ())
else
G_check_Load_L14 P N d N 0 s278 s279 s280 s281 s282 x307.1.1 := by subst hP; kernel_rfl
theorem G_check_Load_L14_eq (hP : P = Tryz.prog) (N d : Nat) (k317 : Nat) (t_310 : Int) (s311 : (Unit × Unit × Unit × Int × Unit)) (s312 : List (Int)) (s313 : List (Int)) (s314 : List (S_disk_write)) (s315 : Ar 4 (S_snap_Tree)) (s316 : Ar 4 (S_snap_Tree)) : G_check_Load_L14 P N d (k317 + 1) t_310 s311 s312 s313 s314 s315 s316 =
bif (decide (t_310 < 4)) then
if h318 : inb t_310 4 = true then
G_check_Load_L17 P N d k317 N t_310 t_310 ((gA s316 ⟨t_310.toNat, inb_lt h318⟩).1) 0 s311 s312 s313 s314 s315 s316
else none
else
some ((s316, (0 : Int), ()), ()) := by subst hP; kernel_rfl
theorem G_check_Load_L17_eq (hP : P = Tryz.prog) (N d : Nat) (k317 : Nat) (k329 : Nat) (k_319 : Int) (t_320 : Int) (t_321 : Ar 16 (Int)) (t_322 : Int) (s323 : (Unit × Unit × Unit × Int × Unit)) (s324 : List (Int)) (s325 : List (Int)) (s326 : List (S_disk_write)) (s327 : Ar 4 (S_snap_Tree)) (s328 : Ar 4 (S_snap_Tree)) : G_check_Load_L17 P N d k317 (k329 + 1) k_319 t_320 t_321 t_322 s323 s324 s325 s326 s327 s328 =
bif (decide (t_322 < 16)) then
if h330 : inb t_322 16 = true then
((G_snap_Forest_There P N d s328 k_319).bind fun x331 =>
bif x331.1 then
bif (decide ((gA t_321 ⟨t_322.toNat, inb_lt h330⟩) < 37)) then
some true
else
(G_disk_Disk_Size P N d s323 s324 s325 s326).bind fun x332 =>
some (decide ((gA t_321 ⟨t_322.toNat, inb_lt h330⟩) ≥ x332.1))
else
some false).bind fun b333 =>
bif b333 then
some (((nA 4 ((nA 16 0), (nA 32 0), ())), (17 : Int), ()), ())
else
G_check_Load_L17 P N d k317 k329 k_319 t_320 t_321 (wi .i64 (t_322 + 1)) s323 s324 s325 s326 s327 s328
else none
else
G_check_Load_L14 P N d k317 (wi .i64 (t_320 + 1)) s323 s324 s325 s326 s327 s328 := by subst hP; kernel_rfl
theorem G_check_Load_eq (hP : P = Tryz.prog) (N d : Nat) (s273 : (Unit × Unit × Unit × Int × Unit)) (s274 : List (Int)) (s275 : List (Int)) (s276 : List (S_disk_write)) : G_check_Load P N (d + 1) s273 s274 s275 s276 =
G_check_Load_L3 P N d N 0 s273 s274 s275 s276 (nA 4 ((nA 16 0), (nA 32 0), ())) ([]) := by subst hP; kernel_rfl
theorem G_check_Tree_L3_eq (hP : P = Tryz.prog) (N d : Nat) (k347 : Nat) (t_340 : Ar 16 (Int)) (t_341 : Int) (s342 : (Unit × Unit × Unit × Int × Unit)) (s343 : List (Int)) (s344 : List (Int)) (s345 : List (S_disk_write)) (s346 : List (S_inode_Node)) : G_check_Tree_L3 P N d (k347 + 1) t_340 t_341 s342 s343 s344 s345 s346 =
bif (decide (t_341 < 16)) then
if h348 : inb t_341 16 = true then
(G_disk_Disk_Read P N d (gA t_340 ⟨t_341.toNat, inb_lt h348⟩) s342 s343 s344 s345).bind fun x349 =>
bif (x349.1.2.1 != 0) then
some (([], (17 : Int), ()), ())
else
G_check_Tree_L9 P N d k347 N x349.1.1 t_340 t_341 0 s342 s343 s344 s345 s346
else none
else
some ((s346, (0 : Int), ()), ()) := by subst hP; kernel_rfl
theorem G_check_Tree_L9_eq (hP : P = Tryz.prog) (N d : Nat) (k347 : Nat) (k359 : Nat) (b_350 : List (Int)) (t_351 : Ar 16 (Int)) (t_352 : Int) (t_353 : Int) (s354 : (Unit × Unit × Unit × Int × Unit)) (s355 : List (Int)) (s356 : List (Int)) (s357 : List (S_disk_write)) (s358 : List (S_inode_Node)) : G_check_Tree_L9 P N d k347 (k359 + 1) b_350 t_351 t_352 t_353 s354 s355 s356 s357 s358 =
bif (decide (t_353 < 2)) then
bif slOk (wi .i64 (32 * t_353)) (wi .i64 (32 * (wi .i64 (t_353 + 1)))) b_350.length then
(G_inode_Unpack P N d ((List.take (wi .i64 (32 * (wi .i64 (t_353 + 1)))).toNat b_350).drop (wi .i64 (32 * t_353)).toNat)).bind fun x402 =>
bif (x402.1.2.1 != 0) then
some (([], (17 : Int), ()), ())
else
bif lenOk (s358.length + ([x402.1.1] : List (S_inode_Node)).length) 80 then
G_check_Tree_L9 P N d k347 k359 b_350 t_351 t_352 (wi .i64 (t_353 + 1)) s354 s355 s356 s357 (s358 ++ [x402.1.1])
else none
else none
else
G_check_Tree_L3 P N d k347 t_351 (wi .i64 (t_352 + 1)) s354 s355 s356 s357 s358 := by subst hP; kernel_rfl
theorem G_check_Tree_eq (hP : P = Tryz.prog) (N d : Nat) (t_335 : S_snap_Tree) (s336 : (Unit × Unit × Unit × Int × Unit)) (s337 : List (Int)) (s338 : List (Int)) (s339 : List (S_disk_write)) : G_check_Tree P N (d + 1) t_335 s336 s337 s338 s339 =
G_check_Tree_L3 P N d N t_335.1 0 s336 s337 s338 s339 ([]) := by subst hP; kernel_rfl
theorem G_fs_Mount_J5_1_eq (hP : P = Tryz.prog) (N d : Nat) (e_477 : Int) (s478 : (Unit × Unit × Unit × Int × Unit)) (s479 : List (Int)) (s480 : List (Int)) (s481 : List (S_disk_write)) (s482 : (Unit × Int × Int × Int × Unit)) : G_fs_Mount_J5_1 P N d e_477 s478 s479 s480 s481 s482 =
bif (e_477 != 0) then
none
else
(G_check_Load P N d s478 s479 s480 s481).bind fun x483 =>
bif (x483.1.2.1 != 0) then
none
else
(G_check_Tree P N d (gA x483.1.1 ⟨0, by decide⟩) s478 s479 s480 s481).bind fun x484 =>
bif (x484.1.2.1 != 0) then
none
else
(G_disk_Disk_Read P N d 4 s478 s479 s480 s481).bind fun x485 =>
(G_quota_Unpack P N d x485.1.1).bind fun x486 =>
bif (x486.1.2.1 != 0) then
none
else
(G_orphan_Lost P N d x484.1.1 ([])).bind fun x487 =>
G_fs_Mount_L19_1 P N d N x487.1 (x487.1.length : Int) 0 s478 s479 s480 s481 ((), (), x483.1.1, x486.1.1, x484.1.1, (), (), ()) s482 ([]) ([]) := by subst hP; kernel_rfl
theorem G_fs_Mount_L19_1_eq (hP : P = Tryz.prog) (N d : Nat) (k499 : Nat) (t_488 : List (Int)) (t_489 : Int) (t_490 : Int) (s491 : (Unit × Unit × Unit × Int × Unit)) (s492 : List (Int)) (s493 : List (Int)) (s494 : List (S_disk_write)) (s495 : (Unit × Unit × Ar 4 (S_snap_Tree) × List (S_quota_Row) × List (S_inode_Node) × Unit × Unit × Unit)) (s496 : (Unit × Int × Int × Int × Unit)) (s497 : List ((Int) × (List (Int)))) (s498 : List ((Int) × (Int))) : G_fs_Mount_L19_1 P N d (k499 + 1) t_488 t_489 t_490 s491 s492 s493 s494 s495 s496 s497 s498 =
bif (decide (t_490 < t_489)) then
bif decide (0 ≤ t_490) then
(lget t_488 t_490.toNat).bind fun y500 =>
none
else none
else
some (((), (0 : Int), ()), s491, s493, s494, s495, s496, s497, s498, ()) := by subst hP; kernel_rfl
theorem G_fs_Mount_eq (hP : P = Tryz.prog) (N d : Nat) (s184 : (Unit × Unit × Unit × Int × Unit)) (s185 : List (Int)) (s186 : List (Int)) (s187 : List (S_disk_write)) : G_fs_Mount P N (d + 1) s184 s185 s186 s187 =
(G_disk_Disk_Read P N d 0 s184 s185 s186 s187).bind fun x196 =>
(bif (x196.1.2.1 != 0) then
some true
else
(G_disk_Disk_Size P N d s184 s185 s186 s187).bind fun x197 =>
bif (decide (x197.1 < 64)) then
some true
else
(G_disk_Disk_Size P N d s184 s185 s186 s187).bind fun x198 =>
(G_check_Mark P N d x198.1).bind fun x199 =>
(G_slices_Equal P N d x196.1.1 x199.1).bind fun x209 =>
some (!x209.1)).bind fun b210 =>
bif b210 then
none
else
(G_journal_Open P N d 5 32 s184 s185 s186 s187).bind fun x265 =>
match x265 with
| .inl x266 =>
G_fs_Mount_J5 P N d x266.1.2.1 x266.2.1 s185 x266.2.2.1 x266.2.2.2.1
| .inr x267 =>
(G_fs_Mount_J5_1 P N d x267.1.2.1 x267.2.1 s185 x267.2.2.1 x267.2.2.2.1 x267.2.2.2.2.1) := by subst hP; kernel_rfl
theorem G_fs_FS_writes_R3_S_eq (hP : P = Tryz.prog) (N d : Nat) (p541 : (Int) × (List (Int))) (s531 : (Unit × Unit × Ar 4 (S_snap_Tree) × List (S_quota_Row) × List (S_inode_Node) × Unit × Unit × Unit)) (s532 : (Unit × Unit × Unit × Int × Unit)) (s533 : List (Int)) (s534 : List (Int)) (s535 : List (S_disk_write)) (s536 : (Unit × Int × Int × Int × Unit)) (s537 : List ((Int) × (List (Int)))) (s538 : List ((Int) × (Int))) (s539 : List (S_journal_Write)) (s540 : List ((Int) × (List (Int)))) : G_fs_FS_writes_R3_S P N d p541 s531 s532 s533 s534 s535 s536 s537 s538 s539 s540 =
bif lenOk (s539.length + ([(p541.1, p541.2, ())] : List (S_journal_Write)).length) 32 then
some (G_fs_FS_writes_R3_X (some p541) s531 s532 s533 s534 s535 s536 s537 s538 (s539 ++ [(p541.1, p541.2, ())]) (mdI s540 p541.1))
else none := by subst hP; kernel_rfl
theorem G_fs_FS_writes_R3_E_eq (hP : P = Tryz.prog) (N d : Nat) (s531 : (Unit × Unit × Ar 4 (S_snap_Tree) × List (S_quota_Row) × List (S_inode_Node) × Unit × Unit × Unit)) (s532 : (Unit × Unit × Unit × Int × Unit)) (s533 : List (Int)) (s534 : List (Int)) (s535 : List (S_disk_write)) (s536 : (Unit × Int × Int × Int × Unit)) (s537 : List ((Int) × (List (Int)))) (s538 : List ((Int) × (Int))) (s539 : List (S_journal_Write)) (s540 : List ((Int) × (List (Int)))) : G_fs_FS_writes_R3_E P N d s531 s532 s533 s534 s535 s536 s537 s538 s539 s540 =
(G_slices_SortFunc P N d s539).bind fun x587 =>
some (x587.2.1, s531, s537, ()) := by subst hP; kernel_rfl
theorem G_fs_FS_writes_eq (hP : P = Tryz.prog) (N d : Nat) (s523 : (Unit × Unit × Ar 4 (S_snap_Tree) × List (S_quota_Row) × List (S_inode_Node) × Unit × Unit × Unit)) (s524 : (Unit × Unit × Unit × Int × Unit)) (s525 : List (Int)) (s526 : List (Int)) (s527 : List (S_disk_write)) (s528 : (Unit × Int × Int × Int × Unit)) (s529 : List ((Int) × (List (Int)))) (s530 : List ((Int) × (Int))) : G_fs_FS_writes P N (d + 1) s523 s524 s525 s526 s527 s528 s529 s530 =
G_fs_FS_writes_R3 P N d s523 s524 s525 s526 s527 s528 s529 s530 ([]) s529 := by subst hP; kernel_rfl
theorem G_journal_Log_Room_eq (hP : P = Tryz.prog) (N d : Nat) (s601 : (Unit × Int × Int × Int × Unit)) (s602 : (Unit × Unit × Unit × Int × Unit)) (s603 : List (Int)) (s604 : List (Int)) (s605 : List (S_disk_write)) : G_journal_Log_Room P N (d + 1) s601 s602 s603 s604 s605 =
some ((wi .i64 (s601.2.2.1 - 2)), ()) := by subst hP; kernel_rfl
theorem G_journal_Log_right_L5_eq (hP : P = Tryz.prog) (N d : Nat) (k616 : Nat) (t_607 : List (S_journal_Write)) (t_608 : Int) (t_609 : Int) (s610 : (Unit × Int × Int × Int × Unit)) (s611 : (Unit × Unit × Unit × Int × Unit)) (s612 : List (Int)) (s613 : List (Int)) (s614 : List (S_disk_write)) (s615 : List ((Int) × (Bool))) : G_journal_Log_right_L5 P N d (k616 + 1) t_607 t_608 t_609 s610 s611 s612 s613 s614 s615 =
bif (decide (t_609 < t_608)) then
bif decide (0 ≤ t_609) then
(lget t_607 t_609.toNat).bind fun y617 =>
(bif (decide (y617.1 < 0)) then
some true
else
(G_disk_Disk_Size P N d s611 s612 s613 s614).bind fun x618 =>
bif (decide (y617.1 ≥ x618.1)) then
some true
else
bif (decide (y617.1 ≥ s610.2.1)) then
bif (decide (y617.1 < (wi .i64 (s610.2.1 + s610.2.2.1)))) then
some true
else
some ((y617.2.1.length : Int) != 64)
else
some ((y617.2.1.length : Int) != 64)).bind fun b619 =>
bif b619 then
some ((1 : Int), ())
else
bif ((mlI s615 y617.1).getD false) then
some ((5 : Int), ())
else
G_journal_Log_right_L5 P N d k616 t_607 t_608 (wi .i64 (t_609 + 1)) s610 s611 s612 s613 s614 (mpI s615 y617.1 true)
else none
else
some ((0 : Int), ()) := by subst hP; kernel_rfl
theorem G_journal_Log_right_eq (hP : P = Tryz.prog) (N d : Nat) (l_595 : List (S_journal_Write)) (s596 : (Unit × Int × Int × Int × Unit)) (s597 : (Unit × Unit × Unit × Int × Unit)) (s598 : List (Int)) (s599 : List (Int)) (s600 : List (S_disk_write)) : G_journal_Log_right P N (d + 1) l_595 s596 s597 s598 s599 s600 =
(G_journal_Log_Room P N d s596 s597 s598 s599 s600).bind fun x606 =>
bif (decide ((l_595.length : Int) > x606.1)) then
some ((2 : Int), ())
else
G_journal_Log_right_L5 P N d N l_595 (l_595.length : Int) 0 s596 s597 s598 s599 s600 ([]) := by subst hP; kernel_rfl
theorem G_journal_Log_Commit_eq (hP : P = Tryz.prog) (N d : Nat) (l_589 : List (S_journal_Write)) (s590 : (Unit × Int × Int × Int × Unit)) (s591 : (Unit × Unit × Unit × Int × Unit)) (s592 : List (Int)) (s593 : List (Int)) (s594 : List (S_disk_write)) : G_journal_Log_Commit P N (d + 1) l_589 s590 s591 s592 s593 s594 =
(G_journal_Log_right P N d l_589 s590 s591 s592 s593 s594).bind fun x620 =>
bif (x620.1 != 0) then
some (x620.1, s590, s591, s592, s593, s594, ())
else
(G_disk_Disk_Flush P N d s591 s592 s593 s594).bind fun x621 =>
bif ((l_589.length : Int) == 0) then
some ((0 : Int), s590, x621.2.1, x621.2.2.1, s593, x621.2.2.2.1, ())
else
bif mkOk 64 1 then
(G_disk_Disk_Write P N d s590.2.1 (List.replicate (64 : Int).toNat 0) x621.2.1 x621.2.2.1 s593 x621.2.2.2.1).bind fun x622 =>
(G_disk_Disk_Flush P N d x622.2.1 x621.2.2.1 x622.2.2.1 x622.2.2.2.1).bind fun x623 =>
bif mkOk 64 1 then
bif inb 0 (List.replicate (64 : Int).toNat 0).length then
(lget (List.replicate (64 : Int).toNat 0) ((0 : Int).toNat)).bind fun y624 =>
bif inb 5 (lset (List.replicate (64 : Int).toNat 0) ((0 : Int).toNat) 74).length then
(lget (lset (List.replicate (64 : Int).toNat 0) ((0 : Int).toNat) 74) ((5 : Int).toNat)).bind fun y625 =>
bif slOk 1 ((lset (lset (List.replicate (64 : Int).toNat 0) ((0 : Int).toNat) 74) ((5 : Int).toNat) (wi .u8 ((l_589.length : Int)))).length : Int) (lset (lset (List.replicate (64 : Int).toNat 0) ((0 : Int).toNat) 74) ((5 : Int).toNat) (wi .u8 ((l_589.length : Int)))).length then
none
else none
else none
else none
else none
else none := by subst hP; kernel_rfl
theorem G_fs_FS_Sync_eq (hP : P = Tryz.prog) (N d : Nat) (s515 : (Unit × Unit × Ar 4 (S_snap_Tree) × List (S_quota_Row) × List (S_inode_Node) × Unit × Unit × Unit)) (s516 : (Unit × Unit × Unit × Int × Unit)) (s517 : List (Int)) (s518 : List (Int)) (s519 : List (S_disk_write)) (s520 : (Unit × Int × Int × Int × Unit)) (s521 : List ((Int) × (List (Int)))) (s522 : List ((Int) × (Int))) : G_fs_FS_Sync P N (d + 1) s515 s516 s517 s518 s519 s520 s521 s522 =
(G_fs_FS_writes P N d s515 s516 s517 s518 s519 s520 s521 s522).bind fun x588 =>
(G_journal_Log_Commit P N d x588.1 s520 s516 s517 s518 s519).bind fun x626 =>
bif (x626.1 != 0) then
some (x626.1, x588.2.1, x626.2.2.1, x626.2.1, x588.2.2.1, x626.2.2.2.1, x626.2.2.2.2.1, x626.2.2.2.2.2.1, ())
else
some ((0 : Int), ((), (), x588.2.1.2.2.1, x588.2.1.2.2.2.1, x588.2.1.2.2.2.2.1, (), (), ()), x626.2.2.1, x626.2.1, [], x626.2.2.2.1, x626.2.2.2.2.1, x626.2.2.2.2.2.1, ()) := by subst hP; kernel_rfl
theorem G_boot_Make_J2_eq (hP : P = Tryz.prog) (N d : Nat) (files_14 : List (S_boot_File)) (e_15 : Int) : G_boot_Make_J2 P N d files_14 e_15 =
bif (e_15 != 0) then
some (Sum.inl (((), e_15, ()), ()))
else
none := by subst hP; kernel_rfl
theorem G_boot_Make_J2_1_eq (hP : P = Tryz.prog) (N d : Nat) (files_16 : List (S_boot_File)) (e_17 : Int) (s18 : (Unit × Unit × Unit × Int × Unit)) (s19 : List (Int)) (s20 : List (Int)) (s21 : List (S_disk_write)) : G_boot_Make_J2_1 P N d files_16 e_17 s18 s19 s20 s21 =
bif (e_17 != 0) then
some (Sum.inl (((), e_17, ()), ()))
else
(G_fs_Format P N d s18 s19 s20 s21).bind fun x183 =>
bif (x183.1 != 0) then
some (Sum.inl (((), x183.1, ()), ()))
else
(G_fs_Mount P N d x183.2.1 x183.2.2.1 x183.2.2.2.1 x183.2.2.2.2.1).bind fun x501 =>
bif (x501.1.2.1 != 0) then
some (Sum.inl (((), x501.1.2.1, ()), ()))
else
bif (decide ((files_16.length : Int) > 16)) then
some (Sum.inl (((), (2 : Int), ()), ()))
else
G_boot_Make_L13 P N d N files_16 (files_16.length : Int) 0 x501.2.1 x183.2.2.1 x501.2.2.1 x501.2.2.2.1 x501.2.2.2.2.1 x501.2.2.2.2.2.1 x501.2.2.2.2.2.2.1 x501.2.2.2.2.2.2.2.1 := by subst hP; kernel_rfl
theorem G_boot_Make_L13_eq (hP : P = Tryz.prog) (N d : Nat) (k513 : Nat) (t_502 : List (S_boot_File)) (t_503 : Int) (t_504 : Int) (s505 : (Unit × Unit × Unit × Int × Unit)) (s506 : List (Int)) (s507 : List (Int)) (s508 : List (S_disk_write)) (s509 : (Unit × Unit × Ar 4 (S_snap_Tree) × List (S_quota_Row) × List (S_inode_Node) × Unit × Unit × Unit)) (s510 : (Unit × Int × Int × Int × Unit)) (s511 : List ((Int) × (List (Int)))) (s512 : List ((Int) × (Int))) : G_boot_Make_L13 P N d (k513 + 1) t_502 t_503 t_504 s505 s506 s507 s508 s509 s510 s511 s512 =
bif (decide (t_504 < t_503)) then
bif decide (0 ≤ t_504) then
(lget t_502 t_504.toNat).bind fun y514 =>
none
else none
else
(G_fs_FS_Sync P N d s509 s505 s506 s507 s508 s510 s511 s512).bind fun x627 =>
bif (x627.1 != 0) then
some (Sum.inl (((), x627.1, ()), ()))
else
some (Sum.inr (((), (0 : Int), ()), x627.2.2.1, x627.2.2.2.2.2.1, x627.2.2.2.2.2.2.1, x627.2.2.2.2.2.2.2.1, ())) := by subst hP; kernel_rfl
theorem G_boot_Make_eq (hP : P = Tryz.prog) (N d : Nat) (sectors_7 : Int) (files_8 : List (S_boot_File)) : G_boot_Make P N (d + 1) sectors_7 files_8 =
(G_disk_New P N d sectors_7).bind fun x11 =>
match x11 with
| .inl x12 =>
G_boot_Make_J2 P N d files_8 x12.1.2.1
| .inr x13 =>
(G_boot_Make_J2_1 P N d files_8 x13.1.2.1 x13.2.1 x13.2.2.1 x13.2.2.2.1 x13.2.2.2.2.1) := by subst hP; kernel_rfl
theorem G_spread_New_eq (hP : P = Tryz.prog) (N d : Nat) (cpus_660 : Int) : G_spread_New P N (d + 1) cpus_660 =
(bif (decide (cpus_660 < 1)) then
some true
else
some (decide (cpus_660 > 4))).bind fun b661 =>
bif b661 then
some (Sum.inl (((), (1 : Int), ()), ()))
else
some (Sum.inr (((), (0 : Int), ()), (cpus_660, 0, 0, (), ()), [], ())) := by subst hP; kernel_rfl
theorem G_space_New_eq (hP : P = Tryz.prog) (N d : Nat) (frames_690 : Int) (slots_691 : Int) : G_space_New P N (d + 1) frames_690 slots_691 =
(bif (decide (frames_690 < 4)) then
some true
else
bif (decide (frames_690 > 64)) then
some true
else
bif (decide (slots_691 < 0)) then
some true
else
some (decide (slots_691 > 64))).bind fun b692 =>
bif b692 then
some (Sum.inl (((), (1 : Int), ()), ()))
else
some (Sum.inr (((), (0 : Int), ()), (frames_690, slots_691, 0, (), (), ()), [], ())) := by subst hP; kernel_rfl
theorem G_kernel_Start_J4_eq (hP : P = Tryz.prog) (N d : Nat) (frames_665 : Int) (slots_666 : Int) (e_667 : Int) (s668 : (Unit × Unit × Unit × Int × Unit)) (s669 : List (Int)) (s670 : List (List ((Int) × (S_space_entry)))) (s671 : List (Int)) (s672 : List (S_disk_write)) (s673 : (Int × Unit × Unit × Unit × Unit × Unit × Unit × Unit × Ar 17 ((Int × S_api_Regs × (Int × Int × Unit × Int × Int × Int × Unit) × Unit × Unit × S_sig_Set × Bool × Unit)) × Int × Unit)) (s674 : S_pipe_Pipes) (s675 : (Int × Unit × Unit)) (s676 : S_open_Table) (s677 : S_proc_Table) : G_kernel_Start_J4 P N d frames_665 slots_666 e_667 s668 s669 s670 s671 s672 s673 s674 s675 s676 s677 =
bif (e_667 != 0) then
some (Sum.inl (((), e_667, ()), s668, s670, s671, s672, ()))
else
G_kernel_Start_J6 P N d frames_665 slots_666 s668 s669 s670 s671 s672 s673 s674 s675 s676 s677 := by subst hP; kernel_rfl
theorem G_kernel_Start_J4_1_eq (hP : P = Tryz.prog) (N d : Nat) (frames_770 : Int) (slots_771 : Int) (e_772 : Int) (s773 : (Unit × Unit × Unit × Int × Unit)) (s774 : List (Int)) (s775 : List (List ((Int) × (S_space_entry)))) (s776 : List (Int)) (s777 : List (S_disk_write)) (s778 : (Int × Unit × Unit × Unit × Unit × Unit × Unit × Unit × Ar 17 ((Int × S_api_Regs × (Int × Int × Unit × Int × Int × Int × Unit) × Unit × Unit × S_sig_Set × Bool × Unit)) × Int × Unit)) (s779 : S_pipe_Pipes) (s780 : (Int × Int × Int × Unit × Unit)) (s781 : List (S_spread_task)) (s782 : (Int × Unit × Unit)) (s783 : S_open_Table) (s784 : S_proc_Table) : G_kernel_Start_J4_1 P N d frames_770 slots_771 e_772 s773 s774 s775 s776 s777 s778 s779 s780 s781 s782 s783 s784 =
bif (e_772 != 0) then
some (Sum.inl (((), e_772, ()), s773, s775, s776, s777, ()))
else
G_kernel_Start_J6_1 P N d frames_770 slots_771 s773 s774 s775 s776 s777 s778 s779 s780 s781 s782 s783 s784 := by subst hP; kernel_rfl
theorem G_kernel_Start_J6_1_eq (hP : P = Tryz.prog) (N d : Nat) (frames_785 : Int) (slots_786 : Int) (s787 : (Unit × Unit × Unit × Int × Unit)) (s788 : List (Int)) (s789 : List (List ((Int) × (S_space_entry)))) (s790 : List (Int)) (s791 : List (S_disk_write)) (s792 : (Int × Unit × Unit × Unit × Unit × Unit × Unit × Unit × Ar 17 ((Int × S_api_Regs × (Int × Int × Unit × Int × Int × Int × Unit) × Unit × Unit × S_sig_Set × Bool × Unit)) × Int × Unit)) (s793 : S_pipe_Pipes) (s794 : (Int × Int × Int × Unit × Unit)) (s795 : List (S_spread_task)) (s796 : (Int × Unit × Unit)) (s797 : S_open_Table) (s798 : S_proc_Table) : G_kernel_Start_J6_1 P N d frames_785 slots_786 s787 s788 s789 s790 s791 s792 s793 s794 s795 s796 s797 s798 =
(G_space_New P N d frames_785 slots_786).bind fun x799 =>
match x799 with
| .inl x800 =>
G_kernel_Start_J7_2 P N d x800.1.2.1 s787 s788 s789 s790 s791 (u1 s792 ()) s793 s794 s795 s796 s797 s798
| .inr x801 =>
(G_kernel_Start_J7_3 P N d x801.1.2.1 s787 s788 s789 s790 s791 (s792.1, (), (), (), (), (), (), (), s792.2.2.2.2.2.2.2.2.1, s792.2.2.2.2.2.2.2.2.2.1, ()) x801.2.1 x801.2.2.1 s793 s794 s795 s796 s797 s798) := by subst hP; kernel_rfl
theorem G_kernel_Start_J7_2_eq (hP : P = Tryz.prog) (N d : Nat) (e_802 : Int) (s803 : (Unit × Unit × Unit × Int × Unit)) (s804 : List (Int)) (s805 : List (List ((Int) × (S_space_entry)))) (s806 : List (Int)) (s807 : List (S_disk_write)) (s808 : (Int × Unit × Unit × Unit × Unit × Unit × Unit × Unit × Ar 17 ((Int × S_api_Regs × (Int × Int × Unit × Int × Int × Int × Unit) × Unit × Unit × S_sig_Set × Bool × Unit)) × Int × Unit)) (s809 : S_pipe_Pipes) (s810 : (Int × Int × Int × Unit × Unit)) (s811 : List (S_spread_task)) (s812 : (Int × Unit × Unit)) (s813 : S_open_Table) (s814 : S_proc_Table) : G_kernel_Start_J7_2 P N d e_802 s803 s804 s805 s806 s807 s808 s809 s810 s811 s812 s813 s814 =
bif (e_802 != 0) then
some (Sum.inl (((), e_802, ()), s803, s805, s806, s807, ()))
else
G_kernel_Start_J9_2 P N d s803 s804 s805 s806 s807 s808 s809 s810 s811 s812 s813 s814 := by subst hP; kernel_rfl
theorem G_kernel_Start_J7_3_eq (hP : P = Tryz.prog) (N d : Nat) (e_941 : Int) (s942 : (Unit × Unit × Unit × Int × Unit)) (s943 : List (Int)) (s944 : List (List ((Int) × (S_space_entry)))) (s945 : List (Int)) (s946 : List (S_disk_write)) (s947 : (Int × Unit × Unit × Unit × Unit × Unit × Unit × Unit × Ar 17 ((Int × S_api_Regs × (Int × Int × Unit × Int × Int × Int × Unit) × Unit × Unit × S_sig_Set × Bool × Unit)) × Int × Unit)) (s948 : (Int × Int × Int × Unit × Unit × Unit)) (s949 : List ((Int) × (Option Nat))) (s950 : S_pipe_Pipes) (s951 : (Int × Int × Int × Unit × Unit)) (s952 : List (S_spread_task)) (s953 : (Int × Unit × Unit)) (s954 : S_open_Table) (s955 : S_proc_Table) : G_kernel_Start_J7_3 P N d e_941 s942 s943 s944 s945 s946 s947 s948 s949 s950 s951 s952 s953 s954 s955 =
bif (e_941 != 0) then
some (Sum.inl (((), e_941, ()), s942, s944, s945, s946, ()))
else
G_kernel_Start_J9_3 P N d s942 s943 s944 s945 s946 s947 s948 s949 s950 s951 s952 s953 s954 s955 := by subst hP; kernel_rfl
theorem G_kernel_Start_J9_3_eq (hP : P = Tryz.prog) (N d : Nat) (s956 : (Unit × Unit × Unit × Int × Unit)) (s957 : List (Int)) (s958 : List (List ((Int) × (S_space_entry)))) (s959 : List (Int)) (s960 : List (S_disk_write)) (s961 : (Int × Unit × Unit × Unit × Unit × Unit × Unit × Unit × Ar 17 ((Int × S_api_Regs × (Int × Int × Unit × Int × Int × Int × Unit) × Unit × Unit × S_sig_Set × Bool × Unit)) × Int × Unit)) (s962 : (Int × Int × Int × Unit × Unit × Unit)) (s963 : List ((Int) × (Option Nat))) (s964 : S_pipe_Pipes) (s965 : (Int × Int × Int × Unit × Unit)) (s966 : List (S_spread_task)) (s967 : (Int × Unit × Unit)) (s968 : S_open_Table) (s969 : S_proc_Table) : G_kernel_Start_J9_3 P N d s956 s957 s958 s959 s960 s961 s962 s963 s964 s965 s966 s967 s968 s969 =
(G_fs_Mount P N d s956 s957 s959 s960).bind fun x970 =>
bif (x970.1.2.1 != 0) then
some (Sum.inl (((), x970.1.2.1, ()), x970.2.1, s958, x970.2.2.1, x970.2.2.2.1, ()))
else
(G_space_Memory_Make_v2 P N d s962 s963 s958).bind fun x971 =>
bif (x971.1.2.1 != 0) then
some (Sum.inl (((), x971.1.2.1, ()), x970.2.1, x971.2.2.1, x970.2.2.1, x970.2.2.2.1, ()))
else
(G_spread_Run_Add_v2 P N d 1 1 10 s965 s966).bind fun x972 =>
bif (x972.1 != 0) then
some (Sum.inl (((), x972.1, ()), x970.2.1, x971.2.2.1, x970.2.2.1, x970.2.2.2.1, ()))
else
some (Sum.inr (((), (0 : Int), ()), x970.2.1, x971.2.2.1, x970.2.2.1, x970.2.2.2.1, (s961.1, (), (), (), (), (), (), (), (sA (arM (β := S_kernel_task) (fun z : (Int × S_api_Regs × (Int × Int × Unit × Int × Int × Int × Unit) × Unit × Unit × S_sig_Set × Bool × Unit) => (z.1, z.2.1, (z.2.2.1.1, z.2.2.1.2.1, [], z.2.2.1.2.2.2.1, z.2.2.1.2.2.2.2.1, z.2.2.1.2.2.2.2.2.1, ()), [], [], z.2.2.2.2.2.1, z.2.2.2.2.2.2.1, ())) (sA (sA (sA s961.2.2.2.2.2.2.2.2.1 ⟨1, by decide⟩ (u0 (gA s961.2.2.2.2.2.2.2.2.1 ⟨1, by decide⟩) x971.1.1)) ⟨1, by decide⟩ (u1 (gA (sA s961.2.2.2.2.2.2.2.2.1 ⟨1, by decide⟩ (u0 (gA s961.2.2.2.2.2.2.2.2.1 ⟨1, by decide⟩) x971.1.1)) ⟨1, by decide⟩) (u2 ((gA (sA s961.2.2.2.2.2.2.2.2.1 ⟨1, by decide⟩ (u0 (gA s961.2.2.2.2.2.2.2.2.1 ⟨1, by decide⟩) x971.1.1)) ⟨1, by decide⟩).2.1) 1))) ⟨1, by decide⟩ (u2 (gA (sA (sA s961.2.2.2.2.2.2.2.2.1 ⟨1, by decide⟩ (u0 (gA s961.2.2.2.2.2.2.2.2.1 ⟨1, by decide⟩) x971.1.1)) ⟨1, by decide⟩ (u1 (gA (sA s961.2.2.2.2.2.2.2.2.1 ⟨1, by decide⟩ (u0 (gA s961.2.2.2.2.2.2.2.2.1 ⟨1, by decide⟩) x971.1.1)) ⟨1, by decide⟩) (u2 ((gA (sA s961.2.2.2.2.2.2.2.2.1 ⟨1, by decide⟩ (u0 (gA s961.2.2.2.2.2.2.2.2.1 ⟨1, by decide⟩) x971.1.1)) ⟨1, by decide⟩).2.1) 1))) ⟨1, by decide⟩) (0, 0, (), 127, 0, 0, ())))) ⟨1, by decide⟩ (u3 (gA (arM (β := S_kernel_task) (fun z : (Int × S_api_Regs × (Int × Int × Unit × Int × Int × Int × Unit) × Unit × Unit × S_sig_Set × Bool × Unit) => (z.1, z.2.1, (z.2.2.1.1, z.2.2.1.2.1, [], z.2.2.1.2.2.2.1, z.2.2.1.2.2.2.2.1, z.2.2.1.2.2.2.2.2.1, ()), [], [], z.2.2.2.2.2.1, z.2.2.2.2.2.2.1, ())) (sA (sA (sA s961.2.2.2.2.2.2.2.2.1 ⟨1, by decide⟩ (u0 (gA s961.2.2.2.2.2.2.2.2.1 ⟨1, by decide⟩) x971.1.1)) ⟨1, by decide⟩ (u1 (gA (sA s961.2.2.2.2.2.2.2.2.1 ⟨1, by decide⟩ (u0 (gA s961.2.2.2.2.2.2.2.2.1 ⟨1, by decide⟩) x971.1.1)) ⟨1, by decide⟩) (u2 ((gA (sA s961.2.2.2.2.2.2.2.2.1 ⟨1, by decide⟩ (u0 (gA s961.2.2.2.2.2.2.2.2.1 ⟨1, by decide⟩) x971.1.1)) ⟨1, by decide⟩).2.1) 1))) ⟨1, by decide⟩ (u2 (gA (sA (sA s961.2.2.2.2.2.2.2.2.1 ⟨1, by decide⟩ (u0 (gA s961.2.2.2.2.2.2.2.2.1 ⟨1, by decide⟩) x971.1.1)) ⟨1, by decide⟩ (u1 (gA (sA s961.2.2.2.2.2.2.2.2.1 ⟨1, by decide⟩ (u0 (gA s961.2.2.2.2.2.2.2.2.1 ⟨1, by decide⟩) x971.1.1)) ⟨1, by decide⟩) (u2 ((gA (sA s961.2.2.2.2.2.2.2.2.1 ⟨1, by decide⟩ (u0 (gA s961.2.2.2.2.2.2.2.2.1 ⟨1, by decide⟩) x971.1.1)) ⟨1, by decide⟩).2.1) 1))) ⟨1, by decide⟩) (0, 0, (), 127, 0, 0, ())))) ⟨1, by decide⟩) ([1]))), s961.2.2.2.2.2.2.2.2.2.1, ()), x971.2.1, x971.2.2.2.1, x970.2.2.2.2.1, x970.2.2.2.2.2.1, x970.2.2.2.2.2.2.1, x970.2.2.2.2.2.2.2.1, s964, x972.2.1, x972.2.2.1, s967, s968, s969, ())) := by subst hP; kernel_rfl
theorem G_kernel_Start_eq (hP : P = Tryz.prog) (N d : Nat) (cpus_647 : Int) (frames_648 : Int) (slots_649 : Int) (s650 : (Unit × Unit × Unit × Int × Unit)) (s651 : List (Int)) (s652 : List (Int)) (s653 : List (S_disk_write)) (s654 : List (List ((Int) × (S_space_entry)))) : G_kernel_Start P N (d + 1) cpus_647 frames_648 slots_649 s650 s651 s652 s653 s654 =
(G_pipe_New P N d ).bind fun x655 =>
(G_wheel_New P N d 0).bind fun x657 =>
(G_open_New P N d ).bind fun x658 =>
(G_proc_New P N d ).bind fun x659 =>
(G_spread_New P N d cpus_647).bind fun x662 =>
match x662 with
| .inl x663 =>
G_kernel_Start_J4 P N d frames_648 slots_649 x663.1.2.1 s650 s651 s654 s652 s653 (cpus_647, (), (), (), (), (), (), (), (nA 17 (0, ((nA 8 0), 0, 0, ()), (0, 0, (), 0, 0, 0, ()), (), (), (0, 0, (nA 16 0), ()), false, ())), 0, ()) x655.2.1 x657.2.1 x658.2.1 x659.2.1
| .inr x664 =>
(G_kernel_Start_J4_1 P N d frames_648 slots_649 x664.1.2.1 s650 s651 s654 s652 s653 (cpus_647, (), (), (), (), (), (), (), (nA 17 (0, ((nA 8 0), 0, 0, ()), (0, 0, (), 0, 0, 0, ()), (), (), (0, 0, (nA 16 0), ()), false, ())), 0, ()) x655.2.1 x664.2.1 x664.2.2.1 x657.2.1 x658.2.1 x659.2.1) := by subst hP; kernel_rfl
theorem G_kernel_Kernel_Procs_eq (hP : P = Tryz.prog) (N d : Nat) (s1009 : (Int × Unit × Unit × Unit × Unit × Unit × Unit × Unit × Ar 17 (S_kernel_task) × Int × Unit)) (s1010 : (Int × Int × Int × Unit × Unit × Unit)) (s1011 : List ((Int) × (Option Nat))) (s1012 : (Unit × Unit × Ar 4 (S_snap_Tree) × List (S_quota_Row) × List (S_inode_Node) × Unit × Unit × Unit)) (s1013 : (Unit × Unit × Unit × Int × Unit)) (s1014 : List (Int)) (s1015 : List (Int)) (s1016 : List (S_disk_write)) (s1017 : (Unit × Int × Int × Int × Unit)) (s1018 : List ((Int) × (List (Int)))) (s1019 : List ((Int) × (Int))) (s1020 : S_pipe_Pipes) (s1021 : (Int × Int × Int × Unit × Unit)) (s1022 : List (S_spread_task)) (s1023 : (Int × Unit × Unit)) (s1024 : S_open_Table) (s1025 : S_proc_Table) : G_kernel_Kernel_Procs P N (d + 1) s1009 s1010 s1011 s1012 s1013 s1014 s1015 s1016 s1017 s1018 s1019 s1020 s1021 s1022 s1023 s1024 s1025 =
(G_proc_Table_All P N d s1025).bind fun x1033 =>
some (x1033.1, ()) := by subst hP; kernel_rfl
theorem G_proc_number_eq (hP : P = Tryz.prog) (N d : Nat) (p_1083 : Int) : G_proc_number P N (d + 1) p_1083 =
(bif (decide (p_1083 ≥ 1)) then
some (decide (p_1083 ≤ 16))
else
some false).bind fun b1084 =>
some (b1084, ()) := by subst hP; kernel_rfl
theorem G_proc_Table_State_eq (hP : P = Tryz.prog) (N d : Nat) (p_1081 : Int) (s1082 : S_proc_Table) : G_proc_Table_State P N (d + 1) p_1081 s1082 =
(G_proc_number P N d p_1081).bind fun x1085 =>
bif (!x1085.1) then
some (((0 : Int), (1 : Int), ()), ())
else
if h1086 : inb p_1081 17 = true then
some (((gA s1082.1 ⟨p_1081.toNat, inb_lt h1086⟩).1, (0 : Int), ()), ())
else none := by subst hP; kernel_rfl
theorem G_kernel_Kernel_living_eq (hP : P = Tryz.prog) (N d : Nat) (p_1063 : Int) (s1064 : (Int × Unit × Unit × Unit × Unit × Unit × Unit × Unit × Ar 17 (S_kernel_task) × Int × Unit)) (s1065 : (Int × Int × Int × Unit × Unit × Unit)) (s1066 : List ((Int) × (Option Nat))) (s1067 : (Unit × Unit × Ar 4 (S_snap_Tree) × List (S_quota_Row) × List (S_inode_Node) × Unit × Unit × Unit)) (s1068 : (Unit × Unit × Unit × Int × Unit)) (s1069 : List (Int)) (s1070 : List (Int)) (s1071 : List (S_disk_write)) (s1072 : (Unit × Int × Int × Int × Unit)) (s1073 : List ((Int) × (List (Int)))) (s1074 : List ((Int) × (Int))) (s1075 : S_pipe_Pipes) (s1076 : (Int × Int × Int × Unit × Unit)) (s1077 : List (S_spread_task)) (s1078 : (Int × Unit × Unit)) (s1079 : S_open_Table) (s1080 : S_proc_Table) : G_kernel_Kernel_living P N (d + 1) p_1063 s1064 s1065 s1066 s1067 s1068 s1069 s1070 s1071 s1072 s1073 s1074 s1075 s1076 s1077 s1078 s1079 s1080 =
(G_proc_Table_State P N d p_1063 s1080).bind fun x1087 =>
(bif (x1087.1.2.1 == 0) then
some (x1087.1.1 != 1)
else
some false).bind fun b1088 =>
bif b1088 then
some ((4 : Int), ())
else
some (x1087.1.2.1, ()) := by subst hP; kernel_rfl
theorem G_kernel_Kernel_Space_eq (hP : P = Tryz.prog) (N d : Nat) (p_1045 : Int) (s1046 : (Int × Unit × Unit × Unit × Unit × Unit × Unit × Unit × Ar 17 (S_kernel_task) × Int × Unit)) (s1047 : (Int × Int × Int × Unit × Unit × Unit)) (s1048 : List ((Int) × (Option Nat))) (s1049 : (Unit × Unit × Ar 4 (S_snap_Tree) × List (S_quota_Row) × List (S_inode_Node) × Unit × Unit × Unit)) (s1050 : (Unit × Unit × Unit × Int × Unit)) (s1051 : List (Int)) (s1052 : List (Int)) (s1053 : List (S_disk_write)) (s1054 : (Unit × Int × Int × Int × Unit)) (s1055 : List ((Int) × (List (Int)))) (s1056 : List ((Int) × (Int))) (s1057 : S_pipe_Pipes) (s1058 : (Int × Int × Int × Unit × Unit)) (s1059 : List (S_spread_task)) (s1060 : (Int × Unit × Unit)) (s1061 : S_open_Table) (s1062 : S_proc_Table) : G_kernel_Kernel_Space P N (d + 1) p_1045 s1046 s1047 s1048 s1049 s1050 s1051 s1052 s1053 s1054 s1055 s1056 s1057 s1058 s1059 s1060 s1061 s1062 =
(G_kernel_Kernel_living P N d p_1045 s1046 s1047 s1048 s1049 s1050 s1051 s1052 s1053 s1054 s1055 s1056 s1057 s1058 s1059 s1060 s1061 s1062).bind fun x1089 =>
bif (x1089.1 != 0) then
some (((0 : Int), x1089.1, ()), ())
else
if h1090 : inb p_1045 17 = true then
some (((gA s1046.2.2.2.2.2.2.2.2.1 ⟨p_1045.toNat, inb_lt h1090⟩).1, (0 : Int), ()), ())
else none := by subst hP; kernel_rfl
theorem G_kernel_Kernel_Regs_eq (hP : P = Tryz.prog) (N d : Nat) (p_1092 : Int) (s1093 : (Int × Unit × Unit × Unit × Unit × Unit × Unit × Unit × Ar 17 (S_kernel_task) × Int × Unit)) (s1094 : (Int × Int × Int × Unit × Unit × Unit)) (s1095 : List ((Int) × (Option Nat))) (s1096 : (Unit × Unit × Ar 4 (S_snap_Tree) × List (S_quota_Row) × List (S_inode_Node) × Unit × Unit × Unit)) (s1097 : (Unit × Unit × Unit × Int × Unit)) (s1098 : List (Int)) (s1099 : List (Int)) (s1100 : List (S_disk_write)) (s1101 : (Unit × Int × Int × Int × Unit)) (s1102 : List ((Int) × (List (Int)))) (s1103 : List ((Int) × (Int))) (s1104 : S_pipe_Pipes) (s1105 : (Int × Int × Int × Unit × Unit)) (s1106 : List (S_spread_task)) (s1107 : (Int × Unit × Unit)) (s1108 : S_open_Table) (s1109 : S_proc_Table) : G_kernel_Kernel_Regs P N (d + 1) p_1092 s1093 s1094 s1095 s1096 s1097 s1098 s1099 s1100 s1101 s1102 s1103 s1104 s1105 s1106 s1107 s1108 s1109 =
(G_kernel_Kernel_living P N d p_1092 s1093 s1094 s1095 s1096 s1097 s1098 s1099 s1100 s1101 s1102 s1103 s1104 s1105 s1106 s1107 s1108 s1109).bind fun x1110 =>
bif (x1110.1 != 0) then
some ((((nA 8 0), 0, 0, ()), x1110.1, ()), ())
else
if h1111 : inb p_1092 17 = true then
some (((gA s1093.2.2.2.2.2.2.2.2.1 ⟨p_1092.toNat, inb_lt h1111⟩).2.1, (0 : Int), ()), ())
else none := by subst hP; kernel_rfl

theorem G_kernel_Kernel_Cred_eq (hP : P = Tryz.prog) (N d : Nat) (p_1113 : Int) (s1114 : (Int × Unit × Unit × Unit × Unit × Unit × Unit × Unit × Ar 17 (S_kernel_task) × Int × Unit)) (s1115 : (Int × Int × Int × Unit × Unit × Unit)) (s1116 : List ((Int) × (Option Nat))) (s1117 : (Unit × Unit × Ar 4 (S_snap_Tree) × List (S_quota_Row) × List (S_inode_Node) × Unit × Unit × Unit)) (s1118 : (Unit × Unit × Unit × Int × Unit)) (s1119 : List (Int)) (s1120 : List (Int)) (s1121 : List (S_disk_write)) (s1122 : (Unit × Int × Int × Int × Unit)) (s1123 : List ((Int) × (List (Int)))) (s1124 : List ((Int) × (Int))) (s1125 : S_pipe_Pipes) (s1126 : (Int × Int × Int × Unit × Unit)) (s1127 : List (S_spread_task)) (s1128 : (Int × Unit × Unit)) (s1129 : S_open_Table) (s1130 : S_proc_Table) : G_kernel_Kernel_Cred P N (d + 1) p_1113 s1114 s1115 s1116 s1117 s1118 s1119 s1120 s1121 s1122 s1123 s1124 s1125 s1126 s1127 s1128 s1129 s1130 =
(G_kernel_Kernel_living P N d p_1113 s1114 s1115 s1116 s1117 s1118 s1119 s1120 s1121 s1122 s1123 s1124 s1125 s1126 s1127 s1128 s1129 s1130).bind fun x1131 =>
bif (x1131.1 != 0) then
some (((0, 0, [], 0, 0, 0, ()), x1131.1, ()), ())
else
if h1132 : inb p_1113 17 = true then
(G_slices_Clone_f30 P N d (((gA s1114.2.2.2.2.2.2.2.2.1 ⟨p_1113.toNat, inb_lt h1132⟩).2.2.1).2.2.1)).bind fun x1134 =>
some (((u2 ((gA s1114.2.2.2.2.2.2.2.2.1 ⟨p_1113.toNat, inb_lt h1132⟩).2.2.1) x1134.2.1), (0 : Int), ()), ())
else none := by subst hP; kernel_rfl
theorem G_kernel_Kernel_Memory_eq (hP : P = Tryz.prog) (N d : Nat) (s1168 : (Int × Unit × Unit × Unit × Unit × Unit × Unit × Unit × Ar 17 (S_kernel_task) × Int × Unit)) (s1169 : (Int × Int × Int × Unit × Unit × Unit)) (s1170 : List ((Int) × (Option Nat))) (s1171 : (Unit × Unit × Ar 4 (S_snap_Tree) × List (S_quota_Row) × List (S_inode_Node) × Unit × Unit × Unit)) (s1172 : (Unit × Unit × Unit × Int × Unit)) (s1173 : List (Int)) (s1174 : List (Int)) (s1175 : List (S_disk_write)) (s1176 : (Unit × Int × Int × Int × Unit)) (s1177 : List ((Int) × (List (Int)))) (s1178 : List ((Int) × (Int))) (s1179 : S_pipe_Pipes) (s1180 : (Int × Int × Int × Unit × Unit)) (s1181 : List (S_spread_task)) (s1182 : (Int × Unit × Unit)) (s1183 : S_open_Table) (s1184 : S_proc_Table) : G_kernel_Kernel_Memory P N (d + 1) s1168 s1169 s1170 s1171 s1172 s1173 s1174 s1175 s1176 s1177 s1178 s1179 s1180 s1181 s1182 s1183 s1184 =
some ((), ()) := by subst hP; kernel_rfl
theorem G_space_Memory_Spaces_R3_S_eq (hP : P = Tryz.prog) (N d : Nat) (p1192 : (Int) × (Option Nat)) (s1188 : (Int × Int × Int × Unit × Unit × Unit)) (s1189 : List ((Int) × (Option Nat))) (s1190 : List (Int)) (s1191 : List ((Int) × (Option Nat))) : G_space_Memory_Spaces_R3_S P N d p1192 s1188 s1189 s1190 s1191 =
bif lenOk (s1190.length + ([p1192.1] : List (Int)).length) 8 then
some (G_space_Memory_Spaces_R3_X (some p1192) s1188 s1189 (s1190 ++ [p1192.1]) (mdI s1191 p1192.1))
else none := by subst hP; kernel_rfl
theorem G_space_Memory_Spaces_R3_E_eq (hP : P = Tryz.prog) (N d : Nat) (s1188 : (Int × Int × Int × Unit × Unit × Unit)) (s1189 : List ((Int) × (Option Nat))) (s1190 : List (Int)) (s1191 : List ((Int) × (Option Nat))) : G_space_Memory_Spaces_R3_E P N d s1188 s1189 s1190 s1191 =
(G_slices_Sort P N d s1190).bind fun x1229 =>
some (x1229.2.1, s1188, s1189, ()) := by subst hP; kernel_rfl
theorem G_space_Memory_Spaces_eq (hP : P = Tryz.prog) (N d : Nat) (s1186 : (Int × Int × Int × Unit × Unit × Unit)) (s1187 : List ((Int) × (Option Nat))) : G_space_Memory_Spaces P N (d + 1) s1186 s1187 =
G_space_Memory_Spaces_R3 P N d s1186 s1187 ([]) s1187 := by subst hP; kernel_rfl
theorem G_ringlaw5_KernelStarts_J2_eq (hP : P = Tryz.prog) (N d : Nat) (cpus_631 : Int) (frames_632 : Int) (slots_633 : Int) (p_634 : Int) (e_635 : Int) (s636 : List (List ((Int) × (S_space_entry)))) : G_ringlaw5_KernelStarts_J2 P N d cpus_631 frames_632 slots_633 p_634 e_635 s636 =
bif (e_635 != 0) then
some (true, s636, ())
else
none := by subst hP; kernel_rfl
theorem G_ringlaw5_KernelStarts_J2_1_eq (hP : P = Tryz.prog) (N d : Nat) (cpus_637 : Int) (frames_638 : Int) (slots_639 : Int) (p_640 : Int) (e_641 : Int) (s642 : List (List ((Int) × (S_space_entry)))) (s643 : (Unit × Unit × Unit × Int × Unit)) (s644 : List (Int)) (s645 : List (Int)) (s646 : List (S_disk_write)) : G_ringlaw5_KernelStarts_J2_1 P N d cpus_637 frames_638 slots_639 p_640 e_641 s642 s643 s644 s645 s646 =
bif (e_641 != 0) then
some (false, s642, ())
else
(G_kernel_Start P N d cpus_637 frames_638 slots_639 s643 s644 s645 s646 s642).bind fun x973 =>
match x973 with
| .inl x974 =>
G_ringlaw5_KernelStarts_J5 P N d cpus_637 frames_638 slots_639 p_640 x974.1.2.1 x974.2.2.1
| .inr x975 =>
(G_ringlaw5_KernelStarts_J5_1 P N d cpus_637 frames_638 slots_639 p_640 x975.1.2.1 x975.2.2.1 x975.2.2.2.2.2.1 x975.2.2.2.2.2.2.1 x975.2.2.2.2.2.2.2.1 x975.2.2.2.2.2.2.2.2.1 x975.2.1 s644 x975.2.2.2.1 x975.2.2.2.2.1 x975.2.2.2.2.2.2.2.2.2.1 x975.2.2.2.2.2.2.2.2.2.2.1 x975.2.2.2.2.2.2.2.2.2.2.2.1 x975.2.2.2.2.2.2.2.2.2.2.2.2.1 x975.2.2.2.2.2.2.2.2.2.2.2.2.2.1 x975.2.2.2.2.2.2.2.2.2.2.2.2.2.2.1 x975.2.2.2.2.2.2.2.2.2.2.2.2.2.2.2.1 x975.2.2.2.2.2.2.2.2.2.2.2.2.2.2.2.2.1 x975.2.2.2.2.2.2.2.2.2.2.2.2.2.2.2.2.2.1) := by subst hP; kernel_rfl
theorem G_ringlaw5_KernelStarts_J5_eq (hP : P = Tryz.prog) (N d : Nat) (cpus_976 : Int) (frames_977 : Int) (slots_978 : Int) (p_979 : Int) (f_980 : Int) (s981 : List (List ((Int) × (S_space_entry)))) : G_ringlaw5_KernelStarts_J5 P N d cpus_976 frames_977 slots_978 p_979 f_980 s981 =
(bif (decide (cpus_976 < 1)) then
some true
else
bif (decide (cpus_976 > 4)) then
some true
else
bif (decide (frames_977 < 4)) then
some true
else
bif (decide (frames_977 > 64)) then
some true
else
bif (decide (slots_978 < 0)) then
some true
else
some (decide (slots_978 > 64))).bind fun b982 =>
bif b982 then
(bif (f_980 == 1) then
some true
else
some false).bind fun b983 =>
some (b983, s981, ())
else
bif (f_980 != 0) then
some (false, s981, ())
else
some (false, s981, ()) := by subst hP; kernel_rfl
theorem G_ringlaw5_KernelStarts_J5_1_eq (hP : P = Tryz.prog) (N d : Nat) (cpus_984 : Int) (frames_985 : Int) (slots_986 : Int) (p_987 : Int) (f_988 : Int) (s989 : List (List ((Int) × (S_space_entry)))) (s990 : (Int × Unit × Unit × Unit × Unit × Unit × Unit × Unit × Ar 17 (S_kernel_task) × Int × Unit)) (s991 : (Int × Int × Int × Unit × Unit × Unit)) (s992 : List ((Int) × (Option Nat))) (s993 : (Unit × Unit × Ar 4 (S_snap_Tree) × List (S_quota_Row) × List (S_inode_Node) × Unit × Unit × Unit)) (s994 : (Unit × Unit × Unit × Int × Unit)) (s995 : List (Int)) (s996 : List (Int)) (s997 : List (S_disk_write)) (s998 : (Unit × Int × Int × Int × Unit)) (s999 : List ((Int) × (List (Int)))) (s1000 : List ((Int) × (Int))) (s1001 : S_pipe_Pipes) (s1002 : (Int × Int × Int × Unit × Unit)) (s1003 : List (S_spread_task)) (s1004 : (Int × Unit × Unit)) (s1005 : S_open_Table) (s1006 : S_proc_Table) : G_ringlaw5_KernelStarts_J5_1 P N d cpus_984 frames_985 slots_986 p_987 f_988 s989 s990 s991 s992 s993 s994 s995 s996 s997 s998 s999 s1000 s1001 s1002 s1003 s1004 s1005 s1006 =
(bif (decide (cpus_984 < 1)) then
some true
else
bif (decide (cpus_984 > 4)) then
some true
else
bif (decide (frames_985 < 4)) then
some true
else
bif (decide (frames_985 > 64)) then
some true
else
bif (decide (slots_986 < 0)) then
some true
else
some (decide (slots_986 > 64))).bind fun b1007 =>
bif b1007 then
(bif (f_988 == 1) then
some false
else
some false).bind fun b1008 =>
some (b1008, s989, ())
else
bif (f_988 != 0) then
some (false, s989, ())
else
(G_kernel_Kernel_Procs P N d s990 s991 s992 s993 s994 s995 s996 s997 s998 s999 s1000 s1001 s1002 s1003 s1004 s1005 s1006).bind fun x1034 =>
(G_slices_Equal_f6 P N d x1034.1 ([1])).bind fun x1044 =>
bif (!x1044.1) then
some (false, s989, ())
else
(G_kernel_Kernel_Space P N d p_987 s990 s991 s992 s993 s994 s995 s996 s997 s998 s999 s1000 s1001 s1002 s1003 s1004 s1005 s1006).bind fun x1091 =>
(G_kernel_Kernel_Regs P N d p_987 s990 s991 s992 s993 s994 s995 s996 s997 s998 s999 s1000 s1001 s1002 s1003 s1004 s1005 s1006).bind fun x1112 =>
(G_kernel_Kernel_Cred P N d p_987 s990 s991 s992 s993 s994 s995 s996 s997 s998 s999 s1000 s1001 s1002 s1003 s1004 s1005 s1006).bind fun x1135 =>
(bif (decide (p_987 < 1)) then
some true
else
some (decide (p_987 > 16))).bind fun b1136 =>
bif b1136 then
G_ringlaw5_KernelStarts_J17 P N d x1091.1.1 x1091.1.2.1 x1112.1.2.1 x1135.1.2.1 1 s989 s990 s991 s992 s993 s994 s995 s996 s997 s998 s999 s1000 s1001 s1002 s1003 s1004 s1005 s1006 x1112.1.1 x1135.1.1
else
bif (decide (p_987 > 1)) then
G_ringlaw5_KernelStarts_J17 P N d x1091.1.1 x1091.1.2.1 x1112.1.2.1 x1135.1.2.1 4 s989 s990 s991 s992 s993 s994 s995 s996 s997 s998 s999 s1000 s1001 s1002 s1003 s1004 s1005 s1006 x1112.1.1 x1135.1.1
else
G_ringlaw5_KernelStarts_J17 P N d x1091.1.1 x1091.1.2.1 x1112.1.2.1 x1135.1.2.1 0 s989 s990 s991 s992 s993 s994 s995 s996 s997 s998 s999 s1000 s1001 s1002 s1003 s1004 s1005 s1006 x1112.1.1 x1135.1.1 := by subst hP; kernel_rfl
theorem G_ringlaw5_KernelStarts_J17_eq (hP : P = Tryz.prog) (N d : Nat) (s_1137 : Int) (g_1138 : Int) (h_1139 : Int) (i_1140 : Int) (want_1141 : Int) (s1142 : List (List ((Int) × (S_space_entry)))) (s1143 : (Int × Unit × Unit × Unit × Unit × Unit × Unit × Unit × Ar 17 (S_kernel_task) × Int × Unit)) (s1144 : (Int × Int × Int × Unit × Unit × Unit)) (s1145 : List ((Int) × (Option Nat))) (s1146 : (Unit × Unit × Ar 4 (S_snap_Tree) × List (S_quota_Row) × List (S_inode_Node) × Unit × Unit × Unit)) (s1147 : (Unit × Unit × Unit × Int × Unit)) (s1148 : List (Int)) (s1149 : List (Int)) (s1150 : List (S_disk_write)) (s1151 : (Unit × Int × Int × Int × Unit)) (s1152 : List ((Int) × (List (Int)))) (s1153 : List ((Int) × (Int))) (s1154 : S_pipe_Pipes) (s1155 : (Int × Int × Int × Unit × Unit)) (s1156 : List (S_spread_task)) (s1157 : (Int × Unit × Unit)) (s1158 : S_open_Table) (s1159 : S_proc_Table) (s1160 : S_api_Regs) (s1161 : S_api_Cred) : G_ringlaw5_KernelStarts_J17 P N d s_1137 g_1138 h_1139 i_1140 want_1141 s1142 s1143 s1144 s1145 s1146 s1147 s1148 s1149 s1150 s1151 s1152 s1153 s1154 s1155 s1156 s1157 s1158 s1159 s1160 s1161 =
bif (want_1141 != 0) then
(bif (g_1138 == want_1141) then
bif (h_1139 == want_1141) then
bif (i_1140 == want_1141) then
bif (s_1137 == 0) then
bif (eqT c_api_Regs (s1160 : S_api_Regs) (((nA 8 0), 0, 0, ()) : S_api_Regs)) then
(G_ringref5_SameCred P N d s1161 (0, 0, [], 0, 0, 0, ())).bind fun x1166 =>
some x1166.1
else
some false
else
some false
else
some false
else
some false
else
some false).bind fun b1167 =>
some (b1167, s1142, ())
else
bif (g_1138 == 0) then
(G_kernel_Kernel_Memory P N d s1143 s1144 s1145 s1146 s1147 s1148 s1149 s1150 s1151 s1152 s1153 s1154 s1155 s1156 s1157 s1158 s1159).bind fun x1233 =>
(G_space_Memory_Spaces P N d s1144 s1145).bind fun x1234 =>
(G_slices_Contains P N d x1234.1 s_1137).bind fun x1235 =>
bif x1235.1 then
bif (h_1139 == 0) then
bif (eqT c_api_Regs (s1160 : S_api_Regs) (((nA 8 0), 0, 1, ()) : S_api_Regs)) then
bif (i_1140 == 0) then
(G_ringref5_SameCred P N d s1161 (0, 0, [], 127, 0, 0, ())).bind fun x1236 =>
some (x1236.1, s1142, ())
else
some (false, s1142, ())
else
some (false, s1142, ())
else
some (false, s1142, ())
else
some (false, s1142, ())
else
some (false, s1142, ()) := rfl
theorem G_ringlaw5_KernelStarts_eq (hP : P = Tryz.prog) (N d : Nat) (cpus_1 : Int) (frames_2 : Int) (slots_3 : Int) (sectors_4 : Int) (p_5 : Int) (s6 : List (List ((Int) × (S_space_entry)))) : G_ringlaw5_KernelStarts P N (d + 1) cpus_1 frames_2 slots_3 sectors_4 p_5 s6 =
(G_boot_Make P N d sectors_4 ([])).bind fun x628 =>
match x628 with
| .inl x629 =>
G_ringlaw5_KernelStarts_J2 P N d cpus_1 frames_2 slots_3 p_5 x629.1.2.1 s6
| .inr x630 =>
(G_ringlaw5_KernelStarts_J2_1 P N d cpus_1 frames_2 slots_3 p_5 x630.1.2.1 s6 x630.2.1 x630.2.2.1 x630.2.2.2.1 x630.2.2.2.2.1) := by subst hP; kernel_rfl
end
end Go.Proofs.YtnkdanobhgofbaaGreatDoor.pv
