/- What the functions compute: written by g4.py. -/
import Derived.Test.YtmjkechkdfobgaaVFa
import Derived.Test.YtmjkechkdfobgaaProg
import Derived.KernelRfl
set_option maxRecDepth 100000
set_option linter.all false
namespace Go.Proofs.Ytmjkechkdfobgaa.pv
open Go.RowKit
noncomputable section
abbrev cI : Ty := .i .i64
abbrev c_api_Regs : Ty := (.pr (.ar 8 (.i .u32)) (.pr (.i .u32) (.pr cI .un)))
abbrev S_api_Regs : Type := Ar 8 (Int) × Int × Int × Unit
abbrev c_api_Entry : Ty := (.pr .str (.pr cI .un))
abbrev S_api_Entry : Type := List UInt8 × Int × Unit
abbrev c_api_Stat : Ty := (.pr cI (.pr cI (.pr cI (.pr cI (.pr cI (.pr cI .un))))))
abbrev S_api_Stat : Type := Int × Int × Int × Int × Int × Int × Unit
abbrev c_api_Answer : Ty := (.pr cI (.pr cI (.pr cI (.pr (.sl (.i .u8)) (.pr (.sl c_api_Entry) (.pr c_api_Stat .un))))))
abbrev S_api_Answer : Type := Int × Int × Int × List (Int) × List (S_api_Entry) × S_api_Stat × Unit
abbrev c_space_page : Ty := (.pr (.ar 16 (.i .u8)) (.pr cI (.pr .bl (.pr cI .un))))
abbrev S_space_page : Type := Ar 16 (Int) × Int × Bool × Int × Unit
abbrev c_space_entry : Ty := (.pr (.vp 1) (.pr cI .un))
abbrev S_space_entry : Type := Option Nat × Int × Unit
abbrev c_ringref5_Page : Ty := (.pr .bl (.pr cI (.pr (.ar 16 (.i .u8)) .un)))
abbrev S_ringref5_Page : Type := Bool × Int × Ar 16 (Int) × Unit
abbrev c_api_Call : Ty := (.pr cI (.pr cI (.pr cI (.pr cI (.pr .str (.pr .str (.pr (.sl (.i .u8)) .un)))))))
abbrev S_api_Call : Type := Int × Int × Int × Int × List UInt8 × List UInt8 × List (Int) × Unit
abbrev c_api_Cred : Ty := (.pr cI (.pr cI (.pr (.sl cI) (.pr cI (.pr cI (.pr cI .un))))))
abbrev S_api_Cred : Type := Int × Int × List (Int) × Int × Int × Int × Unit
abbrev c_ringref5_Signals : Ty := (.pr (.sl cI) (.pr (.sl cI) (.pr (.ar 16 cI) .un)))
abbrev S_ringref5_Signals : Type := List (Int) × List (Int) × Ar 16 (Int) × Unit
abbrev c_ringref5_Man : Ty := (.pr c_api_Cred (.pr (.sl cI) (.pr (.sl (.ar 2 cI)) (.pr c_ringref5_Signals (.pr .bl (.pr cI (.pr (.ar 64 c_ringref5_Page) .un)))))))
abbrev S_ringref5_Man : Type := S_api_Cred × List (Int) × List (Ar 2 (Int)) × S_ringref5_Signals × Bool × Int × Ar 64 (S_ringref5_Page) × Unit
abbrev c_space_Memory : Ty := (.pr cI (.pr cI (.pr cI (.pr (.sl (.vp 1)) (.pr (.nz .nm) .un)))))
abbrev S_space_Memory : Type := Int × Int × Int × List (Option Nat) × Unit × Unit
def TT : List TI := [⟨1, 0, .oth, []⟩,
 ⟨1, 8, .oth, []⟩,
 ⟨1, 8, (.int .i64), [.i .i64]⟩,
 ⟨1, 8, (.int .i64), [.i .i64]⟩,
 ⟨1, 1, .bool, [.b]⟩,
 ⟨1, 1, (.int .u8), [.i .u8]⟩,
 ⟨1, 1, .oth, []⟩,
 ⟨4, 24, (.st [(0, 2), (1, 3), (2, 4), (3, 6)]), []⟩,
 ⟨4, 24, (.st [(0, 2), (1, 3), (2, 4), (3, 6)]), []⟩,
 ⟨1, 16, .str, [.s]⟩,
 ⟨1, 16, .oth, []⟩,
 ⟨1, 16, .oth, []⟩,
 ⟨1, 8, .oth, []⟩,
 ⟨2, 24, (.st [(0, 9), (1, 12)]), []⟩,
 ⟨2, 24, (.st [(0, 9), (1, 12)]), []⟩,
 ⟨1, 8, .oth, []⟩,
 ⟨1, 8, .oth, []⟩,
 ⟨1, 8, .oth, []⟩,
 ⟨1, 8, (.st [(0, 17)]), []⟩,
 ⟨1, 8, (.st [(0, 17)]), []⟩,
 ⟨1, 16, .oth, []⟩,
 ⟨1, 4, (.int .i32), [.i .i32]⟩,
 ⟨1, 24, (.sl 5), [.sl]⟩,
 ⟨1, 4, (.int .u32), [.i .u32]⟩,
 ⟨8, 32, (.arr 8 23), (zr 8 [.i .u32])⟩,
 ⟨10, 48, (.st [(0, 24), (8, 23), (9, 3)]), []⟩,
 ⟨10, 48, (.st [(0, 24), (8, 23), (9, 3)]), (za (zr 8 [.i .u32]) [.i .u32, .i .i64])⟩,
 ⟨1, 8, (.int .i64), [.i .i64]⟩,
 ⟨1, 24, (.sl 165), [.sl]⟩,
 ⟨6, 48, (.st [(0, 3), (1, 3), (2, 3), (3, 3), (4, 3), (5, 3)]), []⟩,
 ⟨6, 48, (.st [(0, 3), (1, 3), (2, 3), (3, 3), (4, 3), (5, 3)]), [.i .i64, .i .i64, .i .i64, .i .i64, .i .i64, .i .i64]⟩,
 ⟨11, 120, (.st [(0, 27), (1, 3), (2, 3), (3, 22), (4, 28), (5, 30)]), []⟩,
 ⟨11, 120, (.st [(0, 27), (1, 3), (2, 3), (3, 22), (4, 28), (5, 30)]), [.i .i64, .i .i64, .i .i64, .sl, .sl, .i .i64, .i .i64, .i .i64, .i .i64, .i .i64, .i .i64]⟩,
 ⟨1, 8, (.ptr 90), [.np]⟩,
 ⟨1, 0, .oth, []⟩,
 ⟨1, 8, .oth, []⟩,
 ⟨1, 0, .oth, []⟩,
 ⟨1, 8, .oth, []⟩,
 ⟨1, 8, .oth, []⟩,
 ⟨1, 24, (.sl 3), [.sl]⟩,
 ⟨6, 64, (.st [(0, 3), (1, 3), (2, 39), (3, 3), (4, 3), (5, 3)]), []⟩,
 ⟨6, 64, (.st [(0, 3), (1, 3), (2, 39), (3, 3), (4, 3), (5, 3)]), [.i .i64, .i .i64, .sl, .i .i64, .i .i64, .i .i64]⟩,
 ⟨1, 24, (.sl 166), [.sl]⟩,
 ⟨16, 128, (.arr 16 3), (zr 16 [.i .i64])⟩,
 ⟨18, 176, (.st [(0, 39), (1, 39), (2, 43)]), []⟩,
 ⟨18, 176, (.st [(0, 39), (1, 39), (2, 43)]), (za [.sl, .sl] (zr 16 [.i .i64]))⟩,
 ⟨16, 16, (.arr 16 5), (zr 16 [.i .u8])⟩,
 ⟨18, 32, (.st [(0, 4), (1, 3), (2, 46)]), []⟩,
 ⟨18, 32, (.st [(0, 4), (1, 3), (2, 46)]), (za [.b, .i .i64] (zr 16 [.i .u8]))⟩,
 ⟨1152, 2048, (.arr 64 48), (zr 64 (za [.b, .i .i64] (zr 16 [.i .u8])))⟩,
 ⟨1180, 2352, (.st [(0, 41), (6, 39), (7, 42), (8, 45), (26, 4), (27, 3), (28, 49)]), []⟩,
 ⟨1180, 2352, (.st [(0, 41), (6, 39), (7, 42), (8, 45), (26, 4), (27, 3), (28, 49)]), (za [.i .i64, .i .i64, .sl, .i .i64, .i .i64, .i .i64, .sl, .sl, .sl, .sl] (za (zr 16 [.i .i64]) (za [.b, .i .i64] (zr 64 (za [.b, .i .i64] (zr 16 [.i .u8]))))))⟩,
 ⟨1, 8, .oth, []⟩,
 ⟨1, 0, .oth, []⟩,
 ⟨1, 8, .oth, []⟩,
 ⟨1, 8, .oth, []⟩,
 ⟨7, 88, (.st [(0, 3), (1, 3), (2, 3), (3, 3), (4, 9), (5, 9), (6, 22)]), []⟩,
 ⟨7, 88, (.st [(0, 3), (1, 3), (2, 3), (3, 3), (4, 9), (5, 9), (6, 22)]), [.i .i64, .i .i64, .i .i64, .i .i64, .s, .s, .sl]⟩,
 ⟨1, 0, .oth, []⟩,
 ⟨1, 8, .oth, []⟩,
 ⟨1, 8, .oth, []⟩,
 ⟨1, 8, .oth, []⟩,
 ⟨1, 8, .oth, []⟩,
 ⟨1, 8, .oth, []⟩,
 ⟨1, 0, .oth, []⟩,
 ⟨1, 8, .oth, []⟩,
 ⟨1, 8, .oth, []⟩,
 ⟨1, 24, .oth, []⟩,
 ⟨1, 8, .oth, []⟩,
 ⟨1, 8, .oth, []⟩,
 ⟨17, 17, (.arr 17 4), []⟩,
 ⟨19, 40, (.st [(0, 4), (1, 3), (2, 46), (18, 3)]), []⟩,
 ⟨19, 40, (.st [(0, 4), (1, 3), (2, 46), (18, 3)]), []⟩,
 ⟨1216, 2560, (.arr 64 72), []⟩,
 ⟨20672, 43520, (.arr 17 73), []⟩,
 ⟨20691, 43560, (.st [(0, 3), (1, 3), (2, 70), (19, 74)]), []⟩,
 ⟨20691, 43560, (.st [(0, 3), (1, 3), (2, 70), (19, 74)]), []⟩,
 ⟨7, 72, (.st [(0, 3), (1, 3), (2, 3), (3, 3), (4, 3), (5, 3), (6, 22)]), []⟩,
 ⟨7, 72, (.st [(0, 3), (1, 3), (2, 3), (3, 3), (4, 3), (5, 3), (6, 22)]), []⟩,
 ⟨1, 0, .oth, []⟩,
 ⟨1, 8, .oth, []⟩,
 ⟨1, 8, .oth, []⟩,
 ⟨1, 8, .oth, []⟩,
 ⟨1, 8, .oth, []⟩,
 ⟨1, 8, .oth, []⟩,
 ⟨1, 8, .oth, []⟩,
 ⟨1, 8, .oth, []⟩,
 ⟨1, 8, .oth, [.nm]⟩,
 ⟨1, 24, (.sl 93), [.sl]⟩,
 ⟨5, 56, (.st [(0, 3), (1, 3), (2, 3), (3, 88), (4, 87)]), []⟩,
 ⟨5, 56, (.st [(0, 3), (1, 3), (2, 3), (3, 88), (4, 87)]), [.i .i64, .i .i64, .i .i64, .sl, .nm]⟩,
 ⟨1, 8, .oth, [.nm]⟩,
 ⟨1, 8, .oth, []⟩,
 ⟨1, 8, (.ptr 112), [.np]⟩,
 ⟨2, 16, (.st [(0, 93), (1, 3)]), []⟩,
 ⟨2, 16, (.st [(0, 93), (1, 3)]), [.np, .i .i64]⟩,
 ⟨1, 0, .oth, []⟩,
 ⟨1, 8, .oth, []⟩,
 ⟨1, 8, .oth, []⟩,
 ⟨1, 0, .oth, []⟩,
 ⟨1, 8, .oth, []⟩,
 ⟨1, 8, (.ptr 51), [.np]⟩,
 ⟨1, 0, .oth, []⟩,
 ⟨1, 8, .oth, []⟩,
 ⟨1, 8, .oth, []⟩,
 ⟨1, 8, .oth, []⟩,
 ⟨1, 8, .oth, []⟩,
 ⟨1, 8, .oth, []⟩,
 ⟨1, 8, .oth, []⟩,
 ⟨1, 8, .oth, []⟩,
 ⟨1, 8, .oth, []⟩,
 ⟨19, 40, (.st [(0, 46), (16, 3), (17, 4), (18, 3)]), []⟩,
 ⟨19, 40, (.st [(0, 46), (16, 3), (17, 4), (18, 3)]), (za (zr 16 [.i .u8]) [.i .i64, .b, .i .i64])⟩,
 ⟨1, 8, .oth, []⟩,
 ⟨1, 8, .oth, []⟩,
 ⟨1, 8, .oth, []⟩,
 ⟨1, 8, .oth, []⟩,
 ⟨1, 8, .oth, []⟩,
 ⟨1, 8, .oth, []⟩,
 ⟨1, 8, .oth, []⟩,
 ⟨1, 8, .oth, []⟩,
 ⟨1, 8, .oth, []⟩,
 ⟨1, 8, .oth, []⟩,
 ⟨1, 8, .oth, []⟩,
 ⟨1, 8, .oth, []⟩,
 ⟨1, 8, .oth, []⟩,
 ⟨1, 8, .oth, []⟩,
 ⟨1, 8, .oth, []⟩,
 ⟨1, 8, .oth, []⟩,
 ⟨1, 8, .oth, []⟩,
 ⟨1, 8, .oth, []⟩,
 ⟨1, 8, .oth, []⟩,
 ⟨1, 0, .oth, []⟩,
 ⟨1, 8, .oth, []⟩,
 ⟨1, 8, .oth, []⟩,
 ⟨1, 8, .oth, []⟩,
 ⟨1, 0, .oth, []⟩,
 ⟨1, 8, .oth, []⟩,
 ⟨1, 8, .oth, []⟩,
 ⟨1, 8, .oth, []⟩,
 ⟨1, 8, .oth, []⟩,
 ⟨3, 24, (.arr 3 3), []⟩,
 ⟨1, 8, .oth, []⟩,
 ⟨1, 8, .oth, []⟩,
 ⟨1, 8, .oth, []⟩,
 ⟨1, 8, .oth, []⟩,
 ⟨1, 8, .oth, []⟩,
 ⟨1, 8, .oth, []⟩,
 ⟨1, 8, .oth, []⟩,
 ⟨1, 8, .oth, []⟩,
 ⟨1, 8, .oth, []⟩,
 ⟨4, 40, (.st [(0, 17), (1, 17), (2, 17), (3, 9)]), []⟩,
 ⟨4, 40, (.st [(0, 17), (1, 17), (2, 17), (3, 9)]), []⟩,
 ⟨0, 0, (.arr 0 16), []⟩,
 ⟨0, 0, (.st [(0, 153)]), []⟩,
 ⟨0, 0, (.st [(0, 153)]), []⟩,
 ⟨1, 1, .oth, []⟩,
 ⟨1, 1, .oth, []⟩,
 ⟨1, 8, .oth, []⟩,
 ⟨1, 8, .oth, []⟩,
 ⟨1, 4, .oth, []⟩,
 ⟨1, 4, .oth, []⟩,
 ⟨11, 48, (.st [(0, 12), (1, 12), (2, 23), (3, 156), (4, 5), (5, 5), (6, 157), (7, 158), (8, 159), (9, 160), (10, 161)]), []⟩,
 ⟨11, 48, (.st [(0, 12), (1, 12), (2, 23), (3, 156), (4, 5), (5, 5), (6, 157), (7, 158), (8, 159), (9, 160), (10, 161)]), []⟩,
 ⟨2, 24, (.st [(0, 9), (1, 3)]), []⟩,
 ⟨2, 24, (.st [(0, 9), (1, 3)]), [.s, .i .i64]⟩,
 ⟨2, 16, (.arr 2 3), (zr 2 [.i .i64])⟩]
def cds : List (Nat × Ty) := [(0, (.tp .un)),
 (2, cI),
 (3, cI),
 (4, .bl),
 (5, (.i .u8)),
 (9, .str),
 (21, (.i .i32)),
 (22, (.sl (.i .u8))),
 (23, (.i .u32)),
 (24, (.ar 8 (.i .u32))),
 (26, c_api_Regs),
 (27, cI),
 (28, (.sl c_api_Entry)),
 (30, c_api_Stat),
 (32, c_api_Answer),
 (33, (.nz .np)),
 (34, (.tp (.pr (.nz .np) (.pr cI .un)))),
 (36, (.tp (.pr cI (.pr cI .un)))),
 (39, (.sl cI)),
 (41, c_api_Cred),
 (42, (.sl (.ar 2 cI))),
 (43, (.ar 16 cI)),
 (45, c_ringref5_Signals),
 (46, (.ar 16 (.i .u8))),
 (48, c_ringref5_Page),
 (49, (.ar 64 c_ringref5_Page)),
 (51, c_ringref5_Man),
 (53, (.tp (.pr .str (.pr cI .un)))),
 (57, c_api_Call),
 (58, (.tp (.pr c_api_Call (.pr cI .un)))),
 (64, (.tp (.pr (.sl (.i .u8)) (.pr cI .un)))),
 (87, (.nz .nm)),
 (88, (.sl (.vp 1))),
 (90, c_space_Memory),
 (91, (.vm 2)),
 (93, (.vp 1)),
 (95, c_space_entry),
 (96, (.tp (.pr c_space_entry (.pr .bl .un)))),
 (99, (.tp (.pr (.i .u8) (.pr cI .un)))),
 (101, (.nz .np)),
 (102, (.tp (.pr (.i .u8) (.pr .bl .un)))),
 (112, c_space_page),
 (165, c_api_Entry),
 (166, (.ar 2 cI))]
def sgs : List (Nat × Nat × List (Ty × List OK)) := [(5, 0, [((.tp (.pr (.nz .np) (.pr cI .un))), []), ((.tp (.pr (.rf 0 []) (.pr cI .un))), [(.bx (.pr cI (.pr cI (.pr cI (.pr (.sr 1) (.pr (.sr 2) .un)))))), (.rw 93 1 (.vp 1)), (.mp cI (.vm 2))])]),
 (6, 4, [((.tp (.pr cI (.pr cI .un))), [(.mp cI (.vm 2))])]),
 (7, 0, [(cI, [])]),
 (25, 3, [(cI, [])]),
 (26, 3, [(.bl, [])]),
 (37, 4, [(cI, [])]),
 (38, 4, [((.vp 1), [])]),
 (54, 4, [((.tp .un), [])]),
 (27, 4, [((.vp 1), [(.rw 93 1 (.vp 1))])]),
 (8, 5, [(cI, [(.rw 93 1 (.vp 1))])]),
 (35, 4, [(.bl, [])]),
 (36, 5, [((.sl (.i .u8)), [])]),
 (28, 5, [((.tp (.pr (.i .u8) (.pr cI .un))), [])]),
 (9, 5, [((.tp (.pr .str (.pr cI .un))), [])]),
 (29, 1, [((.tp (.pr (.i .u8) (.pr .bl .un))), [])]),
 (10, 1, [((.tp (.pr .str (.pr cI .un))), [])]),
 (30, 0, [(cI, [])]),
 (16, 5, [((.tp (.pr (.sl (.i .u8)) (.pr cI .un))), [])]),
 (11, 5, [((.tp (.pr c_api_Call (.pr cI .un))), [])]),
 (31, 0, [(cI, [])]),
 (12, 1, [((.tp (.pr c_api_Call (.pr cI .un))), []), ((.tp (.pr (.pr cI (.pr cI (.pr cI (.pr cI (.pr .str (.pr .str (.pr (.sr 1) .un))))))) (.pr cI .un))), [(.rw 5 1 (.i .u8))])]),
 (32, 0, [(.bl, [])]),
 (13, 0, [(.bl, [])]),
 (64, 5, [(cI, [])]),
 (55, 5, [(cI, [(.rw 93 1 (.vp 1))])]),
 (33, 5, [(cI, [(.rw 93 1 (.vp 1))])]),
 (14, 5, [(c_api_Regs, [(.rw 93 1 (.vp 1))])]),
 (34, 1, [(.bl, [])]),
 (15, 1, [(c_api_Regs, [])]),
 (3, 2, [(.bl, [])])]
def pols : List (Nat × Nat × Pol) := [(3, 2, ⟨[(23, [.fz 12])], [(2, ⟨[], [0, 1, 6, 7, 9, 10]⟩), (13, ⟨[.ns 14 (.sl (.i .u8))], [0, 1, 6, 7, 9, 10, 11, 12, 13, 14, 47]⟩), (27, ⟨[], [1, 6, 7, 9, 11, 12, 20, 22]⟩), (23, ⟨[], [1, 6, 7, 9, 11, 12, 16, 17, 18, 19, 20, 21, 22, 23]⟩)], [(8, ⟨[], [0, 1, 6, 7, 9, 10, 11, 12, 47]⟩), (33, ⟨[], [1, 12, 174, 175, 176]⟩)], [], [(14, 77), (23, 140), (30, 173)], [], []⟩),
 (5, 0, ⟨[], [], [], [.tb 320 3 93 1 (.vp 1)], [(1, 19)], [], []⟩),
 (6, 4, ⟨[], [], [(2, ⟨[], [0, 4]⟩)], [], [], [], []⟩),
 (8, 5, ⟨[], [(7, ⟨[], [0, 1, 2, 3, 4, 13]⟩)], [], [], [], [], []⟩),
 (25, 3, ⟨[], [], [], [], [(3, 19)], [], []⟩),
 (37, 4, ⟨[], [], [(3, ⟨[], [3, 9, 10, 11]⟩)], [], [], [], []⟩),
 (38, 4, ⟨[], [], [(3, ⟨[.ns 3 (.vp 1)], [3, 9, 10, 11]⟩)], [], [(5, 33)], [], []⟩),
 (9, 5, ⟨[], [], [(3, ⟨[.th 8 5 1 (.i .u8)], [0, 1, 2, 8, 12]⟩)], [], [], [], []⟩),
 (28, 5, ⟨[], [], [], [], [(3, 18)], [], []⟩),
 (35, 4, ⟨[], [(9, ⟨[], [0, 1, 2, 3, 4, 11, 12, 13]⟩)], [(6, ⟨[], [0, 1, 2, 3, 4, 11]⟩)], [], [(3, 23), (9, 55)], [], []⟩),
 (36, 5, ⟨[], [(6, ⟨[], [0, 1, 2, 3, 9, 10, 11]⟩)], [(3, ⟨[.th 9 5 1 (.i .u8)], [0, 1, 2, 3, 9, 10]⟩)], [.fs 8], [], [], []⟩),
 (10, 1, ⟨[], [], [(3, ⟨[], [0, 1, 6, 10]⟩)], [], [], [], []⟩),
 (29, 1, ⟨[], [], [], [], [(1, 37)], [], []⟩),
 (11, 5, ⟨[], [], [(4, ⟨[], [0, 1, 5, 6, 8, 9, 24, 25]⟩)], [], [(15, 84)], [], []⟩),
 (16, 5, ⟨[], [], [], [], [(3, 18)], [], []⟩),
 (12, 1, ⟨[], [(15, ⟨[], [0, 3, 4, 6, 7]⟩), (10, ⟨[], [0, 3, 4, 6, 7]⟩)], [(21, ⟨[.tbs 6 6 5 1 (.i .u8)], [0, 4, 6, 136, 137]⟩)], [], [(3, 8), (10, 85), (18, 133)], [], []⟩),
 (13, 0, ⟨[], [], [], [], [(1, 4)], [], []⟩),
 (32, 0, ⟨[], [], [(4, ⟨[], [0, 1, 12, 13]⟩)], [], [], [], []⟩),
 (14, 5, ⟨[], [(5, ⟨[.nbs 9 c_api_Answer], [7, 9, 10]⟩)], [], [], [(1, 25)], [], []⟩),
 (55, 5, ⟨[], [(12, ⟨[], [0, 1, 2, 9, 10, 12, 22, 23, 24]⟩), (8, ⟨[], [0, 1, 2, 9, 10, 11, 12, 22, 23, 24]⟩)], [(4, ⟨[], [0, 1, 2, 22, 23, 24]⟩)], [], [], [], []⟩),
 (64, 5, ⟨[], [], [(3, ⟨[], [0, 1, 2, 3, 9, 10]⟩)], [], [(3, 23)], [], []⟩),
 (15, 1, ⟨[], [(9, ⟨[.nbs 7 c_api_Answer], [0, 5, 6, 7, 8]⟩), (14, ⟨[], [5, 7, 8]⟩)], [(3, ⟨[], [0, 5, 6, 7, 8, 24, 25]⟩), (10, ⟨[], [0, 5, 6, 7, 8, 42, 43, 44]⟩)], [], [(1, 21)], [], []⟩)]
def aras : List (Nat × List Nat) := [(3, [1, 2]), (6, [2]), (8, [1, 2]), (9, [1, 2]), (11, [1, 2]), (14, [1, 2]), (16, [1, 2]), (27, [1]), (28, [1, 2]), (33, [1, 2]), (35, [2]), (36, [1, 2]), (37, [1]), (38, [1]), (54, [1]), (55, [1, 2]), (64, [1, 2])]
def gbs : List (Nat × Nat) := [(112, 1)]
def mpcs : List (Nat × Ty × Ty) := [(87, cI, (.vm 2)), (91, cI, c_space_entry)]
def cons : List Nat := []
def looks : List Nat := [32]
def kps : List (Nat × Nat × List Nat) := [(6, 4, [1]), (25, 3, [0, 1, 2]), (26, 3, [0, 1, 2]), (37, 4, [0, 1, 2, 3]), (38, 4, [0, 1, 2, 3]), (54, 4, [1, 2]), (27, 4, [2]), (8, 5, [2]), (35, 4, [0, 1, 2, 3]), (36, 5, [1, 2, 4]), (28, 5, [1, 2, 4]), (9, 5, [1, 2, 4]), (29, 1, [0]), (10, 1, [0]), (16, 5, [1, 2, 4]), (11, 5, [1, 2, 4]), (12, 1, [0]), (64, 5, [0, 1, 2, 3, 4]), (55, 5, [2]), (33, 5, [2]), (14, 5, [2])]
def EE (P : Program) : Env := ⟨P, TT, alst cds, al2 sgs, fun f n => (al2 pols f n).getD ⟨[], [], [], [], [], [], []⟩, fun f => (alst aras f).getD [], alst gbs, alst mpcs, fun f => memN f cons, fun f => memN f looks, fun f n => (al2 kps f n).getD []⟩
def prims {P : Program} : PrimT (EE P) := fun _ => none
def sums : SumT := fun _ _ => none
variable {P : Program}
/-- ringhall/space.New -/
def G_space_New (P : Program) (N d : Nat) (frames_7 : Int) (slots_8 : Int) : Option ((((Unit × Int × Unit)) × Unit) ⊕ (((Unit × Int × Unit)) × ((Int × Int × Int × Unit × Unit × Unit)) × (List (Option Nat)) × (List ((Int) × (Option Nat))) × Unit)) := R4 (EE P) prims sums N d 5 [⟨cI, frames_7⟩, ⟨cI, slots_8⟩] []
/-- (*ringhall/space.Memory).Make -/
def G_space_Memory_Make (P : Program) (N d : Nat) (s30 : (Int × Int × Int × Unit × Unit × Unit)) (s31 : List (Option Nat)) (s32 : List ((Int) × (Option Nat))) (s33 : List (List ((Int) × (S_space_entry)))) : Option (((Int × Int × Unit)) × ((Int × Int × Int × Unit × Unit × Unit)) × (List (List ((Int) × (S_space_entry)))) × (List ((Int) × (Option Nat))) × Unit) := R4 (EE P) prims sums N d 6 [⟨(.rf 0 []), ()⟩] [(.ob (.bx (.pr cI (.pr cI (.pr cI (.pr (.sr 1) (.pr (.sr 2) .un)))))) s30), (.ob (.rw 93 1 (.vp 1)) s31), (.ob (.mp cI (.vm 2)) s32), (.ob (.am 2 cI c_space_entry) s33)]
def G_space_Memory_Make_L2 (P : Program) (N d : Nat) (k : Nat) (s_34 : Int) (s35 : (Int × Int × Int × Unit × Unit × Unit)) (s36 : List (Option Nat)) (s37 : List (List ((Int) × (S_space_entry)))) (s38 : List ((Int) × (Option Nat))) : Option (((Int × Int × Unit)) × ((Int × Int × Int × Unit × Unit × Unit)) × (List (List ((Int) × (S_space_entry)))) × (List ((Int) × (Option Nat))) × Unit) := RL4 (EE P) prims sums N d 6 2 [] [(.bx (.pr cI (.pr cI (.pr cI (.pr (.sr 1) (.pr (.sr 4) .un)))))), (.rw 93 1 (.vp 1)), .no, (.am 2 cI c_space_entry)] k ⟨[(0, ⟨(.rf 0 []), ()⟩), (4, ⟨cI, s_34⟩)], [(0, (.ob (.bx (.pr cI (.pr cI (.pr cI (.pr (.sr 1) (.pr (.sr 8) .un)))))) s35)), (1, (.ob (.rw 93 1 (.vp 1)) s36)), (2, .none), (3, (.ob (.am 2 cI c_space_entry) s37)), (4, (.gh 0 ⟨(.rf 0 []), ()⟩)), (5, (.gh 1 ⟨(.sr 1), ()⟩)), (6, (.gh 2 ⟨(.sr 2), ()⟩)), (7, (.gh 3 ⟨.dead, ()⟩)), (8, (.ob (.mp cI (.vm 2)) s38))], 9⟩
/-- ringhall/ringref5.Rest -/
def G_ringref5_Rest (P : Program) (N d : Nat) (n_41 : Int) (m_42 : Int) : Option ((Int) × Unit) := R4 (EE P) prims sums N d 7 [⟨cI, n_41⟩, ⟨cI, m_42⟩] []
/-- (*ringhall/space.Memory).span -/
def G_space_Memory_span (P : Program) (N d : Nat) (s_82 : Int) (first_83 : Int) (n_84 : Int) (rights_85 : Int) (s86 : (Int × Int × Int × Unit × Unit × Unit)) (s87 : List (Option Nat)) (s88 : List ((Int) × (Option Nat))) : Option ((Int) × Unit) := R4 (EE P) prims sums N d 25 [⟨(.rf 0 []), ()⟩, ⟨cI, s_82⟩, ⟨cI, first_83⟩, ⟨cI, n_84⟩, ⟨cI, rights_85⟩] [(.ob (.bx (.pr cI (.pr cI (.pr cI (.pr (.sr 1) (.pr (.sr 2) .un)))))) s86), (.ob (.rw 93 1 (.vp 1)) s87), (.ob (.mp cI (.vm 2)) s88)]
/-- (*ringhall/space.Memory).room -/
def G_space_Memory_room (P : Program) (N d : Nat) (n_103 : Int) (s104 : (Int × Int × Int × Unit × Unit × Unit)) (s105 : List (Option Nat)) (s106 : List ((Int) × (Option Nat))) : Option ((Bool) × Unit) := R4 (EE P) prims sums N d 26 [⟨(.rf 0 []), ()⟩, ⟨cI, n_103⟩] [(.ob (.bx (.pr cI (.pr cI (.pr cI (.pr (.sr 1) (.pr (.sr 2) .un)))))) s104), (.ob (.rw 93 1 (.vp 1)) s105), (.ob (.mp cI (.vm 2)) s106)]
/-- (*ringhall/space.Memory).here -/
def G_space_Memory_here (P : Program) (N d : Nat) (s123 : (Int × Int × Int × Unit × Unit × Unit)) (s124 : List (Option Nat)) (s125 : List ((Int) × (Option Nat))) (s126 : List (S_space_page)) : Option ((Int) × Unit) := R4 (EE P) prims sums N d 37 [⟨(.rf 0 []), ()⟩] [(.ob (.bx (.pr cI (.pr cI (.pr cI (.pr (.sr 1) (.pr (.sr 2) .un)))))) s123), (.ob (.rw 93 1 (.vp 1)) s124), (.ob (.mp cI (.vm 2)) s125), (.ob (.ab 1 c_space_page) s126)]
def G_space_Memory_here_L3 (P : Program) (N d : Nat) (k : Nat) (n_127 : Int) (t_128 : Int) (t_129 : Int) (s130 : (Int × Int × Int × Unit × Unit × Unit)) (s131 : List (Option Nat)) (s132 : List ((Int) × (Option Nat))) (s133 : List (S_space_page)) : Option ((Int) × Unit) := RL4 (EE P) prims sums N d 37 3 [] [(.bx (.pr cI (.pr cI (.pr cI (.pr (.sr 1) (.pr (.sr 2) .un)))))), (.rw 93 1 (.vp 1)), (.mp cI (.vm 2)), (.ab 1 c_space_page)] k ⟨[(3, ⟨cI, n_127⟩), (9, ⟨(.sr 1), ()⟩), (10, ⟨cI, t_128⟩), (11, ⟨cI, t_129⟩)], [(0, (.ob (.bx (.pr cI (.pr cI (.pr cI (.pr (.sr 1) (.pr (.sr 2) .un)))))) s130)), (1, (.ob (.rw 93 1 (.vp 1)) s131)), (2, (.ob (.mp cI (.vm 2)) s132)), (3, (.ob (.ab 1 c_space_page) s133)), (4, (.gh 0 ⟨(.rf 0 []), ()⟩)), (5, (.gh 1 ⟨(.sr 1), ()⟩)), (6, (.gh 2 ⟨(.sr 2), ()⟩)), (7, (.gh 3 ⟨.dead, ()⟩))], 8⟩
/-- (*ringhall/space.Memory).oldest -/
def G_space_Memory_oldest (P : Program) (N d : Nat) (s139 : (Int × Int × Int × Unit × Unit × Unit)) (s140 : List (Option Nat)) (s141 : List ((Int) × (Option Nat))) (s142 : List (S_space_page)) : Option ((Option Nat) × Unit) := R4 (EE P) prims sums N d 38 [⟨(.rf 0 []), ()⟩] [(.ob (.bx (.pr cI (.pr cI (.pr cI (.pr (.sr 1) (.pr (.sr 2) .un)))))) s139), (.ob (.rw 93 1 (.vp 1)) s140), (.ob (.mp cI (.vm 2)) s141), (.ob (.ab 1 c_space_page) s142)]
def G_space_Memory_oldest_L3 (P : Program) (N d : Nat) (k : Nat) (best_143 : Option Nat) (t_144 : Int) (t_145 : Int) (s146 : (Int × Int × Int × Unit × Unit × Unit)) (s147 : List (Option Nat)) (s148 : List ((Int) × (Option Nat))) (s149 : List (S_space_page)) : Option ((Option Nat) × Unit) := RL4 (EE P) prims sums N d 38 3 [] [(.bx (.pr cI (.pr cI (.pr cI (.pr (.sr 1) (.pr (.sr 2) .un)))))), (.rw 93 1 (.vp 1)), (.mp cI (.vm 2)), (.ab 1 c_space_page)] k ⟨[(3, ⟨(.vp 1), best_143⟩), (9, ⟨(.sr 1), ()⟩), (10, ⟨cI, t_144⟩), (11, ⟨cI, t_145⟩)], [(0, (.ob (.bx (.pr cI (.pr cI (.pr cI (.pr (.sr 1) (.pr (.sr 2) .un)))))) s146)), (1, (.ob (.rw 93 1 (.vp 1)) s147)), (2, (.ob (.mp cI (.vm 2)) s148)), (3, (.ob (.ab 1 c_space_page) s149)), (4, (.gh 0 ⟨(.rf 0 []), ()⟩)), (5, (.gh 1 ⟨(.sr 1), ()⟩)), (6, (.gh 2 ⟨(.sr 2), ()⟩)), (7, (.gh 3 ⟨.dead, ()⟩))], 8⟩
/-- (*ringhall/space.Memory).ask -/
def G_space_Memory_ask (P : Program) (N d : Nat) (p_114 : Option Nat) (s115 : (Int × Int × Int × Unit × Unit × Unit)) (s116 : List (Option Nat)) (s117 : List ((Int) × (Option Nat))) (s118 : List (S_space_page)) : Option (((Unit)) × ((Int × Int × Int × Unit × Unit × Unit)) × (List (S_space_page)) × Unit) := R4 (EE P) prims sums N d 54 [⟨(.rf 0 []), ()⟩, ⟨(.vp 1), p_114⟩] [(.ob (.bx (.pr cI (.pr cI (.pr cI (.pr (.sr 1) (.pr (.sr 2) .un)))))) s115), (.ob (.rw 93 1 (.vp 1)) s116), (.ob (.mp cI (.vm 2)) s117), (.ob (.ab 1 c_space_page) s118)]
/-- (*ringhall/space.Memory).add -/
def G_space_Memory_add (P : Program) (N d : Nat) (data_109 : Ar 16 (Int)) (s110 : (Int × Int × Int × Unit × Unit × Unit)) (s111 : List (Option Nat)) (s112 : List ((Int) × (Option Nat))) (s113 : List (S_space_page)) : Option ((Option Nat) × ((Int × Int × Int × Unit × Unit × Unit)) × (List (S_space_page)) × (List (Option Nat)) × Unit) := R4 (EE P) prims sums N d 27 [⟨(.rf 0 []), ()⟩, ⟨(.ar 16 (.i .u8)), data_109⟩] [(.ob (.bx (.pr cI (.pr cI (.pr cI (.pr (.sr 1) (.pr (.sr 2) .un)))))) s110), (.ob (.rw 93 1 (.vp 1)) s111), (.ob (.mp cI (.vm 2)) s112), (.ob (.ab 1 c_space_page) s113)]
/-- (*ringhall/space.Memory).Put -/
def G_space_Memory_Put (P : Program) (N d : Nat) (s_73 : Int) (at_74 : Int) (rights_75 : Int) (data_76 : List (Int)) (s77 : (Int × Int × Int × Unit × Unit × Unit)) (s78 : List (Option Nat)) (s79 : List ((Int) × (Option Nat))) (s80 : List (S_space_page)) (s81 : List (List ((Int) × (S_space_entry)))) : Option ((Int) × ((Int × Int × Int × Unit × Unit × Unit)) × (List (S_space_page)) × (List (List ((Int) × (S_space_entry)))) × (List (Option Nat)) × Unit) := R4 (EE P) prims sums N d 8 [⟨(.rf 0 []), ()⟩, ⟨cI, s_73⟩, ⟨cI, at_74⟩, ⟨cI, rights_75⟩, ⟨(.sl (.i .u8)), data_76⟩] [(.ob (.bx (.pr cI (.pr cI (.pr cI (.pr (.sr 1) (.pr (.sr 2) .un)))))) s77), (.ob (.rw 93 1 (.vp 1)) s78), (.ob (.mp cI (.vm 2)) s79), (.ob (.ab 1 c_space_page) s80), (.ob (.am 2 cI c_space_entry) s81)]
def G_space_Memory_Put_J7 (P : Program) (N d : Nat) (s_93 : Int) (at_94 : Int) (rights_95 : Int) (data_96 : List (Int)) (is_97 : Bool) (s98 : (Int × Int × Int × Unit × Unit × Unit)) (s99 : List ((Int) × (Option Nat))) (s100 : List (S_space_page)) (s101 : List (List ((Int) × (S_space_entry)))) (s102 : List (Option Nat)) : Option ((Int) × ((Int × Int × Int × Unit × Unit × Unit)) × (List (S_space_page)) × (List (List ((Int) × (S_space_entry)))) × (List (Option Nat)) × Unit) := RJ (EE P) prims sums N d 8 7 [] [(.bx (.pr cI (.pr cI (.pr cI (.pr (.sr 5) (.pr (.sr 2) .un)))))), .no, (.mp cI (.vm 2)), (.ab 1 c_space_page), (.am 2 cI c_space_entry)] ⟨[(0, ⟨(.rf 0 []), ()⟩), (1, ⟨cI, s_93⟩), (2, ⟨cI, at_94⟩), (3, ⟨cI, rights_95⟩), (4, ⟨(.sl (.i .u8)), data_96⟩), (13, ⟨.bl, is_97⟩)], [(0, (.ob (.bx (.pr cI (.pr cI (.pr cI (.pr (.sr 10) (.pr (.sr 2) .un)))))) s98)), (1, .none), (2, (.ob (.mp cI (.vm 2)) s99)), (3, (.ob (.ab 1 c_space_page) s100)), (4, (.ob (.am 2 cI c_space_entry) s101)), (5, (.gh 0 ⟨(.rf 0 []), ()⟩)), (6, (.gh 1 ⟨(.sr 1), ()⟩)), (7, (.gh 2 ⟨(.sr 2), ()⟩)), (8, (.gh 3 ⟨.dead, ()⟩)), (9, (.gh 4 ⟨.dead, ()⟩)), (10, (.ob (.rw 93 1 (.vp 1)) s102))], 11⟩
/-- (*ringhall/space.Memory).may -/
def G_space_Memory_may (P : Program) (N d : Nat) (s_201 : Int) (addr_202 : Int) (n_203 : Int) (want_204 : Int) (s205 : (Int × Int × Int × Unit × Unit × Unit)) (s206 : List (Option Nat)) (s207 : List ((Int) × (Option Nat))) (s208 : List (List ((Int) × (S_space_entry)))) : Option ((Bool) × Unit) := R4 (EE P) prims sums N d 35 [⟨(.rf 0 []), ()⟩, ⟨cI, s_201⟩, ⟨cI, addr_202⟩, ⟨cI, n_203⟩, ⟨cI, want_204⟩] [(.ob (.bx (.pr cI (.pr cI (.pr cI (.pr (.sr 1) (.pr (.sr 2) .un)))))) s205), (.ob (.rw 93 1 (.vp 1)) s206), (.ob (.mp cI (.vm 2)) s207), (.ob (.am 2 cI c_space_entry) s208)]
def G_space_Memory_may_L6 (P : Program) (N d : Nat) (k : Nat) (s_210 : Int) (addr_211 : Int) (n_212 : Int) (want_213 : Int) (k_214 : Int) (s215 : (Int × Int × Int × Unit × Unit × Unit)) (s216 : List (Option Nat)) (s217 : List ((Int) × (Option Nat))) (s218 : List (List ((Int) × (S_space_entry)))) : Option ((Bool) × Unit) := RL4 (EE P) prims sums N d 35 6 [] [(.bx (.pr cI (.pr cI (.pr cI (.pr (.sr 1) (.pr (.sr 2) .un)))))), (.rw 93 1 (.vp 1)), (.mp cI (.vm 2)), (.am 2 cI c_space_entry)] k ⟨[(0, ⟨(.rf 0 []), ()⟩), (1, ⟨cI, s_210⟩), (2, ⟨cI, addr_211⟩), (3, ⟨cI, n_212⟩), (4, ⟨cI, want_213⟩), (11, ⟨cI, k_214⟩)], [(0, (.ob (.bx (.pr cI (.pr cI (.pr cI (.pr (.sr 1) (.pr (.sr 2) .un)))))) s215)), (1, (.ob (.rw 93 1 (.vp 1)) s216)), (2, (.ob (.mp cI (.vm 2)) s217)), (3, (.ob (.am 2 cI c_space_entry) s218)), (4, (.gh 0 ⟨(.rf 0 []), ()⟩)), (5, (.gh 1 ⟨(.sr 1), ()⟩)), (6, (.gh 2 ⟨(.sr 2), ()⟩)), (7, (.gh 3 ⟨.dead, ()⟩))], 8⟩
def G_space_Memory_may_J9 (P : Program) (N d : Nat) (k219 : Nat) (s_222 : Int) (addr_223 : Int) (n_224 : Int) (want_225 : Int) (k_226 : Int) (is_227 : Bool) (s228 : (Int × Int × Int × Unit × Unit × Unit)) (s229 : List (Option Nat)) (s230 : List ((Int) × (Option Nat))) (s231 : List (List ((Int) × (S_space_entry)))) (s232 : S_space_entry) : Option ((Bool) × Unit) := RJ (EE P) prims sums N d 35 9 [k219] [(.bx (.pr cI (.pr cI (.pr cI (.pr (.sr 1) (.pr (.sr 2) .un)))))), (.rw 93 1 (.vp 1)), (.mp cI (.vm 2)), (.am 2 cI c_space_entry)] ⟨[(0, ⟨(.rf 0 []), ()⟩), (1, ⟨cI, s_222⟩), (2, ⟨cI, addr_223⟩), (3, ⟨cI, n_224⟩), (4, ⟨cI, want_225⟩), (11, ⟨cI, k_226⟩), (12, ⟨(.rf 8 []), ()⟩), (13, ⟨.bl, is_227⟩)], [(0, (.ob (.bx (.pr cI (.pr cI (.pr cI (.pr (.sr 1) (.pr (.sr 2) .un)))))) s228)), (1, (.ob (.rw 93 1 (.vp 1)) s229)), (2, (.ob (.mp cI (.vm 2)) s230)), (3, (.ob (.am 2 cI c_space_entry) s231)), (4, (.gh 0 ⟨(.rf 0 []), ()⟩)), (5, (.gh 1 ⟨(.sr 1), ()⟩)), (6, (.gh 2 ⟨(.sr 2), ()⟩)), (7, (.gh 3 ⟨.dead, ()⟩)), (8, (.ob (.bx c_space_entry) s232))], 9⟩
/-- (*ringhall/space.Memory).fetch -/
def G_space_Memory_fetch (P : Program) (N d : Nat) (s_235 : Int) (addr_236 : Int) (n_237 : Int) (s238 : (Int × Int × Int × Unit × Unit × Unit)) (s239 : List (Option Nat)) (s240 : List ((Int) × (Option Nat))) (s241 : List (S_space_page)) (s242 : List (List ((Int) × (S_space_entry)))) : Option ((List (Int)) × ((Int × Int × Int × Unit × Unit × Unit)) × (List (S_space_page)) × Unit) := R4 (EE P) prims sums N d 36 [⟨(.rf 0 []), ()⟩, ⟨cI, s_235⟩, ⟨cI, addr_236⟩, ⟨cI, n_237⟩] [(.ob (.bx (.pr cI (.pr cI (.pr cI (.pr (.sr 1) (.pr (.sr 2) .un)))))) s238), (.ob (.rw 93 1 (.vp 1)) s239), (.ob (.mp cI (.vm 2)) s240), (.ob (.ab 1 c_space_page) s241), (.ob (.am 2 cI c_space_entry) s242)]
def G_space_Memory_fetch_L3 (P : Program) (N d : Nat) (k : Nat) (s_243 : Int) (addr_244 : Int) (n_245 : Int) (i_246 : Int) (s247 : (Int × Int × Int × Unit × Unit × Unit)) (s248 : List (Option Nat)) (s249 : List ((Int) × (Option Nat))) (s250 : List (S_space_page)) (s251 : List (List ((Int) × (S_space_entry)))) (s252 : List (Int)) : Option ((List (Int)) × ((Int × Int × Int × Unit × Unit × Unit)) × (List (S_space_page)) × Unit) := RL4 (EE P) prims sums N d 36 3 [] [(.bx (.pr cI (.pr cI (.pr cI (.pr (.sr 1) (.pr (.sr 2) .un)))))), (.rw 93 1 (.vp 1)), (.mp cI (.vm 2)), (.ab 1 c_space_page), (.am 2 cI c_space_entry)] k ⟨[(0, ⟨(.rf 0 []), ()⟩), (1, ⟨cI, s_243⟩), (2, ⟨cI, addr_244⟩), (3, ⟨cI, n_245⟩), (9, ⟨(.sr 10), ()⟩), (10, ⟨cI, i_246⟩)], [(0, (.ob (.bx (.pr cI (.pr cI (.pr cI (.pr (.sr 1) (.pr (.sr 2) .un)))))) s247)), (1, (.ob (.rw 93 1 (.vp 1)) s248)), (2, (.ob (.mp cI (.vm 2)) s249)), (3, (.ob (.ab 1 c_space_page) s250)), (4, (.ob (.am 2 cI c_space_entry) s251)), (5, (.gh 0 ⟨(.rf 0 []), ()⟩)), (6, (.gh 1 ⟨(.sr 1), ()⟩)), (7, (.gh 2 ⟨(.sr 2), ()⟩)), (8, (.gh 3 ⟨.dead, ()⟩)), (9, (.gh 4 ⟨.dead, ()⟩)), (10, (.ob (.rw 5 1 (.i .u8)) s252))], 11⟩
def G_space_Memory_fetch_J6 (P : Program) (N d : Nat) (k253 : Nat) (s_256 : Int) (addr_257 : Int) (n_258 : Int) (i_259 : Int) (p_260 : Option Nat) (s261 : (Int × Int × Int × Unit × Unit × Unit)) (s262 : List (Option Nat)) (s263 : List ((Int) × (Option Nat))) (s264 : List (S_space_page)) (s265 : List (List ((Int) × (S_space_entry)))) (s266 : List (Int)) : Option ((List (Int)) × ((Int × Int × Int × Unit × Unit × Unit)) × (List (S_space_page)) × Unit) := RJ (EE P) prims sums N d 36 6 [k253] [(.bx (.pr cI (.pr cI (.pr cI (.pr (.sr 1) (.pr (.sr 2) .un)))))), (.rw 93 1 (.vp 1)), (.mp cI (.vm 2)), (.ab 1 c_space_page), (.am 2 cI c_space_entry)] ⟨[(0, ⟨(.rf 0 []), ()⟩), (1, ⟨cI, s_256⟩), (2, ⟨cI, addr_257⟩), (3, ⟨cI, n_258⟩), (9, ⟨(.sr 10), ()⟩), (10, ⟨cI, i_259⟩), (11, ⟨(.vp 1), p_260⟩)], [(0, (.ob (.bx (.pr cI (.pr cI (.pr cI (.pr (.sr 1) (.pr (.sr 2) .un)))))) s261)), (1, (.ob (.rw 93 1 (.vp 1)) s262)), (2, (.ob (.mp cI (.vm 2)) s263)), (3, (.ob (.ab 1 c_space_page) s264)), (4, (.ob (.am 2 cI c_space_entry) s265)), (5, (.gh 0 ⟨(.rf 0 []), ()⟩)), (6, (.gh 1 ⟨(.sr 1), ()⟩)), (7, (.gh 2 ⟨(.sr 2), ()⟩)), (8, (.gh 3 ⟨.dead, ()⟩)), (9, (.gh 4 ⟨.dead, ()⟩)), (10, (.ob (.rw 5 1 (.i .u8)) s266))], 11⟩
/-- (*ringhall/space.Memory).Load -/
def G_space_Memory_Load (P : Program) (N d : Nat) (s_192 : Int) (addr_193 : Int) (want_194 : Int) (s195 : (Int × Int × Int × Unit × Unit × Unit)) (s196 : List (Option Nat)) (s197 : List ((Int) × (Option Nat))) (s198 : List (S_space_page)) (s199 : List (List ((Int) × (S_space_entry)))) : Option (((Int × Int × Unit)) × ((Int × Int × Int × Unit × Unit × Unit)) × (List (S_space_page)) × Unit) := R4 (EE P) prims sums N d 28 [⟨(.rf 0 []), ()⟩, ⟨cI, s_192⟩, ⟨(.i .u32), addr_193⟩, ⟨cI, want_194⟩] [(.ob (.bx (.pr cI (.pr cI (.pr cI (.pr (.sr 1) (.pr (.sr 2) .un)))))) s195), (.ob (.rw 93 1 (.vp 1)) s196), (.ob (.mp cI (.vm 2)) s197), (.ob (.ab 1 c_space_page) s198), (.ob (.am 2 cI c_space_entry) s199)]
/-- ringhall/edge.Text -/
def G_edge_Text (P : Program) (N d : Nat) (s_175 : Int) (at_176 : Int) (s177 : (Int × Int × Int × Unit × Unit × Unit)) (s178 : List (Option Nat)) (s179 : List ((Int) × (Option Nat))) (s180 : List (S_space_page)) (s181 : List (List ((Int) × (S_space_entry)))) : Option (((List UInt8 × Int × Unit)) × ((Int × Int × Int × Unit × Unit × Unit)) × (List (S_space_page)) × Unit) := R4 (EE P) prims sums N d 9 [⟨(.rf 0 []), ()⟩, ⟨cI, s_175⟩, ⟨(.i .u32), at_176⟩] [(.ob (.bx (.pr cI (.pr cI (.pr cI (.pr (.sr 1) (.pr (.sr 2) .un)))))) s177), (.ob (.rw 93 1 (.vp 1)) s178), (.ob (.mp cI (.vm 2)) s179), (.ob (.ab 1 c_space_page) s180), (.ob (.am 2 cI c_space_entry) s181)]
def G_edge_Text_L3 (P : Program) (N d : Nat) (k : Nat) (s_182 : Int) (at_183 : Int) (t_184 : Int) (s185 : (Int × Int × Int × Unit × Unit × Unit)) (s186 : List (Option Nat)) (s187 : List ((Int) × (Option Nat))) (s188 : List (S_space_page)) (s189 : List (List ((Int) × (S_space_entry)))) (s190 : List (Int)) : Option (((List UInt8 × Int × Unit)) × ((Int × Int × Int × Unit × Unit × Unit)) × (List (S_space_page)) × Unit) := RL4 (EE P) prims sums N d 9 3 [] [(.bx (.pr cI (.pr cI (.pr cI (.pr (.sr 1) (.pr (.sr 2) .un)))))), (.rw 93 1 (.vp 1)), (.mp cI (.vm 2)), (.ab 1 c_space_page), (.am 2 cI c_space_entry)] k ⟨[(0, ⟨(.rf 0 []), ()⟩), (1, ⟨cI, s_182⟩), (2, ⟨(.i .u32), at_183⟩), (8, ⟨(.sr 10), ()⟩), (12, ⟨(.i .u32), t_184⟩)], [(0, (.ob (.bx (.pr cI (.pr cI (.pr cI (.pr (.sr 1) (.pr (.sr 2) .un)))))) s185)), (1, (.ob (.rw 93 1 (.vp 1)) s186)), (2, (.ob (.mp cI (.vm 2)) s187)), (3, (.ob (.ab 1 c_space_page) s188)), (4, (.ob (.am 2 cI c_space_entry) s189)), (5, (.gh 0 ⟨(.rf 0 []), ()⟩)), (6, (.gh 1 ⟨(.sr 1), ()⟩)), (7, (.gh 2 ⟨(.sr 2), ()⟩)), (8, (.gh 3 ⟨.dead, ()⟩)), (9, (.gh 4 ⟨.dead, ()⟩)), (10, (.ob (.rw 5 1 (.i .u8)) s190))], 11⟩
/-- (*ringhall/ringref5.Man).Byte -/
def G_ringref5_Man_Byte (P : Program) (N d : Nat) (at_282 : Int) (want_283 : Int) (s284 : ((Int × Int × Unit × Int × Int × Int × Unit) × Unit × Unit × (Unit × Unit × Ar 16 (Int) × Unit) × Bool × Int × Ar 64 (S_ringref5_Page) × Unit)) : Option (((Int × Bool × Unit)) × Unit) := R4 (EE P) prims sums N d 29 [⟨(.rf 0 []), ()⟩, ⟨cI, at_282⟩, ⟨cI, want_283⟩] [(.ob (.bx (.pr (.pr cI (.pr cI (.pr .ns (.pr cI (.pr cI (.pr cI .un)))))) (.pr .ns (.pr .ns (.pr (.pr .ns (.pr .ns (.pr (.ar 16 cI) .un))) (.pr .bl (.pr cI (.pr (.ar 64 c_ringref5_Page) .un)))))))) s284)]
/-- (*ringhall/ringref5.Man).Text -/
def G_ringref5_Man_Text (P : Program) (N d : Nat) (at_275 : Int) (s276 : ((Int × Int × Unit × Int × Int × Int × Unit) × Unit × Unit × (Unit × Unit × Ar 16 (Int) × Unit) × Bool × Int × Ar 64 (S_ringref5_Page) × Unit)) : Option (((List UInt8 × Int × Unit)) × Unit) := R4 (EE P) prims sums N d 10 [⟨(.rf 0 []), ()⟩, ⟨(.i .u32), at_275⟩] [(.ob (.bx (.pr (.pr cI (.pr cI (.pr .ns (.pr cI (.pr cI (.pr cI .un)))))) (.pr .ns (.pr .ns (.pr (.pr .ns (.pr .ns (.pr (.ar 16 cI) .un))) (.pr .bl (.pr cI (.pr (.ar 64 c_ringref5_Page) .un)))))))) s276)]
def G_ringref5_Man_Text_L3 (P : Program) (N d : Nat) (k : Nat) (at_277 : Int) (s_278 : List UInt8) (t_279 : Int) (s280 : ((Int × Int × Unit × Int × Int × Int × Unit) × Unit × Unit × (Unit × Unit × Ar 16 (Int) × Unit) × Bool × Int × Ar 64 (S_ringref5_Page) × Unit)) : Option (((List UInt8 × Int × Unit)) × Unit) := RL4 (EE P) prims sums N d 10 3 [] [(.bx (.pr (.pr cI (.pr cI (.pr .ns (.pr cI (.pr cI (.pr cI .un)))))) (.pr .ns (.pr .ns (.pr (.pr .ns (.pr .ns (.pr (.ar 16 cI) .un))) (.pr .bl (.pr cI (.pr (.ar 64 c_ringref5_Page) .un))))))))] k ⟨[(0, ⟨(.rf 0 []), ()⟩), (1, ⟨(.i .u32), at_277⟩), (6, ⟨.str, s_278⟩), (10, ⟨(.i .u32), t_279⟩)], [(0, (.ob (.bx (.pr (.pr cI (.pr cI (.pr .ns (.pr cI (.pr cI (.pr cI .un)))))) (.pr .ns (.pr .ns (.pr (.pr .ns (.pr .ns (.pr (.ar 16 cI) .un))) (.pr .bl (.pr cI (.pr (.ar 64 c_ringref5_Page) .un)))))))) s280)), (1, (.gh 0 ⟨(.rf 0 []), ()⟩))], 2⟩
/-- ringhall/edge.texts -/
def G_edge_texts (P : Program) (N d : Nat) (num_299 : Int) : Option ((Int) × Unit) := R4 (EE P) prims sums N d 30 [⟨cI, num_299⟩] []
/-- (*ringhall/space.Memory).Read -/
def G_space_Memory_Read (P : Program) (N d : Nat) (s_320 : Int) (addr_321 : Int) (n_322 : Int) (s323 : (Int × Int × Int × Unit × Unit × Unit)) (s324 : List (Option Nat)) (s325 : List ((Int) × (Option Nat))) (s326 : List (S_space_page)) (s327 : List (List ((Int) × (S_space_entry)))) : Option (((List (Int) × Int × Unit)) × ((Int × Int × Int × Unit × Unit × Unit)) × (List (S_space_page)) × Unit) := R4 (EE P) prims sums N d 16 [⟨(.rf 0 []), ()⟩, ⟨cI, s_320⟩, ⟨cI, addr_321⟩, ⟨cI, n_322⟩] [(.ob (.bx (.pr cI (.pr cI (.pr cI (.pr (.sr 1) (.pr (.sr 2) .un)))))) s323), (.ob (.rw 93 1 (.vp 1)) s324), (.ob (.mp cI (.vm 2)) s325), (.ob (.ab 1 c_space_page) s326), (.ob (.am 2 cI c_space_entry) s327)]
/-- ringhall/edge.Take -/
def G_edge_Take (P : Program) (N d : Nat) (s_292 : Int) (r_293 : S_api_Regs) (s294 : (Int × Int × Int × Unit × Unit × Unit)) (s295 : List (Option Nat)) (s296 : List ((Int) × (Option Nat))) (s297 : List (S_space_page)) (s298 : List (List ((Int) × (S_space_entry)))) : Option (((S_api_Call × Int × Unit)) × ((Int × Int × Int × Unit × Unit × Unit)) × (List (S_space_page)) × Unit) := R4 (EE P) prims sums N d 11 [⟨(.rf 0 []), ()⟩, ⟨cI, s_292⟩, ⟨c_api_Regs, r_293⟩] [(.ob (.bx (.pr cI (.pr cI (.pr cI (.pr (.sr 1) (.pr (.sr 2) .un)))))) s294), (.ob (.rw 93 1 (.vp 1)) s295), (.ob (.mp cI (.vm 2)) s296), (.ob (.ab 1 c_space_page) s297), (.ob (.am 2 cI c_space_entry) s298)]
def G_edge_Take_L4 (P : Program) (N d : Nat) (k : Nat) (s_301 : Int) (n_302 : Int) (t_303 : Int) (t_304 : Int) (s305 : (Int × Int × Int × Unit × Unit × Unit)) (s306 : List (Option Nat)) (s307 : List ((Int) × (Option Nat))) (s308 : List (S_space_page)) (s309 : List (List ((Int) × (S_space_entry)))) (s310 : S_api_Regs) (s311 : (Int × Int × Int × Int × List UInt8 × List UInt8 × Unit × Unit)) (s312 : (Int × Int × Int × Int × List UInt8 × List UInt8 × Unit × Unit)) : Option (((S_api_Call × Int × Unit)) × ((Int × Int × Int × Unit × Unit × Unit)) × (List (S_space_page)) × Unit) := RL4 (EE P) prims sums N d 11 4 [] [(.bx (.pr cI (.pr cI (.pr cI (.pr (.sr 1) (.pr (.sr 2) .un)))))), (.rw 93 1 (.vp 1)), (.mp cI (.vm 2)), (.ab 1 c_space_page), (.am 2 cI c_space_entry)] k ⟨[(0, ⟨(.rf 0 []), ()⟩), (1, ⟨cI, s_301⟩), (5, ⟨(.rf 10 []), ()⟩), (6, ⟨(.rf 11 []), ()⟩), (8, ⟨(.rf 12 []), ()⟩), (9, ⟨cI, n_302⟩), (24, ⟨cI, t_303⟩), (25, ⟨cI, t_304⟩)], [(0, (.ob (.bx (.pr cI (.pr cI (.pr cI (.pr (.sr 1) (.pr (.sr 2) .un)))))) s305)), (1, (.ob (.rw 93 1 (.vp 1)) s306)), (2, (.ob (.mp cI (.vm 2)) s307)), (3, (.ob (.ab 1 c_space_page) s308)), (4, (.ob (.am 2 cI c_space_entry) s309)), (5, (.gh 0 ⟨(.rf 0 []), ()⟩)), (6, (.gh 1 ⟨(.sr 1), ()⟩)), (7, (.gh 2 ⟨(.sr 2), ()⟩)), (8, (.gh 3 ⟨.dead, ()⟩)), (9, (.gh 4 ⟨.dead, ()⟩)), (10, (.ob (.bx c_api_Regs) s310)), (11, (.ob (.bx (.pr cI (.pr cI (.pr cI (.pr cI (.pr .str (.pr .str (.pr .ns .un)))))))) s311)), (12, (.ob (.bx (.pr cI (.pr cI (.pr cI (.pr cI (.pr .str (.pr .str (.pr .ns .un)))))))) s312))], 13⟩
/-- ringhall/ringref5.signed -/
def G_ringref5_signed (P : Program) (N d : Nat) (x_335 : Int) : Option ((Int) × Unit) := R4 (EE P) prims sums N d 31 [⟨(.i .u32), x_335⟩] []
/-- (*ringhall/ringref5.Man).Taken -/
def G_ringref5_Man_Taken (P : Program) (N d : Nat) (r_333 : S_api_Regs) (s334 : ((Int × Int × Unit × Int × Int × Int × Unit) × Unit × Unit × (Unit × Unit × Ar 16 (Int) × Unit) × Bool × Int × Ar 64 (S_ringref5_Page) × Unit)) : Option ((((S_api_Call × Int × Unit)) × Unit) ⊕ ((((Int × Int × Int × Int × List UInt8 × List UInt8 × Unit × Unit) × Int × Unit)) × (List (Int)) × Unit)) := R4 (EE P) prims sums N d 12 [⟨(.rf 0 []), ()⟩, ⟨c_api_Regs, r_333⟩] [(.ob (.bx (.pr (.pr cI (.pr cI (.pr .ns (.pr cI (.pr cI (.pr cI .un)))))) (.pr .ns (.pr .ns (.pr (.pr .ns (.pr .ns (.pr (.ar 16 cI) .un))) (.pr .bl (.pr cI (.pr (.ar 64 c_ringref5_Page) .un)))))))) s334)]
def G_ringref5_Man_Taken_J10 (P : Program) (N d : Nat) (at_339 : Int) (s340 : ((Int × Int × Unit × Int × Int × Int × Unit) × Unit × Unit × (Unit × Unit × Ar 16 (Int) × Unit) × Bool × Int × Ar 64 (S_ringref5_Page) × Unit)) (s341 : S_api_Regs) (s342 : (Int × Int × Int × Int × List UInt8 × List UInt8 × Unit × Unit)) (s343 : (Int × Int × Int × Int × List UInt8 × List UInt8 × Unit × Unit)) : Option ((((S_api_Call × Int × Unit)) × Unit) ⊕ ((((Int × Int × Int × Int × List UInt8 × List UInt8 × Unit × Unit) × Int × Unit)) × (List (Int)) × Unit)) := RJ (EE P) prims sums N d 12 10 [] [(.bx (.pr (.pr cI (.pr cI (.pr .ns (.pr cI (.pr cI (.pr cI .un)))))) (.pr .ns (.pr .ns (.pr (.pr .ns (.pr .ns (.pr (.ar 16 cI) .un))) (.pr .bl (.pr cI (.pr (.ar 64 c_ringref5_Page) .un))))))))] ⟨[(0, ⟨(.rf 0 []), ()⟩), (3, ⟨(.rf 2 []), ()⟩), (4, ⟨(.rf 3 []), ()⟩), (6, ⟨(.rf 4 []), ()⟩), (7, ⟨cI, at_339⟩)], [(0, (.ob (.bx (.pr (.pr cI (.pr cI (.pr .ns (.pr cI (.pr cI (.pr cI .un)))))) (.pr .ns (.pr .ns (.pr (.pr .ns (.pr .ns (.pr (.ar 16 cI) .un))) (.pr .bl (.pr cI (.pr (.ar 64 c_ringref5_Page) .un)))))))) s340)), (1, (.gh 0 ⟨(.rf 0 []), ()⟩)), (2, (.ob (.bx c_api_Regs) s341)), (3, (.ob (.bx (.pr cI (.pr cI (.pr cI (.pr cI (.pr .str (.pr .str (.pr .ns .un)))))))) s342)), (4, (.ob (.bx (.pr cI (.pr cI (.pr cI (.pr cI (.pr .str (.pr .str (.pr .ns .un)))))))) s343))], 5⟩
def G_ringref5_Man_Taken_L21 (P : Program) (N d : Nat) (k : Nat) (t_359 : Int) (t_360 : Int) (s361 : ((Int × Int × Unit × Int × Int × Int × Unit) × Unit × Unit × (Unit × Unit × Ar 16 (Int) × Unit) × Bool × Int × Ar 64 (S_ringref5_Page) × Unit)) (s362 : (Int × Int × Int × Int × List UInt8 × List UInt8 × Unit × Unit)) (s363 : (Int × Int × Int × Int × List UInt8 × List UInt8 × Unit × Unit)) (s364 : List (Int)) : Option ((((S_api_Call × Int × Unit)) × Unit) ⊕ ((((Int × Int × Int × Int × List UInt8 × List UInt8 × Unit × Unit) × Int × Unit)) × (List (Int)) × Unit)) := RL4 (EE P) prims sums N d 12 21 [] [(.bx (.pr (.pr cI (.pr cI (.pr .ns (.pr cI (.pr cI (.pr cI .un)))))) (.pr .ns (.pr .ns (.pr (.pr .ns (.pr .ns (.pr (.ar 16 cI) .un))) (.pr .bl (.pr cI (.pr (.ar 64 c_ringref5_Page) .un))))))))] k ⟨[(0, ⟨(.rf 0 []), ()⟩), (4, ⟨(.rf 2 []), ()⟩), (6, ⟨(.rf 3 []), ()⟩), (136, ⟨cI, t_359⟩), (137, ⟨cI, t_360⟩)], [(0, (.ob (.bx (.pr (.pr cI (.pr cI (.pr .ns (.pr cI (.pr cI (.pr cI .un)))))) (.pr .ns (.pr .ns (.pr (.pr .ns (.pr .ns (.pr (.ar 16 cI) .un))) (.pr .bl (.pr cI (.pr (.ar 64 c_ringref5_Page) .un)))))))) s361)), (1, (.gh 0 ⟨(.rf 0 []), ()⟩)), (2, (.ob (.bx (.pr cI (.pr cI (.pr cI (.pr cI (.pr .str (.pr .str (.pr .ns .un)))))))) s362)), (3, (.ob (.bx (.pr cI (.pr cI (.pr cI (.pr cI (.pr .str (.pr .str (.pr (.sr 4) .un)))))))) s363)), (4, (.ob (.rw 5 1 (.i .u8)) s364))], 5⟩
/-- slices.Equal[[]byte,byte] -/
def G_slices_Equal (P : Program) (N d : Nat) (s_390 : List (Int)) (s_391 : List (Int)) : Option ((Bool) × Unit) := R4 (EE P) prims sums N d 32 [⟨(.sl (.i .u8)), s_390⟩, ⟨(.sl (.i .u8)), s_391⟩] []
def G_slices_Equal_L4 (P : Program) (N d : Nat) (k : Nat) (s_392 : List (Int)) (s_393 : List (Int)) (t_394 : Int) (t_395 : Int) : Option ((Bool) × Unit) := RL4 (EE P) prims sums N d 32 4 [] [] k ⟨[(0, ⟨(.sl (.i .u8)), s_392⟩), (1, ⟨(.sl (.i .u8)), s_393⟩), (12, ⟨cI, t_394⟩), (13, ⟨cI, t_395⟩)], [], 0⟩
/-- ringhall/ringlaw5.sameCall -/
def G_ringlaw5_sameCall (P : Program) (N d : Nat) (a_388 : S_api_Call) (b_389 : S_api_Call) : Option ((Bool) × Unit) := R4 (EE P) prims sums N d 13 [⟨c_api_Call, a_388⟩, ⟨c_api_Call, b_389⟩] []
/-- (*ringhall/space.Memory).shared -/
def G_space_Memory_shared (P : Program) (N d : Nat) (s_442 : Int) (addr_443 : Int) (n_444 : Int) (s445 : (Int × Int × Int × Unit × Unit × Unit)) (s446 : List (Option Nat)) (s447 : List ((Int) × (Option Nat))) (s448 : List (S_space_page)) (s449 : List (List ((Int) × (S_space_entry)))) : Option ((Int) × Unit) := R4 (EE P) prims sums N d 64 [⟨(.rf 0 []), ()⟩, ⟨cI, s_442⟩, ⟨cI, addr_443⟩, ⟨cI, n_444⟩] [(.ob (.bx (.pr cI (.pr cI (.pr cI (.pr (.sr 1) (.pr (.sr 2) .un)))))) s445), (.ob (.rw 93 1 (.vp 1)) s446), (.ob (.mp cI (.vm 2)) s447), (.ob (.ab 1 c_space_page) s448), (.ob (.am 2 cI c_space_entry) s449)]
def G_space_Memory_shared_L3 (P : Program) (N d : Nat) (k : Nat) (s_450 : Int) (addr_451 : Int) (n_452 : Int) (many_453 : Int) (k_454 : Int) (s455 : (Int × Int × Int × Unit × Unit × Unit)) (s456 : List (Option Nat)) (s457 : List ((Int) × (Option Nat))) (s458 : List (S_space_page)) (s459 : List (List ((Int) × (S_space_entry)))) : Option ((Int) × Unit) := RL4 (EE P) prims sums N d 64 3 [] [(.bx (.pr cI (.pr cI (.pr cI (.pr (.sr 1) (.pr (.sr 2) .un)))))), (.rw 93 1 (.vp 1)), (.mp cI (.vm 2)), (.ab 1 c_space_page), (.am 2 cI c_space_entry)] k ⟨[(0, ⟨(.rf 0 []), ()⟩), (1, ⟨cI, s_450⟩), (2, ⟨cI, addr_451⟩), (3, ⟨cI, n_452⟩), (9, ⟨cI, many_453⟩), (10, ⟨cI, k_454⟩)], [(0, (.ob (.bx (.pr cI (.pr cI (.pr cI (.pr (.sr 1) (.pr (.sr 2) .un)))))) s455)), (1, (.ob (.rw 93 1 (.vp 1)) s456)), (2, (.ob (.mp cI (.vm 2)) s457)), (3, (.ob (.ab 1 c_space_page) s458)), (4, (.ob (.am 2 cI c_space_entry) s459)), (5, (.gh 0 ⟨(.rf 0 []), ()⟩)), (6, (.gh 1 ⟨(.sr 1), ()⟩)), (7, (.gh 2 ⟨(.sr 2), ()⟩)), (8, (.gh 3 ⟨.dead, ()⟩)), (9, (.gh 4 ⟨.dead, ()⟩))], 10⟩
/-- (*ringhall/space.Memory).lay -/
def G_space_Memory_lay (P : Program) (N d : Nat) (s_434 : Int) (addr_435 : Int) (data_436 : List (Int)) (s437 : (Int × Int × Int × Unit × Unit × Unit)) (s438 : List (Option Nat)) (s439 : List ((Int) × (Option Nat))) (s440 : List (S_space_page)) (s441 : List (List ((Int) × (S_space_entry)))) : Option ((Int) × ((Int × Int × Int × Unit × Unit × Unit)) × (List (S_space_page)) × (List (List ((Int) × (S_space_entry)))) × (List (Option Nat)) × Unit) := R4 (EE P) prims sums N d 55 [⟨(.rf 0 []), ()⟩, ⟨cI, s_434⟩, ⟨cI, addr_435⟩, ⟨(.sl (.i .u8)), data_436⟩] [(.ob (.bx (.pr cI (.pr cI (.pr cI (.pr (.sr 1) (.pr (.sr 2) .un)))))) s437), (.ob (.rw 93 1 (.vp 1)) s438), (.ob (.mp cI (.vm 2)) s439), (.ob (.ab 1 c_space_page) s440), (.ob (.am 2 cI c_space_entry) s441)]
def G_space_Memory_lay_L4 (P : Program) (N d : Nat) (k : Nat) (s_470 : Int) (addr_471 : Int) (t_472 : List (Int)) (t_473 : Int) (t_474 : Int) (s475 : (Int × Int × Int × Unit × Unit × Unit)) (s476 : List ((Int) × (Option Nat))) (s477 : List (S_space_page)) (s478 : List (List ((Int) × (S_space_entry)))) (s479 : List (Option Nat)) : Option ((Int) × ((Int × Int × Int × Unit × Unit × Unit)) × (List (S_space_page)) × (List (List ((Int) × (S_space_entry)))) × (List (Option Nat)) × Unit) := RL4 (EE P) prims sums N d 55 4 [] [(.bx (.pr cI (.pr cI (.pr cI (.pr (.sr 5) (.pr (.sr 2) .un)))))), .no, (.mp cI (.vm 2)), (.ab 1 c_space_page), (.am 2 cI c_space_entry)] k ⟨[(0, ⟨(.rf 0 []), ()⟩), (1, ⟨cI, s_470⟩), (2, ⟨cI, addr_471⟩), (22, ⟨(.sl (.i .u8)), t_472⟩), (23, ⟨cI, t_473⟩), (24, ⟨cI, t_474⟩)], [(0, (.ob (.bx (.pr cI (.pr cI (.pr cI (.pr (.sr 10) (.pr (.sr 2) .un)))))) s475)), (1, .none), (2, (.ob (.mp cI (.vm 2)) s476)), (3, (.ob (.ab 1 c_space_page) s477)), (4, (.ob (.am 2 cI c_space_entry) s478)), (5, (.gh 0 ⟨(.rf 0 []), ()⟩)), (6, (.gh 1 ⟨(.sr 1), ()⟩)), (7, (.gh 2 ⟨(.sr 2), ()⟩)), (8, (.gh 3 ⟨.dead, ()⟩)), (9, (.gh 4 ⟨.dead, ()⟩)), (10, (.ob (.rw 93 1 (.vp 1)) s479))], 11⟩
def G_space_Memory_lay_J8 (P : Program) (N d : Nat) (k480 : Nat) (s_484 : Int) (addr_485 : Int) (i_486 : Int) (b_487 : Int) (k_488 : Int) (t_489 : List (Int)) (t_490 : Int) (t_491 : Int) (s492 : (Int × Int × Int × Unit × Unit × Unit)) (s493 : List ((Int) × (Option Nat))) (s494 : List (S_space_page)) (s495 : List (List ((Int) × (S_space_entry)))) (s496 : List (Option Nat)) (s497 : S_space_entry) : Option ((Int) × ((Int × Int × Int × Unit × Unit × Unit)) × (List (S_space_page)) × (List (List ((Int) × (S_space_entry)))) × (List (Option Nat)) × Unit) := RJ (EE P) prims sums N d 55 8 [k480] [(.bx (.pr cI (.pr cI (.pr cI (.pr (.sr 5) (.pr (.sr 2) .un)))))), .no, (.mp cI (.vm 2)), (.ab 1 c_space_page), (.am 2 cI c_space_entry)] ⟨[(0, ⟨(.rf 0 []), ()⟩), (1, ⟨cI, s_484⟩), (2, ⟨cI, addr_485⟩), (9, ⟨cI, i_486⟩), (10, ⟨(.i .u8), b_487⟩), (11, ⟨cI, k_488⟩), (12, ⟨(.rf 11 []), ()⟩), (22, ⟨(.sl (.i .u8)), t_489⟩), (23, ⟨cI, t_490⟩), (24, ⟨cI, t_491⟩)], [(0, (.ob (.bx (.pr cI (.pr cI (.pr cI (.pr (.sr 10) (.pr (.sr 2) .un)))))) s492)), (1, .none), (2, (.ob (.mp cI (.vm 2)) s493)), (3, (.ob (.ab 1 c_space_page) s494)), (4, (.ob (.am 2 cI c_space_entry) s495)), (5, (.gh 0 ⟨(.rf 0 []), ()⟩)), (6, (.gh 1 ⟨(.sr 1), ()⟩)), (7, (.gh 2 ⟨(.sr 2), ()⟩)), (8, (.gh 3 ⟨.dead, ()⟩)), (9, (.gh 4 ⟨.dead, ()⟩)), (10, (.ob (.rw 93 1 (.vp 1)) s496)), (11, (.ob (.bx c_space_entry) s497))], 12⟩
def G_space_Memory_lay_J12 (P : Program) (N d : Nat) (k480 : Nat) (s_509 : Int) (addr_510 : Int) (i_511 : Int) (b_512 : Int) (t_513 : List (Int)) (t_514 : Int) (t_515 : Int) (s516 : (Int × Int × Int × Unit × Unit × Unit)) (s517 : List ((Int) × (Option Nat))) (s518 : List (S_space_page)) (s519 : List (List ((Int) × (S_space_entry)))) (s520 : List (Option Nat)) (s521 : S_space_entry) : Option ((Int) × ((Int × Int × Int × Unit × Unit × Unit)) × (List (S_space_page)) × (List (List ((Int) × (S_space_entry)))) × (List (Option Nat)) × Unit) := RJ (EE P) prims sums N d 55 12 [k480] [(.bx (.pr cI (.pr cI (.pr cI (.pr (.sr 5) (.pr (.sr 2) .un)))))), .no, (.mp cI (.vm 2)), (.ab 1 c_space_page), (.am 2 cI c_space_entry)] ⟨[(0, ⟨(.rf 0 []), ()⟩), (1, ⟨cI, s_509⟩), (2, ⟨cI, addr_510⟩), (9, ⟨cI, i_511⟩), (10, ⟨(.i .u8), b_512⟩), (12, ⟨(.rf 11 []), ()⟩), (22, ⟨(.sl (.i .u8)), t_513⟩), (23, ⟨cI, t_514⟩), (24, ⟨cI, t_515⟩)], [(0, (.ob (.bx (.pr cI (.pr cI (.pr cI (.pr (.sr 10) (.pr (.sr 2) .un)))))) s516)), (1, .none), (2, (.ob (.mp cI (.vm 2)) s517)), (3, (.ob (.ab 1 c_space_page) s518)), (4, (.ob (.am 2 cI c_space_entry) s519)), (5, (.gh 0 ⟨(.rf 0 []), ()⟩)), (6, (.gh 1 ⟨(.sr 1), ()⟩)), (7, (.gh 2 ⟨(.sr 2), ()⟩)), (8, (.gh 3 ⟨.dead, ()⟩)), (9, (.gh 4 ⟨.dead, ()⟩)), (10, (.ob (.rw 93 1 (.vp 1)) s520)), (11, (.ob (.bx c_space_entry) s521))], 12⟩
/-- (*ringhall/space.Memory).Write -/
def G_space_Memory_Write (P : Program) (N d : Nat) (s_425 : Int) (addr_426 : Int) (data_427 : List (Int)) (s428 : (Int × Int × Int × Unit × Unit × Unit)) (s429 : List (Option Nat)) (s430 : List ((Int) × (Option Nat))) (s431 : List (S_space_page)) (s432 : List (List ((Int) × (S_space_entry)))) : Option ((Int) × ((Int × Int × Int × Unit × Unit × Unit)) × (List (S_space_page)) × (List (List ((Int) × (S_space_entry)))) × (List (Option Nat)) × Unit) := R4 (EE P) prims sums N d 33 [⟨(.rf 0 []), ()⟩, ⟨cI, s_425⟩, ⟨cI, addr_426⟩, ⟨(.sl (.i .u8)), data_427⟩] [(.ob (.bx (.pr cI (.pr cI (.pr cI (.pr (.sr 1) (.pr (.sr 2) .un)))))) s428), (.ob (.rw 93 1 (.vp 1)) s429), (.ob (.mp cI (.vm 2)) s430), (.ob (.ab 1 c_space_page) s431), (.ob (.am 2 cI c_space_entry) s432)]
/-- ringhall/edge.Give -/
def G_edge_Give (P : Program) (N d : Nat) (s_415 : Int) (r_416 : S_api_Regs) (c_417 : S_api_Call) (a_418 : S_api_Answer) (s419 : (Int × Int × Int × Unit × Unit × Unit)) (s420 : List (Option Nat)) (s421 : List ((Int) × (Option Nat))) (s422 : List (S_space_page)) (s423 : List (List ((Int) × (S_space_entry)))) : Option ((S_api_Regs) × ((Int × Int × Int × Unit × Unit × Unit)) × (List (S_space_page)) × (List (List ((Int) × (S_space_entry)))) × (List (Option Nat)) × Unit) := R4 (EE P) prims sums N d 14 [⟨(.rf 0 []), ()⟩, ⟨cI, s_415⟩, ⟨c_api_Regs, r_416⟩, ⟨c_api_Call, c_417⟩, ⟨c_api_Answer, a_418⟩] [(.ob (.bx (.pr cI (.pr cI (.pr cI (.pr (.sr 1) (.pr (.sr 2) .un)))))) s419), (.ob (.rw 93 1 (.vp 1)) s420), (.ob (.mp cI (.vm 2)) s421), (.ob (.ab 1 c_space_page) s422), (.ob (.am 2 cI c_space_entry) s423)]
/-- (*ringhall/ringref5.Man).Put -/
def G_ringref5_Man_Put (P : Program) (N d : Nat) (at_566 : Int) (b_567 : Int) (s568 : ((Int × Int × Unit × Int × Int × Int × Unit) × Unit × Unit × (Unit × Unit × Ar 16 (Int) × Unit) × Bool × Int × Ar 64 (S_ringref5_Page) × Unit)) : Option ((Bool) × (((Int × Int × Unit × Int × Int × Int × Unit) × Unit × Unit × (Unit × Unit × Ar 16 (Int) × Unit) × Bool × Int × Ar 64 (S_ringref5_Page) × Unit)) × Unit) := R4 (EE P) prims sums N d 34 [⟨(.rf 0 []), ()⟩, ⟨cI, at_566⟩, ⟨(.i .u8), b_567⟩] [(.ob (.bx (.pr (.pr cI (.pr cI (.pr .ns (.pr cI (.pr cI (.pr cI .un)))))) (.pr .ns (.pr .ns (.pr (.pr .ns (.pr .ns (.pr (.ar 16 cI) .un))) (.pr .bl (.pr cI (.pr (.ar 64 c_ringref5_Page) .un)))))))) s568)]
/-- (*ringhall/ringref5.Man).Given -/
def G_ringref5_Man_Given (P : Program) (N d : Nat) (r_537 : S_api_Regs) (c_538 : S_api_Call) (a_539 : S_api_Answer) (s540 : ((Int × Int × Unit × Int × Int × Int × Unit) × Unit × Unit × (Unit × Unit × Ar 16 (Int) × Unit) × Bool × Int × Ar 64 (S_ringref5_Page) × Unit)) : Option ((S_api_Regs) × (((Int × Int × Unit × Int × Int × Int × Unit) × Unit × Unit × (Unit × Unit × Ar 16 (Int) × Unit) × Bool × Int × Ar 64 (S_ringref5_Page) × Unit)) × Unit) := R4 (EE P) prims sums N d 15 [⟨(.rf 0 []), ()⟩, ⟨c_api_Regs, r_537⟩, ⟨c_api_Call, c_538⟩, ⟨c_api_Answer, a_539⟩] [(.ob (.bx (.pr (.pr cI (.pr cI (.pr .ns (.pr cI (.pr cI (.pr cI .un)))))) (.pr .ns (.pr .ns (.pr (.pr .ns (.pr .ns (.pr (.ar 16 cI) .un))) (.pr .bl (.pr cI (.pr (.ar 64 c_ringref5_Page) .un)))))))) s540)]
def G_ringref5_Man_Given_L3 (P : Program) (N d : Nat) (k : Nat) (t_542 : Int) (t_543 : Int) (s544 : ((Int × Int × Unit × Int × Int × Int × Unit) × Unit × Unit × (Unit × Unit × Ar 16 (Int) × Unit) × Bool × Int × Ar 64 (S_ringref5_Page) × Unit)) (s545 : S_api_Regs) (s546 : S_api_Call) (s547 : S_api_Answer) (s548 : S_api_Regs) : Option ((S_api_Regs) × (((Int × Int × Unit × Int × Int × Int × Unit) × Unit × Unit × (Unit × Unit × Ar 16 (Int) × Unit) × Bool × Int × Ar 64 (S_ringref5_Page) × Unit)) × Unit) := RL4 (EE P) prims sums N d 15 3 [] [(.bx (.pr (.pr cI (.pr cI (.pr .ns (.pr cI (.pr cI (.pr cI .un)))))) (.pr .ns (.pr .ns (.pr (.pr .ns (.pr .ns (.pr (.ar 16 cI) .un))) (.pr .bl (.pr cI (.pr (.ar 64 c_ringref5_Page) .un))))))))] k ⟨[(0, ⟨(.rf 0 []), ()⟩), (5, ⟨(.rf 2 []), ()⟩), (6, ⟨(.rf 3 []), ()⟩), (7, ⟨(.rf 4 []), ()⟩), (8, ⟨(.rf 5 []), ()⟩), (24, ⟨cI, t_542⟩), (25, ⟨cI, t_543⟩)], [(0, (.ob (.bx (.pr (.pr cI (.pr cI (.pr .ns (.pr cI (.pr cI (.pr cI .un)))))) (.pr .ns (.pr .ns (.pr (.pr .ns (.pr .ns (.pr (.ar 16 cI) .un))) (.pr .bl (.pr cI (.pr (.ar 64 c_ringref5_Page) .un)))))))) s544)), (1, (.gh 0 ⟨(.rf 0 []), ()⟩)), (2, (.ob (.bx c_api_Regs) s545)), (3, (.ob (.bx c_api_Call) s546)), (4, (.ob (.bx c_api_Answer) s547)), (5, (.ob (.bx c_api_Regs) s548))], 6⟩
def G_ringref5_Man_Given_L10 (P : Program) (N d : Nat) (k : Nat) (t_556 : List (Int)) (t_557 : Int) (t_558 : Int) (s559 : ((Int × Int × Unit × Int × Int × Int × Unit) × Unit × Unit × (Unit × Unit × Ar 16 (Int) × Unit) × Bool × Int × Ar 64 (S_ringref5_Page) × Unit)) (s560 : S_api_Regs) (s561 : S_api_Call) (s562 : S_api_Answer) (s563 : S_api_Regs) : Option ((S_api_Regs) × (((Int × Int × Unit × Int × Int × Int × Unit) × Unit × Unit × (Unit × Unit × Ar 16 (Int) × Unit) × Bool × Int × Ar 64 (S_ringref5_Page) × Unit)) × Unit) := RL4 (EE P) prims sums N d 15 10 [] [(.bx (.pr (.pr cI (.pr cI (.pr .ns (.pr cI (.pr cI (.pr cI .un)))))) (.pr .ns (.pr .ns (.pr (.pr .ns (.pr .ns (.pr (.ar 16 cI) .un))) (.pr .bl (.pr cI (.pr (.ar 64 c_ringref5_Page) .un))))))))] k ⟨[(0, ⟨(.rf 0 []), ()⟩), (5, ⟨(.rf 2 []), ()⟩), (6, ⟨(.rf 3 []), ()⟩), (7, ⟨(.rf 4 []), ()⟩), (8, ⟨(.rf 5 []), ()⟩), (42, ⟨(.sl (.i .u8)), t_556⟩), (43, ⟨cI, t_557⟩), (44, ⟨cI, t_558⟩)], [(0, (.ob (.bx (.pr (.pr cI (.pr cI (.pr .ns (.pr cI (.pr cI (.pr cI .un)))))) (.pr .ns (.pr .ns (.pr (.pr .ns (.pr .ns (.pr (.ar 16 cI) .un))) (.pr .bl (.pr cI (.pr (.ar 64 c_ringref5_Page) .un)))))))) s559)), (1, (.gh 0 ⟨(.rf 0 []), ()⟩)), (2, (.ob (.bx c_api_Regs) s560)), (3, (.ob (.bx c_api_Call) s561)), (4, (.ob (.bx c_api_Answer) s562)), (5, (.ob (.bx c_api_Regs) s563))], 6⟩
/-- ringhall/ringlaw5.EdgeSays -/
def G_ringlaw5_EdgeSays (P : Program) (N d : Nat) (bytes_1 : List (Int)) (page_2 : Int) (r_3 : S_api_Regs) (a_4 : S_api_Answer) (s5 : List (S_space_page)) (s6 : List (List ((Int) × (S_space_entry)))) : Option ((Bool) × (List (S_space_page)) × (List (List ((Int) × (S_space_entry)))) × Unit) := R4 (EE P) prims sums N d 3 [⟨(.sl (.i .u8)), bytes_1⟩, ⟨cI, page_2⟩, ⟨c_api_Regs, r_3⟩, ⟨c_api_Answer, a_4⟩] [(.ob (.ab 1 c_space_page) s5), (.ob (.am 2 cI c_space_entry) s6)]
def G_ringlaw5_EdgeSays_J2 (P : Program) (N d : Nat) (bytes_13 : List (Int)) (page_14 : Int) (e_15 : Int) (s16 : List (S_space_page)) (s17 : List (List ((Int) × (S_space_entry)))) (s18 : S_api_Regs) (s19 : S_api_Answer) : Option ((Bool) × (List (S_space_page)) × (List (List ((Int) × (S_space_entry)))) × Unit) := RJ (EE P) prims sums N d 3 2 [] [(.ab 1 c_space_page), (.am 2 cI c_space_entry)] ⟨[(0, ⟨(.sl (.i .u8)), bytes_13⟩), (1, ⟨cI, page_14⟩), (6, ⟨(.rf 4 []), ()⟩), (7, ⟨(.rf 5 []), ()⟩), (9, ⟨(.nz .np), ()⟩), (10, ⟨cI, e_15⟩)], [(0, (.ob (.ab 1 c_space_page) s16)), (1, (.ob (.am 2 cI c_space_entry) s17)), (2, (.gh 0 ⟨.dead, ()⟩)), (3, (.gh 1 ⟨.dead, ()⟩)), (4, (.ob (.bx c_api_Regs) s18)), (5, (.ob (.bx c_api_Answer) s19))], 6⟩
def G_ringlaw5_EdgeSays_J2_1 (P : Program) (N d : Nat) (bytes_20 : List (Int)) (page_21 : Int) (e_22 : Int) (s23 : List (S_space_page)) (s24 : List (List ((Int) × (S_space_entry)))) (s25 : S_api_Regs) (s26 : S_api_Answer) (s27 : (Int × Int × Int × Unit × Unit × Unit)) (s28 : List (Option Nat)) (s29 : List ((Int) × (Option Nat))) : Option ((Bool) × (List (S_space_page)) × (List (List ((Int) × (S_space_entry)))) × Unit) := RJ (EE P) prims sums N d 3 2 [] [(.ab 1 c_space_page), (.am 2 cI c_space_entry)] ⟨[(0, ⟨(.sl (.i .u8)), bytes_20⟩), (1, ⟨cI, page_21⟩), (6, ⟨(.rf 4 []), ()⟩), (7, ⟨(.rf 5 []), ()⟩), (9, ⟨(.rf 6 []), ()⟩), (10, ⟨cI, e_22⟩)], [(0, (.ob (.ab 1 c_space_page) s23)), (1, (.ob (.am 2 cI c_space_entry) s24)), (2, (.gh 0 ⟨.dead, ()⟩)), (3, (.gh 1 ⟨.dead, ()⟩)), (4, (.ob (.bx c_api_Regs) s25)), (5, (.ob (.bx c_api_Answer) s26)), (6, (.ob (.bx (.pr cI (.pr cI (.pr cI (.pr (.sr 7) (.pr (.sr 8) .un)))))) s27)), (7, (.ob (.rw 93 1 (.vp 1)) s28)), (8, (.ob (.mp cI (.vm 2)) s29))], 9⟩
def G_ringlaw5_EdgeSays_L8 (P : Program) (N d : Nat) (k : Nat) (bytes_44 : List (Int)) (page_45 : Int) (e_46 : Int) (s_47 : Int) (t_48 : Int) (s49 : List (S_space_page)) (s50 : List (List ((Int) × (S_space_entry)))) (s51 : S_api_Regs) (s52 : S_api_Answer) (s53 : (Int × Int × Int × Unit × Unit × Unit)) (s54 : List (Option Nat)) (s55 : List ((Int) × (Option Nat))) (s56 : ((Int × Int × Unit × Int × Int × Int × Unit) × Unit × Unit × (Unit × Unit × Ar 16 (Int) × Unit) × Bool × Int × Ar 64 (S_ringref5_Page) × Unit)) : Option ((Bool) × (List (S_space_page)) × (List (List ((Int) × (S_space_entry)))) × Unit) := RL4 (EE P) prims sums N d 3 8 [] [(.ab 1 c_space_page), (.am 2 cI c_space_entry)] k ⟨[(0, ⟨(.sl (.i .u8)), bytes_44⟩), (1, ⟨cI, page_45⟩), (6, ⟨(.rf 4 []), ()⟩), (7, ⟨(.rf 5 []), ()⟩), (9, ⟨(.rf 6 []), ()⟩), (10, ⟨cI, e_46⟩), (11, ⟨cI, s_47⟩), (12, ⟨(.rf 9 []), ()⟩), (47, ⟨cI, t_48⟩)], [(0, (.ob (.ab 1 c_space_page) s49)), (1, (.ob (.am 2 cI c_space_entry) s50)), (2, (.gh 0 ⟨.dead, ()⟩)), (3, (.gh 1 ⟨.dead, ()⟩)), (4, (.ob (.bx c_api_Regs) s51)), (5, (.ob (.bx c_api_Answer) s52)), (6, (.ob (.bx (.pr cI (.pr cI (.pr cI (.pr (.sr 7) (.pr (.sr 8) .un)))))) s53)), (7, (.ob (.rw 93 1 (.vp 1)) s54)), (8, (.ob (.mp cI (.vm 2)) s55)), (9, (.ob (.bx (.pr (.pr cI (.pr cI (.pr .ns (.pr cI (.pr cI (.pr cI .un)))))) (.pr .ns (.pr .ns (.pr (.pr .ns (.pr .ns (.pr (.ar 16 cI) .un))) (.pr .bl (.pr cI (.pr (.ar 64 c_ringref5_Page) .un)))))))) s56))], 10⟩
def G_ringlaw5_EdgeSays_J13 (P : Program) (N d : Nat) (k57 : Nat) (bytes_58 : List (Int)) (page_59 : Int) (e_60 : Int) (s_61 : Int) (k_62 : Int) (b_63 : List (Int)) (t_64 : Int) (s65 : List (S_space_page)) (s66 : List (List ((Int) × (S_space_entry)))) (s67 : S_api_Regs) (s68 : S_api_Answer) (s69 : (Int × Int × Int × Unit × Unit × Unit)) (s70 : List (Option Nat)) (s71 : List ((Int) × (Option Nat))) (s72 : ((Int × Int × Unit × Int × Int × Int × Unit) × Unit × Unit × (Unit × Unit × Ar 16 (Int) × Unit) × Bool × Int × Ar 64 (S_ringref5_Page) × Unit)) : Option ((Bool) × (List (S_space_page)) × (List (List ((Int) × (S_space_entry)))) × Unit) := RJ (EE P) prims sums N d 3 13 [k57] [(.ab 1 c_space_page), (.am 2 cI c_space_entry)] ⟨[(0, ⟨(.sl (.i .u8)), bytes_58⟩), (1, ⟨cI, page_59⟩), (6, ⟨(.rf 4 []), ()⟩), (7, ⟨(.rf 5 []), ()⟩), (9, ⟨(.rf 6 []), ()⟩), (10, ⟨cI, e_60⟩), (11, ⟨cI, s_61⟩), (12, ⟨(.rf 9 []), ()⟩), (13, ⟨cI, k_62⟩), (14, ⟨(.sl (.i .u8)), b_63⟩), (47, ⟨cI, t_64⟩)], [(0, (.ob (.ab 1 c_space_page) s65)), (1, (.ob (.am 2 cI c_space_entry) s66)), (2, (.gh 0 ⟨.dead, ()⟩)), (3, (.gh 1 ⟨.dead, ()⟩)), (4, (.ob (.bx c_api_Regs) s67)), (5, (.ob (.bx c_api_Answer) s68)), (6, (.ob (.bx (.pr cI (.pr cI (.pr cI (.pr (.sr 7) (.pr (.sr 8) .un)))))) s69)), (7, (.ob (.rw 93 1 (.vp 1)) s70)), (8, (.ob (.mp cI (.vm 2)) s71)), (9, (.ob (.bx (.pr (.pr cI (.pr cI (.pr .ns (.pr cI (.pr cI (.pr cI .un)))))) (.pr .ns (.pr .ns (.pr (.pr .ns (.pr .ns (.pr (.ar 16 cI) .un))) (.pr .bl (.pr cI (.pr (.ar 64 c_ringref5_Page) .un)))))))) s72))], 10⟩
def G_ringlaw5_EdgeSays_J23 (P : Program) (N d : Nat) (page_370 : Int) (s_371 : Int) (t_372 : List UInt8) (f_373 : Int) (u_374 : List UInt8) (g_375 : Int) (h_376 : Int) (i_377 : Int) (s378 : List (S_space_page)) (s379 : List (List ((Int) × (S_space_entry)))) (s380 : S_api_Regs) (s381 : S_api_Answer) (s382 : (Int × Int × Int × Unit × Unit × Unit)) (s383 : List (Option Nat)) (s384 : List ((Int) × (Option Nat))) (s385 : ((Int × Int × Unit × Int × Int × Int × Unit) × Unit × Unit × (Unit × Unit × Ar 16 (Int) × Unit) × Bool × Int × Ar 64 (S_ringref5_Page) × Unit)) (s386 : S_api_Call) (s387 : S_api_Call) : Option ((Bool) × (List (S_space_page)) × (List (List ((Int) × (S_space_entry)))) × Unit) := RJ (EE P) prims sums N d 3 23 [] [(.ab 1 c_space_page), (.am 2 cI c_space_entry)] ⟨[(1, ⟨cI, page_370⟩), (6, ⟨(.rf 4 []), ()⟩), (7, ⟨(.rf 5 []), ()⟩), (9, ⟨(.rf 6 []), ()⟩), (11, ⟨cI, s_371⟩), (12, ⟨(.rf 9 []), ()⟩), (16, ⟨.str, t_372⟩), (17, ⟨cI, f_373⟩), (18, ⟨.str, u_374⟩), (19, ⟨cI, g_375⟩), (20, ⟨(.rf 10 []), ()⟩), (21, ⟨cI, h_376⟩), (22, ⟨(.rf 11 []), ()⟩), (23, ⟨cI, i_377⟩)], [(0, (.ob (.ab 1 c_space_page) s378)), (1, (.ob (.am 2 cI c_space_entry) s379)), (2, (.gh 0 ⟨.dead, ()⟩)), (3, (.gh 1 ⟨.dead, ()⟩)), (4, (.ob (.bx c_api_Regs) s380)), (5, (.ob (.bx c_api_Answer) s381)), (6, (.ob (.bx (.pr cI (.pr cI (.pr cI (.pr (.sr 7) (.pr (.sr 8) .un)))))) s382)), (7, (.ob (.rw 93 1 (.vp 1)) s383)), (8, (.ob (.mp cI (.vm 2)) s384)), (9, (.ob (.bx (.pr (.pr cI (.pr cI (.pr .ns (.pr cI (.pr cI (.pr cI .un)))))) (.pr .ns (.pr .ns (.pr (.pr .ns (.pr .ns (.pr (.ar 16 cI) .un))) (.pr .bl (.pr cI (.pr (.ar 64 c_ringref5_Page) .un)))))))) s385)), (10, (.ob (.bx c_api_Call) s386)), (11, (.ob (.bx c_api_Call) s387))], 12⟩
def G_ringlaw5_EdgeSays_J27 (P : Program) (N d : Nat) (page_403 : Int) (s_404 : Int) (s405 : List (S_space_page)) (s406 : List (List ((Int) × (S_space_entry)))) (s407 : S_api_Regs) (s408 : S_api_Answer) (s409 : (Int × Int × Int × Unit × Unit × Unit)) (s410 : List (Option Nat)) (s411 : List ((Int) × (Option Nat))) (s412 : ((Int × Int × Unit × Int × Int × Int × Unit) × Unit × Unit × (Unit × Unit × Ar 16 (Int) × Unit) × Bool × Int × Ar 64 (S_ringref5_Page) × Unit)) (s413 : S_api_Call) (s414 : S_api_Call) : Option ((Bool) × (List (S_space_page)) × (List (List ((Int) × (S_space_entry)))) × Unit) := RJ (EE P) prims sums N d 3 27 [] [(.ab 1 c_space_page), (.am 2 cI c_space_entry)] ⟨[(1, ⟨cI, page_403⟩), (6, ⟨(.rf 4 []), ()⟩), (7, ⟨(.rf 5 []), ()⟩), (9, ⟨(.rf 6 []), ()⟩), (11, ⟨cI, s_404⟩), (12, ⟨(.rf 9 []), ()⟩), (20, ⟨(.rf 10 []), ()⟩), (22, ⟨(.rf 11 []), ()⟩)], [(0, (.ob (.ab 1 c_space_page) s405)), (1, (.ob (.am 2 cI c_space_entry) s406)), (2, (.gh 0 ⟨.dead, ()⟩)), (3, (.gh 1 ⟨.dead, ()⟩)), (4, (.ob (.bx c_api_Regs) s407)), (5, (.ob (.bx c_api_Answer) s408)), (6, (.ob (.bx (.pr cI (.pr cI (.pr cI (.pr (.sr 7) (.pr (.sr 8) .un)))))) s409)), (7, (.ob (.rw 93 1 (.vp 1)) s410)), (8, (.ob (.mp cI (.vm 2)) s411)), (9, (.ob (.bx (.pr (.pr cI (.pr cI (.pr .ns (.pr cI (.pr cI (.pr cI .un)))))) (.pr .ns (.pr .ns (.pr (.pr .ns (.pr .ns (.pr (.ar 16 cI) .un))) (.pr .bl (.pr cI (.pr (.ar 64 c_ringref5_Page) .un)))))))) s412)), (10, (.ob (.bx c_api_Call) s413)), (11, (.ob (.bx c_api_Call) s414))], 12⟩
def G_ringlaw5_EdgeSays_L33 (P : Program) (N d : Nat) (k : Nat) (page_580 : Int) (t_581 : List (Int)) (t_582 : Int) (t_583 : Int) (s584 : List (S_space_page)) (s585 : List (List ((Int) × (S_space_entry)))) (s586 : ((Int × Int × Unit × Int × Int × Int × Unit) × Unit × Unit × (Unit × Unit × Ar 16 (Int) × Unit) × Bool × Int × Ar 64 (S_ringref5_Page) × Unit)) : Option ((Bool) × (List (S_space_page)) × (List (List ((Int) × (S_space_entry)))) × Unit) := RL4 (EE P) prims sums N d 3 33 [] [(.ab 1 c_space_page), (.am 2 cI c_space_entry)] k ⟨[(1, ⟨cI, page_580⟩), (12, ⟨(.rf 4 []), ()⟩), (174, ⟨(.sl (.i .u8)), t_581⟩), (175, ⟨cI, t_582⟩), (176, ⟨cI, t_583⟩)], [(0, (.ob (.ab 1 c_space_page) s584)), (1, (.ob (.am 2 cI c_space_entry) s585)), (2, (.gh 0 ⟨.dead, ()⟩)), (3, (.gh 1 ⟨.dead, ()⟩)), (4, (.ob (.bx (.pr (.pr cI (.pr cI (.pr .ns (.pr cI (.pr cI (.pr cI .un)))))) (.pr .ns (.pr .ns (.pr (.pr .ns (.pr .ns (.pr (.ar 16 cI) .un))) (.pr .bl (.pr cI (.pr (.ar 64 c_ringref5_Page) .un)))))))) s586))], 5⟩
def G_ringlaw5_EdgeSays_J23_1 (P : Program) (N d : Nat) (page_591 : Int) (s_592 : Int) (t_593 : List UInt8) (f_594 : Int) (u_595 : List UInt8) (g_596 : Int) (h_597 : Int) (i_598 : Int) (s599 : List (S_space_page)) (s600 : List (List ((Int) × (S_space_entry)))) (s601 : S_api_Regs) (s602 : S_api_Answer) (s603 : (Int × Int × Int × Unit × Unit × Unit)) (s604 : List (Option Nat)) (s605 : List ((Int) × (Option Nat))) (s606 : ((Int × Int × Unit × Int × Int × Int × Unit) × Unit × Unit × (Unit × Unit × Ar 16 (Int) × Unit) × Bool × Int × Ar 64 (S_ringref5_Page) × Unit)) (s607 : S_api_Call) (s608 : (Int × Int × Int × Int × List UInt8 × List UInt8 × Unit × Unit)) (s609 : List (Int)) : Option ((Bool) × (List (S_space_page)) × (List (List ((Int) × (S_space_entry)))) × Unit) := RJ (EE P) prims sums N d 3 23 [] [(.ab 1 c_space_page), (.am 2 cI c_space_entry)] ⟨[(1, ⟨cI, page_591⟩), (6, ⟨(.rf 4 []), ()⟩), (7, ⟨(.rf 5 []), ()⟩), (9, ⟨(.rf 6 []), ()⟩), (11, ⟨cI, s_592⟩), (12, ⟨(.rf 9 []), ()⟩), (16, ⟨.str, t_593⟩), (17, ⟨cI, f_594⟩), (18, ⟨.str, u_595⟩), (19, ⟨cI, g_596⟩), (20, ⟨(.rf 10 []), ()⟩), (21, ⟨cI, h_597⟩), (22, ⟨(.rf 11 []), ()⟩), (23, ⟨cI, i_598⟩)], [(0, (.ob (.ab 1 c_space_page) s599)), (1, (.ob (.am 2 cI c_space_entry) s600)), (2, (.gh 0 ⟨.dead, ()⟩)), (3, (.gh 1 ⟨.dead, ()⟩)), (4, (.ob (.bx c_api_Regs) s601)), (5, (.ob (.bx c_api_Answer) s602)), (6, (.ob (.bx (.pr cI (.pr cI (.pr cI (.pr (.sr 7) (.pr (.sr 8) .un)))))) s603)), (7, (.ob (.rw 93 1 (.vp 1)) s604)), (8, (.ob (.mp cI (.vm 2)) s605)), (9, (.ob (.bx (.pr (.pr cI (.pr cI (.pr .ns (.pr cI (.pr cI (.pr cI .un)))))) (.pr .ns (.pr .ns (.pr (.pr .ns (.pr .ns (.pr (.ar 16 cI) .un))) (.pr .bl (.pr cI (.pr (.ar 64 c_ringref5_Page) .un)))))))) s606)), (10, (.ob (.bx c_api_Call) s607)), (11, (.ob (.bx (.pr cI (.pr cI (.pr cI (.pr cI (.pr .str (.pr .str (.pr (.sr 12) .un)))))))) s608)), (12, (.ob (.rw 5 1 (.i .u8)) s609))], 13⟩
def G_ringref5_Man_Given_J14 (P : Program) (N d : Nat) (s573 : ((Int × Int × Unit × Int × Int × Int × Unit) × Unit × Unit × (Unit × Unit × Ar 16 (Int) × Unit) × Bool × Int × Ar 64 (S_ringref5_Page) × Unit)) (s574 : S_api_Regs) (s575 : S_api_Answer) (s576 : S_api_Regs) : Option ((S_api_Regs) × (((Int × Int × Unit × Int × Int × Int × Unit) × Unit × Unit × (Unit × Unit × Ar 16 (Int) × Unit) × Bool × Int × Ar 64 (S_ringref5_Page) × Unit)) × Unit) :=
some ((u0 s574 (sA (sA (sA s574.1 ⟨0, by decide⟩ (wi .u32 (s575.2.1))) ⟨1, by decide⟩ (wi .u32 (s575.1))) ⟨2, by decide⟩ (wi .u32 (s575.2.2.1)))), s573, ())
def G_ringref5_Man_Given_J9 (P : Program) (N d : Nat) (s551 : ((Int × Int × Unit × Int × Int × Int × Unit) × Unit × Unit × (Unit × Unit × Ar 16 (Int) × Unit) × Bool × Int × Ar 64 (S_ringref5_Page) × Unit)) (s552 : S_api_Regs) (s553 : S_api_Call) (s554 : S_api_Answer) (s555 : S_api_Regs) : Option ((S_api_Regs) × (((Int × Int × Unit × Int × Int × Int × Unit) × Unit × Unit × (Unit × Unit × Ar 16 (Int) × Unit) × Bool × Int × Ar 64 (S_ringref5_Page) × Unit)) × Unit) :=
G_ringref5_Man_Given_L10 P N d N s554.2.2.2.1 (s554.2.2.2.1.length : Int) 0 s551 s552 s553 s554 s555
def G_edge_Give_J5 (P : Program) (N d : Nat) (s528 : (Int × Int × Int × Unit × Unit × Unit)) (s529 : List ((Int) × (Option Nat))) (s530 : List (S_space_page)) (s531 : List (List ((Int) × (S_space_entry)))) (s532 : List (Option Nat)) (s533 : S_api_Regs) (s534 : S_api_Answer) (s535 : S_api_Regs) : Option ((S_api_Regs) × ((Int × Int × Int × Unit × Unit × Unit)) × (List (S_space_page)) × (List (List ((Int) × (S_space_entry)))) × (List (Option Nat)) × Unit) :=
some ((u0 s533 (sA (sA (sA s533.1 ⟨0, by decide⟩ (wi .u32 (s534.2.1))) ⟨1, by decide⟩ (wi .u32 (s534.1))) ⟨2, by decide⟩ (wi .u32 (s534.2.2.1)))), s528, s530, s531, s532, ())
def G_ringref5_Man_Taken_J15 (P : Program) (N d : Nat) (at_347 : Int) (s348 : ((Int × Int × Unit × Int × Int × Int × Unit) × Unit × Unit × (Unit × Unit × Ar 16 (Int) × Unit) × Bool × Int × Ar 64 (S_ringref5_Page) × Unit)) (s349 : S_api_Regs) (s350 : (Int × Int × Int × Int × List UInt8 × List UInt8 × Unit × Unit)) (s351 : (Int × Int × Int × Int × List UInt8 × List UInt8 × Unit × Unit)) : Option ((((S_api_Call × Int × Unit)) × Unit) ⊕ ((((Int × Int × Int × Int × List UInt8 × List UInt8 × Unit × Unit) × Int × Unit)) × (List (Int)) × Unit)) :=
if h352 : inb at_347 8 = true then
(G_ringref5_signed P N d (gA s349.1 ⟨at_347.toNat, inb_lt h352⟩)).bind fun x353 =>
if h354 : inb (wi .i64 (at_347 + 1)) 8 = true then
(G_ringref5_signed P N d (gA s349.1 ⟨(wi .i64 (at_347 + 1)).toNat, inb_lt h354⟩)).bind fun x355 =>
if h356 : inb (wi .i64 (at_347 + 2)) 8 = true then
(G_ringref5_signed P N d (gA s349.1 ⟨(wi .i64 (at_347 + 2)).toNat, inb_lt h356⟩)).bind fun x357 =>
bif (s351.1 != 8) then
some (Sum.inl (((s351.1, x353.1, x355.1, x357.1, s351.2.2.2.2.1, s351.2.2.2.2.2.1, [], ()), 0, ()), ()))
else
(bif (decide (x357.1 < 0)) then
some true
else
some (decide (x357.1 > 256))).bind fun b358 =>
bif b358 then
some (Sum.inl (((0, 0, 0, 0, [], [], [], ()), 1, ()), ()))
else
G_ringref5_Man_Taken_L21 P N d N x357.1 0 s348 s350 (s351.1, x353.1, x355.1, x357.1, s351.2.2.2.2.1, s351.2.2.2.2.2.1, (), ()) ([])
else none
else none
else none
theorem G_space_New_eq (hP : P = Try.prog) (N d : Nat) (frames_7 : Int) (slots_8 : Int) : G_space_New P N (d + 1) frames_7 slots_8 =
(bif (decide (frames_7 < 4)) then
some true
else
bif (decide (frames_7 > 64)) then
some true
else
bif (decide (slots_8 < 0)) then
some true
else
some (decide (slots_8 > 64))).bind fun b9 =>
bif b9 then
some (Sum.inl (((), 1, ()), ()))
else
some (Sum.inr (((), 0, ()), (frames_7, slots_8, 0, (), (), ()), [], [], ())) := by subst hP; kernel_rfl
theorem G_space_Memory_Make_L2_eq (hP : P = Try.prog) (N d : Nat) (k39 : Nat) (s_34 : Int) (s35 : (Int × Int × Int × Unit × Unit × Unit)) (s36 : List (Option Nat)) (s37 : List (List ((Int) × (S_space_entry)))) (s38 : List ((Int) × (Option Nat))) : G_space_Memory_Make_L2 P N d (k39 + 1) s_34 s35 s36 s37 s38 =
bif (decide (s_34 ≤ 16)) then
bif ((mlI s38 s_34).getD none).isNone then
some ((s_34, 0, ()), s35, (s37 ++ [[]]), (mpI s38 s_34 (some s37.length)), ())
else
G_space_Memory_Make_L2 P N d k39 (wi .i64 (s_34 + 1)) s35 s36 s37 s38
else
some ((0, 6, ()), s35, s37, s38, ()) := by subst hP; kernel_rfl
theorem G_space_Memory_Make_eq (hP : P = Try.prog) (N d : Nat) (s30 : (Int × Int × Int × Unit × Unit × Unit)) (s31 : List (Option Nat)) (s32 : List ((Int) × (Option Nat))) (s33 : List (List ((Int) × (S_space_entry)))) : G_space_Memory_Make P N (d + 1) s30 s31 s32 s33 =
G_space_Memory_Make_L2 P N d N 1 s30 s31 s33 s32 := by subst hP; kernel_rfl
theorem G_ringref5_Rest_eq (hP : P = Try.prog) (N d : Nat) (n_41 : Int) (m_42 : Int) : G_ringref5_Rest P N (d + 1) n_41 m_42 =
bif (m_42 != 0) then
bif (decide ((n_41.tmod m_42) < 0)) then
some ((wi .i64 ((n_41.tmod m_42) + m_42)), ())
else
some ((n_41.tmod m_42), ())
else none := by subst hP; kernel_rfl
theorem G_space_Memory_span_eq (hP : P = Try.prog) (N d : Nat) (s_82 : Int) (first_83 : Int) (n_84 : Int) (rights_85 : Int) (s86 : (Int × Int × Int × Unit × Unit × Unit)) (s87 : List (Option Nat)) (s88 : List ((Int) × (Option Nat))) : G_space_Memory_span P N (d + 1) s_82 first_83 n_84 rights_85 s86 s87 s88 =
bif ((mlI s88 s_82).getD none).isNone then
some (4, ())
else
(bif (decide (first_83 < 0)) then
some true
else
bif (decide (first_83 ≥ 64)) then
some true
else
bif (decide (n_84 < 1)) then
some true
else
bif (decide (n_84 > (wi .i64 (64 - first_83)))) then
some true
else
bif (decide (rights_85 < 0)) then
some true
else
some (decide (rights_85 > 7))).bind fun b89 =>
bif b89 then
some (1, ())
else
some (0, ()) := by subst hP; kernel_rfl
theorem G_space_Memory_room_eq (hP : P = Try.prog) (N d : Nat) (n_103 : Int) (s104 : (Int × Int × Int × Unit × Unit × Unit)) (s105 : List (Option Nat)) (s106 : List ((Int) × (Option Nat))) : G_space_Memory_room P N (d + 1) n_103 s104 s105 s106 =
some ((decide (n_103 ≤ (wi .i64 ((wi .i64 (s104.1 + s104.2.1)) - (s105.length : Int))))), ()) := by subst hP; kernel_rfl
theorem G_space_Memory_here_L3_eq (hP : P = Try.prog) (N d : Nat) (k134 : Nat) (n_127 : Int) (t_128 : Int) (t_129 : Int) (s130 : (Int × Int × Int × Unit × Unit × Unit)) (s131 : List (Option Nat)) (s132 : List ((Int) × (Option Nat))) (s133 : List (S_space_page)) : G_space_Memory_here_L3 P N d (k134 + 1) n_127 t_128 t_129 s130 s131 s132 s133 =
bif (decide (t_129 < t_128)) then
bif inb t_129 s131.length then
(lget s131 t_129.toNat).bind fun y135 =>
y135.bind fun i136 =>
(lget s133 i136).bind fun y137 =>
bif y137.2.2.1 then
G_space_Memory_here_L3 P N d k134 (wi .i64 (n_127 + 1)) t_128 (wi .i64 (t_129 + 1)) s130 s131 s132 s133
else
G_space_Memory_here_L3 P N d k134 n_127 t_128 (wi .i64 (t_129 + 1)) s130 s131 s132 s133
else none
else
some (n_127, ()) := by subst hP; kernel_rfl
theorem G_space_Memory_here_eq (hP : P = Try.prog) (N d : Nat) (s123 : (Int × Int × Int × Unit × Unit × Unit)) (s124 : List (Option Nat)) (s125 : List ((Int) × (Option Nat))) (s126 : List (S_space_page)) : G_space_Memory_here P N (d + 1) s123 s124 s125 s126 =
G_space_Memory_here_L3 P N d N 0 (s124.length : Int) 0 s123 s124 s125 s126 := by subst hP; kernel_rfl
theorem G_space_Memory_oldest_L3_eq (hP : P = Try.prog) (N d : Nat) (k150 : Nat) (best_143 : Option Nat) (t_144 : Int) (t_145 : Int) (s146 : (Int × Int × Int × Unit × Unit × Unit)) (s147 : List (Option Nat)) (s148 : List ((Int) × (Option Nat))) (s149 : List (S_space_page)) : G_space_Memory_oldest_L3 P N d (k150 + 1) best_143 t_144 t_145 s146 s147 s148 s149 =
bif (decide (t_145 < t_144)) then
bif inb t_145 s147.length then
(lget s147 t_145.toNat).bind fun y151 =>
(y151.bind fun i152 =>
(lget s149 i152).bind fun y153 =>
bif y153.2.2.1 then
bif (best_143 == none) then
some true
else
y151.bind fun i154 =>
(lget s149 i154).bind fun y155 =>
best_143.bind fun i156 =>
(lget s149 i156).bind fun y157 =>
some (decide (y155.2.2.2.1 < y157.2.2.2.1))
else
some false).bind fun b158 =>
bif b158 then
G_space_Memory_oldest_L3 P N d k150 y151 t_144 (wi .i64 (t_145 + 1)) s146 s147 s148 s149
else
G_space_Memory_oldest_L3 P N d k150 best_143 t_144 (wi .i64 (t_145 + 1)) s146 s147 s148 s149
else none
else
some (best_143, ()) := by subst hP; kernel_rfl
theorem G_space_Memory_oldest_eq (hP : P = Try.prog) (N d : Nat) (s139 : (Int × Int × Int × Unit × Unit × Unit)) (s140 : List (Option Nat)) (s141 : List ((Int) × (Option Nat))) (s142 : List (S_space_page)) : G_space_Memory_oldest P N (d + 1) s139 s140 s141 s142 =
G_space_Memory_oldest_L3 P N d N none (s140.length : Int) 0 s139 s140 s141 s142 := by subst hP; kernel_rfl
theorem G_space_Memory_ask_eq (hP : P = Try.prog) (N d : Nat) (p_114 : Option Nat) (s115 : (Int × Int × Int × Unit × Unit × Unit)) (s116 : List (Option Nat)) (s117 : List ((Int) × (Option Nat))) (s118 : List (S_space_page)) : G_space_Memory_ask P N (d + 1) p_114 s115 s116 s117 s118 =
p_114.bind fun i119 =>
(lget s118 i119).bind fun y120 =>
p_114.bind fun i121 =>
(lget (lset s118 i119 (u3 y120 (wi .i64 (s115.2.2.1 + 1)))) i121).bind fun y122 =>
bif y122.2.2.1 then
some ((), (u2 s115 (wi .i64 (s115.2.2.1 + 1))), (lset s118 i119 (u3 y120 (wi .i64 (s115.2.2.1 + 1)))), ())
else
(G_space_Memory_here P N d (u2 s115 (wi .i64 (s115.2.2.1 + 1))) s116 s117 (lset s118 i119 (u3 y120 (wi .i64 (s115.2.2.1 + 1))))).bind fun x138 =>
bif (x138.1 == s115.1) then
(G_space_Memory_oldest P N d (u2 s115 (wi .i64 (s115.2.2.1 + 1))) s116 s117 (lset s118 i119 (u3 y120 (wi .i64 (s115.2.2.1 + 1))))).bind fun x159 =>
x159.1.bind fun i160 =>
(lget (lset s118 i119 (u3 y120 (wi .i64 (s115.2.2.1 + 1)))) i160).bind fun y161 =>
p_114.bind fun i162 =>
(lget (lset (lset s118 i119 (u3 y120 (wi .i64 (s115.2.2.1 + 1)))) i160 (u2 y161 false)) i162).bind fun y163 =>
some ((), (u2 s115 (wi .i64 (s115.2.2.1 + 1))), (lset (lset (lset s118 i119 (u3 y120 (wi .i64 (s115.2.2.1 + 1)))) i160 (u2 y161 false)) i162 (u2 y163 true)), ())
else
p_114.bind fun i164 =>
(lget (lset s118 i119 (u3 y120 (wi .i64 (s115.2.2.1 + 1)))) i164).bind fun y165 =>
some ((), (u2 s115 (wi .i64 (s115.2.2.1 + 1))), (lset (lset s118 i119 (u3 y120 (wi .i64 (s115.2.2.1 + 1)))) i164 (u2 y165 true)), ()) := by subst hP; kernel_rfl
theorem G_space_Memory_add_eq (hP : P = Try.prog) (N d : Nat) (data_109 : Ar 16 (Int)) (s110 : (Int × Int × Int × Unit × Unit × Unit)) (s111 : List (Option Nat)) (s112 : List ((Int) × (Option Nat))) (s113 : List (S_space_page)) : G_space_Memory_add P N (d + 1) data_109 s110 s111 s112 s113 =
bif lenOk (s111.length + ([(some s113.length)] : List (Option Nat)).length) 8 then
(G_space_Memory_ask P N d (some s113.length) (s110.1, s110.2.1, s110.2.2.1, (), (), ()) (s111 ++ [(some s113.length)]) s112 (s113 ++ [(data_109, 1, false, 0, ())])).bind fun x166 =>
some ((some s113.length), x166.2.1, x166.2.2.1, (s111 ++ [(some s113.length)]), ())
else none := by subst hP; kernel_rfl
theorem G_space_Memory_Put_J7_eq (hP : P = Try.prog) (N d : Nat) (s_93 : Int) (at_94 : Int) (rights_95 : Int) (data_96 : List (Int)) (is_97 : Bool) (s98 : (Int × Int × Int × Unit × Unit × Unit)) (s99 : List ((Int) × (Option Nat))) (s100 : List (S_space_page)) (s101 : List (List ((Int) × (S_space_entry)))) (s102 : List (Option Nat)) : G_space_Memory_Put_J7 P N d s_93 at_94 rights_95 data_96 is_97 s98 s99 s100 s101 s102 =
bif is_97 then
some (5, s98, s100, s101, s102, ())
else
(G_space_Memory_room P N d 1 s98 s102 s99).bind fun x107 =>
bif (!x107.1) then
some (6, s98, s100, s101, s102, ())
else
if h108 : (cpyR (nA 16 0).1 0 16 data_96).length = 16 then
(G_space_Memory_add P N d (⟨cpyR (nA 16 0).1 0 16 data_96, h108⟩ : Ar 16 (Int)) s98 s102 s99 s100).bind fun x167 =>
oc ((mlI s99 s_93).getD none) (
none) fun i168 => (lget s101 i168).bind fun d169 =>
some (0, x167.2.1, x167.2.2.1, (lset s101 i168 (mpI d169 at_94 (x167.1, rights_95, ()))), x167.2.2.2.1, ())
else none := by subst hP; kernel_rfl
theorem G_space_Memory_Put_eq (hP : P = Try.prog) (N d : Nat) (s_73 : Int) (at_74 : Int) (rights_75 : Int) (data_76 : List (Int)) (s77 : (Int × Int × Int × Unit × Unit × Unit)) (s78 : List (Option Nat)) (s79 : List ((Int) × (Option Nat))) (s80 : List (S_space_page)) (s81 : List (List ((Int) × (S_space_entry)))) : G_space_Memory_Put P N (d + 1) s_73 at_74 rights_75 data_76 s77 s78 s79 s80 s81 =
(G_space_Memory_span P N d s_73 at_74 1 rights_75 s77 s78 s79).bind fun x90 =>
bif (x90.1 != 0) then
some (x90.1, s77, s80, s81, s78, ())
else
bif (decide ((data_76.length : Int) > 16)) then
some (1, s77, s80, s81, s78, ())
else
oc ((mlI s79 s_73).getD none) (
G_space_Memory_Put_J7 P N d s_73 at_74 rights_75 data_76 false s77 s79 s80 s81 s78) fun i91 => (lget s81 i91).bind fun d92 =>
G_space_Memory_Put_J7 P N d s_73 at_74 rights_75 data_76 ((mlI d92 at_74).isSome) s77 s79 s80 s81 s78 := by subst hP; kernel_rfl
theorem G_space_Memory_may_L6_eq (hP : P = Try.prog) (N d : Nat) (k219 : Nat) (s_210 : Int) (addr_211 : Int) (n_212 : Int) (want_213 : Int) (k_214 : Int) (s215 : (Int × Int × Int × Unit × Unit × Unit)) (s216 : List (Option Nat)) (s217 : List ((Int) × (Option Nat))) (s218 : List (List ((Int) × (S_space_entry)))) : G_space_Memory_may_L6 P N d (k219 + 1) s_210 addr_211 n_212 want_213 k_214 s215 s216 s217 s218 =
bif (decide (k_214 ≤ (wi .i64 ((wi .i64 ((wi .i64 (addr_211 + n_212)) - 1)).tdiv 16)))) then
oc ((mlI s217 s_210).getD none) (
G_space_Memory_may_J9 P N d k219 s_210 addr_211 n_212 want_213 k_214 false s215 s216 s217 s218 (none, 0, ())) fun i220 => (lget s218 i220).bind fun d221 =>
G_space_Memory_may_J9 P N d k219 s_210 addr_211 n_212 want_213 k_214 ((mlI d221 k_214).isSome) s215 s216 s217 s218 ((mlI d221 k_214).getD (none, 0, ()))
else
some (true, ()) := by subst hP; kernel_rfl
theorem G_space_Memory_may_J9_eq (hP : P = Try.prog) (N d : Nat) (k219 : Nat) (s_222 : Int) (addr_223 : Int) (n_224 : Int) (want_225 : Int) (k_226 : Int) (is_227 : Bool) (s228 : (Int × Int × Int × Unit × Unit × Unit)) (s229 : List (Option Nat)) (s230 : List ((Int) × (Option Nat))) (s231 : List (List ((Int) × (S_space_entry)))) (s232 : S_space_entry) : G_space_Memory_may_J9 P N d k219 s_222 addr_223 n_224 want_225 k_226 is_227 s228 s229 s230 s231 s232 =
(bif (!is_227) then
some true
else
some ((bits .and .i64 s232.2.1 want_225) != want_225)).bind fun b233 =>
bif b233 then
some (false, ())
else
G_space_Memory_may_L6 P N d k219 s_222 addr_223 n_224 want_225 (wi .i64 (k_226 + 1)) s228 s229 s230 s231 := by subst hP; kernel_rfl
theorem G_space_Memory_may_eq (hP : P = Try.prog) (N d : Nat) (s_201 : Int) (addr_202 : Int) (n_203 : Int) (want_204 : Int) (s205 : (Int × Int × Int × Unit × Unit × Unit)) (s206 : List (Option Nat)) (s207 : List ((Int) × (Option Nat))) (s208 : List (List ((Int) × (S_space_entry)))) : G_space_Memory_may P N (d + 1) s_201 addr_202 n_203 want_204 s205 s206 s207 s208 =
bif (n_203 == 0) then
some (true, ())
else
(bif (decide (addr_202 < 0)) then
some true
else
some (decide (addr_202 > (wi .i64 (1024 - n_203))))).bind fun b209 =>
bif b209 then
some (false, ())
else
G_space_Memory_may_L6 P N d N s_201 addr_202 n_203 want_204 (wi .i64 (addr_202.tdiv 16)) s205 s206 s207 s208 := by subst hP; kernel_rfl
theorem G_space_Memory_fetch_L3_eq (hP : P = Try.prog) (N d : Nat) (k253 : Nat) (s_243 : Int) (addr_244 : Int) (n_245 : Int) (i_246 : Int) (s247 : (Int × Int × Int × Unit × Unit × Unit)) (s248 : List (Option Nat)) (s249 : List ((Int) × (Option Nat))) (s250 : List (S_space_page)) (s251 : List (List ((Int) × (S_space_entry)))) (s252 : List (Int)) : G_space_Memory_fetch_L3 P N d (k253 + 1) s_243 addr_244 n_245 i_246 s247 s248 s249 s250 s251 s252 =
bif (decide (i_246 < (wi .i64 (addr_244 + n_245)))) then
oc ((mlI s249 s_243).getD none) (
G_space_Memory_fetch_J6 P N d k253 s_243 addr_244 n_245 i_246 none s247 s248 s249 s250 s251 s252) fun i254 => (lget s251 i254).bind fun d255 =>
G_space_Memory_fetch_J6 P N d k253 s_243 addr_244 n_245 i_246 (((mlI d255 (wi .i64 (i_246.tdiv 16))).getD (none, 0, ())).1) s247 s248 s249 s250 s251 s252
else
some (s252, s247, s250, ()) := by subst hP; kernel_rfl
theorem G_space_Memory_fetch_J6_eq (hP : P = Try.prog) (N d : Nat) (k253 : Nat) (s_256 : Int) (addr_257 : Int) (n_258 : Int) (i_259 : Int) (p_260 : Option Nat) (s261 : (Int × Int × Int × Unit × Unit × Unit)) (s262 : List (Option Nat)) (s263 : List ((Int) × (Option Nat))) (s264 : List (S_space_page)) (s265 : List (List ((Int) × (S_space_entry)))) (s266 : List (Int)) : G_space_Memory_fetch_J6 P N d k253 s_256 addr_257 n_258 i_259 p_260 s261 s262 s263 s264 s265 s266 =
(G_space_Memory_ask P N d p_260 s261 s262 s263 s264).bind fun x267 =>
p_260.bind fun i268 =>
if h269 : inb (i_259.tmod 16) 16 = true then
(lget x267.2.2.1 i268).bind fun y270 =>
bif lenOk (s266.length + ([(gA y270.1 ⟨(i_259.tmod 16).toNat, inb_lt h269⟩)] : List (Int)).length) 1 then
G_space_Memory_fetch_L3 P N d k253 s_256 addr_257 n_258 (wi .i64 (i_259 + 1)) x267.2.1 s262 s263 x267.2.2.1 s265 (s266 ++ [(gA y270.1 ⟨(i_259.tmod 16).toNat, inb_lt h269⟩)])
else none
else none := by subst hP; kernel_rfl
theorem G_space_Memory_fetch_eq (hP : P = Try.prog) (N d : Nat) (s_235 : Int) (addr_236 : Int) (n_237 : Int) (s238 : (Int × Int × Int × Unit × Unit × Unit)) (s239 : List (Option Nat)) (s240 : List ((Int) × (Option Nat))) (s241 : List (S_space_page)) (s242 : List (List ((Int) × (S_space_entry)))) : G_space_Memory_fetch P N (d + 1) s_235 addr_236 n_237 s238 s239 s240 s241 s242 =
G_space_Memory_fetch_L3 P N d N s_235 addr_236 n_237 addr_236 s238 s239 s240 s241 s242 ([]) := by subst hP; kernel_rfl
theorem G_space_Memory_Load_eq (hP : P = Try.prog) (N d : Nat) (s_192 : Int) (addr_193 : Int) (want_194 : Int) (s195 : (Int × Int × Int × Unit × Unit × Unit)) (s196 : List (Option Nat)) (s197 : List ((Int) × (Option Nat))) (s198 : List (S_space_page)) (s199 : List (List ((Int) × (S_space_entry)))) : G_space_Memory_Load P N (d + 1) s_192 addr_193 want_194 s195 s196 s197 s198 s199 =
bif ((mlI s197 s_192).getD none).isNone then
some ((0, 4, ()), s195, s198, ())
else
(bif (decide (want_194 < 1)) then
some true
else
some (decide (want_194 > 7))).bind fun b200 =>
bif b200 then
some ((0, 1, ()), s195, s198, ())
else
(G_space_Memory_may P N d s_192 (wi .i64 (addr_193)) 1 want_194 s195 s196 s197 s199).bind fun x234 =>
bif (!x234.1) then
some ((0, 11, ()), s195, s198, ())
else
(G_space_Memory_fetch P N d s_192 (wi .i64 (addr_193)) 1 s195 s196 s197 s198 s199).bind fun x271 =>
(lget x271.1 (0 : Int).toNat).bind fun y272 =>
some ((y272, 0, ()), x271.2.1, x271.2.2.1, ()) := by subst hP; kernel_rfl
theorem G_edge_Text_L3_eq (hP : P = Try.prog) (N d : Nat) (k191 : Nat) (s_182 : Int) (at_183 : Int) (t_184 : Int) (s185 : (Int × Int × Int × Unit × Unit × Unit)) (s186 : List (Option Nat)) (s187 : List ((Int) × (Option Nat))) (s188 : List (S_space_page)) (s189 : List (List ((Int) × (S_space_entry)))) (s190 : List (Int)) : G_edge_Text_L3 P N d (k191 + 1) s_182 at_183 t_184 s185 s186 s187 s188 s189 s190 =
bif (decide (t_184 < 65)) then
(G_space_Memory_Load P N d s_182 (wi .u32 (at_183 + t_184)) 1 s185 s186 s187 s188 s189).bind fun x273 =>
bif (x273.1.2.1 != 0) then
some (([], x273.1.2.1, ()), x273.2.1, x273.2.2.1, ())
else
bif (x273.1.1 == 0) then
some (((u8i s190), 0, ()), x273.2.1, x273.2.2.1, ())
else
bif lenOk (s190.length + ([x273.1.1] : List (Int)).length) 1 then
G_edge_Text_L3 P N d k191 s_182 at_183 (wi .u32 (t_184 + 1)) x273.2.1 s186 s187 x273.2.2.1 s189 (s190 ++ [x273.1.1])
else none
else
some (([], 2, ()), s185, s188, ()) := by subst hP; kernel_rfl
theorem G_edge_Text_eq (hP : P = Try.prog) (N d : Nat) (s_175 : Int) (at_176 : Int) (s177 : (Int × Int × Int × Unit × Unit × Unit)) (s178 : List (Option Nat)) (s179 : List ((Int) × (Option Nat))) (s180 : List (S_space_page)) (s181 : List (List ((Int) × (S_space_entry)))) : G_edge_Text P N (d + 1) s_175 at_176 s177 s178 s179 s180 s181 =
G_edge_Text_L3 P N d N s_175 at_176 0 s177 s178 s179 s180 s181 ([]) := by subst hP; kernel_rfl
theorem G_ringref5_Man_Byte_eq (hP : P = Try.prog) (N d : Nat) (at_282 : Int) (want_283 : Int) (s284 : ((Int × Int × Unit × Int × Int × Int × Unit) × Unit × Unit × (Unit × Unit × Ar 16 (Int) × Unit) × Bool × Int × Ar 64 (S_ringref5_Page) × Unit)) : G_ringref5_Man_Byte P N (d + 1) at_282 want_283 s284 =
(bif (decide (at_282 < 0)) then
some true
else
bif (decide (at_282 > 1023)) then
some true
else
if h285 : inb (wi .i64 (at_282.tdiv 16)) 64 = true then
bif (!(gA s284.2.2.2.2.2.2.1 ⟨(wi .i64 (at_282.tdiv 16)).toNat, inb_lt h285⟩).1) then
some true
else
if h286 : inb (wi .i64 (at_282.tdiv 16)) 64 = true then
some ((bits .andNot .i64 want_283 (gA s284.2.2.2.2.2.2.1 ⟨(wi .i64 (at_282.tdiv 16)).toNat, inb_lt h286⟩).2.1) != 0)
else none
else none).bind fun b287 =>
bif b287 then
some ((0, false, ()), ())
else
if h288 : inb (wi .i64 (at_282.tdiv 16)) 64 = true then
if h289 : inb (at_282.tmod 16) 16 = true then
some (((gA ((gA s284.2.2.2.2.2.2.1 ⟨(wi .i64 (at_282.tdiv 16)).toNat, inb_lt h288⟩).2.2.1) ⟨(at_282.tmod 16).toNat, inb_lt h289⟩), true, ()), ())
else none
else none := by subst hP; kernel_rfl
theorem G_ringref5_Man_Text_L3_eq (hP : P = Try.prog) (N d : Nat) (k281 : Nat) (at_277 : Int) (s_278 : List UInt8) (t_279 : Int) (s280 : ((Int × Int × Unit × Int × Int × Int × Unit) × Unit × Unit × (Unit × Unit × Ar 16 (Int) × Unit) × Bool × Int × Ar 64 (S_ringref5_Page) × Unit)) : G_ringref5_Man_Text_L3 P N d (k281 + 1) at_277 s_278 t_279 s280 =
bif (decide (t_279 < 65)) then
(G_ringref5_Man_Byte P N d (wi .i64 ((wi .u32 (at_277 + t_279)))) 1 s280).bind fun x290 =>
bif (!x290.1.2.1) then
some (([], 11, ()), ())
else
bif (x290.1.1 == 0) then
some ((s_278, 0, ()), ())
else
bif Nat.ble (s_278.length + (u8i ([x290.1.1])).length) 9223372036854775807 then
G_ringref5_Man_Text_L3 P N d k281 at_277 (List.append s_278 (u8i ([x290.1.1]))) (wi .u32 (t_279 + 1)) s280
else none
else
some (([], 2, ()), ()) := by subst hP; kernel_rfl
theorem G_ringref5_Man_Text_eq (hP : P = Try.prog) (N d : Nat) (at_275 : Int) (s276 : ((Int × Int × Unit × Int × Int × Int × Unit) × Unit × Unit × (Unit × Unit × Ar 16 (Int) × Unit) × Bool × Int × Ar 64 (S_ringref5_Page) × Unit)) : G_ringref5_Man_Text P N (d + 1) at_275 s276 =
G_ringref5_Man_Text_L3 P N d N at_275 ([]) 0 s276 := by subst hP; kernel_rfl
theorem G_edge_texts_eq (hP : P = Try.prog) (N d : Nat) (num_299 : Int) : G_edge_texts P N (d + 1) num_299 =
bif (num_299 == 14) then
bif (num_299 == 14) then
some (2, ())
else
bif (num_299 == 3) then
bif (num_299 == 3) then
some (1, ())
else
some (0, ())
else
bif (num_299 == 5) then
bif (num_299 == 5) then
some (1, ())
else
some (0, ())
else
bif (num_299 == 12) then
bif (num_299 == 12) then
some (1, ())
else
some (0, ())
else
bif (num_299 == 13) then
bif (num_299 == 13) then
some (1, ())
else
some (0, ())
else
bif (num_299 == 17) then
bif (num_299 == 17) then
some (1, ())
else
some (0, ())
else
bif (num_299 == 18) then
bif (num_299 == 18) then
some (1, ())
else
some (0, ())
else
bif (num_299 == 19) then
bif (num_299 == 19) then
some (1, ())
else
some (0, ())
else
bif (num_299 == 28) then
bif (num_299 == 28) then
some (1, ())
else
some (0, ())
else
bif (num_299 == 29) then
bif (num_299 == 29) then
some (1, ())
else
some (0, ())
else
bif (num_299 == 32) then
bif (num_299 == 32) then
some (1, ())
else
some (0, ())
else
bif (num_299 == 33) then
some (1, ())
else
some (0, ())
else
bif (num_299 == 15) then
bif (num_299 == 15) then
some (2, ())
else
bif (num_299 == 3) then
bif (num_299 == 3) then
some (1, ())
else
some (0, ())
else
bif (num_299 == 5) then
bif (num_299 == 5) then
some (1, ())
else
some (0, ())
else
bif (num_299 == 12) then
bif (num_299 == 12) then
some (1, ())
else
some (0, ())
else
bif (num_299 == 13) then
bif (num_299 == 13) then
some (1, ())
else
some (0, ())
else
bif (num_299 == 17) then
bif (num_299 == 17) then
some (1, ())
else
some (0, ())
else
bif (num_299 == 18) then
bif (num_299 == 18) then
some (1, ())
else
some (0, ())
else
bif (num_299 == 19) then
bif (num_299 == 19) then
some (1, ())
else
some (0, ())
else
bif (num_299 == 28) then
bif (num_299 == 28) then
some (1, ())
else
some (0, ())
else
bif (num_299 == 29) then
bif (num_299 == 29) then
some (1, ())
else
some (0, ())
else
bif (num_299 == 32) then
bif (num_299 == 32) then
some (1, ())
else
some (0, ())
else
bif (num_299 == 33) then
some (1, ())
else
some (0, ())
else
bif (num_299 == 16) then
bif (num_299 == 16) then
some (2, ())
else
bif (num_299 == 3) then
bif (num_299 == 3) then
some (1, ())
else
some (0, ())
else
bif (num_299 == 5) then
bif (num_299 == 5) then
some (1, ())
else
some (0, ())
else
bif (num_299 == 12) then
bif (num_299 == 12) then
some (1, ())
else
some (0, ())
else
bif (num_299 == 13) then
bif (num_299 == 13) then
some (1, ())
else
some (0, ())
else
bif (num_299 == 17) then
bif (num_299 == 17) then
some (1, ())
else
some (0, ())
else
bif (num_299 == 18) then
bif (num_299 == 18) then
some (1, ())
else
some (0, ())
else
bif (num_299 == 19) then
bif (num_299 == 19) then
some (1, ())
else
some (0, ())
else
bif (num_299 == 28) then
bif (num_299 == 28) then
some (1, ())
else
some (0, ())
else
bif (num_299 == 29) then
bif (num_299 == 29) then
some (1, ())
else
some (0, ())
else
bif (num_299 == 32) then
bif (num_299 == 32) then
some (1, ())
else
some (0, ())
else
bif (num_299 == 33) then
some (1, ())
else
some (0, ())
else
bif (num_299 == 27) then
some (2, ())
else
bif (num_299 == 3) then
bif (num_299 == 3) then
some (1, ())
else
some (0, ())
else
bif (num_299 == 5) then
bif (num_299 == 5) then
some (1, ())
else
some (0, ())
else
bif (num_299 == 12) then
bif (num_299 == 12) then
some (1, ())
else
some (0, ())
else
bif (num_299 == 13) then
bif (num_299 == 13) then
some (1, ())
else
some (0, ())
else
bif (num_299 == 17) then
bif (num_299 == 17) then
some (1, ())
else
some (0, ())
else
bif (num_299 == 18) then
bif (num_299 == 18) then
some (1, ())
else
some (0, ())
else
bif (num_299 == 19) then
bif (num_299 == 19) then
some (1, ())
else
some (0, ())
else
bif (num_299 == 28) then
bif (num_299 == 28) then
some (1, ())
else
some (0, ())
else
bif (num_299 == 29) then
bif (num_299 == 29) then
some (1, ())
else
some (0, ())
else
bif (num_299 == 32) then
bif (num_299 == 32) then
some (1, ())
else
some (0, ())
else
bif (num_299 == 33) then
some (1, ())
else
some (0, ()) := by subst hP; kernel_rfl
theorem G_space_Memory_Read_eq (hP : P = Try.prog) (N d : Nat) (s_320 : Int) (addr_321 : Int) (n_322 : Int) (s323 : (Int × Int × Int × Unit × Unit × Unit)) (s324 : List (Option Nat)) (s325 : List ((Int) × (Option Nat))) (s326 : List (S_space_page)) (s327 : List (List ((Int) × (S_space_entry)))) : G_space_Memory_Read P N (d + 1) s_320 addr_321 n_322 s323 s324 s325 s326 s327 =
bif ((mlI s325 s_320).getD none).isNone then
some (([], 4, ()), s323, s326, ())
else
(bif (decide (n_322 < 0)) then
some true
else
some (decide (n_322 > 256))).bind fun b328 =>
bif b328 then
some (([], 1, ()), s323, s326, ())
else
(G_space_Memory_may P N d s_320 addr_321 n_322 1 s323 s324 s325 s327).bind fun x329 =>
bif (!x329.1) then
some (([], 11, ()), s323, s326, ())
else
(G_space_Memory_fetch P N d s_320 addr_321 n_322 s323 s324 s325 s326 s327).bind fun x330 =>
some ((x330.1, 0, ()), x330.2.1, x330.2.2.1, ()) := by subst hP; kernel_rfl
theorem G_edge_Take_L4_eq (hP : P = Try.prog) (N d : Nat) (k313 : Nat) (s_301 : Int) (n_302 : Int) (t_303 : Int) (t_304 : Int) (s305 : (Int × Int × Int × Unit × Unit × Unit)) (s306 : List (Option Nat)) (s307 : List ((Int) × (Option Nat))) (s308 : List (S_space_page)) (s309 : List (List ((Int) × (S_space_entry)))) (s310 : S_api_Regs) (s311 : (Int × Int × Int × Int × List UInt8 × List UInt8 × Unit × Unit)) (s312 : (Int × Int × Int × Int × List UInt8 × List UInt8 × Unit × Unit)) : G_edge_Take_L4 P N d (k313 + 1) s_301 n_302 t_303 t_304 s305 s306 s307 s308 s309 s310 s311 s312 =
bif (decide (t_304 < t_303)) then
if h314 : inb (wi .i64 (1 + t_304)) 8 = true then
(G_edge_Text P N d s_301 (gA s310.1 ⟨(wi .i64 (1 + t_304)).toNat, inb_lt h314⟩) s305 s306 s307 s308 s309).bind fun x315 =>
bif (x315.1.2.1 != 0) then
some (((0, 0, 0, 0, [], [], [], ()), x315.1.2.1, ()), x315.2.1, x315.2.2.1, ())
else
bif (t_304 == 0) then
G_edge_Take_L4 P N d k313 s_301 n_302 t_303 (wi .i64 (t_304 + 1)) x315.2.1 s306 s307 x315.2.2.1 s309 s310 s311 (u4 s312 x315.1.1)
else
G_edge_Take_L4 P N d k313 s_301 n_302 t_303 (wi .i64 (t_304 + 1)) x315.2.1 s306 s307 x315.2.2.1 s309 s310 s311 (u5 s312 x315.1.1)
else none
else
if h316 : inb (wi .i64 (1 + n_302)) 8 = true then
if h317 : inb (wi .i64 (2 + n_302)) 8 = true then
if h318 : inb (wi .i64 (3 + n_302)) 8 = true then
bif (s312.1 == 8) then
(bif (decide ((wi .i64 ((wi .i32 ((gA s310.1 ⟨(wi .i64 (3 + n_302)).toNat, inb_lt h318⟩))))) < 0)) then
some true
else
some (decide ((wi .i64 ((wi .i32 ((gA s310.1 ⟨(wi .i64 (3 + n_302)).toNat, inb_lt h318⟩))))) > 256))).bind fun b319 =>
bif b319 then
some (((0, 0, 0, 0, [], [], [], ()), 1, ()), s305, s308, ())
else
(G_space_Memory_Read P N d s_301 (wi .i64 ((wi .i32 ((gA s310.1 ⟨(wi .i64 (2 + n_302)).toNat, inb_lt h317⟩))))) (wi .i64 ((wi .i32 ((gA s310.1 ⟨(wi .i64 (3 + n_302)).toNat, inb_lt h318⟩))))) s305 s306 s307 s308 s309).bind fun x331 =>
bif (x331.1.2.1 != 0) then
some (((0, 0, 0, 0, [], [], [], ()), x331.1.2.1, ()), x331.2.1, x331.2.2.1, ())
else
some (((s312.1, (wi .i64 ((wi .i32 ((gA s310.1 ⟨(wi .i64 (1 + n_302)).toNat, inb_lt h316⟩))))), (wi .i64 ((wi .i32 ((gA s310.1 ⟨(wi .i64 (2 + n_302)).toNat, inb_lt h317⟩))))), (wi .i64 ((wi .i32 ((gA s310.1 ⟨(wi .i64 (3 + n_302)).toNat, inb_lt h318⟩))))), s312.2.2.2.2.1, s312.2.2.2.2.2.1, x331.1.1, ()), 0, ()), x331.2.1, x331.2.2.1, ())
else
some (((s312.1, (wi .i64 ((wi .i32 ((gA s310.1 ⟨(wi .i64 (1 + n_302)).toNat, inb_lt h316⟩))))), (wi .i64 ((wi .i32 ((gA s310.1 ⟨(wi .i64 (2 + n_302)).toNat, inb_lt h317⟩))))), (wi .i64 ((wi .i32 ((gA s310.1 ⟨(wi .i64 (3 + n_302)).toNat, inb_lt h318⟩))))), s312.2.2.2.2.1, s312.2.2.2.2.2.1, [], ()), 0, ()), s305, s308, ())
else none
else none
else none := by subst hP; kernel_rfl
theorem G_edge_Take_eq (hP : P = Try.prog) (N d : Nat) (s_292 : Int) (r_293 : S_api_Regs) (s294 : (Int × Int × Int × Unit × Unit × Unit)) (s295 : List (Option Nat)) (s296 : List ((Int) × (Option Nat))) (s297 : List (S_space_page)) (s298 : List (List ((Int) × (S_space_entry)))) : G_edge_Take P N (d + 1) s_292 r_293 s294 s295 s296 s297 s298 =
(G_edge_texts P N d (wi .i64 ((wi .i32 ((gA r_293.1 ⟨0, by decide⟩)))))).bind fun x300 =>
G_edge_Take_L4 P N d N s_292 x300.1 x300.1 0 s294 s295 s296 s297 s298 r_293 (0, 0, 0, 0, [], [], (), ()) ((wi .i64 ((wi .i32 ((gA r_293.1 ⟨0, by decide⟩))))), 0, 0, 0, [], [], (), ()) := by subst hP; kernel_rfl
theorem G_ringref5_signed_eq (hP : P = Try.prog) (N d : Nat) (x_335 : Int) : G_ringref5_signed P N (d + 1) x_335 =
bif (decide (x_335 < 2147483648)) then
some ((wi .i64 (x_335)), ())
else
some ((wi .i64 ((wi .i64 (x_335)) - 4294967296)), ()) := by subst hP; kernel_rfl
theorem G_ringref5_Man_Taken_J10_eq (hP : P = Try.prog) (N d : Nat) (at_339 : Int) (s340 : ((Int × Int × Unit × Int × Int × Int × Unit) × Unit × Unit × (Unit × Unit × Ar 16 (Int) × Unit) × Bool × Int × Ar 64 (S_ringref5_Page) × Unit)) (s341 : S_api_Regs) (s342 : (Int × Int × Int × Int × List UInt8 × List UInt8 × Unit × Unit)) (s343 : (Int × Int × Int × Int × List UInt8 × List UInt8 × Unit × Unit)) : G_ringref5_Man_Taken_J10 P N d at_339 s340 s341 s342 s343 =
(bif (decide (s343.1 ≥ 14)) then
bif (decide (s343.1 ≤ 16)) then
some true
else
some (s343.1 == 27)
else
some (s343.1 == 27)).bind fun b344 =>
bif b344 then
if h345 : inb at_339 8 = true then
(G_ringref5_Man_Text P N d (gA s341.1 ⟨at_339.toNat, inb_lt h345⟩) s340).bind fun x346 =>
bif (x346.1.2.1 != 0) then
some (Sum.inl (((0, 0, 0, 0, [], [], [], ()), x346.1.2.1, ()), ()))
else
G_ringref5_Man_Taken_J15 P N d (wi .i64 (at_339 + 1)) s340 s341 s342 (u5 s343 x346.1.1)
else none
else
G_ringref5_Man_Taken_J15 P N d at_339 s340 s341 s342 s343 := by subst hP; kernel_rfl
theorem G_ringref5_Man_Taken_J15_eq (hP : P = Try.prog) (N d : Nat) (at_347 : Int) (s348 : ((Int × Int × Unit × Int × Int × Int × Unit) × Unit × Unit × (Unit × Unit × Ar 16 (Int) × Unit) × Bool × Int × Ar 64 (S_ringref5_Page) × Unit)) (s349 : S_api_Regs) (s350 : (Int × Int × Int × Int × List UInt8 × List UInt8 × Unit × Unit)) (s351 : (Int × Int × Int × Int × List UInt8 × List UInt8 × Unit × Unit)) : G_ringref5_Man_Taken_J15 P N d at_347 s348 s349 s350 s351 =
if h352 : inb at_347 8 = true then
(G_ringref5_signed P N d (gA s349.1 ⟨at_347.toNat, inb_lt h352⟩)).bind fun x353 =>
if h354 : inb (wi .i64 (at_347 + 1)) 8 = true then
(G_ringref5_signed P N d (gA s349.1 ⟨(wi .i64 (at_347 + 1)).toNat, inb_lt h354⟩)).bind fun x355 =>
if h356 : inb (wi .i64 (at_347 + 2)) 8 = true then
(G_ringref5_signed P N d (gA s349.1 ⟨(wi .i64 (at_347 + 2)).toNat, inb_lt h356⟩)).bind fun x357 =>
bif (s351.1 != 8) then
some (Sum.inl (((s351.1, x353.1, x355.1, x357.1, s351.2.2.2.2.1, s351.2.2.2.2.2.1, [], ()), 0, ()), ()))
else
(bif (decide (x357.1 < 0)) then
some true
else
some (decide (x357.1 > 256))).bind fun b358 =>
bif b358 then
some (Sum.inl (((0, 0, 0, 0, [], [], [], ()), 1, ()), ()))
else
G_ringref5_Man_Taken_L21 P N d N x357.1 0 s348 s350 (s351.1, x353.1, x355.1, x357.1, s351.2.2.2.2.1, s351.2.2.2.2.2.1, (), ()) ([])
else none
else none
else none := rfl
theorem G_ringref5_Man_Taken_L21_eq (hP : P = Try.prog) (N d : Nat) (k365 : Nat) (t_359 : Int) (t_360 : Int) (s361 : ((Int × Int × Unit × Int × Int × Int × Unit) × Unit × Unit × (Unit × Unit × Ar 16 (Int) × Unit) × Bool × Int × Ar 64 (S_ringref5_Page) × Unit)) (s362 : (Int × Int × Int × Int × List UInt8 × List UInt8 × Unit × Unit)) (s363 : (Int × Int × Int × Int × List UInt8 × List UInt8 × Unit × Unit)) (s364 : List (Int)) : G_ringref5_Man_Taken_L21 P N d (k365 + 1) t_359 t_360 s361 s362 s363 s364 =
bif (decide (t_360 < t_359)) then
(G_ringref5_Man_Byte P N d (wi .i64 (s363.2.2.1 + t_360)) 1 s361).bind fun x366 =>
bif (!x366.1.2.1) then
some (Sum.inl (((0, 0, 0, 0, [], [], [], ()), 11, ()), ()))
else
bif lenOk (s364.length + ([x366.1.1] : List (Int)).length) 1 then
G_ringref5_Man_Taken_L21 P N d k365 t_359 (wi .i64 (t_360 + 1)) s361 s362 (s363.1, s363.2.1, s363.2.2.1, s363.2.2.2.1, s363.2.2.2.2.1, s363.2.2.2.2.2.1, (), ()) (s364 ++ [x366.1.1])
else none
else
some (Sum.inr ((s363, 0, ()), s364, ())) := by subst hP; kernel_rfl
theorem G_ringref5_Man_Taken_eq (hP : P = Try.prog) (N d : Nat) (r_333 : S_api_Regs) (s334 : ((Int × Int × Unit × Int × Int × Int × Unit) × Unit × Unit × (Unit × Unit × Ar 16 (Int) × Unit) × Bool × Int × Ar 64 (S_ringref5_Page) × Unit)) : G_ringref5_Man_Taken P N (d + 1) r_333 s334 =
(G_ringref5_signed P N d (gA r_333.1 ⟨0, by decide⟩)).bind fun x336 =>
(bif (x336.1 == 3) then
some true
else
bif (x336.1 == 5) then
some true
else
bif (decide (x336.1 ≥ 12)) then
bif (decide (x336.1 ≤ 19)) then
some true
else
bif (decide (x336.1 ≥ 27)) then
bif (decide (x336.1 ≤ 29)) then
some true
else
bif (x336.1 == 32) then
some true
else
some (x336.1 == 33)
else
bif (x336.1 == 32) then
some true
else
some (x336.1 == 33)
else
bif (decide (x336.1 ≥ 27)) then
bif (decide (x336.1 ≤ 29)) then
some true
else
bif (x336.1 == 32) then
some true
else
some (x336.1 == 33)
else
bif (x336.1 == 32) then
some true
else
some (x336.1 == 33)).bind fun b337 =>
bif b337 then
(G_ringref5_Man_Text P N d (gA r_333.1 ⟨1, by decide⟩) s334).bind fun x338 =>
bif (x338.1.2.1 != 0) then
some (Sum.inl (((0, 0, 0, 0, [], [], [], ()), x338.1.2.1, ()), ()))
else
G_ringref5_Man_Taken_J10 P N d 2 s334 r_333 (0, 0, 0, 0, [], [], (), ()) (x336.1, 0, 0, 0, x338.1.1, [], (), ())
else
G_ringref5_Man_Taken_J10 P N d 1 s334 r_333 (0, 0, 0, 0, [], [], (), ()) (x336.1, 0, 0, 0, [], [], (), ()) := by subst hP; kernel_rfl
theorem G_slices_Equal_L4_eq (hP : P = Try.prog) (N d : Nat) (k396 : Nat) (s_392 : List (Int)) (s_393 : List (Int)) (t_394 : Int) (t_395 : Int) : G_slices_Equal_L4 P N d (k396 + 1) s_392 s_393 t_394 t_395 =
bif (decide (t_395 < t_394)) then
bif decide (0 ≤ t_395) then
(lget s_392 t_395.toNat).bind fun y397 =>
bif decide (0 ≤ t_395) then
(lget s_393 t_395.toNat).bind fun y398 =>
bif (y397 != y398) then
some (false, ())
else
G_slices_Equal_L4 P N d k396 s_392 s_393 t_394 (wi .i64 (t_395 + 1))
else none
else none
else
some (true, ()) := by subst hP; kernel_rfl
theorem G_slices_Equal_eq (hP : P = Try.prog) (N d : Nat) (s_390 : List (Int)) (s_391 : List (Int)) : G_slices_Equal P N (d + 1) s_390 s_391 =
bif ((s_390.length : Int) != (s_391.length : Int)) then
some (false, ())
else
G_slices_Equal_L4 P N d N s_390 s_391 (s_390.length : Int) 0 := by subst hP; kernel_rfl
theorem G_ringlaw5_sameCall_eq (hP : P = Try.prog) (N d : Nat) (a_388 : S_api_Call) (b_389 : S_api_Call) : G_ringlaw5_sameCall P N (d + 1) a_388 b_389 =
(bif (a_388.1 == b_389.1) then
bif (a_388.2.1 == b_389.2.1) then
bif (a_388.2.2.1 == b_389.2.2.1) then
bif (a_388.2.2.2.1 == b_389.2.2.2.1) then
bif (a_388.2.2.2.2.1 == b_389.2.2.2.2.1) then
bif (a_388.2.2.2.2.2.1 == b_389.2.2.2.2.2.1) then
(G_slices_Equal P N d a_388.2.2.2.2.2.2.1 b_389.2.2.2.2.2.2.1).bind fun x399 =>
some x399.1
else
some false
else
some false
else
some false
else
some false
else
some false
else
some false).bind fun b400 =>
some (b400, ()) := by subst hP; kernel_rfl
theorem G_space_Memory_shared_L3_eq (hP : P = Try.prog) (N d : Nat) (k460 : Nat) (s_450 : Int) (addr_451 : Int) (n_452 : Int) (many_453 : Int) (k_454 : Int) (s455 : (Int × Int × Int × Unit × Unit × Unit)) (s456 : List (Option Nat)) (s457 : List ((Int) × (Option Nat))) (s458 : List (S_space_page)) (s459 : List (List ((Int) × (S_space_entry)))) : G_space_Memory_shared_L3 P N d (k460 + 1) s_450 addr_451 n_452 many_453 k_454 s455 s456 s457 s458 s459 =
(bif (decide (n_452 > 0)) then
some (decide (k_454 ≤ (wi .i64 ((wi .i64 ((wi .i64 (addr_451 + n_452)) - 1)).tdiv 16))))
else
some false).bind fun b461 =>
bif b461 then
oc ((mlI s457 s_450).getD none) (
none.bind fun i464 =>
(lget s458 i464).bind fun y465 =>
bif (decide (y465.2.1 > 1)) then
G_space_Memory_shared_L3 P N d k460 s_450 addr_451 n_452 (wi .i64 (many_453 + 1)) (wi .i64 (k_454 + 1)) s455 s456 s457 s458 s459
else
G_space_Memory_shared_L3 P N d k460 s_450 addr_451 n_452 many_453 (wi .i64 (k_454 + 1)) s455 s456 s457 s458 s459) fun i462 => (lget s459 i462).bind fun d463 =>
(((mlI d463 k_454).getD (none, 0, ())).1).bind fun i466 =>
(lget s458 i466).bind fun y467 =>
bif (decide (y467.2.1 > 1)) then
G_space_Memory_shared_L3 P N d k460 s_450 addr_451 n_452 (wi .i64 (many_453 + 1)) (wi .i64 (k_454 + 1)) s455 s456 s457 s458 s459
else
G_space_Memory_shared_L3 P N d k460 s_450 addr_451 n_452 many_453 (wi .i64 (k_454 + 1)) s455 s456 s457 s458 s459
else
some (many_453, ()) := by subst hP; kernel_rfl
theorem G_space_Memory_shared_eq (hP : P = Try.prog) (N d : Nat) (s_442 : Int) (addr_443 : Int) (n_444 : Int) (s445 : (Int × Int × Int × Unit × Unit × Unit)) (s446 : List (Option Nat)) (s447 : List ((Int) × (Option Nat))) (s448 : List (S_space_page)) (s449 : List (List ((Int) × (S_space_entry)))) : G_space_Memory_shared P N (d + 1) s_442 addr_443 n_444 s445 s446 s447 s448 s449 =
G_space_Memory_shared_L3 P N d N s_442 addr_443 n_444 0 (wi .i64 (addr_443.tdiv 16)) s445 s446 s447 s448 s449 := by subst hP; kernel_rfl
theorem G_space_Memory_lay_L4_eq (hP : P = Try.prog) (N d : Nat) (k480 : Nat) (s_470 : Int) (addr_471 : Int) (t_472 : List (Int)) (t_473 : Int) (t_474 : Int) (s475 : (Int × Int × Int × Unit × Unit × Unit)) (s476 : List ((Int) × (Option Nat))) (s477 : List (S_space_page)) (s478 : List (List ((Int) × (S_space_entry)))) (s479 : List (Option Nat)) : G_space_Memory_lay_L4 P N d (k480 + 1) s_470 addr_471 t_472 t_473 t_474 s475 s476 s477 s478 s479 =
bif (decide (t_474 < t_473)) then
bif decide (0 ≤ t_474) then
(lget t_472 t_474.toNat).bind fun y481 =>
oc ((mlI s476 s_470).getD none) (
G_space_Memory_lay_J8 P N d k480 s_470 addr_471 t_474 y481 (wi .i64 ((wi .i64 (addr_471 + t_474)).tdiv 16)) t_472 t_473 t_474 s475 s476 s477 s478 s479 (none, 0, ())) fun i482 => (lget s478 i482).bind fun d483 =>
G_space_Memory_lay_J8 P N d k480 s_470 addr_471 t_474 y481 (wi .i64 ((wi .i64 (addr_471 + t_474)).tdiv 16)) t_472 t_473 t_474 s475 s476 s477 s478 s479 ((mlI d483 (wi .i64 ((wi .i64 (addr_471 + t_474)).tdiv 16))).getD (none, 0, ()))
else none
else
some (0, s475, s477, s478, s479, ()) := by subst hP; kernel_rfl
theorem G_space_Memory_lay_J8_eq (hP : P = Try.prog) (N d : Nat) (k480 : Nat) (s_484 : Int) (addr_485 : Int) (i_486 : Int) (b_487 : Int) (k_488 : Int) (t_489 : List (Int)) (t_490 : Int) (t_491 : Int) (s492 : (Int × Int × Int × Unit × Unit × Unit)) (s493 : List ((Int) × (Option Nat))) (s494 : List (S_space_page)) (s495 : List (List ((Int) × (S_space_entry)))) (s496 : List (Option Nat)) (s497 : S_space_entry) : G_space_Memory_lay_J8 P N d k480 s_484 addr_485 i_486 b_487 k_488 t_489 t_490 t_491 s492 s493 s494 s495 s496 s497 =
s497.1.bind fun i498 =>
(lget s494 i498).bind fun y499 =>
bif (decide (y499.2.1 > 1)) then
s497.1.bind fun i500 =>
(lget s494 i500).bind fun y501 =>
s497.1.bind fun i502 =>
(lget s494 i502).bind fun y503 =>
s497.1.bind fun i504 =>
(lget (lset s494 i502 (u1 y503 (wi .i64 (y501.2.1 - 1)))) i504).bind fun y505 =>
(G_space_Memory_add P N d y505.1 s492 s496 s493 (lset s494 i502 (u1 y503 (wi .i64 (y501.2.1 - 1))))).bind fun x506 =>
oc ((mlI s493 s_484).getD none) (
none) fun i507 => (lget s495 i507).bind fun d508 =>
G_space_Memory_lay_J12 P N d k480 s_484 addr_485 i_486 b_487 t_489 t_490 t_491 x506.2.1 s493 x506.2.2.1 (lset s495 i507 (mpI d508 k_488 (u0 s497 x506.1))) x506.2.2.2.1 (u0 s497 x506.1)
else
G_space_Memory_lay_J12 P N d k480 s_484 addr_485 i_486 b_487 t_489 t_490 t_491 s492 s493 s494 s495 s496 s497 := by subst hP; kernel_rfl
theorem G_space_Memory_lay_J12_eq (hP : P = Try.prog) (N d : Nat) (k480 : Nat) (s_509 : Int) (addr_510 : Int) (i_511 : Int) (b_512 : Int) (t_513 : List (Int)) (t_514 : Int) (t_515 : Int) (s516 : (Int × Int × Int × Unit × Unit × Unit)) (s517 : List ((Int) × (Option Nat))) (s518 : List (S_space_page)) (s519 : List (List ((Int) × (S_space_entry)))) (s520 : List (Option Nat)) (s521 : S_space_entry) : G_space_Memory_lay_J12 P N d k480 s_509 addr_510 i_511 b_512 t_513 t_514 t_515 s516 s517 s518 s519 s520 s521 =
(G_space_Memory_ask P N d s521.1 s516 s520 s517 s518).bind fun x522 =>
s521.1.bind fun i523 =>
if h524 : inb ((wi .i64 (addr_510 + i_511)).tmod 16) 16 = true then
(lget x522.2.2.1 i523).bind fun y525 =>
G_space_Memory_lay_L4 P N d k480 s_509 addr_510 t_513 t_514 (wi .i64 (t_515 + 1)) x522.2.1 s517 (lset x522.2.2.1 i523 (u0 y525 (sA y525.1 ⟨((wi .i64 (addr_510 + i_511)).tmod 16).toNat, inb_lt h524⟩ b_512))) s519 s520
else none := by subst hP; kernel_rfl
theorem G_space_Memory_lay_eq (hP : P = Try.prog) (N d : Nat) (s_434 : Int) (addr_435 : Int) (data_436 : List (Int)) (s437 : (Int × Int × Int × Unit × Unit × Unit)) (s438 : List (Option Nat)) (s439 : List ((Int) × (Option Nat))) (s440 : List (S_space_page)) (s441 : List (List ((Int) × (S_space_entry)))) : G_space_Memory_lay P N (d + 1) s_434 addr_435 data_436 s437 s438 s439 s440 s441 =
(G_space_Memory_shared P N d s_434 addr_435 (data_436.length : Int) s437 s438 s439 s440 s441).bind fun x468 =>
(G_space_Memory_room P N d x468.1 s437 s438 s439).bind fun x469 =>
bif (!x469.1) then
some (6, s437, s440, s441, s438, ())
else
G_space_Memory_lay_L4 P N d N s_434 addr_435 data_436 (data_436.length : Int) 0 s437 s439 s440 s441 s438 := by subst hP; kernel_rfl
theorem G_space_Memory_Write_eq (hP : P = Try.prog) (N d : Nat) (s_425 : Int) (addr_426 : Int) (data_427 : List (Int)) (s428 : (Int × Int × Int × Unit × Unit × Unit)) (s429 : List (Option Nat)) (s430 : List ((Int) × (Option Nat))) (s431 : List (S_space_page)) (s432 : List (List ((Int) × (S_space_entry)))) : G_space_Memory_Write P N (d + 1) s_425 addr_426 data_427 s428 s429 s430 s431 s432 =
bif ((mlI s430 s_425).getD none).isNone then
some (4, s428, s431, s432, s429, ())
else
bif (decide ((data_427.length : Int) > 256)) then
some (1, s428, s431, s432, s429, ())
else
(G_space_Memory_may P N d s_425 addr_426 (data_427.length : Int) 2 s428 s429 s430 s432).bind fun x433 =>
bif (!x433.1) then
some (11, s428, s431, s432, s429, ())
else
(G_space_Memory_lay P N d s_425 addr_426 data_427 s428 s429 s430 s431 s432).bind fun x526 =>
some (x526.1, x526.2.1, x526.2.2.1, x526.2.2.2.1, x526.2.2.2.2.1, ()) := by subst hP; kernel_rfl
theorem G_edge_Give_J5_eq (hP : P = Try.prog) (N d : Nat) (s528 : (Int × Int × Int × Unit × Unit × Unit)) (s529 : List ((Int) × (Option Nat))) (s530 : List (S_space_page)) (s531 : List (List ((Int) × (S_space_entry)))) (s532 : List (Option Nat)) (s533 : S_api_Regs) (s534 : S_api_Answer) (s535 : S_api_Regs) : G_edge_Give_J5 P N d s528 s529 s530 s531 s532 s533 s534 s535 =
some ((u0 s533 (sA (sA (sA s533.1 ⟨0, by decide⟩ (wi .u32 (s534.2.1))) ⟨1, by decide⟩ (wi .u32 (s534.1))) ⟨2, by decide⟩ (wi .u32 (s534.2.2.1)))), s528, s530, s531, s532, ()) := rfl
theorem G_edge_Give_eq (hP : P = Try.prog) (N d : Nat) (s_415 : Int) (r_416 : S_api_Regs) (c_417 : S_api_Call) (a_418 : S_api_Answer) (s419 : (Int × Int × Int × Unit × Unit × Unit)) (s420 : List (Option Nat)) (s421 : List ((Int) × (Option Nat))) (s422 : List (S_space_page)) (s423 : List (List ((Int) × (S_space_entry)))) : G_edge_Give P N (d + 1) s_415 r_416 c_417 a_418 s419 s420 s421 s422 s423 =
(bif (a_418.1 == 0) then
bif (c_417.1 == 7) then
some (decide ((a_418.2.2.2.1.length : Int) > 0))
else
some false
else
some false).bind fun b424 =>
bif b424 then
(G_space_Memory_Write P N d s_415 c_417.2.2.1 a_418.2.2.2.1 s419 s420 s421 s422 s423).bind fun x527 =>
bif (x527.1 != 0) then
G_edge_Give_J5 P N d x527.2.1 s421 x527.2.2.1 x527.2.2.2.1 x527.2.2.2.2.1 r_416 (x527.1, 0, 0, [], [], (0, 0, 0, 0, 0, 0, ()), ()) ((nA 8 0), 0, 0, ())
else
G_edge_Give_J5 P N d x527.2.1 s421 x527.2.2.1 x527.2.2.2.1 x527.2.2.2.2.1 r_416 a_418 ((nA 8 0), 0, 0, ())
else
G_edge_Give_J5 P N d s419 s421 s422 s423 s420 r_416 a_418 ((nA 8 0), 0, 0, ()) := by subst hP; kernel_rfl
theorem G_ringref5_Man_Put_eq (hP : P = Try.prog) (N d : Nat) (at_566 : Int) (b_567 : Int) (s568 : ((Int × Int × Unit × Int × Int × Int × Unit) × Unit × Unit × (Unit × Unit × Ar 16 (Int) × Unit) × Bool × Int × Ar 64 (S_ringref5_Page) × Unit)) : G_ringref5_Man_Put P N (d + 1) at_566 b_567 s568 =
(G_ringref5_Man_Byte P N d at_566 2 s568).bind fun x569 =>
bif (!x569.1.2.1) then
some (false, s568, ())
else
if h570 : inb (wi .i64 (at_566.tdiv 16)) 64 = true then
if h571 : inb (at_566.tmod 16) 16 = true then
some (true, (u6 s568 (sA s568.2.2.2.2.2.2.1 ⟨(wi .i64 (at_566.tdiv 16)).toNat, inb_lt h570⟩ (u2 (gA s568.2.2.2.2.2.2.1 ⟨(wi .i64 (at_566.tdiv 16)).toNat, inb_lt h570⟩) (sA ((gA s568.2.2.2.2.2.2.1 ⟨(wi .i64 (at_566.tdiv 16)).toNat, inb_lt h570⟩).2.2.1) ⟨(at_566.tmod 16).toNat, inb_lt h571⟩ b_567)))), ())
else none
else none := by subst hP; kernel_rfl
theorem G_ringref5_Man_Given_L3_eq (hP : P = Try.prog) (N d : Nat) (k549 : Nat) (t_542 : Int) (t_543 : Int) (s544 : ((Int × Int × Unit × Int × Int × Int × Unit) × Unit × Unit × (Unit × Unit × Ar 16 (Int) × Unit) × Bool × Int × Ar 64 (S_ringref5_Page) × Unit)) (s545 : S_api_Regs) (s546 : S_api_Call) (s547 : S_api_Answer) (s548 : S_api_Regs) : G_ringref5_Man_Given_L3 P N d (k549 + 1) t_542 t_543 s544 s545 s546 s547 s548 =
bif (decide (t_543 < t_542)) then
(G_ringref5_Man_Byte P N d (wi .i64 (s546.2.2.1 + t_543)) 2 s544).bind fun x550 =>
bif (!x550.1.2.1) then
G_ringref5_Man_Given_J9 P N d s544 s545 s546 (11, 0, 0, [], [], (0, 0, 0, 0, 0, 0, ()), ()) s548
else
G_ringref5_Man_Given_L3 P N d k549 t_542 (wi .i64 (t_543 + 1)) s544 s545 s546 s547 s548
else
G_ringref5_Man_Given_J9 P N d s544 s545 s546 s547 s548 := by subst hP; kernel_rfl
theorem G_ringref5_Man_Given_J9_eq (hP : P = Try.prog) (N d : Nat) (s551 : ((Int × Int × Unit × Int × Int × Int × Unit) × Unit × Unit × (Unit × Unit × Ar 16 (Int) × Unit) × Bool × Int × Ar 64 (S_ringref5_Page) × Unit)) (s552 : S_api_Regs) (s553 : S_api_Call) (s554 : S_api_Answer) (s555 : S_api_Regs) : G_ringref5_Man_Given_J9 P N d s551 s552 s553 s554 s555 =
G_ringref5_Man_Given_L10 P N d N s554.2.2.2.1 (s554.2.2.2.1.length : Int) 0 s551 s552 s553 s554 s555 := rfl
theorem G_ringref5_Man_Given_L10_eq (hP : P = Try.prog) (N d : Nat) (k564 : Nat) (t_556 : List (Int)) (t_557 : Int) (t_558 : Int) (s559 : ((Int × Int × Unit × Int × Int × Int × Unit) × Unit × Unit × (Unit × Unit × Ar 16 (Int) × Unit) × Bool × Int × Ar 64 (S_ringref5_Page) × Unit)) (s560 : S_api_Regs) (s561 : S_api_Call) (s562 : S_api_Answer) (s563 : S_api_Regs) : G_ringref5_Man_Given_L10 P N d (k564 + 1) t_556 t_557 t_558 s559 s560 s561 s562 s563 =
bif (decide (t_558 < t_557)) then
bif decide (0 ≤ t_558) then
(lget t_556 t_558.toNat).bind fun y565 =>
(G_ringref5_Man_Put P N d (wi .i64 (s561.2.2.1 + t_558)) y565 s559).bind fun x572 =>
G_ringref5_Man_Given_L10 P N d k564 t_556 t_557 (wi .i64 (t_558 + 1)) x572.2.1 s560 s561 s562 s563
else none
else
G_ringref5_Man_Given_J14 P N d s559 s560 s562 s563 := by subst hP; kernel_rfl
theorem G_ringref5_Man_Given_J14_eq (hP : P = Try.prog) (N d : Nat) (s573 : ((Int × Int × Unit × Int × Int × Int × Unit) × Unit × Unit × (Unit × Unit × Ar 16 (Int) × Unit) × Bool × Int × Ar 64 (S_ringref5_Page) × Unit)) (s574 : S_api_Regs) (s575 : S_api_Answer) (s576 : S_api_Regs) : G_ringref5_Man_Given_J14 P N d s573 s574 s575 s576 =
some ((u0 s574 (sA (sA (sA s574.1 ⟨0, by decide⟩ (wi .u32 (s575.2.1))) ⟨1, by decide⟩ (wi .u32 (s575.1))) ⟨2, by decide⟩ (wi .u32 (s575.2.2.1)))), s573, ()) := rfl
theorem G_ringref5_Man_Given_eq (hP : P = Try.prog) (N d : Nat) (r_537 : S_api_Regs) (c_538 : S_api_Call) (a_539 : S_api_Answer) (s540 : ((Int × Int × Unit × Int × Int × Int × Unit) × Unit × Unit × (Unit × Unit × Ar 16 (Int) × Unit) × Bool × Int × Ar 64 (S_ringref5_Page) × Unit)) : G_ringref5_Man_Given P N (d + 1) r_537 c_538 a_539 s540 =
(bif (a_539.1 == 0) then
some (c_538.1 == 7)
else
some false).bind fun b541 =>
bif b541 then
G_ringref5_Man_Given_L3 P N d N (a_539.2.2.2.1.length : Int) 0 s540 r_537 c_538 a_539 ((nA 8 0), 0, 0, ())
else
G_ringref5_Man_Given_J14 P N d s540 r_537 a_539 ((nA 8 0), 0, 0, ()) := by subst hP; kernel_rfl
theorem G_ringlaw5_EdgeSays_J2_eq (hP : P = Try.prog) (N d : Nat) (bytes_13 : List (Int)) (page_14 : Int) (e_15 : Int) (s16 : List (S_space_page)) (s17 : List (List ((Int) × (S_space_entry)))) (s18 : S_api_Regs) (s19 : S_api_Answer) : G_ringlaw5_EdgeSays_J2 P N d bytes_13 page_14 e_15 s16 s17 s18 s19 =
bif (e_15 != 0) then
some (false, s16, s17, ())
else
some (false, s16, s17, ()) := by subst hP; kernel_rfl
theorem G_ringlaw5_EdgeSays_J2_1_eq (hP : P = Try.prog) (N d : Nat) (bytes_20 : List (Int)) (page_21 : Int) (e_22 : Int) (s23 : List (S_space_page)) (s24 : List (List ((Int) × (S_space_entry)))) (s25 : S_api_Regs) (s26 : S_api_Answer) (s27 : (Int × Int × Int × Unit × Unit × Unit)) (s28 : List (Option Nat)) (s29 : List ((Int) × (Option Nat))) : G_ringlaw5_EdgeSays_J2_1 P N d bytes_20 page_21 e_22 s23 s24 s25 s26 s27 s28 s29 =
bif (e_22 != 0) then
some (false, s23, s24, ())
else
(G_space_Memory_Make P N d s27 s28 s29 s24).bind fun x40 =>
(G_ringref5_Rest P N d page_21 60).bind fun x43 =>
G_ringlaw5_EdgeSays_L8 P N d N bytes_20 x43.1 x40.1.2.1 x40.1.1 0 s23 x40.2.2.1 s25 s26 x40.2.1 s28 x40.2.2.2.1 ((0, 0, (), 0, 0, 0, ()), (), (), ((), (), (nA 16 0), ()), false, 0, (nA 64 (false, 0, (nA 16 0), ())), ()) := by subst hP; kernel_rfl
theorem G_ringlaw5_EdgeSays_L8_eq (hP : P = Try.prog) (N d : Nat) (k57 : Nat) (bytes_44 : List (Int)) (page_45 : Int) (e_46 : Int) (s_47 : Int) (t_48 : Int) (s49 : List (S_space_page)) (s50 : List (List ((Int) × (S_space_entry)))) (s51 : S_api_Regs) (s52 : S_api_Answer) (s53 : (Int × Int × Int × Unit × Unit × Unit)) (s54 : List (Option Nat)) (s55 : List ((Int) × (Option Nat))) (s56 : ((Int × Int × Unit × Int × Int × Int × Unit) × Unit × Unit × (Unit × Unit × Ar 16 (Int) × Unit) × Bool × Int × Ar 64 (S_ringref5_Page) × Unit)) : G_ringlaw5_EdgeSays_L8 P N d (k57 + 1) bytes_44 page_45 e_46 s_47 t_48 s49 s50 s51 s52 s53 s54 s55 s56 =
bif (decide (t_48 < 4)) then
bif (decide ((wi .i64 (16 * t_48)) < (bytes_44.length : Int))) then
bif slOk (wi .i64 (16 * t_48)) (minI (bytes_44.length : Int) (wi .i64 ((wi .i64 (16 * t_48)) + 16))) bytes_44.length then
G_ringlaw5_EdgeSays_J13 P N d k57 bytes_44 page_45 e_46 s_47 t_48 ((List.take (minI (bytes_44.length : Int) (wi .i64 ((wi .i64 (16 * t_48)) + 16))).toNat bytes_44).drop (wi .i64 (16 * t_48)).toNat) t_48 s49 s50 s51 s52 s53 s54 s55 s56
else none
else
G_ringlaw5_EdgeSays_J13 P N d k57 bytes_44 page_45 e_46 s_47 t_48 ([]) t_48 s49 s50 s51 s52 s53 s54 s55 s56
else
(G_edge_Text P N d s_47 (gA s51.1 ⟨1, by decide⟩) s53 s54 s55 s49 s50).bind fun x274 =>
(G_ringref5_Man_Text P N d (gA s51.1 ⟨1, by decide⟩) s56).bind fun x291 =>
(G_edge_Take P N d s_47 s51 x274.2.1 s54 s55 x274.2.2.1 s50).bind fun x332 =>
(G_ringref5_Man_Taken P N d s51 s56).bind fun x367 =>
match x367 with
| .inl x368 =>
G_ringlaw5_EdgeSays_J23 P N d page_45 s_47 x274.1.1 x274.1.2.1 x291.1.1 x291.1.2.1 x332.1.2.1 x368.1.2.1 x332.2.2.1 s50 s51 s52 x332.2.1 s54 s55 s56 x332.1.1 x368.1.1
| .inr x369 =>
(G_ringlaw5_EdgeSays_J23_1 P N d page_45 s_47 x274.1.1 x274.1.2.1 x291.1.1 x291.1.2.1 x332.1.2.1 x369.1.2.1 x332.2.2.1 s50 s51 s52 x332.2.1 s54 s55 s56 x332.1.1 x369.1.1 x369.2.1) := by subst hP; kernel_rfl
theorem G_ringlaw5_EdgeSays_J13_eq (hP : P = Try.prog) (N d : Nat) (k57 : Nat) (bytes_58 : List (Int)) (page_59 : Int) (e_60 : Int) (s_61 : Int) (k_62 : Int) (b_63 : List (Int)) (t_64 : Int) (s65 : List (S_space_page)) (s66 : List (List ((Int) × (S_space_entry)))) (s67 : S_api_Regs) (s68 : S_api_Answer) (s69 : (Int × Int × Int × Unit × Unit × Unit)) (s70 : List (Option Nat)) (s71 : List ((Int) × (Option Nat))) (s72 : ((Int × Int × Unit × Int × Int × Int × Unit) × Unit × Unit × (Unit × Unit × Ar 16 (Int) × Unit) × Bool × Int × Ar 64 (S_ringref5_Page) × Unit)) : G_ringlaw5_EdgeSays_J13 P N d k57 bytes_58 page_59 e_60 s_61 k_62 b_63 t_64 s65 s66 s67 s68 s69 s70 s71 s72 =
(G_space_Memory_Put P N d s_61 (wi .i64 (page_59 + k_62)) 3 b_63 s69 s70 s71 s65 s66).bind fun x170 =>
(bif (e_60 != 0) then
some true
else
some (x170.1 != 0)).bind fun b171 =>
bif b171 then
some (false, x170.2.2.1, x170.2.2.2.1, ())
else
if h172 : inb (wi .i64 (page_59 + k_62)) 64 = true then
if h173 : inb (wi .i64 (page_59 + k_62)) 64 = true then
if h174 : (cpyR ((gA (sA s72.2.2.2.2.2.2.1 ⟨(wi .i64 (page_59 + k_62)).toNat, inb_lt h172⟩ (true, 3, (nA 16 0), ())) ⟨(wi .i64 (page_59 + k_62)).toNat, inb_lt h173⟩).2.2.1).1 0 16 b_63).length = 16 then
G_ringlaw5_EdgeSays_L8 P N d k57 bytes_58 page_59 e_60 s_61 (wi .i64 (t_64 + 1)) x170.2.2.1 x170.2.2.2.1 s67 s68 x170.2.1 x170.2.2.2.2.1 s71 (u6 s72 (sA (sA s72.2.2.2.2.2.2.1 ⟨(wi .i64 (page_59 + k_62)).toNat, inb_lt h172⟩ (true, 3, (nA 16 0), ())) ⟨(wi .i64 (page_59 + k_62)).toNat, inb_lt h173⟩ (u2 (gA (sA s72.2.2.2.2.2.2.1 ⟨(wi .i64 (page_59 + k_62)).toNat, inb_lt h172⟩ (true, 3, (nA 16 0), ())) ⟨(wi .i64 (page_59 + k_62)).toNat, inb_lt h173⟩) (⟨cpyR ((gA (sA s72.2.2.2.2.2.2.1 ⟨(wi .i64 (page_59 + k_62)).toNat, inb_lt h172⟩ (true, 3, (nA 16 0), ())) ⟨(wi .i64 (page_59 + k_62)).toNat, inb_lt h173⟩).2.2.1).1 0 16 b_63, h174⟩ : Ar 16 (Int)))))
else none
else none
else none := by subst hP; kernel_rfl
theorem G_ringlaw5_EdgeSays_J23_eq (hP : P = Try.prog) (N d : Nat) (page_370 : Int) (s_371 : Int) (t_372 : List UInt8) (f_373 : Int) (u_374 : List UInt8) (g_375 : Int) (h_376 : Int) (i_377 : Int) (s378 : List (S_space_page)) (s379 : List (List ((Int) × (S_space_entry)))) (s380 : S_api_Regs) (s381 : S_api_Answer) (s382 : (Int × Int × Int × Unit × Unit × Unit)) (s383 : List (Option Nat)) (s384 : List ((Int) × (Option Nat))) (s385 : ((Int × Int × Unit × Int × Int × Int × Unit) × Unit × Unit × (Unit × Unit × Ar 16 (Int) × Unit) × Bool × Int × Ar 64 (S_ringref5_Page) × Unit)) (s386 : S_api_Call) (s387 : S_api_Call) : G_ringlaw5_EdgeSays_J23 P N d page_370 s_371 t_372 f_373 u_374 g_375 h_376 i_377 s378 s379 s380 s381 s382 s383 s384 s385 s386 s387 =
(bif (!(t_372 == u_374)) then
some true
else
bif (f_373 != g_375) then
some true
else
bif (h_376 != i_377) then
some true
else
(G_ringlaw5_sameCall P N d s386 s387).bind fun x401 =>
some (!x401.1)).bind fun b402 =>
bif b402 then
some (false, s378, s379, ())
else
bif (decide ((s381.2.2.2.1.length : Int) > 256)) then
bif slOk 0 256 s381.2.2.2.1.length then
G_ringlaw5_EdgeSays_J27 P N d page_370 s_371 s378 s379 s380 (u3 s381 ((List.take (256 : Int).toNat s381.2.2.2.1).drop (0 : Int).toNat)) s382 s383 s384 s385 s386 s387
else none
else
G_ringlaw5_EdgeSays_J27 P N d page_370 s_371 s378 s379 s380 s381 s382 s383 s384 s385 s386 s387 := by subst hP; kernel_rfl
theorem G_ringlaw5_EdgeSays_J27_eq (hP : P = Try.prog) (N d : Nat) (page_403 : Int) (s_404 : Int) (s405 : List (S_space_page)) (s406 : List (List ((Int) × (S_space_entry)))) (s407 : S_api_Regs) (s408 : S_api_Answer) (s409 : (Int × Int × Int × Unit × Unit × Unit)) (s410 : List (Option Nat)) (s411 : List ((Int) × (Option Nat))) (s412 : ((Int × Int × Unit × Int × Int × Int × Unit) × Unit × Unit × (Unit × Unit × Ar 16 (Int) × Unit) × Bool × Int × Ar 64 (S_ringref5_Page) × Unit)) (s413 : S_api_Call) (s414 : S_api_Call) : G_ringlaw5_EdgeSays_J27 P N d page_403 s_404 s405 s406 s407 s408 s409 s410 s411 s412 s413 s414 =
(G_edge_Give P N d s_404 s407 s413 s408 s409 s410 s411 s405 s406).bind fun x536 =>
(G_ringref5_Man_Given P N d s407 s414 s408 s412).bind fun x577 =>
(G_space_Memory_Read P N d s_404 (wi .i64 (16 * page_403)) 64 x536.2.1 x536.2.2.2.2.1 s411 x536.2.2.1 x536.2.2.2.1).bind fun x578 =>
(bif (!(eqT c_api_Regs x536.1 x577.1)) then
some true
else
some (x578.1.2.1 != 0)).bind fun b579 =>
bif b579 then
some (false, x578.2.2.1, x536.2.2.2.1, ())
else
G_ringlaw5_EdgeSays_L33 P N d N page_403 x578.1.1 (x578.1.1.length : Int) 0 x578.2.2.1 x536.2.2.2.1 x577.2.1 := by subst hP; kernel_rfl
theorem G_ringlaw5_EdgeSays_L33_eq (hP : P = Try.prog) (N d : Nat) (k587 : Nat) (page_580 : Int) (t_581 : List (Int)) (t_582 : Int) (t_583 : Int) (s584 : List (S_space_page)) (s585 : List (List ((Int) × (S_space_entry)))) (s586 : ((Int × Int × Unit × Int × Int × Int × Unit) × Unit × Unit × (Unit × Unit × Ar 16 (Int) × Unit) × Bool × Int × Ar 64 (S_ringref5_Page) × Unit)) : G_ringlaw5_EdgeSays_L33 P N d (k587 + 1) page_580 t_581 t_582 t_583 s584 s585 s586 =
bif (decide (t_583 < t_582)) then
bif decide (0 ≤ t_583) then
(lget t_581 t_583.toNat).bind fun y588 =>
if h589 : inb (wi .i64 (page_580 + (wi .i64 (t_583.tdiv 16)))) 64 = true then
if h590 : inb (t_583.tmod 16) 16 = true then
bif (y588 != (gA ((gA s586.2.2.2.2.2.2.1 ⟨(wi .i64 (page_580 + (wi .i64 (t_583.tdiv 16)))).toNat, inb_lt h589⟩).2.2.1) ⟨(t_583.tmod 16).toNat, inb_lt h590⟩)) then
some (false, s584, s585, ())
else
G_ringlaw5_EdgeSays_L33 P N d k587 page_580 t_581 t_582 (wi .i64 (t_583 + 1)) s584 s585 s586
else none
else none
else none
else
some (true, s584, s585, ()) := by subst hP; kernel_rfl
theorem G_ringlaw5_EdgeSays_J23_1_eq (hP : P = Try.prog) (N d : Nat) (page_591 : Int) (s_592 : Int) (t_593 : List UInt8) (f_594 : Int) (u_595 : List UInt8) (g_596 : Int) (h_597 : Int) (i_598 : Int) (s599 : List (S_space_page)) (s600 : List (List ((Int) × (S_space_entry)))) (s601 : S_api_Regs) (s602 : S_api_Answer) (s603 : (Int × Int × Int × Unit × Unit × Unit)) (s604 : List (Option Nat)) (s605 : List ((Int) × (Option Nat))) (s606 : ((Int × Int × Unit × Int × Int × Int × Unit) × Unit × Unit × (Unit × Unit × Ar 16 (Int) × Unit) × Bool × Int × Ar 64 (S_ringref5_Page) × Unit)) (s607 : S_api_Call) (s608 : (Int × Int × Int × Int × List UInt8 × List UInt8 × Unit × Unit)) (s609 : List (Int)) : G_ringlaw5_EdgeSays_J23_1 P N d page_591 s_592 t_593 f_594 u_595 g_596 h_597 i_598 s599 s600 s601 s602 s603 s604 s605 s606 s607 s608 s609 =
(bif (!(t_593 == u_595)) then
some true
else
bif (f_594 != g_596) then
some true
else
bif (h_597 != i_598) then
some true
else
(G_ringlaw5_sameCall P N d s607 (s608.1, s608.2.1, s608.2.2.1, s608.2.2.2.1, s608.2.2.2.2.1, s608.2.2.2.2.2.1, s609, ())).bind fun x610 =>
some (!x610.1)).bind fun b611 =>
bif b611 then
some (false, s599, s600, ())
else
bif (decide ((s602.2.2.2.1.length : Int) > 256)) then
bif slOk 0 256 s602.2.2.2.1.length then
G_ringlaw5_EdgeSays_J27 P N d page_591 s_592 s599 s600 s601 (u3 s602 ((List.take (256 : Int).toNat s602.2.2.2.1).drop (0 : Int).toNat)) s603 s604 s605 s606 s607 (s608.1, s608.2.1, s608.2.2.1, s608.2.2.2.1, s608.2.2.2.2.1, s608.2.2.2.2.2.1, s609, ())
else none
else
G_ringlaw5_EdgeSays_J27 P N d page_591 s_592 s599 s600 s601 s602 s603 s604 s605 s606 s607 (s608.1, s608.2.1, s608.2.2.1, s608.2.2.2.1, s608.2.2.2.2.1, s608.2.2.2.2.2.1, s609, ()) := by subst hP; kernel_rfl
theorem G_ringlaw5_EdgeSays_eq (hP : P = Try.prog) (N d : Nat) (bytes_1 : List (Int)) (page_2 : Int) (r_3 : S_api_Regs) (a_4 : S_api_Answer) (s5 : List (S_space_page)) (s6 : List (List ((Int) × (S_space_entry)))) : G_ringlaw5_EdgeSays P N (d + 1) bytes_1 page_2 r_3 a_4 s5 s6 =
(G_space_New P N d 64 0).bind fun x10 =>
match x10 with
| .inl x11 =>
G_ringlaw5_EdgeSays_J2 P N d bytes_1 page_2 x11.1.2.1 s5 s6 r_3 a_4
| .inr x12 =>
(G_ringlaw5_EdgeSays_J2_1 P N d bytes_1 page_2 x12.1.2.1 s5 s6 r_3 a_4 x12.2.1 x12.2.2.1 x12.2.2.2.1) := by subst hP; kernel_rfl
end
end Go.Proofs.Ytmjkechkdfobgaa.pv
