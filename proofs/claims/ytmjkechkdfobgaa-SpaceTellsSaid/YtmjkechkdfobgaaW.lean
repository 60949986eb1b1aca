/- What the functions compute: written by g4.py. -/
import Derived.Test.YtmjkechkdfobgaaVFGH
import Derived.Test.YtmjkechkdfobgaaProg
import Derived.KernelRfl
set_option maxRecDepth 100000
set_option linter.all false
namespace Go.Proofs.Ytmjkechkdfobgaa.pv
open Go.RowKit
noncomputable section
abbrev cI : Ty := .i .i64
abbrev c_ringlaw2_Ask : Ty := (.pr cI (.pr cI (.pr cI (.pr cI (.pr cI (.pr cI (.pr (.sl (.i .u8)) .un)))))))
abbrev S_ringlaw2_Ask : Type := Int × Int × Int × Int × Int × Int × List (Int) × Unit
abbrev c_space_page : Ty := (.pr (.ar 16 (.i .u8)) (.pr cI (.pr .bl (.pr cI .un))))
abbrev S_space_page : Type := Ar 16 (Int) × Int × Bool × Int × Unit
abbrev c_space_entry : Ty := (.pr (.vp 1) (.pr cI .un))
abbrev S_space_entry : Type := Option Nat × Int × Unit
abbrev c_ringref2_Cell : Ty := (.pr .bl (.pr cI (.pr (.ar 16 (.i .u8)) (.pr cI .un))))
abbrev S_ringref2_Cell : Type := Bool × Int × Ar 16 (Int) × Int × Unit
abbrev c_ringref2_Memory : Ty := (.pr cI (.pr cI (.pr (.ar 17 .bl) (.pr (.ar 17 (.ar 64 c_ringref2_Cell)) .un))))
abbrev S_ringref2_Memory : Type := Int × Int × Ar 17 (Bool) × Ar 17 (Ar 64 (S_ringref2_Cell)) × Unit
abbrev c_space_Memory : Ty := (.pr cI (.pr cI (.pr cI (.pr (.sl (.vp 1)) (.pr (.nz .nm) .un)))))
abbrev S_space_Memory : Type := Int × Int × Int × List (Option Nat) × Unit × Unit
abbrev tS : Type := Int × Int × Int × Unit × Unit × Unit
abbrev tE : Type := List ((Int) × (S_space_entry))
abbrev tM : Type := List ((Int) × (Option Nat))
abbrev tP : Type := List (S_space_page)
def TT : List TI := [⟨1, 0, .oth, []⟩,
 ⟨1, 8, .oth, []⟩,
 ⟨1, 8, .oth, []⟩,
 ⟨1, 8, (.int .i64), [.i .i64]⟩,
 ⟨1, 1, .bool, [.b]⟩,
 ⟨1, 1, (.int .u8), [.i .u8]⟩,
 ⟨1, 1, .oth, []⟩,
 ⟨4, 24, (.st [(0, 2), (1, 3), (2, 4), (3, 6)]), []⟩,
 ⟨4, 24, (.st [(0, 2), (1, 3), (2, 4), (3, 6)]), []⟩,
 ⟨1, 16, .oth, []⟩,
 ⟨1, 16, .oth, []⟩,
 ⟨1, 16, .oth, []⟩,
 ⟨1, 8, .oth, []⟩,
 ⟨2, 24, (.st [(0, 9), (1, 12)]), []⟩,
 ⟨2, 24, (.st [(0, 9), (1, 12)]), []⟩,
 ⟨1, 8, .oth, []⟩,
 ⟨1, 8, .oth, []⟩,
 ⟨1, 8, .oth, []⟩,
 ⟨1, 8, (.st [(0, 17)]), []⟩,
 ⟨1, 8, (.st [(0, 17)]), []⟩,
 ⟨1, 16, .oth, []⟩,
 ⟨1, 4, .oth, []⟩,
 ⟨1, 24, (.sl 5), [.sl]⟩,
 ⟨1, 4, (.int .u32), [.i .u32]⟩,
 ⟨8, 32, (.arr 8 23), []⟩,
 ⟨10, 48, (.st [(0, 24), (8, 23), (9, 3)]), []⟩,
 ⟨10, 48, (.st [(0, 24), (8, 23), (9, 3)]), []⟩,
 ⟨1, 8, (.int .i64), [.i .i64]⟩,
 ⟨1, 24, .oth, []⟩,
 ⟨6, 48, (.st [(0, 3), (1, 3), (2, 3), (3, 3), (4, 3), (5, 3)]), []⟩,
 ⟨6, 48, (.st [(0, 3), (1, 3), (2, 3), (3, 3), (4, 3), (5, 3)]), []⟩,
 ⟨11, 120, (.st [(0, 27), (1, 3), (2, 3), (3, 22), (4, 28), (5, 30)]), []⟩,
 ⟨11, 120, (.st [(0, 27), (1, 3), (2, 3), (3, 22), (4, 28), (5, 30)]), []⟩,
 ⟨1, 8, (.ptr 90), [.np]⟩,
 ⟨1, 0, .oth, []⟩,
 ⟨1, 8, .oth, []⟩,
 ⟨1, 0, .oth, []⟩,
 ⟨1, 8, .oth, []⟩,
 ⟨1, 8, .oth, []⟩,
 ⟨1, 24, (.sl 3), [.sl]⟩,
 ⟨6, 64, (.st [(0, 3), (1, 3), (2, 39), (3, 3), (4, 3), (5, 3)]), []⟩,
 ⟨6, 64, (.st [(0, 3), (1, 3), (2, 39), (3, 3), (4, 3), (5, 3)]), []⟩,
 ⟨1, 24, .oth, []⟩,
 ⟨16, 128, (.arr 16 3), []⟩,
 ⟨18, 176, (.st [(0, 39), (1, 39), (2, 43)]), []⟩,
 ⟨18, 176, (.st [(0, 39), (1, 39), (2, 43)]), []⟩,
 ⟨16, 16, (.arr 16 5), (zr 16 [.i .u8])⟩,
 ⟨18, 32, (.st [(0, 4), (1, 3), (2, 46)]), []⟩,
 ⟨18, 32, (.st [(0, 4), (1, 3), (2, 46)]), []⟩,
 ⟨1152, 2048, (.arr 64 48), []⟩,
 ⟨1180, 2352, (.st [(0, 41), (6, 39), (7, 42), (8, 45), (26, 4), (27, 3), (28, 49)]), []⟩,
 ⟨1180, 2352, (.st [(0, 41), (6, 39), (7, 42), (8, 45), (26, 4), (27, 3), (28, 49)]), []⟩,
 ⟨1, 8, .oth, []⟩,
 ⟨1, 0, .oth, []⟩,
 ⟨1, 8, .oth, []⟩,
 ⟨1, 8, .oth, []⟩,
 ⟨7, 88, (.st [(0, 3), (1, 3), (2, 3), (3, 3), (4, 9), (5, 9), (6, 22)]), []⟩,
 ⟨7, 88, (.st [(0, 3), (1, 3), (2, 3), (3, 3), (4, 9), (5, 9), (6, 22)]), []⟩,
 ⟨1, 0, .oth, []⟩,
 ⟨1, 8, .oth, []⟩,
 ⟨1, 8, .oth, []⟩,
 ⟨1, 8, .oth, []⟩,
 ⟨1, 8, .oth, []⟩,
 ⟨1, 8, .oth, []⟩,
 ⟨1, 0, .oth, []⟩,
 ⟨1, 8, .oth, []⟩,
 ⟨1, 8, .oth, []⟩,
 ⟨1, 24, (.sl 78), [.sl]⟩,
 ⟨1, 8, .oth, []⟩,
 ⟨1, 8, (.ptr 76), [.np]⟩,
 ⟨17, 17, (.arr 17 4), (zr 17 [.b])⟩,
 ⟨19, 40, (.st [(0, 4), (1, 3), (2, 46), (18, 3)]), []⟩,
 ⟨19, 40, (.st [(0, 4), (1, 3), (2, 46), (18, 3)]), (za [.b, .i .i64] (za (zr 16 [.i .u8]) [.i .i64]))⟩,
 ⟨1216, 2560, (.arr 64 72), (zr 64 (za [.b, .i .i64] (za (zr 16 [.i .u8]) [.i .i64])))⟩,
 ⟨20672, 43520, (.arr 17 73), (zr 17 (zr 64 (za [.b, .i .i64] (za (zr 16 [.i .u8]) [.i .i64]))))⟩,
 ⟨20691, 43560, (.st [(0, 3), (1, 3), (2, 70), (19, 74)]), []⟩,
 ⟨20691, 43560, (.st [(0, 3), (1, 3), (2, 70), (19, 74)]), (za [.i .i64, .i .i64] (za (zr 17 [.b]) (zr 17 (zr 64 (za [.b, .i .i64] (za (zr 16 [.i .u8]) [.i .i64]))))))⟩,
 ⟨7, 72, (.st [(0, 3), (1, 3), (2, 3), (3, 3), (4, 3), (5, 3), (6, 22)]), []⟩,
 ⟨7, 72, (.st [(0, 3), (1, 3), (2, 3), (3, 3), (4, 3), (5, 3), (6, 22)]), [.i .i64, .i .i64, .i .i64, .i .i64, .i .i64, .i .i64, .sl]⟩,
 ⟨1, 0, .oth, []⟩,
 ⟨1, 8, .oth, []⟩,
 ⟨1, 8, .oth, []⟩,
 ⟨1, 8, .oth, []⟩,
 ⟨1, 8, .oth, []⟩,
 ⟨1, 8, .oth, []⟩,
 ⟨1, 8, .oth, []⟩,
 ⟨1, 8, .oth, []⟩,
 ⟨1, 8, .oth, [.nm]⟩,
 ⟨1, 24, (.sl 93), [.sl]⟩,
 ⟨5, 56, (.st [(0, 3), (1, 3), (2, 3), (3, 88), (4, 87)]), []⟩,
 ⟨5, 56, (.st [(0, 3), (1, 3), (2, 3), (3, 88), (4, 87)]), [.i .i64, .i .i64, .i .i64, .sl, .nm]⟩,
 ⟨1, 8, .oth, [.nm]⟩,
 ⟨1, 8, .oth, []⟩,
 ⟨1, 8, (.ptr 112), [.np]⟩,
 ⟨2, 16, (.st [(0, 93), (1, 3)]), []⟩,
 ⟨2, 16, (.st [(0, 93), (1, 3)]), [.np, .i .i64]⟩,
 ⟨1, 0, .oth, []⟩,
 ⟨1, 8, .oth, []⟩,
 ⟨1, 8, .oth, []⟩,
 ⟨1, 0, .oth, []⟩,
 ⟨1, 8, .oth, []⟩,
 ⟨1, 8, .oth, []⟩,
 ⟨1, 0, .oth, []⟩,
 ⟨1, 8, .oth, []⟩,
 ⟨1, 8, .oth, []⟩,
 ⟨1, 8, .oth, []⟩,
 ⟨1, 8, .oth, []⟩,
 ⟨1, 8, .oth, []⟩,
 ⟨1, 8, .oth, []⟩,
 ⟨1, 8, .oth, []⟩,
 ⟨1, 8, .oth, [.nm]⟩,
 ⟨19, 40, (.st [(0, 46), (16, 3), (17, 4), (18, 3)]), []⟩,
 ⟨19, 40, (.st [(0, 46), (16, 3), (17, 4), (18, 3)]), (za (zr 16 [.i .u8]) [.i .i64, .b, .i .i64])⟩,
 ⟨1, 8, .oth, []⟩,
 ⟨1, 8, .oth, []⟩,
 ⟨1, 8, .oth, []⟩,
 ⟨1, 8, .oth, []⟩,
 ⟨1, 8, .oth, []⟩,
 ⟨1, 8, .oth, []⟩,
 ⟨1, 8, .oth, []⟩,
 ⟨1, 8, .oth, []⟩,
 ⟨1, 8, .oth, []⟩,
 ⟨1, 8, .oth, []⟩,
 ⟨1, 8, .oth, []⟩,
 ⟨1, 8, .oth, []⟩,
 ⟨1, 8, .oth, []⟩,
 ⟨1, 8, .oth, []⟩,
 ⟨1, 8, .oth, []⟩,
 ⟨1, 8, .oth, []⟩,
 ⟨1, 8, .oth, [.nf]⟩,
 ⟨1, 8, .oth, []⟩,
 ⟨1, 8, .oth, []⟩,
 ⟨1, 0, .oth, []⟩,
 ⟨1, 8, .oth, []⟩,
 ⟨1, 8, .oth, []⟩,
 ⟨1, 8, .oth, []⟩,
 ⟨1, 0, .oth, []⟩,
 ⟨1, 8, .oth, []⟩,
 ⟨1, 8, .oth, []⟩,
 ⟨1, 8, .oth, []⟩,
 ⟨1, 8, .oth, []⟩,
 ⟨3, 24, (.arr 3 3), (zr 3 [.i .i64])⟩]
def cds : List (Nat × Ty) := [(0, (.tp .un)),
 (3, cI),
 (4, .bl),
 (5, (.i .u8)),
 (22, (.sl (.i .u8))),
 (23, (.i .u32)),
 (27, cI),
 (33, (.nz .np)),
 (34, (.tp (.pr (.nz .np) (.pr cI .un)))),
 (36, (.tp (.pr cI (.pr cI .un)))),
 (39, (.sl cI)),
 (46, (.ar 16 (.i .u8))),
 (64, (.tp (.pr (.sl (.i .u8)) (.pr cI .un)))),
 (67, (.sl c_ringlaw2_Ask)),
 (69, (.nz .np)),
 (70, (.ar 17 .bl)),
 (72, c_ringref2_Cell),
 (73, (.ar 64 c_ringref2_Cell)),
 (74, (.ar 17 (.ar 64 c_ringref2_Cell))),
 (76, c_ringref2_Memory),
 (78, c_ringlaw2_Ask),
 (79, (.tp (.pr cI (.pr cI .un)))),
 (87, (.nz .nm)),
 (88, (.sl (.vp 1))),
 (90, c_space_Memory),
 (91, (.vm 2)),
 (93, (.vp 1)),
 (95, c_space_entry),
 (96, (.tp (.pr c_space_entry (.pr .bl .un)))),
 (99, (.tp (.pr (.i .u8) (.pr cI .un)))),
 (110, (.nz .nm)),
 (112, c_space_page),
 (129, (.nz .nf)),
 (141, (.ar 3 cI))]
def sgs : List (Nat × Nat × List (Ty × List OK)) := [(5, 0, [((.tp (.pr (.nz .np) (.pr cI .un))), []), ((.tp (.pr (.rf 0 []) (.pr cI .un))), [(.bx (.pr cI (.pr cI (.pr cI (.pr (.sr 1) (.pr (.sr 2) .un)))))), (.rw 93 1 (.vp 1)), (.mp cI (.vm 2))])]),
 (17, 0, [(.bl, [])]),
 (37, 4, [(cI, [])]),
 (18, 4, [((.tp (.pr cI (.pr cI .un))), [])]),
 (19, 1, [(cI, [])]),
 (38, 4, [((.vp 1), [])]),
 (20, 4, [(cI, [])]),
 (53, 1, [((.tp .un), [])]),
 (23, 3, [((.sl cI), [(.mp cI (.vm 2))])]),
 (24, 1, [((.sl cI), [])]),
 (22, 0, [(.bl, [])]),
 (6, 4, [((.tp (.pr cI (.pr cI .un))), [(.mp cI (.vm 2))])]),
 (39, 1, [((.tp (.pr cI (.pr cI .un))), [])]),
 (40, 5, [((.tp (.pr cI (.pr cI .un))), [(.mp cI (.vm 2))])]),
 (56, 1, [(.bl, [])]),
 (41, 1, [((.tp (.pr cI (.pr cI .un))), [])]),
 (66, 2, [(.bl, [])]),
 (79, 3, [(cI, [])]),
 (65, 3, [((.sr 3), [(.rw 93 1 (.vp 1))])]),
 (57, 4, [((.tp .un), [(.rw 93 1 (.vp 1))])]),
 (42, 5, [(cI, [(.rw 93 1 (.vp 1)), (.mp cI (.vm 2))])]),
 (43, 1, [(cI, [])]),
 (25, 3, [(cI, [])]),
 (26, 3, [(.bl, [])]),
 (54, 4, [((.tp .un), [])]),
 (27, 4, [((.vp 1), [(.rw 93 1 (.vp 1))])]),
 (44, 5, [(cI, [(.rw 93 1 (.vp 1))])]),
 (58, 1, [(cI, [])]),
 (45, 1, [(cI, [])]),
 (46, 5, [(cI, [(.rw 93 1 (.vp 1))])]),
 (47, 1, [(cI, [])]),
 (48, 4, [(cI, [])]),
 (49, 1, [(cI, [])]),
 (8, 5, [(cI, [(.rw 93 1 (.vp 1))])]),
 (35, 4, [(.bl, [])]),
 (36, 5, [((.sl (.i .u8)), [])]),
 (16, 5, [((.tp (.pr (.sl (.i .u8)) (.pr cI .un))), [])]),
 (67, 0, [(.bl, [])]),
 (59, 1, [(.bl, [])]),
 (50, 1, [((.tp (.pr (.sl (.i .u8)) (.pr cI .un))), [])]),
 (32, 0, [(.bl, [])]),
 (64, 5, [(cI, [])]),
 (55, 5, [(cI, [(.rw 93 1 (.vp 1))])]),
 (33, 5, [(cI, [(.rw 93 1 (.vp 1))])]),
 (60, 1, [(.bl, [])]),
 (51, 1, [(cI, [])]),
 (28, 5, [((.tp (.pr (.i .u8) (.pr cI .un))), [])]),
 (61, 5, [(cI, [(.rw 93 1 (.vp 1))])]),
 (52, 6, [(.bl, [(.rw 93 1 (.vp 1))])]),
 (21, 6, [(.bl, [(.rw 93 1 (.vp 1)), (.mp cI (.vm 2))])]),
 (4, 2, [(.bl, [])])]
def pols : List (Nat × Nat × Pol) := [(4, 2, ⟨[], [(2, ⟨[], [0, 1, 2, 7, 8]⟩), (24, ⟨[], [0, 1, 7, 9, 11, 12, 14, 52, 53, 54]⟩)], [(8, ⟨[], [0, 1, 7, 9, 52, 53, 54]⟩)], [], [(2, 34), (3, 6), (4, 46), (22, 109), (25, 142), (28, 161)], [], []⟩),
 (5, 0, ⟨[], [], [], [.tb 320 3 93 1 (.vp 1)], [(1, 19)], [], []⟩),
 (17, 0, ⟨[], [], [], [], [(1, 6)], [], []⟩),
 (37, 4, ⟨[], [], [(3, ⟨[], [3, 9, 10, 11]⟩)], [], [], [], []⟩),
 (19, 1, ⟨[], [], [(3, ⟨[], [0, 3, 8]⟩), (6, ⟨[], [0, 3, 8, 16, 17]⟩)], [], [], [], []⟩),
 (20, 4, ⟨[], [], [(2, ⟨[], [0, 1, 5]⟩)], [], [(2, 28)], [], []⟩),
 (38, 4, ⟨[], [], [(3, ⟨[.ns 3 (.vp 1)], [3, 9, 10, 11]⟩)], [], [(5, 33)], [], []⟩),
 (23, 3, ⟨[], [], [(3, ⟨[.th 3 3 1 cI], [3, 9]⟩)], [.fs 2], [], [], []⟩),
 (24, 1, ⟨[], [], [(3, ⟨[.th 3 3 1 cI], [3, 9, 10]⟩)], [.fs 2], [], [], []⟩),
 (22, 0, ⟨[], [], [(4, ⟨[], [0, 1, 12, 13]⟩)], [], [], [], []⟩),
 (21, 6, ⟨[], [], [], [], [(5, 6), (9, 6), (23, 6)], [], []⟩),
 (6, 4, ⟨[], [], [(2, ⟨[], [0, 4]⟩)], [], [], [], []⟩),
 (39, 1, ⟨[], [], [(2, ⟨[], [0, 4]⟩)], [], [], [], []⟩),
 (40, 5, ⟨[], [], [(7, ⟨[], [0, 6, 31]⟩)], [], [], [], []⟩),
 (56, 1, ⟨[], [], [], [], [(1, 4)], [], []⟩),
 (42, 5, ⟨[], [], [(4, ⟨[], [0, 1, 20]⟩)], [], [], [], []⟩),
 (65, 3, ⟨[], [], [(5, ⟨[], [0, 1, 5, 6]⟩)], [], [], [], [4]⟩),
 (79, 3, ⟨[], [], [(2, ⟨[], [0, 1, 7, 8]⟩)], [], [], [], []⟩),
 (44, 5, ⟨[], [(8, ⟨[], [0, 1, 2, 3, 4, 14, 25, 26]⟩)], [(5, ⟨[], [0, 1, 2, 3, 4, 25, 26]⟩), (14, ⟨[], [0, 1, 2, 4, 48, 49]⟩)], [], [], [], []⟩),
 (25, 3, ⟨[], [], [], [], [(3, 19)], [], []⟩),
 (45, 1, ⟨[], [], [(7, ⟨[], [0, 1, 2, 3, 4, 5, 29, 30]⟩), (15, ⟨[], [0, 1, 2, 4, 5, 54, 55]⟩)], [], [], [], []⟩),
 (58, 1, ⟨[], [], [], [], [(3, 29)], [], []⟩),
 (46, 5, ⟨[], [(8, ⟨[], [0, 1, 2, 3, 10, 11, 12]⟩)], [(5, ⟨[], [0, 1, 2, 3, 10]⟩)], [], [], [], []⟩),
 (47, 1, ⟨[], [], [(5, ⟨[], [0, 1, 2, 19, 20]⟩)], [], [], [], []⟩),
 (48, 4, ⟨[], [(8, ⟨[], [0, 1, 2, 3, 4, 14, 25, 26]⟩)], [(5, ⟨[], [0, 1, 2, 3, 4, 25, 26]⟩), (12, ⟨[], [0, 1, 2, 4, 45, 46]⟩)], [], [], [], []⟩),
 (49, 1, ⟨[], [], [(5, ⟨[], [0, 1, 2, 3, 4, 23, 24]⟩), (11, ⟨[], [0, 1, 2, 4, 40, 41]⟩)], [], [], [], []⟩),
 (8, 5, ⟨[], [(7, ⟨[], [0, 1, 2, 3, 4, 13]⟩)], [], [], [], [], []⟩),
 (16, 5, ⟨[], [], [], [], [(3, 18)], [], []⟩),
 (35, 4, ⟨[], [(9, ⟨[], [0, 1, 2, 3, 4, 11, 12, 13]⟩)], [(6, ⟨[], [0, 1, 2, 3, 4, 11]⟩)], [], [(3, 23), (9, 55)], [], []⟩),
 (36, 5, ⟨[], [(6, ⟨[], [0, 1, 2, 3, 9, 10, 11]⟩)], [(3, ⟨[.th 9 5 1 (.i .u8)], [0, 1, 2, 3, 9, 10]⟩)], [.fs 8], [], [], []⟩),
 (50, 1, ⟨[], [], [(9, ⟨[.th 12 5 1 (.i .u8)], [0, 1, 2, 12, 33, 34]⟩)], [.fs 10], [(3, 25)], [], []⟩),
 (59, 1, ⟨[], [], [(2, ⟨[], [0, 1, 2, 4, 13, 14]⟩)], [], [(4, 24), (7, 45)], [], []⟩),
 (67, 0, ⟨[], [], [(2, ⟨[], [0, 1, 7, 8]⟩)], [], [(4, 22)], [], []⟩),
 (32, 0, ⟨[], [], [(4, ⟨[], [0, 1, 12, 13]⟩)], [], [], [], []⟩),
 (55, 5, ⟨[], [(12, ⟨[], [0, 1, 2, 9, 10, 12, 22, 23, 24]⟩), (8, ⟨[], [0, 1, 2, 9, 10, 11, 12, 22, 23, 24]⟩)], [(4, ⟨[], [0, 1, 2, 22, 23, 24]⟩)], [], [], [], []⟩),
 (64, 5, ⟨[], [], [(3, ⟨[], [0, 1, 2, 3, 9, 10]⟩)], [], [(3, 23)], [], []⟩),
 (51, 1, ⟨[], [], [(9, ⟨[], [0, 1, 2, 9, 30, 31, 32]⟩)], [], [], [], []⟩),
 (60, 1, ⟨[], [], [(3, ⟨[], [0, 1, 2, 7, 11]⟩), (6, ⟨[], [0, 1, 2, 7, 11, 19, 20]⟩)], [], [(8, 38)], [], []⟩),
 (52, 6, ⟨[(9, [.fz 252])], [], [], [], [(6, 6)], [], []⟩),
 (28, 5, ⟨[], [], [], [], [(3, 18)], [], []⟩),
 (61, 5, ⟨[], [], [], [], [], [14], []⟩)]
def aras : List (Nat × List Nat) := [(4, [1, 2]), (6, [2]), (8, [1, 2]), (16, [1, 2]), (18, [1]), (20, [1]), (21, [1, 2]), (27, [1]), (28, [1, 2]), (33, [1, 2]), (35, [2]), (36, [1, 2]), (37, [1]), (38, [1]), (40, [1, 2]), (42, [1, 2]), (44, [1, 2]), (46, [1, 2]), (48, [2]), (52, [1, 2]), (54, [1]), (55, [1, 2]), (57, [1]), (61, [1, 2]), (64, [1, 2]), (65, [1]), (66, [1]), (79, [1])]
def gbs : List (Nat × Nat) := [(112, 1)]
def mpcs : List (Nat × Ty × Ty) := [(87, cI, (.vm 2)), (91, cI, c_space_entry), (110, cI, .bl)]
def cons : List Nat := [65]
def looks : List Nat := [22, 32]
def kps : List (Nat × Nat × List Nat) := [(37, 4, [0, 1, 2, 3]), (18, 4, [0, 1, 2, 3]), (19, 1, [0]), (38, 4, [0, 1, 2, 3]), (20, 4, [0, 1, 2]), (23, 3, [1]), (24, 1, [0]), (6, 4, [1]), (40, 5, [1]), (56, 1, [0]), (66, 2, [0, 1]), (79, 3, [0, 1, 2]), (65, 3, [1, 2]), (57, 4, [2]), (25, 3, [0, 1, 2]), (26, 3, [0, 1, 2]), (54, 4, [1, 2]), (27, 4, [2]), (44, 5, [2]), (58, 1, [0]), (46, 5, [2]), (48, 4, [0, 1, 2]), (8, 5, [2]), (35, 4, [0, 1, 2, 3]), (36, 5, [1, 2, 4]), (16, 5, [1, 2, 4]), (59, 1, [0]), (50, 1, [0]), (64, 5, [0, 1, 2, 3, 4]), (55, 5, [2]), (33, 5, [2]), (60, 1, [0]), (28, 5, [1, 2, 4]), (61, 5, [2]), (52, 6, [2])]
def EE (P : Program) : Env := ⟨P, TT, alst cds, al2 sgs, fun f n => (al2 pols f n).getD ⟨[], [], [], [], [], [], []⟩, fun f => (alst aras f).getD [], alst gbs, alst mpcs, fun f => memN f cons, fun f => memN f looks, fun f n => (al2 kps f n).getD []⟩
/-- slices.Sort at []int: told by the kit's contract -/
def sortI (l : List Int) : List Int := l.mergeSort fun x y => decide (x ≤ y)
def prims {P : Program} : PrimT (EE P) := fun g => match g with
  | 53 => some fun vs hs => match vs, hs with
    | [⟨.sr 0, _⟩], [.ob (.rw 3 1 (.i .i64)) xs] => bif Nat.blt (List.length (α := Int) xs) 1000000 then some ((), sortI xs, ()) else none
    | _, _ => none
  | _ => none
def sums : SumT := fun _ _ => none
variable {P : Program}
/-- ringhall/space.New -/
def G_space_New (P : Program) (N d : Nat) (frames_6 : Int) (slots_7 : Int) : Option ((((Unit × Int × Unit)) × Unit) ⊕ (((Unit × Int × Unit)) × (tS) × (List (Option Nat)) × tM × Unit)) := R4 (EE P) prims sums N d 5 [⟨cI, frames_6⟩, ⟨cI, slots_7⟩] []
/-- ringhall/ringref2.In -/
def G_ringref2_In (P : Program) (N d : Nat) (n_18 : Int) (least_19 : Int) (most_20 : Int) : Option ((Bool) × Unit) := R4 (EE P) prims sums N d 17 [⟨cI, n_18⟩, ⟨cI, least_19⟩, ⟨cI, most_20⟩] []
/-- (*ringhall/space.Memory).here -/
def Gm_here (P : Program) (N d : Nat) (s54 : tS) (s55 : List (Option Nat)) (s56 : tM) (s57 : tP) : Option ((Int) × Unit) := R4 (EE P) prims sums N d 37 [⟨(.rf 0 []), ()⟩] [(.ob (.bx (.pr cI (.pr cI (.pr cI (.pr (.sr 1) (.pr (.sr 2) .un)))))) s54), (.ob (.rw 93 1 (.vp 1)) s55), (.ob (.mp cI (.vm 2)) s56), (.ob (.ab 1 c_space_page) s57)]
def Gm_here_L3 (P : Program) (N d : Nat) (k : Nat) (n_58 : Int) (t_59 : Int) (t_60 : Int) (s61 : tS) (s62 : List (Option Nat)) (s63 : tM) (s64 : tP) : Option ((Int) × Unit) := RL4 (EE P) prims sums N d 37 3 [] [(.bx (.pr cI (.pr cI (.pr cI (.pr (.sr 1) (.pr (.sr 2) .un)))))), (.rw 93 1 (.vp 1)), (.mp cI (.vm 2)), (.ab 1 c_space_page)] k ⟨[(3, ⟨cI, n_58⟩), (9, ⟨(.sr 1), ()⟩), (10, ⟨cI, t_59⟩), (11, ⟨cI, t_60⟩)], [(0, (.ob (.bx (.pr cI (.pr cI (.pr cI (.pr (.sr 1) (.pr (.sr 2) .un)))))) s61)), (1, (.ob (.rw 93 1 (.vp 1)) s62)), (2, (.ob (.mp cI (.vm 2)) s63)), (3, (.ob (.ab 1 c_space_page) s64)), (4, (.gh 0 ⟨(.rf 0 []), ()⟩)), (5, (.gh 1 ⟨(.sr 1), ()⟩)), (6, (.gh 2 ⟨(.sr 2), ()⟩)), (7, (.gh 3 ⟨.dead, ()⟩))], 8⟩
/-- (*ringhall/space.Memory).Free -/
def Gm_Free (P : Program) (N d : Nat) (s50 : tS) (s51 : List (Option Nat)) (s52 : tM) (s53 : tP) : Option (((Int × Int × Unit)) × Unit) := R4 (EE P) prims sums N d 18 [⟨(.rf 0 []), ()⟩] [(.ob (.bx (.pr cI (.pr cI (.pr cI (.pr (.sr 1) (.pr (.sr 2) .un)))))) s50), (.ob (.rw 93 1 (.vp 1)) s51), (.ob (.mp cI (.vm 2)) s52), (.ob (.ab 1 c_space_page) s53)]
/-- (*ringhall/ringref2.Memory).Live -/
def Gr_Live (P : Program) (N d : Nat) (s71 : S_ringref2_Memory) : Option ((Int) × Unit) := R4 (EE P) prims sums N d 19 [⟨(.rf 0 []), ()⟩] [(.ob (.bx c_ringref2_Memory) s71)]
def Gr_Live_L3 (P : Program) (N d : Nat) (k : Nat) (t_72 : Int) (s73 : S_ringref2_Memory) (s74 : List ((Int) × (Bool))) : Option ((Int) × Unit) := RL4 (EE P) prims sums N d 19 3 [] [(.bx c_ringref2_Memory)] k ⟨[(0, ⟨(.rf 0 []), ()⟩), (3, ⟨(.sr 2), ()⟩), (8, ⟨cI, t_72⟩)], [(0, (.ob (.bx c_ringref2_Memory) s73)), (1, (.gh 0 ⟨(.rf 0 []), ()⟩)), (2, (.ob (.mp cI .bl) s74))], 3⟩
def Gr_Live_L6 (P : Program) (N d : Nat) (k75 : Nat) (k : Nat) (t_77 : Int) (t_78 : Ar 64 (S_ringref2_Cell)) (t_79 : Int) (s80 : S_ringref2_Memory) (s81 : List ((Int) × (Bool))) : Option ((Int) × Unit) := RL4 (EE P) prims sums N d 19 6 [k75] [(.bx c_ringref2_Memory)] k ⟨[(0, ⟨(.rf 0 []), ()⟩), (3, ⟨(.sr 2), ()⟩), (8, ⟨cI, t_77⟩), (16, ⟨(.ar 64 c_ringref2_Cell), t_78⟩), (17, ⟨cI, t_79⟩)], [(0, (.ob (.bx c_ringref2_Memory) s80)), (1, (.gh 0 ⟨(.rf 0 []), ()⟩)), (2, (.ob (.mp cI .bl) s81))], 3⟩
/-- (*ringhall/space.Memory).oldest -/
def Gm_oldest (P : Program) (N d : Nat) (s100 : tS) (s101 : List (Option Nat)) (s102 : tM) (s103 : tP) : Option ((Option Nat) × Unit) := R4 (EE P) prims sums N d 38 [⟨(.rf 0 []), ()⟩] [(.ob (.bx (.pr cI (.pr cI (.pr cI (.pr (.sr 1) (.pr (.sr 2) .un)))))) s100), (.ob (.rw 93 1 (.vp 1)) s101), (.ob (.mp cI (.vm 2)) s102), (.ob (.ab 1 c_space_page) s103)]
def Gm_oldest_L3 (P : Program) (N d : Nat) (k : Nat) (best_104 : Option Nat) (t_105 : Int) (t_106 : Int) (s107 : tS) (s108 : List (Option Nat)) (s109 : tM) (s110 : tP) : Option ((Option Nat) × Unit) := RL4 (EE P) prims sums N d 38 3 [] [(.bx (.pr cI (.pr cI (.pr cI (.pr (.sr 1) (.pr (.sr 2) .un)))))), (.rw 93 1 (.vp 1)), (.mp cI (.vm 2)), (.ab 1 c_space_page)] k ⟨[(3, ⟨(.vp 1), best_104⟩), (9, ⟨(.sr 1), ()⟩), (10, ⟨cI, t_105⟩), (11, ⟨cI, t_106⟩)], [(0, (.ob (.bx (.pr cI (.pr cI (.pr cI (.pr (.sr 1) (.pr (.sr 2) .un)))))) s107)), (1, (.ob (.rw 93 1 (.vp 1)) s108)), (2, (.ob (.mp cI (.vm 2)) s109)), (3, (.ob (.ab 1 c_space_page) s110)), (4, (.gh 0 ⟨(.rf 0 []), ()⟩)), (5, (.gh 1 ⟨(.sr 1), ()⟩)), (6, (.gh 2 ⟨(.sr 2), ()⟩)), (7, (.gh 3 ⟨.dead, ()⟩))], 8⟩
/-- (*ringhall/space.Memory).Reclaim -/
def Gm_Reclaim (P : Program) (N d : Nat) (n_85 : Int) (s86 : tS) (s87 : List (Option Nat)) (s88 : tM) (s89 : tP) : Option ((Int) × tP × Unit) := R4 (EE P) prims sums N d 20 [⟨(.rf 0 []), ()⟩, ⟨cI, n_85⟩] [(.ob (.bx (.pr cI (.pr cI (.pr cI (.pr (.sr 1) (.pr (.sr 2) .un)))))) s86), (.ob (.rw 93 1 (.vp 1)) s87), (.ob (.mp cI (.vm 2)) s88), (.ob (.ab 1 c_space_page) s89)]
def Gm_Reclaim_L2 (P : Program) (N d : Nat) (k : Nat) (n_90 : Int) (k_91 : Int) (s92 : tS) (s93 : List (Option Nat)) (s94 : tM) (s95 : tP) : Option ((Int) × tP × Unit) := RL4 (EE P) prims sums N d 20 2 [] [(.bx (.pr cI (.pr cI (.pr cI (.pr (.sr 1) (.pr (.sr 2) .un)))))), (.rw 93 1 (.vp 1)), (.mp cI (.vm 2)), (.ab 1 c_space_page)] k ⟨[(0, ⟨(.rf 0 []), ()⟩), (1, ⟨cI, n_90⟩), (5, ⟨cI, k_91⟩)], [(0, (.ob (.bx (.pr cI (.pr cI (.pr cI (.pr (.sr 1) (.pr (.sr 2) .un)))))) s92)), (1, (.ob (.rw 93 1 (.vp 1)) s93)), (2, (.ob (.mp cI (.vm 2)) s94)), (3, (.ob (.ab 1 c_space_page) s95)), (4, (.gh 0 ⟨(.rf 0 []), ()⟩)), (5, (.gh 1 ⟨(.sr 1), ()⟩)), (6, (.gh 2 ⟨(.sr 2), ()⟩)), (7, (.gh 3 ⟨.dead, ()⟩))], 8⟩
/-- slices.Sort[[]int,int] -/
def G_slices_Sort (P : Program) (N d : Nat) (s154 : List (Int)) : Option (((Unit)) × (List (Int)) × Unit) := R4 (EE P) prims sums N d 53 [⟨(.sr 0), ()⟩] [(.ob (.rw 3 1 cI) s154)]
/-- (*ringhall/space.Memory).Spaces -/
def Gm_Spaces (P : Program) (N d : Nat) (s145 : tS) (s146 : List (Option Nat)) (s147 : tM) : Option ((List (Int)) × (tS) × tM × Unit) := R4 (EE P) prims sums N d 23 [⟨(.rf 0 []), ()⟩] [(.ob (.bx (.pr cI (.pr cI (.pr cI (.pr (.sr 1) (.pr (.sr 2) .un)))))) s145), (.ob (.rw 93 1 (.vp 1)) s146), (.ob (.mp cI (.vm 2)) s147)]
def Gm_Spaces_R3 (P : Program) (N d : Nat) (s148 : tS) (s149 : List (Option Nat)) (s150 : tM) (s151 : List (Int)) (s152 : tM) : Option ((List (Int)) × (tS) × tM × Unit) := RR4 (EE P) prims sums N d 23 3 [] [(.bx (.pr cI (.pr cI (.pr cI (.pr (.sr 1) (.pr (.sr 3) .un)))))), (.rw 93 1 (.vp 1)), .no] 9 ⟨[(3, ⟨(.sr 7), ()⟩), (9, ⟨(.sr 8), ()⟩)], [(0, (.ob (.bx (.pr cI (.pr cI (.pr cI (.pr (.sr 1) (.pr (.sr 2) .un)))))) s148)), (1, (.ob (.rw 93 1 (.vp 1)) s149)), (2, (.ex (.lk cI (.vm 2) 6 s150))), (3, (.gh 0 ⟨(.rf 0 []), ()⟩)), (4, (.gh 1 ⟨(.sr 1), ()⟩)), (5, (.gh 2 ⟨(.sr 2), ()⟩)), (6, (.ex .gs)), (7, (.ob (.rw 3 1 cI) s151)), (8, (.ex (.it cI (.vm 2) true 2 6 s152 none none)))], 9⟩
def Gm_Spaces_R3_X (cur : Option ((Int) × (Option Nat))) (s148 : tS) (s149 : List (Option Nat)) (s150 : tM) (s151 : List (Int)) (s152 : tM) : XS := ⟨[(3, ⟨(.sr 7), ()⟩), (9, ⟨(.sr 8), ()⟩)], [(0, (.ob (.bx (.pr cI (.pr cI (.pr cI (.pr (.sr 1) (.pr (.sr 2) .un)))))) s148)), (1, (.ob (.rw 93 1 (.vp 1)) s149)), (2, (.ex (.lk cI (.vm 2) 6 s150))), (3, (.gh 0 ⟨(.rf 0 []), ()⟩)), (4, (.gh 1 ⟨(.sr 1), ()⟩)), (5, (.gh 2 ⟨(.sr 2), ()⟩)), (6, (.ex .gs)), (7, (.ob (.rw 3 1 cI) s151)), (8, (.ex (.it cI (.vm 2) true 2 6 s152 cur none)))], 9⟩
def Gm_Spaces_R3_S (P : Program) (N d : Nat) (p153 : (Int) × (Option Nat)) (s148 : tS) (s149 : List (Option Nat)) (s150 : tM) (s151 : List (Int)) (s152 : tM) : Option XS := RS4 (EE P) prims sums N d 23 3 [(.bx (.pr cI (.pr cI (.pr cI (.pr (.sr 1) (.pr (.sr 3) .un)))))), (.rw 93 1 (.vp 1)), .no] ⟨[(3, ⟨(.sr 7), ()⟩), (9, ⟨(.sr 8), ()⟩)], [(0, (.ob (.bx (.pr cI (.pr cI (.pr cI (.pr (.sr 1) (.pr (.sr 2) .un)))))) s148)), (1, (.ob (.rw 93 1 (.vp 1)) s149)), (2, (.ex (.lk cI (.vm 2) 6 s150))), (3, (.gh 0 ⟨(.rf 0 []), ()⟩)), (4, (.gh 1 ⟨(.sr 1), ()⟩)), (5, (.gh 2 ⟨(.sr 2), ()⟩)), (6, (.ex .gs)), (7, (.ob (.rw 3 1 cI) s151)), (8, (.ex (.it cI (.vm 2) true 2 6 s152 none (some (some p153)))))], 9⟩
def Gm_Spaces_R3_E (P : Program) (N d : Nat) (s148 : tS) (s149 : List (Option Nat)) (s150 : tM) (s151 : List (Int)) (s152 : tM) : Option ((List (Int)) × (tS) × tM × Unit) := RE4 (EE P) prims sums N d 23 3 [] [(.bx (.pr cI (.pr cI (.pr cI (.pr (.sr 1) (.pr (.sr 3) .un)))))), (.rw 93 1 (.vp 1)), .no] ⟨[(3, ⟨(.sr 7), ()⟩), (9, ⟨(.sr 8), ()⟩)], [(0, (.ob (.bx (.pr cI (.pr cI (.pr cI (.pr (.sr 1) (.pr (.sr 2) .un)))))) s148)), (1, (.ob (.rw 93 1 (.vp 1)) s149)), (2, (.ex (.lk cI (.vm 2) 6 s150))), (3, (.gh 0 ⟨(.rf 0 []), ()⟩)), (4, (.gh 1 ⟨(.sr 1), ()⟩)), (5, (.gh 2 ⟨(.sr 2), ()⟩)), (6, (.ex .gs)), (7, (.ob (.rw 3 1 cI) s151)), (8, (.ex (.it cI (.vm 2) true 2 6 s152 none (some none))))], 9⟩
/-- (*ringhall/ringref2.Memory).Spaces -/
def Gr_Spaces (P : Program) (N d : Nat) (s157 : S_ringref2_Memory) : Option ((List (Int)) × Unit) := R4 (EE P) prims sums N d 24 [⟨(.rf 0 []), ()⟩] [(.ob (.bx c_ringref2_Memory) s157)]
def Gr_Spaces_L3 (P : Program) (N d : Nat) (k : Nat) (t_158 : Ar 17 (Bool)) (t_159 : Int) (s160 : S_ringref2_Memory) (s161 : List (Int)) : Option ((List (Int)) × Unit) := RL4 (EE P) prims sums N d 24 3 [] [(.bx c_ringref2_Memory)] k ⟨[(3, ⟨(.sr 2), ()⟩), (9, ⟨(.ar 17 .bl), t_158⟩), (10, ⟨cI, t_159⟩)], [(0, (.ob (.bx c_ringref2_Memory) s160)), (1, (.gh 0 ⟨(.rf 0 []), ()⟩)), (2, (.ob (.rw 3 1 cI) s161))], 3⟩
/-- slices.Equal[[]int,int] -/
def G_slices_Equal (P : Program) (N d : Nat) (s_165 : List (Int)) (s_166 : List (Int)) : Option ((Bool) × Unit) := R4 (EE P) prims sums N d 22 [⟨(.sl cI), s_165⟩, ⟨(.sl cI), s_166⟩] []
def G_slices_Equal_L4 (P : Program) (N d : Nat) (k : Nat) (s_167 : List (Int)) (s_168 : List (Int)) (t_169 : Int) (t_170 : Int) : Option ((Bool) × Unit) := RL4 (EE P) prims sums N d 22 4 [] [] k ⟨[(0, ⟨(.sl cI), s_167⟩), (1, ⟨(.sl cI), s_168⟩), (12, ⟨cI, t_169⟩), (13, ⟨cI, t_170⟩)], [], 0⟩
/-- (*ringhall/space.Memory).Make -/
def Gm_Make (P : Program) (N d : Nat) (s182 : tS) (s183 : List (Option Nat)) (s184 : tM) (s185 : List tE) : Option (((Int × Int × Unit)) × (tS) × (List tE) × tM × Unit) := R4 (EE P) prims sums N d 6 [⟨(.rf 0 []), ()⟩] [(.ob (.bx (.pr cI (.pr cI (.pr cI (.pr (.sr 1) (.pr (.sr 2) .un)))))) s182), (.ob (.rw 93 1 (.vp 1)) s183), (.ob (.mp cI (.vm 2)) s184), (.ob (.am 2 cI c_space_entry) s185)]
def Gm_Make_L2 (P : Program) (N d : Nat) (k : Nat) (s_186 : Int) (s187 : tS) (s188 : List (Option Nat)) (s189 : List tE) (s190 : tM) : Option (((Int × Int × Unit)) × (tS) × (List tE) × tM × Unit) := RL4 (EE P) prims sums N d 6 2 [] [(.bx (.pr cI (.pr cI (.pr cI (.pr (.sr 1) (.pr (.sr 4) .un)))))), (.rw 93 1 (.vp 1)), .no, (.am 2 cI c_space_entry)] k ⟨[(0, ⟨(.rf 0 []), ()⟩), (4, ⟨cI, s_186⟩)], [(0, (.ob (.bx (.pr cI (.pr cI (.pr cI (.pr (.sr 1) (.pr (.sr 8) .un)))))) s187)), (1, (.ob (.rw 93 1 (.vp 1)) s188)), (2, .none), (3, (.ob (.am 2 cI c_space_entry) s189)), (4, (.gh 0 ⟨(.rf 0 []), ()⟩)), (5, (.gh 1 ⟨(.sr 1), ()⟩)), (6, (.gh 2 ⟨(.sr 2), ()⟩)), (7, (.gh 3 ⟨.dead, ()⟩)), (8, (.ob (.mp cI (.vm 2)) s190))], 9⟩
/-- (*ringhall/ringref2.Memory).Make -/
def Gr_Make (P : Program) (N d : Nat) (s193 : S_ringref2_Memory) : Option (((Int × Int × Unit)) × (S_ringref2_Memory) × Unit) := R4 (EE P) prims sums N d 39 [⟨(.rf 0 []), ()⟩] [(.ob (.bx c_ringref2_Memory) s193)]
def Gr_Make_L2 (P : Program) (N d : Nat) (k : Nat) (s_194 : Int) (s195 : S_ringref2_Memory) : Option (((Int × Int × Unit)) × (S_ringref2_Memory) × Unit) := RL4 (EE P) prims sums N d 39 2 [] [(.bx c_ringref2_Memory)] k ⟨[(0, ⟨(.rf 0 []), ()⟩), (4, ⟨cI, s_194⟩)], [(0, (.ob (.bx c_ringref2_Memory) s195)), (1, (.gh 0 ⟨(.rf 0 []), ()⟩))], 2⟩
/-- (*ringhall/space.Memory).Fork -/
def Gm_Fork (P : Program) (N d : Nat) (s_202 : Int) (s203 : tS) (s204 : List (Option Nat)) (s205 : tM) (s206 : tP) (s207 : List tE) : Option (((Int × Int × Unit)) × (tS) × tP × (List tE) × tM × Unit) := R4 (EE P) prims sums N d 40 [⟨(.rf 0 []), ()⟩, ⟨cI, s_202⟩] [(.ob (.bx (.pr cI (.pr cI (.pr cI (.pr (.sr 1) (.pr (.sr 2) .un)))))) s203), (.ob (.rw 93 1 (.vp 1)) s204), (.ob (.mp cI (.vm 2)) s205), (.ob (.ab 1 c_space_page) s206), (.ob (.am 2 cI c_space_entry) s207)]
def Gm_Fork_R7 (P : Program) (N d : Nat) (to_211 : Int) (s212 : tS) (s213 : List (Option Nat)) (s214 : tP) (s215 : Nat) (s216 : List tE) (s217 : tM) (s218 : tE) : Option (((Int × Int × Unit)) × (tS) × tP × (List tE) × tM × Unit) := RR4 (EE P) prims sums N d 40 7 [] [(.bx (.pr cI (.pr cI (.pr cI (.pr (.sr 1) (.pr (.sr 5) .un)))))), (.rw 93 1 (.vp 1)), .no, (.ab 1 c_space_page), (.am 2 cI c_space_entry)] 31 ⟨[(0, ⟨(.rf 0 []), ()⟩), (6, ⟨cI, to_211⟩), (31, ⟨(.sr 12), ()⟩)], [(0, (.ob (.bx (.pr cI (.pr cI (.pr cI (.pr (.sr 1) (.pr (.sr 10) .un)))))) s212)), (1, (.ob (.rw 93 1 (.vp 1)) s213)), (2, .none), (3, (.ob (.ab 1 c_space_page) s214)), (4, (.ex (.ah 2 cI c_space_entry s215 11 s216))), (5, (.gh 0 ⟨(.rf 0 []), ()⟩)), (6, (.gh 1 ⟨(.sr 1), ()⟩)), (7, (.gh 2 ⟨(.sr 2), ()⟩)), (8, (.gh 3 ⟨.dead, ()⟩)), (9, (.gh 4 ⟨.dead, ()⟩)), (10, (.ob (.mp cI (.vm 2)) s217)), (11, (.ex .gs)), (12, (.ex (.it cI c_space_entry false 2 11 s218 none none)))], 13⟩
def Gm_Fork_R7_X (cur : Option ((Int) × (S_space_entry))) (to_211 : Int) (s212 : tS) (s213 : List (Option Nat)) (s214 : tP) (s215 : Nat) (s216 : List tE) (s217 : tM) (s218 : tE) : XS := ⟨[(0, ⟨(.rf 0 []), ()⟩), (6, ⟨cI, to_211⟩), (31, ⟨(.sr 12), ()⟩)], [(0, (.ob (.bx (.pr cI (.pr cI (.pr cI (.pr (.sr 1) (.pr (.sr 10) .un)))))) s212)), (1, (.ob (.rw 93 1 (.vp 1)) s213)), (2, .none), (3, (.ob (.ab 1 c_space_page) s214)), (4, (.ex (.ah 2 cI c_space_entry s215 11 s216))), (5, (.gh 0 ⟨(.rf 0 []), ()⟩)), (6, (.gh 1 ⟨(.sr 1), ()⟩)), (7, (.gh 2 ⟨(.sr 2), ()⟩)), (8, (.gh 3 ⟨.dead, ()⟩)), (9, (.gh 4 ⟨.dead, ()⟩)), (10, (.ob (.mp cI (.vm 2)) s217)), (11, (.ex .gs)), (12, (.ex (.it cI c_space_entry false 2 11 s218 cur none)))], 13⟩
def Gm_Fork_R7_S (P : Program) (N d : Nat) (p219 : (Int) × (S_space_entry)) (to_211 : Int) (s212 : tS) (s213 : List (Option Nat)) (s214 : tP) (s215 : Nat) (s216 : List tE) (s217 : tM) (s218 : tE) : Option XS := RS4 (EE P) prims sums N d 40 7 [(.bx (.pr cI (.pr cI (.pr cI (.pr (.sr 1) (.pr (.sr 5) .un)))))), (.rw 93 1 (.vp 1)), .no, (.ab 1 c_space_page), (.am 2 cI c_space_entry)] ⟨[(0, ⟨(.rf 0 []), ()⟩), (6, ⟨cI, to_211⟩), (31, ⟨(.sr 12), ()⟩)], [(0, (.ob (.bx (.pr cI (.pr cI (.pr cI (.pr (.sr 1) (.pr (.sr 10) .un)))))) s212)), (1, (.ob (.rw 93 1 (.vp 1)) s213)), (2, .none), (3, (.ob (.ab 1 c_space_page) s214)), (4, (.ex (.ah 2 cI c_space_entry s215 11 s216))), (5, (.gh 0 ⟨(.rf 0 []), ()⟩)), (6, (.gh 1 ⟨(.sr 1), ()⟩)), (7, (.gh 2 ⟨(.sr 2), ()⟩)), (8, (.gh 3 ⟨.dead, ()⟩)), (9, (.gh 4 ⟨.dead, ()⟩)), (10, (.ob (.mp cI (.vm 2)) s217)), (11, (.ex .gs)), (12, (.ex (.it cI c_space_entry false 2 11 s218 none (some (some p219)))))], 13⟩
def Gm_Fork_R7_E (P : Program) (N d : Nat) (to_211 : Int) (s212 : tS) (s213 : List (Option Nat)) (s214 : tP) (s215 : Nat) (s216 : List tE) (s217 : tM) (s218 : tE) : Option (((Int × Int × Unit)) × (tS) × tP × (List tE) × tM × Unit) := RE4 (EE P) prims sums N d 40 7 [] [(.bx (.pr cI (.pr cI (.pr cI (.pr (.sr 1) (.pr (.sr 5) .un)))))), (.rw 93 1 (.vp 1)), .no, (.ab 1 c_space_page), (.am 2 cI c_space_entry)] ⟨[(0, ⟨(.rf 0 []), ()⟩), (6, ⟨cI, to_211⟩), (31, ⟨(.sr 12), ()⟩)], [(0, (.ob (.bx (.pr cI (.pr cI (.pr cI (.pr (.sr 1) (.pr (.sr 10) .un)))))) s212)), (1, (.ob (.rw 93 1 (.vp 1)) s213)), (2, .none), (3, (.ob (.ab 1 c_space_page) s214)), (4, (.ex (.ah 2 cI c_space_entry s215 11 s216))), (5, (.gh 0 ⟨(.rf 0 []), ()⟩)), (6, (.gh 1 ⟨(.sr 1), ()⟩)), (7, (.gh 2 ⟨(.sr 2), ()⟩)), (8, (.gh 3 ⟨.dead, ()⟩)), (9, (.gh 4 ⟨.dead, ()⟩)), (10, (.ob (.mp cI (.vm 2)) s217)), (11, (.ex .gs)), (12, (.ex (.it cI c_space_entry false 2 11 s218 none (some none))))], 13⟩
/-- (*ringhall/ringref2.Memory).There -/
def Gr_There (P : Program) (N d : Nat) (s_229 : Int) (s230 : S_ringref2_Memory) : Option ((Bool) × Unit) := R4 (EE P) prims sums N d 56 [⟨(.rf 0 []), ()⟩, ⟨cI, s_229⟩] [(.ob (.bx c_ringref2_Memory) s230)]
/-- (*ringhall/ringref2.Memory).Fork -/
def Gr_Fork (P : Program) (N d : Nat) (s_227 : Int) (s228 : S_ringref2_Memory) : Option (((Int × Int × Unit)) × (S_ringref2_Memory) × Unit) := R4 (EE P) prims sums N d 41 [⟨(.rf 0 []), ()⟩, ⟨cI, s_227⟩] [(.ob (.bx c_ringref2_Memory) s228)]
/-- (*ringhall/space.Memory).let$1 -/
def Gm_let_1 (P : Program) (N d : Nat) (p_281 : Option Nat) (s282 : S_space_entry) (s283 : tP) : Option ((Bool) × Unit) := R4 (EE P) prims sums N d 66 [⟨(.vp 1), p_281⟩, ⟨(.rf 0 []), ()⟩] [(.ob (.bx c_space_entry) s282), (.ob (.ab 1 c_space_page) s283)]
/-- slices.IndexFunc[[]*ringhall/space.page,*ringhall/space.page] -/
def G_slices_IndexFunc (P : Program) (N d : Nat) (s271 : List (Option Nat)) (s272 : S_space_entry) (s273 : tP) : Option ((Int) × Unit) := R4 (EE P) prims sums N d 79 [⟨(.sr 0), ()⟩, ⟨(.cl 66 (.pr (.rf 1 []) .un)), ((), ())⟩] [(.ob (.rw 93 1 (.vp 1)) s271), (.ob (.bx c_space_entry) s272), (.ob (.ab 1 c_space_page) s273)]
def G_slices_IndexFunc_L2 (P : Program) (N d : Nat) (k : Nat) (t_274 : Int) (t_275 : Int) (s276 : List (Option Nat)) (s277 : S_space_entry) (s278 : tP) : Option ((Int) × Unit) := RL4 (EE P) prims sums N d 79 2 [] [(.rw 93 1 (.vp 1)), (.bx c_space_entry), (.ab 1 c_space_page)] k ⟨[(0, ⟨(.sr 0), ()⟩), (1, ⟨(.cl 66 (.pr (.rf 1 []) .un)), ((), ())⟩), (7, ⟨cI, t_274⟩), (8, ⟨cI, t_275⟩)], [(0, (.ob (.rw 93 1 (.vp 1)) s276)), (1, (.ob (.bx c_space_entry) s277)), (2, (.ob (.ab 1 c_space_page) s278)), (3, (.gh 0 ⟨(.sr 0), ()⟩)), (4, (.gh 1 ⟨(.rf 1 []), ()⟩)), (5, (.gh 2 ⟨.dead, ()⟩))], 6⟩
/-- slices.DeleteFunc[[]*ringhall/space.page,*ringhall/space.page] -/
def G_slices_DeleteFunc (P : Program) (N d : Nat) (s268 : List (Option Nat)) (s269 : S_space_entry) (s270 : tP) : Option ((Unit) × (List (Option Nat)) × Unit) := R4 (EE P) prims sums N d 65 [⟨(.sr 0), ()⟩, ⟨(.cl 66 (.pr (.rf 1 []) .un)), ((), ())⟩] [(.ob (.rw 93 1 (.vp 1)) s268), (.ob (.bx c_space_entry) s269), (.ob (.ab 1 c_space_page) s270)]
def G_slices_DeleteFunc_L5 (P : Program) (N d : Nat) (k : Nat) (i_286 : Int) (j_287 : Int) (s288 : S_space_entry) (s289 : tP) (s290 : List (Option Nat)) : Option ((Unit) × (List (Option Nat)) × Unit) := RL4 (EE P) prims sums N d 65 5 [] [.no, (.bx c_space_entry), (.ab 1 c_space_page)] k ⟨[(0, ⟨(.sr 6), ()⟩), (1, ⟨(.cl 66 (.pr (.rf 1 []) .un)), ((), ())⟩), (5, ⟨cI, i_286⟩), (6, ⟨cI, j_287⟩)], [(0, .none), (1, (.ob (.bx c_space_entry) s288)), (2, (.ob (.ab 1 c_space_page) s289)), (3, (.gh 0 ⟨(.sr 0), ()⟩)), (4, (.gh 1 ⟨(.rf 1 []), ()⟩)), (5, (.gh 2 ⟨.dead, ()⟩)), (6, (.ob (.rw 93 1 (.vp 1)) s290))], 7⟩
/-- (*ringhall/space.Memory).let -/
def Gm_let (P : Program) (N d : Nat) (e_257 : S_space_entry) (s258 : tS) (s259 : List (Option Nat)) (s260 : tM) (s261 : tP) : Option (((Unit)) × (tS) × tP × (List (Option Nat)) × Unit) := R4 (EE P) prims sums N d 57 [⟨(.rf 0 []), ()⟩, ⟨c_space_entry, e_257⟩] [(.ob (.bx (.pr cI (.pr cI (.pr cI (.pr (.sr 1) (.pr (.sr 2) .un)))))) s258), (.ob (.rw 93 1 (.vp 1)) s259), (.ob (.mp cI (.vm 2)) s260), (.ob (.ab 1 c_space_page) s261)]
/-- (*ringhall/space.Memory).Drop -/
def Gm_Drop (P : Program) (N d : Nat) (s_240 : Int) (s241 : tS) (s242 : List (Option Nat)) (s243 : tM) (s244 : tP) (s245 : List tE) : Option ((Int) × (tS) × tP × (List tE) × (List (Option Nat)) × tM × Unit) := R4 (EE P) prims sums N d 42 [⟨(.rf 0 []), ()⟩, ⟨cI, s_240⟩] [(.ob (.bx (.pr cI (.pr cI (.pr cI (.pr (.sr 1) (.pr (.sr 2) .un)))))) s241), (.ob (.rw 93 1 (.vp 1)) s242), (.ob (.mp cI (.vm 2)) s243), (.ob (.ab 1 c_space_page) s244), (.ob (.am 2 cI c_space_entry) s245)]
def Gm_Drop_R4 (P : Program) (N d : Nat) (s_248 : Int) (s249 : tS) (s250 : tP) (s251 : Nat) (s252 : List tE) (s253 : List (Option Nat)) (s254 : tM) (s255 : tE) : Option ((Int) × (tS) × tP × (List tE) × (List (Option Nat)) × tM × Unit) := RR4 (EE P) prims sums N d 42 4 [] [(.bx (.pr cI (.pr cI (.pr cI (.pr (.sr 5) (.pr (.sr 6) .un)))))), .no, .no, (.ab 1 c_space_page), (.am 2 cI c_space_entry)] 20 ⟨[(0, ⟨(.rf 0 []), ()⟩), (1, ⟨cI, s_248⟩), (20, ⟨(.sr 13), ()⟩)], [(0, (.ob (.bx (.pr cI (.pr cI (.pr cI (.pr (.sr 10) (.pr (.sr 11) .un)))))) s249)), (1, .none), (2, .none), (3, (.ob (.ab 1 c_space_page) s250)), (4, (.ex (.ah 2 cI c_space_entry s251 12 s252))), (5, (.gh 0 ⟨(.rf 0 []), ()⟩)), (6, (.gh 1 ⟨(.sr 1), ()⟩)), (7, (.gh 2 ⟨(.sr 2), ()⟩)), (8, (.gh 3 ⟨.dead, ()⟩)), (9, (.gh 4 ⟨.dead, ()⟩)), (10, (.ob (.rw 93 1 (.vp 1)) s253)), (11, (.ob (.mp cI (.vm 2)) s254)), (12, (.ex .gs)), (13, (.ex (.it cI c_space_entry false 2 12 s255 none none)))], 14⟩
def Gm_Drop_R4_X (cur : Option ((Int) × (S_space_entry))) (s_248 : Int) (s249 : tS) (s250 : tP) (s251 : Nat) (s252 : List tE) (s253 : List (Option Nat)) (s254 : tM) (s255 : tE) : XS := ⟨[(0, ⟨(.rf 0 []), ()⟩), (1, ⟨cI, s_248⟩), (20, ⟨(.sr 13), ()⟩)], [(0, (.ob (.bx (.pr cI (.pr cI (.pr cI (.pr (.sr 10) (.pr (.sr 11) .un)))))) s249)), (1, .none), (2, .none), (3, (.ob (.ab 1 c_space_page) s250)), (4, (.ex (.ah 2 cI c_space_entry s251 12 s252))), (5, (.gh 0 ⟨(.rf 0 []), ()⟩)), (6, (.gh 1 ⟨(.sr 1), ()⟩)), (7, (.gh 2 ⟨(.sr 2), ()⟩)), (8, (.gh 3 ⟨.dead, ()⟩)), (9, (.gh 4 ⟨.dead, ()⟩)), (10, (.ob (.rw 93 1 (.vp 1)) s253)), (11, (.ob (.mp cI (.vm 2)) s254)), (12, (.ex .gs)), (13, (.ex (.it cI c_space_entry false 2 12 s255 cur none)))], 14⟩
def Gm_Drop_R4_S (P : Program) (N d : Nat) (p256 : (Int) × (S_space_entry)) (s_248 : Int) (s249 : tS) (s250 : tP) (s251 : Nat) (s252 : List tE) (s253 : List (Option Nat)) (s254 : tM) (s255 : tE) : Option XS := RS4 (EE P) prims sums N d 42 4 [(.bx (.pr cI (.pr cI (.pr cI (.pr (.sr 5) (.pr (.sr 6) .un)))))), .no, .no, (.ab 1 c_space_page), (.am 2 cI c_space_entry)] ⟨[(0, ⟨(.rf 0 []), ()⟩), (1, ⟨cI, s_248⟩), (20, ⟨(.sr 13), ()⟩)], [(0, (.ob (.bx (.pr cI (.pr cI (.pr cI (.pr (.sr 10) (.pr (.sr 11) .un)))))) s249)), (1, .none), (2, .none), (3, (.ob (.ab 1 c_space_page) s250)), (4, (.ex (.ah 2 cI c_space_entry s251 12 s252))), (5, (.gh 0 ⟨(.rf 0 []), ()⟩)), (6, (.gh 1 ⟨(.sr 1), ()⟩)), (7, (.gh 2 ⟨(.sr 2), ()⟩)), (8, (.gh 3 ⟨.dead, ()⟩)), (9, (.gh 4 ⟨.dead, ()⟩)), (10, (.ob (.rw 93 1 (.vp 1)) s253)), (11, (.ob (.mp cI (.vm 2)) s254)), (12, (.ex .gs)), (13, (.ex (.it cI c_space_entry false 2 12 s255 none (some (some p256)))))], 14⟩
def Gm_Drop_R4_E (P : Program) (N d : Nat) (s_248 : Int) (s249 : tS) (s250 : tP) (s251 : Nat) (s252 : List tE) (s253 : List (Option Nat)) (s254 : tM) (s255 : tE) : Option ((Int) × (tS) × tP × (List tE) × (List (Option Nat)) × tM × Unit) := RE4 (EE P) prims sums N d 42 4 [] [(.bx (.pr cI (.pr cI (.pr cI (.pr (.sr 5) (.pr (.sr 6) .un)))))), .no, .no, (.ab 1 c_space_page), (.am 2 cI c_space_entry)] ⟨[(0, ⟨(.rf 0 []), ()⟩), (1, ⟨cI, s_248⟩), (20, ⟨(.sr 13), ()⟩)], [(0, (.ob (.bx (.pr cI (.pr cI (.pr cI (.pr (.sr 10) (.pr (.sr 11) .un)))))) s249)), (1, .none), (2, .none), (3, (.ob (.ab 1 c_space_page) s250)), (4, (.ex (.ah 2 cI c_space_entry s251 12 s252))), (5, (.gh 0 ⟨(.rf 0 []), ()⟩)), (6, (.gh 1 ⟨(.sr 1), ()⟩)), (7, (.gh 2 ⟨(.sr 2), ()⟩)), (8, (.gh 3 ⟨.dead, ()⟩)), (9, (.gh 4 ⟨.dead, ()⟩)), (10, (.ob (.rw 93 1 (.vp 1)) s253)), (11, (.ob (.mp cI (.vm 2)) s254)), (12, (.ex .gs)), (13, (.ex (.it cI c_space_entry false 2 12 s255 none (some none))))], 14⟩
/-- (*ringhall/ringref2.Memory).Drop -/
def Gr_Drop (P : Program) (N d : Nat) (s_298 : Int) (s299 : S_ringref2_Memory) : Option ((Int) × (S_ringref2_Memory) × Unit) := R4 (EE P) prims sums N d 43 [⟨(.rf 0 []), ()⟩, ⟨cI, s_298⟩] [(.ob (.bx c_ringref2_Memory) s299)]
/-- (*ringhall/space.Memory).span -/
def Gm_span (P : Program) (N d : Nat) (s_313 : Int) (first_314 : Int) (n_315 : Int) (rights_316 : Int) (s317 : tS) (s318 : List (Option Nat)) (s319 : tM) : Option ((Int) × Unit) := R4 (EE P) prims sums N d 25 [⟨(.rf 0 []), ()⟩, ⟨cI, s_313⟩, ⟨cI, first_314⟩, ⟨cI, n_315⟩, ⟨cI, rights_316⟩] [(.ob (.bx (.pr cI (.pr cI (.pr cI (.pr (.sr 1) (.pr (.sr 2) .un)))))) s317), (.ob (.rw 93 1 (.vp 1)) s318), (.ob (.mp cI (.vm 2)) s319)]
/-- (*ringhall/space.Memory).room -/
def Gm_room (P : Program) (N d : Nat) (n_348 : Int) (s349 : tS) (s350 : List (Option Nat)) (s351 : tM) : Option ((Bool) × Unit) := R4 (EE P) prims sums N d 26 [⟨(.rf 0 []), ()⟩, ⟨cI, n_348⟩] [(.ob (.bx (.pr cI (.pr cI (.pr cI (.pr (.sr 1) (.pr (.sr 2) .un)))))) s349), (.ob (.rw 93 1 (.vp 1)) s350), (.ob (.mp cI (.vm 2)) s351)]
/-- (*ringhall/space.Memory).ask -/
def Gm_ask (P : Program) (N d : Nat) (p_369 : Option Nat) (s370 : tS) (s371 : List (Option Nat)) (s372 : tM) (s373 : tP) : Option (((Unit)) × (tS) × tP × Unit) := R4 (EE P) prims sums N d 54 [⟨(.rf 0 []), ()⟩, ⟨(.vp 1), p_369⟩] [(.ob (.bx (.pr cI (.pr cI (.pr cI (.pr (.sr 1) (.pr (.sr 2) .un)))))) s370), (.ob (.rw 93 1 (.vp 1)) s371), (.ob (.mp cI (.vm 2)) s372), (.ob (.ab 1 c_space_page) s373)]
/-- (*ringhall/space.Memory).add -/
def Gm_add (P : Program) (N d : Nat) (data_364 : Ar 16 (Int)) (s365 : tS) (s366 : List (Option Nat)) (s367 : tM) (s368 : tP) : Option ((Option Nat) × (tS) × tP × (List (Option Nat)) × Unit) := R4 (EE P) prims sums N d 27 [⟨(.rf 0 []), ()⟩, ⟨(.ar 16 (.i .u8)), data_364⟩] [(.ob (.bx (.pr cI (.pr cI (.pr cI (.pr (.sr 1) (.pr (.sr 2) .un)))))) s365), (.ob (.rw 93 1 (.vp 1)) s366), (.ob (.mp cI (.vm 2)) s367), (.ob (.ab 1 c_space_page) s368)]
/-- (*ringhall/space.Memory).Map -/
def Gm_Map (P : Program) (N d : Nat) (s_304 : Int) (first_305 : Int) (n_306 : Int) (rights_307 : Int) (s308 : tS) (s309 : List (Option Nat)) (s310 : tM) (s311 : tP) (s312 : List tE) : Option ((Int) × (tS) × tP × (List tE) × (List (Option Nat)) × Unit) := R4 (EE P) prims sums N d 44 [⟨(.rf 0 []), ()⟩, ⟨cI, s_304⟩, ⟨cI, first_305⟩, ⟨cI, n_306⟩, ⟨cI, rights_307⟩] [(.ob (.bx (.pr cI (.pr cI (.pr cI (.pr (.sr 1) (.pr (.sr 2) .un)))))) s308), (.ob (.rw 93 1 (.vp 1)) s309), (.ob (.mp cI (.vm 2)) s310), (.ob (.ab 1 c_space_page) s311), (.ob (.am 2 cI c_space_entry) s312)]
def Gm_Map_L5 (P : Program) (N d : Nat) (k : Nat) (s_322 : Int) (first_323 : Int) (n_324 : Int) (rights_325 : Int) (t_326 : Int) (t_327 : Int) (s328 : tS) (s329 : tM) (s330 : tP) (s331 : List tE) (s332 : List (Option Nat)) : Option ((Int) × (tS) × tP × (List tE) × (List (Option Nat)) × Unit) := RL4 (EE P) prims sums N d 44 5 [] [(.bx (.pr cI (.pr cI (.pr cI (.pr (.sr 5) (.pr (.sr 2) .un)))))), .no, (.mp cI (.vm 2)), (.ab 1 c_space_page), (.am 2 cI c_space_entry)] k ⟨[(0, ⟨(.rf 0 []), ()⟩), (1, ⟨cI, s_322⟩), (2, ⟨cI, first_323⟩), (3, ⟨cI, n_324⟩), (4, ⟨cI, rights_325⟩), (25, ⟨cI, t_326⟩), (26, ⟨cI, t_327⟩)], [(0, (.ob (.bx (.pr cI (.pr cI (.pr cI (.pr (.sr 10) (.pr (.sr 2) .un)))))) s328)), (1, .none), (2, (.ob (.mp cI (.vm 2)) s329)), (3, (.ob (.ab 1 c_space_page) s330)), (4, (.ob (.am 2 cI c_space_entry) s331)), (5, (.gh 0 ⟨(.rf 0 []), ()⟩)), (6, (.gh 1 ⟨(.sr 1), ()⟩)), (7, (.gh 2 ⟨(.sr 2), ()⟩)), (8, (.gh 3 ⟨.dead, ()⟩)), (9, (.gh 4 ⟨.dead, ()⟩)), (10, (.ob (.rw 93 1 (.vp 1)) s332))], 11⟩
def Gm_Map_J8 (P : Program) (N d : Nat) (k333 : Nat) (s_336 : Int) (first_337 : Int) (n_338 : Int) (rights_339 : Int) (is_340 : Bool) (t_341 : Int) (t_342 : Int) (s343 : tS) (s344 : tM) (s345 : tP) (s346 : List tE) (s347 : List (Option Nat)) : Option ((Int) × (tS) × tP × (List tE) × (List (Option Nat)) × Unit) := RJ (EE P) prims sums N d 44 8 [k333] [(.bx (.pr cI (.pr cI (.pr cI (.pr (.sr 5) (.pr (.sr 2) .un)))))), .no, (.mp cI (.vm 2)), (.ab 1 c_space_page), (.am 2 cI c_space_entry)] ⟨[(0, ⟨(.rf 0 []), ()⟩), (1, ⟨cI, s_336⟩), (2, ⟨cI, first_337⟩), (3, ⟨cI, n_338⟩), (4, ⟨cI, rights_339⟩), (14, ⟨.bl, is_340⟩), (25, ⟨cI, t_341⟩), (26, ⟨cI, t_342⟩)], [(0, (.ob (.bx (.pr cI (.pr cI (.pr cI (.pr (.sr 10) (.pr (.sr 2) .un)))))) s343)), (1, .none), (2, (.ob (.mp cI (.vm 2)) s344)), (3, (.ob (.ab 1 c_space_page) s345)), (4, (.ob (.am 2 cI c_space_entry) s346)), (5, (.gh 0 ⟨(.rf 0 []), ()⟩)), (6, (.gh 1 ⟨(.sr 1), ()⟩)), (7, (.gh 2 ⟨(.sr 2), ()⟩)), (8, (.gh 3 ⟨.dead, ()⟩)), (9, (.gh 4 ⟨.dead, ()⟩)), (10, (.ob (.rw 93 1 (.vp 1)) s347))], 11⟩
def Gm_Map_L14 (P : Program) (N d : Nat) (k : Nat) (s_353 : Int) (first_354 : Int) (rights_355 : Int) (t_356 : Int) (t_357 : Int) (s358 : tS) (s359 : tM) (s360 : tP) (s361 : List tE) (s362 : List (Option Nat)) : Option ((Int) × (tS) × tP × (List tE) × (List (Option Nat)) × Unit) := RL4 (EE P) prims sums N d 44 14 [] [(.bx (.pr cI (.pr cI (.pr cI (.pr (.sr 5) (.pr (.sr 2) .un)))))), .no, (.mp cI (.vm 2)), (.ab 1 c_space_page), (.am 2 cI c_space_entry)] k ⟨[(0, ⟨(.rf 0 []), ()⟩), (1, ⟨cI, s_353⟩), (2, ⟨cI, first_354⟩), (4, ⟨cI, rights_355⟩), (48, ⟨cI, t_356⟩), (49, ⟨cI, t_357⟩)], [(0, (.ob (.bx (.pr cI (.pr cI (.pr cI (.pr (.sr 10) (.pr (.sr 2) .un)))))) s358)), (1, .none), (2, (.ob (.mp cI (.vm 2)) s359)), (3, (.ob (.ab 1 c_space_page) s360)), (4, (.ob (.am 2 cI c_space_entry) s361)), (5, (.gh 0 ⟨(.rf 0 []), ()⟩)), (6, (.gh 1 ⟨(.sr 1), ()⟩)), (7, (.gh 2 ⟨(.sr 2), ()⟩)), (8, (.gh 3 ⟨.dead, ()⟩)), (9, (.gh 4 ⟨.dead, ()⟩)), (10, (.ob (.rw 93 1 (.vp 1)) s362))], 11⟩
/-- (*ringhall/ringref2.Memory).Span -/
def Gr_Span (P : Program) (N d : Nat) (s_397 : Int) (page_398 : Int) (n_399 : Int) (rights_400 : Int) (s401 : S_ringref2_Memory) : Option ((Int) × Unit) := R4 (EE P) prims sums N d 58 [⟨(.rf 0 []), ()⟩, ⟨cI, s_397⟩, ⟨cI, page_398⟩, ⟨cI, n_399⟩, ⟨cI, rights_400⟩] [(.ob (.bx c_ringref2_Memory) s401)]
/-- (*ringhall/ringref2.Memory).Map -/
def Gr_Map (P : Program) (N d : Nat) (s_391 : Int) (page_392 : Int) (n_393 : Int) (rights_394 : Int) (data_395 : List (Int)) (s396 : S_ringref2_Memory) : Option ((Int) × (S_ringref2_Memory) × Unit) := R4 (EE P) prims sums N d 45 [⟨(.rf 0 []), ()⟩, ⟨cI, s_391⟩, ⟨cI, page_392⟩, ⟨cI, n_393⟩, ⟨cI, rights_394⟩, ⟨(.sl (.i .u8)), data_395⟩] [(.ob (.bx c_ringref2_Memory) s396)]
def Gr_Map_L7 (P : Program) (N d : Nat) (k : Nat) (s_408 : Int) (page_409 : Int) (n_410 : Int) (rights_411 : Int) (data_412 : List (Int)) (t_413 : Int) (t_414 : Int) (s415 : S_ringref2_Memory) : Option ((Int) × (S_ringref2_Memory) × Unit) := RL4 (EE P) prims sums N d 45 7 [] [(.bx c_ringref2_Memory)] k ⟨[(0, ⟨(.rf 0 []), ()⟩), (1, ⟨cI, s_408⟩), (2, ⟨cI, page_409⟩), (3, ⟨cI, n_410⟩), (4, ⟨cI, rights_411⟩), (5, ⟨(.sl (.i .u8)), data_412⟩), (29, ⟨cI, t_413⟩), (30, ⟨cI, t_414⟩)], [(0, (.ob (.bx c_ringref2_Memory) s415)), (1, (.gh 0 ⟨(.rf 0 []), ()⟩))], 2⟩
def Gr_Map_L15 (P : Program) (N d : Nat) (k : Nat) (s_420 : Int) (page_421 : Int) (rights_422 : Int) (data_423 : List (Int)) (t_424 : Int) (t_425 : Int) (s426 : S_ringref2_Memory) : Option ((Int) × (S_ringref2_Memory) × Unit) := RL4 (EE P) prims sums N d 45 15 [] [(.bx c_ringref2_Memory)] k ⟨[(0, ⟨(.rf 0 []), ()⟩), (1, ⟨cI, s_420⟩), (2, ⟨cI, page_421⟩), (4, ⟨cI, rights_422⟩), (5, ⟨(.sl (.i .u8)), data_423⟩), (54, ⟨cI, t_424⟩), (55, ⟨cI, t_425⟩)], [(0, (.ob (.bx c_ringref2_Memory) s426)), (1, (.gh 0 ⟨(.rf 0 []), ()⟩))], 2⟩
/-- (*ringhall/space.Memory).Unmap -/
def Gm_Unmap (P : Program) (N d : Nat) (s_434 : Int) (first_435 : Int) (n_436 : Int) (s437 : tS) (s438 : List (Option Nat)) (s439 : tM) (s440 : tP) (s441 : List tE) : Option ((Int) × (tS) × tP × (List tE) × (List (Option Nat)) × Unit) := R4 (EE P) prims sums N d 46 [⟨(.rf 0 []), ()⟩, ⟨cI, s_434⟩, ⟨cI, first_435⟩, ⟨cI, n_436⟩] [(.ob (.bx (.pr cI (.pr cI (.pr cI (.pr (.sr 1) (.pr (.sr 2) .un)))))) s437), (.ob (.rw 93 1 (.vp 1)) s438), (.ob (.mp cI (.vm 2)) s439), (.ob (.ab 1 c_space_page) s440), (.ob (.am 2 cI c_space_entry) s441)]
def Gm_Unmap_L5 (P : Program) (N d : Nat) (k : Nat) (s_443 : Int) (first_444 : Int) (n_445 : Int) (k_446 : Int) (s447 : tS) (s448 : tM) (s449 : tP) (s450 : List tE) (s451 : List (Option Nat)) : Option ((Int) × (tS) × tP × (List tE) × (List (Option Nat)) × Unit) := RL4 (EE P) prims sums N d 46 5 [] [(.bx (.pr cI (.pr cI (.pr cI (.pr (.sr 5) (.pr (.sr 2) .un)))))), .no, (.mp cI (.vm 2)), (.ab 1 c_space_page), (.am 2 cI c_space_entry)] k ⟨[(0, ⟨(.rf 0 []), ()⟩), (1, ⟨cI, s_443⟩), (2, ⟨cI, first_444⟩), (3, ⟨cI, n_445⟩), (10, ⟨cI, k_446⟩)], [(0, (.ob (.bx (.pr cI (.pr cI (.pr cI (.pr (.sr 10) (.pr (.sr 2) .un)))))) s447)), (1, .none), (2, (.ob (.mp cI (.vm 2)) s448)), (3, (.ob (.ab 1 c_space_page) s449)), (4, (.ob (.am 2 cI c_space_entry) s450)), (5, (.gh 0 ⟨(.rf 0 []), ()⟩)), (6, (.gh 1 ⟨(.sr 1), ()⟩)), (7, (.gh 2 ⟨(.sr 2), ()⟩)), (8, (.gh 3 ⟨.dead, ()⟩)), (9, (.gh 4 ⟨.dead, ()⟩)), (10, (.ob (.rw 93 1 (.vp 1)) s451))], 11⟩
def Gm_Unmap_J8 (P : Program) (N d : Nat) (k452 : Nat) (s_455 : Int) (first_456 : Int) (n_457 : Int) (k_458 : Int) (is_459 : Bool) (s460 : tS) (s461 : tM) (s462 : tP) (s463 : List tE) (s464 : List (Option Nat)) (s465 : S_space_entry) : Option ((Int) × (tS) × tP × (List tE) × (List (Option Nat)) × Unit) := RJ (EE P) prims sums N d 46 8 [k452] [(.bx (.pr cI (.pr cI (.pr cI (.pr (.sr 5) (.pr (.sr 2) .un)))))), .no, (.mp cI (.vm 2)), (.ab 1 c_space_page), (.am 2 cI c_space_entry)] ⟨[(0, ⟨(.rf 0 []), ()⟩), (1, ⟨cI, s_455⟩), (2, ⟨cI, first_456⟩), (3, ⟨cI, n_457⟩), (10, ⟨cI, k_458⟩), (11, ⟨(.rf 11 []), ()⟩), (12, ⟨.bl, is_459⟩)], [(0, (.ob (.bx (.pr cI (.pr cI (.pr cI (.pr (.sr 10) (.pr (.sr 2) .un)))))) s460)), (1, .none), (2, (.ob (.mp cI (.vm 2)) s461)), (3, (.ob (.ab 1 c_space_page) s462)), (4, (.ob (.am 2 cI c_space_entry) s463)), (5, (.gh 0 ⟨(.rf 0 []), ()⟩)), (6, (.gh 1 ⟨(.sr 1), ()⟩)), (7, (.gh 2 ⟨(.sr 2), ()⟩)), (8, (.gh 3 ⟨.dead, ()⟩)), (9, (.gh 4 ⟨.dead, ()⟩)), (10, (.ob (.rw 93 1 (.vp 1)) s464)), (11, (.ob (.bx c_space_entry) s465))], 12⟩
/-- (*ringhall/ringref2.Memory).Unmap -/
def Gr_Unmap (P : Program) (N d : Nat) (s_470 : Int) (page_471 : Int) (n_472 : Int) (s473 : S_ringref2_Memory) : Option ((Int) × (S_ringref2_Memory) × Unit) := R4 (EE P) prims sums N d 47 [⟨(.rf 0 []), ()⟩, ⟨cI, s_470⟩, ⟨cI, page_471⟩, ⟨cI, n_472⟩] [(.ob (.bx c_ringref2_Memory) s473)]
def Gr_Unmap_L5 (P : Program) (N d : Nat) (k : Nat) (s_475 : Int) (page_476 : Int) (t_477 : Int) (t_478 : Int) (s479 : S_ringref2_Memory) : Option ((Int) × (S_ringref2_Memory) × Unit) := RL4 (EE P) prims sums N d 47 5 [] [(.bx c_ringref2_Memory)] k ⟨[(0, ⟨(.rf 0 []), ()⟩), (1, ⟨cI, s_475⟩), (2, ⟨cI, page_476⟩), (19, ⟨cI, t_477⟩), (20, ⟨cI, t_478⟩)], [(0, (.ob (.bx c_ringref2_Memory) s479)), (1, (.gh 0 ⟨(.rf 0 []), ()⟩))], 2⟩
/-- (*ringhall/space.Memory).Protect -/
def Gm_Protect (P : Program) (N d : Nat) (s_484 : Int) (first_485 : Int) (n_486 : Int) (rights_487 : Int) (s488 : tS) (s489 : List (Option Nat)) (s490 : tM) (s491 : List tE) : Option ((Int) × (List tE) × Unit) := R4 (EE P) prims sums N d 48 [⟨(.rf 0 []), ()⟩, ⟨cI, s_484⟩, ⟨cI, first_485⟩, ⟨cI, n_486⟩, ⟨cI, rights_487⟩] [(.ob (.bx (.pr cI (.pr cI (.pr cI (.pr (.sr 1) (.pr (.sr 2) .un)))))) s488), (.ob (.rw 93 1 (.vp 1)) s489), (.ob (.mp cI (.vm 2)) s490), (.ob (.am 2 cI c_space_entry) s491)]
def Gm_Protect_L5 (P : Program) (N d : Nat) (k : Nat) (s_493 : Int) (first_494 : Int) (n_495 : Int) (rights_496 : Int) (t_497 : Int) (t_498 : Int) (s499 : tS) (s500 : List (Option Nat)) (s501 : tM) (s502 : List tE) : Option ((Int) × (List tE) × Unit) := RL4 (EE P) prims sums N d 48 5 [] [(.bx (.pr cI (.pr cI (.pr cI (.pr (.sr 1) (.pr (.sr 2) .un)))))), (.rw 93 1 (.vp 1)), (.mp cI (.vm 2)), (.am 2 cI c_space_entry)] k ⟨[(0, ⟨(.rf 0 []), ()⟩), (1, ⟨cI, s_493⟩), (2, ⟨cI, first_494⟩), (3, ⟨cI, n_495⟩), (4, ⟨cI, rights_496⟩), (25, ⟨cI, t_497⟩), (26, ⟨cI, t_498⟩)], [(0, (.ob (.bx (.pr cI (.pr cI (.pr cI (.pr (.sr 1) (.pr (.sr 2) .un)))))) s499)), (1, (.ob (.rw 93 1 (.vp 1)) s500)), (2, (.ob (.mp cI (.vm 2)) s501)), (3, (.ob (.am 2 cI c_space_entry) s502)), (4, (.gh 0 ⟨(.rf 0 []), ()⟩)), (5, (.gh 1 ⟨(.sr 1), ()⟩)), (6, (.gh 2 ⟨(.sr 2), ()⟩)), (7, (.gh 3 ⟨.dead, ()⟩))], 8⟩
def Gm_Protect_J8 (P : Program) (N d : Nat) (k503 : Nat) (s_506 : Int) (first_507 : Int) (n_508 : Int) (rights_509 : Int) (is_510 : Bool) (t_511 : Int) (t_512 : Int) (s513 : tS) (s514 : List (Option Nat)) (s515 : tM) (s516 : List tE) : Option ((Int) × (List tE) × Unit) := RJ (EE P) prims sums N d 48 8 [k503] [(.bx (.pr cI (.pr cI (.pr cI (.pr (.sr 1) (.pr (.sr 2) .un)))))), (.rw 93 1 (.vp 1)), (.mp cI (.vm 2)), (.am 2 cI c_space_entry)] ⟨[(0, ⟨(.rf 0 []), ()⟩), (1, ⟨cI, s_506⟩), (2, ⟨cI, first_507⟩), (3, ⟨cI, n_508⟩), (4, ⟨cI, rights_509⟩), (14, ⟨.bl, is_510⟩), (25, ⟨cI, t_511⟩), (26, ⟨cI, t_512⟩)], [(0, (.ob (.bx (.pr cI (.pr cI (.pr cI (.pr (.sr 1) (.pr (.sr 2) .un)))))) s513)), (1, (.ob (.rw 93 1 (.vp 1)) s514)), (2, (.ob (.mp cI (.vm 2)) s515)), (3, (.ob (.am 2 cI c_space_entry) s516)), (4, (.gh 0 ⟨(.rf 0 []), ()⟩)), (5, (.gh 1 ⟨(.sr 1), ()⟩)), (6, (.gh 2 ⟨(.sr 2), ()⟩)), (7, (.gh 3 ⟨.dead, ()⟩))], 8⟩
def Gm_Protect_L12 (P : Program) (N d : Nat) (k : Nat) (s_517 : Int) (first_518 : Int) (rights_519 : Int) (t_520 : Int) (t_521 : Int) (s522 : tS) (s523 : List (Option Nat)) (s524 : tM) (s525 : List tE) : Option ((Int) × (List tE) × Unit) := RL4 (EE P) prims sums N d 48 12 [] [(.bx (.pr cI (.pr cI (.pr cI (.pr (.sr 1) (.pr (.sr 2) .un)))))), (.rw 93 1 (.vp 1)), (.mp cI (.vm 2)), (.am 2 cI c_space_entry)] k ⟨[(0, ⟨(.rf 0 []), ()⟩), (1, ⟨cI, s_517⟩), (2, ⟨cI, first_518⟩), (4, ⟨cI, rights_519⟩), (45, ⟨cI, t_520⟩), (46, ⟨cI, t_521⟩)], [(0, (.ob (.bx (.pr cI (.pr cI (.pr cI (.pr (.sr 1) (.pr (.sr 2) .un)))))) s522)), (1, (.ob (.rw 93 1 (.vp 1)) s523)), (2, (.ob (.mp cI (.vm 2)) s524)), (3, (.ob (.am 2 cI c_space_entry) s525)), (4, (.gh 0 ⟨(.rf 0 []), ()⟩)), (5, (.gh 1 ⟨(.sr 1), ()⟩)), (6, (.gh 2 ⟨(.sr 2), ()⟩)), (7, (.gh 3 ⟨.dead, ()⟩))], 8⟩
/-- (*ringhall/ringref2.Memory).Protect -/
def Gr_Protect (P : Program) (N d : Nat) (s_534 : Int) (page_535 : Int) (n_536 : Int) (rights_537 : Int) (s538 : S_ringref2_Memory) : Option ((Int) × (S_ringref2_Memory) × Unit) := R4 (EE P) prims sums N d 49 [⟨(.rf 0 []), ()⟩, ⟨cI, s_534⟩, ⟨cI, page_535⟩, ⟨cI, n_536⟩, ⟨cI, rights_537⟩] [(.ob (.bx c_ringref2_Memory) s538)]
def Gr_Protect_L5 (P : Program) (N d : Nat) (k : Nat) (s_540 : Int) (page_541 : Int) (n_542 : Int) (rights_543 : Int) (t_544 : Int) (t_545 : Int) (s546 : S_ringref2_Memory) : Option ((Int) × (S_ringref2_Memory) × Unit) := RL4 (EE P) prims sums N d 49 5 [] [(.bx c_ringref2_Memory)] k ⟨[(0, ⟨(.rf 0 []), ()⟩), (1, ⟨cI, s_540⟩), (2, ⟨cI, page_541⟩), (3, ⟨cI, n_542⟩), (4, ⟨cI, rights_543⟩), (23, ⟨cI, t_544⟩), (24, ⟨cI, t_545⟩)], [(0, (.ob (.bx c_ringref2_Memory) s546)), (1, (.gh 0 ⟨(.rf 0 []), ()⟩))], 2⟩
def Gr_Protect_L11 (P : Program) (N d : Nat) (k : Nat) (s_550 : Int) (page_551 : Int) (rights_552 : Int) (t_553 : Int) (t_554 : Int) (s555 : S_ringref2_Memory) : Option ((Int) × (S_ringref2_Memory) × Unit) := RL4 (EE P) prims sums N d 49 11 [] [(.bx c_ringref2_Memory)] k ⟨[(0, ⟨(.rf 0 []), ()⟩), (1, ⟨cI, s_550⟩), (2, ⟨cI, page_551⟩), (4, ⟨cI, rights_552⟩), (40, ⟨cI, t_553⟩), (41, ⟨cI, t_554⟩)], [(0, (.ob (.bx c_ringref2_Memory) s555)), (1, (.gh 0 ⟨(.rf 0 []), ()⟩))], 2⟩
/-- (*ringhall/space.Memory).Put -/
def Gm_Put (P : Program) (N d : Nat) (s_560 : Int) (at_561 : Int) (rights_562 : Int) (data_563 : List (Int)) (s564 : tS) (s565 : List (Option Nat)) (s566 : tM) (s567 : tP) (s568 : List tE) : Option ((Int) × (tS) × tP × (List tE) × (List (Option Nat)) × Unit) := R4 (EE P) prims sums N d 8 [⟨(.rf 0 []), ()⟩, ⟨cI, s_560⟩, ⟨cI, at_561⟩, ⟨cI, rights_562⟩, ⟨(.sl (.i .u8)), data_563⟩] [(.ob (.bx (.pr cI (.pr cI (.pr cI (.pr (.sr 1) (.pr (.sr 2) .un)))))) s564), (.ob (.rw 93 1 (.vp 1)) s565), (.ob (.mp cI (.vm 2)) s566), (.ob (.ab 1 c_space_page) s567), (.ob (.am 2 cI c_space_entry) s568)]
def Gm_Put_J7 (P : Program) (N d : Nat) (s_572 : Int) (at_573 : Int) (rights_574 : Int) (data_575 : List (Int)) (is_576 : Bool) (s577 : tS) (s578 : tM) (s579 : tP) (s580 : List tE) (s581 : List (Option Nat)) : Option ((Int) × (tS) × tP × (List tE) × (List (Option Nat)) × Unit) := RJ (EE P) prims sums N d 8 7 [] [(.bx (.pr cI (.pr cI (.pr cI (.pr (.sr 5) (.pr (.sr 2) .un)))))), .no, (.mp cI (.vm 2)), (.ab 1 c_space_page), (.am 2 cI c_space_entry)] ⟨[(0, ⟨(.rf 0 []), ()⟩), (1, ⟨cI, s_572⟩), (2, ⟨cI, at_573⟩), (3, ⟨cI, rights_574⟩), (4, ⟨(.sl (.i .u8)), data_575⟩), (13, ⟨.bl, is_576⟩)], [(0, (.ob (.bx (.pr cI (.pr cI (.pr cI (.pr (.sr 10) (.pr (.sr 2) .un)))))) s577)), (1, .none), (2, (.ob (.mp cI (.vm 2)) s578)), (3, (.ob (.ab 1 c_space_page) s579)), (4, (.ob (.am 2 cI c_space_entry) s580)), (5, (.gh 0 ⟨(.rf 0 []), ()⟩)), (6, (.gh 1 ⟨(.sr 1), ()⟩)), (7, (.gh 2 ⟨(.sr 2), ()⟩)), (8, (.gh 3 ⟨.dead, ()⟩)), (9, (.gh 4 ⟨.dead, ()⟩)), (10, (.ob (.rw 93 1 (.vp 1)) s581))], 11⟩
/-- (*ringhall/space.Memory).may -/
def Gm_may (P : Program) (N d : Nat) (s_598 : Int) (addr_599 : Int) (n_600 : Int) (want_601 : Int) (s602 : tS) (s603 : List (Option Nat)) (s604 : tM) (s605 : List tE) : Option ((Bool) × Unit) := R4 (EE P) prims sums N d 35 [⟨(.rf 0 []), ()⟩, ⟨cI, s_598⟩, ⟨cI, addr_599⟩, ⟨cI, n_600⟩, ⟨cI, want_601⟩] [(.ob (.bx (.pr cI (.pr cI (.pr cI (.pr (.sr 1) (.pr (.sr 2) .un)))))) s602), (.ob (.rw 93 1 (.vp 1)) s603), (.ob (.mp cI (.vm 2)) s604), (.ob (.am 2 cI c_space_entry) s605)]
def Gm_may_L6 (P : Program) (N d : Nat) (k : Nat) (s_607 : Int) (addr_608 : Int) (n_609 : Int) (want_610 : Int) (k_611 : Int) (s612 : tS) (s613 : List (Option Nat)) (s614 : tM) (s615 : List tE) : Option ((Bool) × Unit) := RL4 (EE P) prims sums N d 35 6 [] [(.bx (.pr cI (.pr cI (.pr cI (.pr (.sr 1) (.pr (.sr 2) .un)))))), (.rw 93 1 (.vp 1)), (.mp cI (.vm 2)), (.am 2 cI c_space_entry)] k ⟨[(0, ⟨(.rf 0 []), ()⟩), (1, ⟨cI, s_607⟩), (2, ⟨cI, addr_608⟩), (3, ⟨cI, n_609⟩), (4, ⟨cI, want_610⟩), (11, ⟨cI, k_611⟩)], [(0, (.ob (.bx (.pr cI (.pr cI (.pr cI (.pr (.sr 1) (.pr (.sr 2) .un)))))) s612)), (1, (.ob (.rw 93 1 (.vp 1)) s613)), (2, (.ob (.mp cI (.vm 2)) s614)), (3, (.ob (.am 2 cI c_space_entry) s615)), (4, (.gh 0 ⟨(.rf 0 []), ()⟩)), (5, (.gh 1 ⟨(.sr 1), ()⟩)), (6, (.gh 2 ⟨(.sr 2), ()⟩)), (7, (.gh 3 ⟨.dead, ()⟩))], 8⟩
def Gm_may_J9 (P : Program) (N d : Nat) (k616 : Nat) (s_619 : Int) (addr_620 : Int) (n_621 : Int) (want_622 : Int) (k_623 : Int) (is_624 : Bool) (s625 : tS) (s626 : List (Option Nat)) (s627 : tM) (s628 : List tE) (s629 : S_space_entry) : Option ((Bool) × Unit) := RJ (EE P) prims sums N d 35 9 [k616] [(.bx (.pr cI (.pr cI (.pr cI (.pr (.sr 1) (.pr (.sr 2) .un)))))), (.rw 93 1 (.vp 1)), (.mp cI (.vm 2)), (.am 2 cI c_space_entry)] ⟨[(0, ⟨(.rf 0 []), ()⟩), (1, ⟨cI, s_619⟩), (2, ⟨cI, addr_620⟩), (3, ⟨cI, n_621⟩), (4, ⟨cI, want_622⟩), (11, ⟨cI, k_623⟩), (12, ⟨(.rf 8 []), ()⟩), (13, ⟨.bl, is_624⟩)], [(0, (.ob (.bx (.pr cI (.pr cI (.pr cI (.pr (.sr 1) (.pr (.sr 2) .un)))))) s625)), (1, (.ob (.rw 93 1 (.vp 1)) s626)), (2, (.ob (.mp cI (.vm 2)) s627)), (3, (.ob (.am 2 cI c_space_entry) s628)), (4, (.gh 0 ⟨(.rf 0 []), ()⟩)), (5, (.gh 1 ⟨(.sr 1), ()⟩)), (6, (.gh 2 ⟨(.sr 2), ()⟩)), (7, (.gh 3 ⟨.dead, ()⟩)), (8, (.ob (.bx c_space_entry) s629))], 9⟩
/-- (*ringhall/space.Memory).fetch -/
def Gm_fetch (P : Program) (N d : Nat) (s_632 : Int) (addr_633 : Int) (n_634 : Int) (s635 : tS) (s636 : List (Option Nat)) (s637 : tM) (s638 : tP) (s639 : List tE) : Option ((List (Int)) × (tS) × tP × Unit) := R4 (EE P) prims sums N d 36 [⟨(.rf 0 []), ()⟩, ⟨cI, s_632⟩, ⟨cI, addr_633⟩, ⟨cI, n_634⟩] [(.ob (.bx (.pr cI (.pr cI (.pr cI (.pr (.sr 1) (.pr (.sr 2) .un)))))) s635), (.ob (.rw 93 1 (.vp 1)) s636), (.ob (.mp cI (.vm 2)) s637), (.ob (.ab 1 c_space_page) s638), (.ob (.am 2 cI c_space_entry) s639)]
def Gm_fetch_L3 (P : Program) (N d : Nat) (k : Nat) (s_640 : Int) (addr_641 : Int) (n_642 : Int) (i_643 : Int) (s644 : tS) (s645 : List (Option Nat)) (s646 : tM) (s647 : tP) (s648 : List tE) (s649 : List (Int)) : Option ((List (Int)) × (tS) × tP × Unit) := RL4 (EE P) prims sums N d 36 3 [] [(.bx (.pr cI (.pr cI (.pr cI (.pr (.sr 1) (.pr (.sr 2) .un)))))), (.rw 93 1 (.vp 1)), (.mp cI (.vm 2)), (.ab 1 c_space_page), (.am 2 cI c_space_entry)] k ⟨[(0, ⟨(.rf 0 []), ()⟩), (1, ⟨cI, s_640⟩), (2, ⟨cI, addr_641⟩), (3, ⟨cI, n_642⟩), (9, ⟨(.sr 10), ()⟩), (10, ⟨cI, i_643⟩)], [(0, (.ob (.bx (.pr cI (.pr cI (.pr cI (.pr (.sr 1) (.pr (.sr 2) .un)))))) s644)), (1, (.ob (.rw 93 1 (.vp 1)) s645)), (2, (.ob (.mp cI (.vm 2)) s646)), (3, (.ob (.ab 1 c_space_page) s647)), (4, (.ob (.am 2 cI c_space_entry) s648)), (5, (.gh 0 ⟨(.rf 0 []), ()⟩)), (6, (.gh 1 ⟨(.sr 1), ()⟩)), (7, (.gh 2 ⟨(.sr 2), ()⟩)), (8, (.gh 3 ⟨.dead, ()⟩)), (9, (.gh 4 ⟨.dead, ()⟩)), (10, (.ob (.rw 5 1 (.i .u8)) s649))], 11⟩
def Gm_fetch_J6 (P : Program) (N d : Nat) (k650 : Nat) (s_653 : Int) (addr_654 : Int) (n_655 : Int) (i_656 : Int) (p_657 : Option Nat) (s658 : tS) (s659 : List (Option Nat)) (s660 : tM) (s661 : tP) (s662 : List tE) (s663 : List (Int)) : Option ((List (Int)) × (tS) × tP × Unit) := RJ (EE P) prims sums N d 36 6 [k650] [(.bx (.pr cI (.pr cI (.pr cI (.pr (.sr 1) (.pr (.sr 2) .un)))))), (.rw 93 1 (.vp 1)), (.mp cI (.vm 2)), (.ab 1 c_space_page), (.am 2 cI c_space_entry)] ⟨[(0, ⟨(.rf 0 []), ()⟩), (1, ⟨cI, s_653⟩), (2, ⟨cI, addr_654⟩), (3, ⟨cI, n_655⟩), (9, ⟨(.sr 10), ()⟩), (10, ⟨cI, i_656⟩), (11, ⟨(.vp 1), p_657⟩)], [(0, (.ob (.bx (.pr cI (.pr cI (.pr cI (.pr (.sr 1) (.pr (.sr 2) .un)))))) s658)), (1, (.ob (.rw 93 1 (.vp 1)) s659)), (2, (.ob (.mp cI (.vm 2)) s660)), (3, (.ob (.ab 1 c_space_page) s661)), (4, (.ob (.am 2 cI c_space_entry) s662)), (5, (.gh 0 ⟨(.rf 0 []), ()⟩)), (6, (.gh 1 ⟨(.sr 1), ()⟩)), (7, (.gh 2 ⟨(.sr 2), ()⟩)), (8, (.gh 3 ⟨.dead, ()⟩)), (9, (.gh 4 ⟨.dead, ()⟩)), (10, (.ob (.rw 5 1 (.i .u8)) s663))], 11⟩
/-- (*ringhall/space.Memory).Read -/
def Gm_Read (P : Program) (N d : Nat) (s_589 : Int) (addr_590 : Int) (n_591 : Int) (s592 : tS) (s593 : List (Option Nat)) (s594 : tM) (s595 : tP) (s596 : List tE) : Option (((List (Int) × Int × Unit)) × (tS) × tP × Unit) := R4 (EE P) prims sums N d 16 [⟨(.rf 0 []), ()⟩, ⟨cI, s_589⟩, ⟨cI, addr_590⟩, ⟨cI, n_591⟩] [(.ob (.bx (.pr cI (.pr cI (.pr cI (.pr (.sr 1) (.pr (.sr 2) .un)))))) s592), (.ob (.rw 93 1 (.vp 1)) s593), (.ob (.mp cI (.vm 2)) s594), (.ob (.ab 1 c_space_page) s595), (.ob (.am 2 cI c_space_entry) s596)]
/-- ringhall/ringref2.Has -/
def G_ringref2_Has (P : Program) (N d : Nat) (rights_694 : Int) (want_695 : Int) : Option ((Bool) × Unit) := R4 (EE P) prims sums N d 67 [⟨cI, rights_694⟩, ⟨cI, want_695⟩] []
def G_ringref2_Has_L2 (P : Program) (N d : Nat) (k : Nat) (rights_696 : Int) (want_697 : Int) (t_698 : Ar 3 (Int)) (t_699 : Int) : Option ((Bool) × Unit) := RL4 (EE P) prims sums N d 67 2 [] [] k ⟨[(0, ⟨cI, rights_696⟩), (1, ⟨cI, want_697⟩), (7, ⟨(.ar 3 cI), t_698⟩), (8, ⟨cI, t_699⟩)], [], 0⟩
/-- (*ringhall/ringref2.Memory).May -/
def Gr_May (P : Program) (N d : Nat) (s_679 : Int) (addr_680 : Int) (n_681 : Int) (want_682 : Int) (s683 : S_ringref2_Memory) : Option ((Bool) × Unit) := R4 (EE P) prims sums N d 59 [⟨(.rf 0 []), ()⟩, ⟨cI, s_679⟩, ⟨cI, addr_680⟩, ⟨cI, n_681⟩, ⟨cI, want_682⟩] [(.ob (.bx c_ringref2_Memory) s683)]
def Gr_May_L2 (P : Program) (N d : Nat) (k : Nat) (s_684 : Int) (addr_685 : Int) (want_686 : Int) (t_687 : Int) (t_688 : Int) (s689 : S_ringref2_Memory) : Option ((Bool) × Unit) := RL4 (EE P) prims sums N d 59 2 [] [(.bx c_ringref2_Memory)] k ⟨[(0, ⟨(.rf 0 []), ()⟩), (1, ⟨cI, s_684⟩), (2, ⟨cI, addr_685⟩), (4, ⟨cI, want_686⟩), (13, ⟨cI, t_687⟩), (14, ⟨cI, t_688⟩)], [(0, (.ob (.bx c_ringref2_Memory) s689)), (1, (.gh 0 ⟨(.rf 0 []), ()⟩))], 2⟩
/-- (*ringhall/ringref2.Memory).Read -/
def Gr_Read (P : Program) (N d : Nat) (s_670 : Int) (addr_671 : Int) (n_672 : Int) (want_673 : Int) (s674 : S_ringref2_Memory) : Option (((List (Int) × Int × Unit)) × Unit) := R4 (EE P) prims sums N d 50 [⟨(.rf 0 []), ()⟩, ⟨cI, s_670⟩, ⟨cI, addr_671⟩, ⟨cI, n_672⟩, ⟨cI, want_673⟩] [(.ob (.bx c_ringref2_Memory) s674)]
def Gr_Read_L9 (P : Program) (N d : Nat) (k : Nat) (s_706 : Int) (addr_707 : Int) (t_708 : Int) (t_709 : Int) (s710 : S_ringref2_Memory) (s711 : List (Int)) : Option (((List (Int) × Int × Unit)) × Unit) := RL4 (EE P) prims sums N d 50 9 [] [(.bx c_ringref2_Memory)] k ⟨[(0, ⟨(.rf 0 []), ()⟩), (1, ⟨cI, s_706⟩), (2, ⟨cI, addr_707⟩), (12, ⟨(.sr 2), ()⟩), (33, ⟨cI, t_708⟩), (34, ⟨cI, t_709⟩)], [(0, (.ob (.bx c_ringref2_Memory) s710)), (1, (.gh 0 ⟨(.rf 0 []), ()⟩)), (2, (.ob (.rw 5 1 (.i .u8)) s711))], 3⟩
/-- slices.Equal[[]byte,byte] -/
def G_slices_Equal_f32 (P : Program) (N d : Nat) (s_717 : List (Int)) (s_718 : List (Int)) : Option ((Bool) × Unit) := R4 (EE P) prims sums N d 32 [⟨(.sl (.i .u8)), s_717⟩, ⟨(.sl (.i .u8)), s_718⟩] []
def G_slices_Equal_f32_L4 (P : Program) (N d : Nat) (k : Nat) (s_719 : List (Int)) (s_720 : List (Int)) (t_721 : Int) (t_722 : Int) : Option ((Bool) × Unit) := RL4 (EE P) prims sums N d 32 4 [] [] k ⟨[(0, ⟨(.sl (.i .u8)), s_719⟩), (1, ⟨(.sl (.i .u8)), s_720⟩), (12, ⟨cI, t_721⟩), (13, ⟨cI, t_722⟩)], [], 0⟩
/-- (*ringhall/space.Memory).shared -/
def Gm_shared (P : Program) (N d : Nat) (s_745 : Int) (addr_746 : Int) (n_747 : Int) (s748 : tS) (s749 : List (Option Nat)) (s750 : tM) (s751 : tP) (s752 : List tE) : Option ((Int) × Unit) := R4 (EE P) prims sums N d 64 [⟨(.rf 0 []), ()⟩, ⟨cI, s_745⟩, ⟨cI, addr_746⟩, ⟨cI, n_747⟩] [(.ob (.bx (.pr cI (.pr cI (.pr cI (.pr (.sr 1) (.pr (.sr 2) .un)))))) s748), (.ob (.rw 93 1 (.vp 1)) s749), (.ob (.mp cI (.vm 2)) s750), (.ob (.ab 1 c_space_page) s751), (.ob (.am 2 cI c_space_entry) s752)]
def Gm_shared_L3 (P : Program) (N d : Nat) (k : Nat) (s_753 : Int) (addr_754 : Int) (n_755 : Int) (many_756 : Int) (k_757 : Int) (s758 : tS) (s759 : List (Option Nat)) (s760 : tM) (s761 : tP) (s762 : List tE) : Option ((Int) × Unit) := RL4 (EE P) prims sums N d 64 3 [] [(.bx (.pr cI (.pr cI (.pr cI (.pr (.sr 1) (.pr (.sr 2) .un)))))), (.rw 93 1 (.vp 1)), (.mp cI (.vm 2)), (.ab 1 c_space_page), (.am 2 cI c_space_entry)] k ⟨[(0, ⟨(.rf 0 []), ()⟩), (1, ⟨cI, s_753⟩), (2, ⟨cI, addr_754⟩), (3, ⟨cI, n_755⟩), (9, ⟨cI, many_756⟩), (10, ⟨cI, k_757⟩)], [(0, (.ob (.bx (.pr cI (.pr cI (.pr cI (.pr (.sr 1) (.pr (.sr 2) .un)))))) s758)), (1, (.ob (.rw 93 1 (.vp 1)) s759)), (2, (.ob (.mp cI (.vm 2)) s760)), (3, (.ob (.ab 1 c_space_page) s761)), (4, (.ob (.am 2 cI c_space_entry) s762)), (5, (.gh 0 ⟨(.rf 0 []), ()⟩)), (6, (.gh 1 ⟨(.sr 1), ()⟩)), (7, (.gh 2 ⟨(.sr 2), ()⟩)), (8, (.gh 3 ⟨.dead, ()⟩)), (9, (.gh 4 ⟨.dead, ()⟩))], 10⟩
/-- (*ringhall/space.Memory).lay -/
def Gm_lay (P : Program) (N d : Nat) (s_737 : Int) (addr_738 : Int) (data_739 : List (Int)) (s740 : tS) (s741 : List (Option Nat)) (s742 : tM) (s743 : tP) (s744 : List tE) : Option ((Int) × (tS) × tP × (List tE) × (List (Option Nat)) × Unit) := R4 (EE P) prims sums N d 55 [⟨(.rf 0 []), ()⟩, ⟨cI, s_737⟩, ⟨cI, addr_738⟩, ⟨(.sl (.i .u8)), data_739⟩] [(.ob (.bx (.pr cI (.pr cI (.pr cI (.pr (.sr 1) (.pr (.sr 2) .un)))))) s740), (.ob (.rw 93 1 (.vp 1)) s741), (.ob (.mp cI (.vm 2)) s742), (.ob (.ab 1 c_space_page) s743), (.ob (.am 2 cI c_space_entry) s744)]
def Gm_lay_L4 (P : Program) (N d : Nat) (k : Nat) (s_773 : Int) (addr_774 : Int) (t_775 : List (Int)) (t_776 : Int) (t_777 : Int) (s778 : tS) (s779 : tM) (s780 : tP) (s781 : List tE) (s782 : List (Option Nat)) : Option ((Int) × (tS) × tP × (List tE) × (List (Option Nat)) × Unit) := RL4 (EE P) prims sums N d 55 4 [] [(.bx (.pr cI (.pr cI (.pr cI (.pr (.sr 5) (.pr (.sr 2) .un)))))), .no, (.mp cI (.vm 2)), (.ab 1 c_space_page), (.am 2 cI c_space_entry)] k ⟨[(0, ⟨(.rf 0 []), ()⟩), (1, ⟨cI, s_773⟩), (2, ⟨cI, addr_774⟩), (22, ⟨(.sl (.i .u8)), t_775⟩), (23, ⟨cI, t_776⟩), (24, ⟨cI, t_777⟩)], [(0, (.ob (.bx (.pr cI (.pr cI (.pr cI (.pr (.sr 10) (.pr (.sr 2) .un)))))) s778)), (1, .none), (2, (.ob (.mp cI (.vm 2)) s779)), (3, (.ob (.ab 1 c_space_page) s780)), (4, (.ob (.am 2 cI c_space_entry) s781)), (5, (.gh 0 ⟨(.rf 0 []), ()⟩)), (6, (.gh 1 ⟨(.sr 1), ()⟩)), (7, (.gh 2 ⟨(.sr 2), ()⟩)), (8, (.gh 3 ⟨.dead, ()⟩)), (9, (.gh 4 ⟨.dead, ()⟩)), (10, (.ob (.rw 93 1 (.vp 1)) s782))], 11⟩
def Gm_lay_J8 (P : Program) (N d : Nat) (k783 : Nat) (s_787 : Int) (addr_788 : Int) (i_789 : Int) (b_790 : Int) (k_791 : Int) (t_792 : List (Int)) (t_793 : Int) (t_794 : Int) (s795 : tS) (s796 : tM) (s797 : tP) (s798 : List tE) (s799 : List (Option Nat)) (s800 : S_space_entry) : Option ((Int) × (tS) × tP × (List tE) × (List (Option Nat)) × Unit) := RJ (EE P) prims sums N d 55 8 [k783] [(.bx (.pr cI (.pr cI (.pr cI (.pr (.sr 5) (.pr (.sr 2) .un)))))), .no, (.mp cI (.vm 2)), (.ab 1 c_space_page), (.am 2 cI c_space_entry)] ⟨[(0, ⟨(.rf 0 []), ()⟩), (1, ⟨cI, s_787⟩), (2, ⟨cI, addr_788⟩), (9, ⟨cI, i_789⟩), (10, ⟨(.i .u8), b_790⟩), (11, ⟨cI, k_791⟩), (12, ⟨(.rf 11 []), ()⟩), (22, ⟨(.sl (.i .u8)), t_792⟩), (23, ⟨cI, t_793⟩), (24, ⟨cI, t_794⟩)], [(0, (.ob (.bx (.pr cI (.pr cI (.pr cI (.pr (.sr 10) (.pr (.sr 2) .un)))))) s795)), (1, .none), (2, (.ob (.mp cI (.vm 2)) s796)), (3, (.ob (.ab 1 c_space_page) s797)), (4, (.ob (.am 2 cI c_space_entry) s798)), (5, (.gh 0 ⟨(.rf 0 []), ()⟩)), (6, (.gh 1 ⟨(.sr 1), ()⟩)), (7, (.gh 2 ⟨(.sr 2), ()⟩)), (8, (.gh 3 ⟨.dead, ()⟩)), (9, (.gh 4 ⟨.dead, ()⟩)), (10, (.ob (.rw 93 1 (.vp 1)) s799)), (11, (.ob (.bx c_space_entry) s800))], 12⟩
def Gm_lay_J12 (P : Program) (N d : Nat) (k783 : Nat) (s_812 : Int) (addr_813 : Int) (i_814 : Int) (b_815 : Int) (t_816 : List (Int)) (t_817 : Int) (t_818 : Int) (s819 : tS) (s820 : tM) (s821 : tP) (s822 : List tE) (s823 : List (Option Nat)) (s824 : S_space_entry) : Option ((Int) × (tS) × tP × (List tE) × (List (Option Nat)) × Unit) := RJ (EE P) prims sums N d 55 12 [k783] [(.bx (.pr cI (.pr cI (.pr cI (.pr (.sr 5) (.pr (.sr 2) .un)))))), .no, (.mp cI (.vm 2)), (.ab 1 c_space_page), (.am 2 cI c_space_entry)] ⟨[(0, ⟨(.rf 0 []), ()⟩), (1, ⟨cI, s_812⟩), (2, ⟨cI, addr_813⟩), (9, ⟨cI, i_814⟩), (10, ⟨(.i .u8), b_815⟩), (12, ⟨(.rf 11 []), ()⟩), (22, ⟨(.sl (.i .u8)), t_816⟩), (23, ⟨cI, t_817⟩), (24, ⟨cI, t_818⟩)], [(0, (.ob (.bx (.pr cI (.pr cI (.pr cI (.pr (.sr 10) (.pr (.sr 2) .un)))))) s819)), (1, .none), (2, (.ob (.mp cI (.vm 2)) s820)), (3, (.ob (.ab 1 c_space_page) s821)), (4, (.ob (.am 2 cI c_space_entry) s822)), (5, (.gh 0 ⟨(.rf 0 []), ()⟩)), (6, (.gh 1 ⟨(.sr 1), ()⟩)), (7, (.gh 2 ⟨(.sr 2), ()⟩)), (8, (.gh 3 ⟨.dead, ()⟩)), (9, (.gh 4 ⟨.dead, ()⟩)), (10, (.ob (.rw 93 1 (.vp 1)) s823)), (11, (.ob (.bx c_space_entry) s824))], 12⟩
/-- (*ringhall/space.Memory).Write -/
def Gm_Write (P : Program) (N d : Nat) (s_728 : Int) (addr_729 : Int) (data_730 : List (Int)) (s731 : tS) (s732 : List (Option Nat)) (s733 : tM) (s734 : tP) (s735 : List tE) : Option ((Int) × (tS) × tP × (List tE) × (List (Option Nat)) × Unit) := R4 (EE P) prims sums N d 33 [⟨(.rf 0 []), ()⟩, ⟨cI, s_728⟩, ⟨cI, addr_729⟩, ⟨(.sl (.i .u8)), data_730⟩] [(.ob (.bx (.pr cI (.pr cI (.pr cI (.pr (.sr 1) (.pr (.sr 2) .un)))))) s731), (.ob (.rw 93 1 (.vp 1)) s732), (.ob (.mp cI (.vm 2)) s733), (.ob (.ab 1 c_space_page) s734), (.ob (.am 2 cI c_space_entry) s735)]
/-- (*ringhall/ringref2.Memory).Others -/
def Gr_Others (P : Program) (N d : Nat) (s_846 : Int) (k_847 : Int) (s848 : S_ringref2_Memory) : Option ((Bool) × Unit) := R4 (EE P) prims sums N d 60 [⟨(.rf 0 []), ()⟩, ⟨cI, s_846⟩, ⟨cI, k_847⟩] [(.ob (.bx c_ringref2_Memory) s848)]
def Gr_Others_L3 (P : Program) (N d : Nat) (k : Nat) (s_849 : Int) (k_850 : Int) (n_851 : Int) (t_852 : Int) (s853 : S_ringref2_Memory) : Option ((Bool) × Unit) := RL4 (EE P) prims sums N d 60 3 [] [(.bx c_ringref2_Memory)] k ⟨[(0, ⟨(.rf 0 []), ()⟩), (1, ⟨cI, s_849⟩), (2, ⟨cI, k_850⟩), (7, ⟨cI, n_851⟩), (11, ⟨cI, t_852⟩)], [(0, (.ob (.bx c_ringref2_Memory) s853)), (1, (.gh 0 ⟨(.rf 0 []), ()⟩))], 2⟩
def Gr_Others_L6 (P : Program) (N d : Nat) (k854 : Nat) (k : Nat) (s_856 : Int) (k_857 : Int) (n_858 : Int) (t_859 : Int) (t_860 : Ar 64 (S_ringref2_Cell)) (t_861 : Int) (s862 : S_ringref2_Memory) : Option ((Bool) × Unit) := RL4 (EE P) prims sums N d 60 6 [k854] [(.bx c_ringref2_Memory)] k ⟨[(0, ⟨(.rf 0 []), ()⟩), (1, ⟨cI, s_856⟩), (2, ⟨cI, k_857⟩), (7, ⟨cI, n_858⟩), (11, ⟨cI, t_859⟩), (19, ⟨(.ar 64 c_ringref2_Cell), t_860⟩), (20, ⟨cI, t_861⟩)], [(0, (.ob (.bx c_ringref2_Memory) s862)), (1, (.gh 0 ⟨(.rf 0 []), ()⟩))], 2⟩
/-- (*ringhall/ringref2.Memory).Write -/
def Gr_Write (P : Program) (N d : Nat) (s_831 : Int) (addr_832 : Int) (data_833 : List (Int)) (s834 : S_ringref2_Memory) : Option ((Int) × (S_ringref2_Memory) × Unit) := R4 (EE P) prims sums N d 51 [⟨(.rf 0 []), ()⟩, ⟨cI, s_831⟩, ⟨cI, addr_832⟩, ⟨(.sl (.i .u8)), data_833⟩] [(.ob (.bx c_ringref2_Memory) s834)]
def Gr_Write_L9 (P : Program) (N d : Nat) (k : Nat) (s_837 : Int) (addr_838 : Int) (t_839 : List (Int)) (t_840 : Int) (t_841 : Int) (s842 : S_ringref2_Memory) (s843 : S_ringref2_Memory) : Option ((Int) × (S_ringref2_Memory) × Unit) := RL4 (EE P) prims sums N d 51 9 [] [(.bx c_ringref2_Memory)] k ⟨[(0, ⟨(.rf 0 []), ()⟩), (1, ⟨cI, s_837⟩), (2, ⟨cI, addr_838⟩), (9, ⟨(.rf 2 []), ()⟩), (30, ⟨(.sl (.i .u8)), t_839⟩), (31, ⟨cI, t_840⟩), (32, ⟨cI, t_841⟩)], [(0, (.ob (.bx c_ringref2_Memory) s842)), (1, (.gh 0 ⟨(.rf 0 []), ()⟩)), (2, (.ob (.bx c_ringref2_Memory) s843))], 3⟩
/-- (*ringhall/space.Memory).Load -/
def Gm_Load (P : Program) (N d : Nat) (s_886 : Int) (addr_887 : Int) (want_888 : Int) (s889 : tS) (s890 : List (Option Nat)) (s891 : tM) (s892 : tP) (s893 : List tE) : Option (((Int × Int × Unit)) × (tS) × tP × Unit) := R4 (EE P) prims sums N d 28 [⟨(.rf 0 []), ()⟩, ⟨cI, s_886⟩, ⟨(.i .u32), addr_887⟩, ⟨cI, want_888⟩] [(.ob (.bx (.pr cI (.pr cI (.pr cI (.pr (.sr 1) (.pr (.sr 2) .un)))))) s889), (.ob (.rw 93 1 (.vp 1)) s890), (.ob (.mp cI (.vm 2)) s891), (.ob (.ab 1 c_space_page) s892), (.ob (.am 2 cI c_space_entry) s893)]
/-- (*ringhall/space.Memory).Store -/
def Gm_Store (P : Program) (N d : Nat) (s_903 : Int) (addr_904 : Int) (b_905 : Int) (s906 : tS) (s907 : List (Option Nat)) (s908 : tM) (s909 : tP) (s910 : List tE) : Option ((Int) × (tS) × tP × (List tE) × (List (Option Nat)) × Unit) := R4 (EE P) prims sums N d 61 [⟨(.rf 0 []), ()⟩, ⟨cI, s_903⟩, ⟨(.i .u32), addr_904⟩, ⟨(.i .u8), b_905⟩] [(.ob (.bx (.pr cI (.pr cI (.pr cI (.pr (.sr 1) (.pr (.sr 2) .un)))))) s906), (.ob (.rw 93 1 (.vp 1)) s907), (.ob (.mp cI (.vm 2)) s908), (.ob (.ab 1 c_space_page) s909), (.ob (.am 2 cI c_space_entry) s910)]
/-- ringhall/ringlaw2.askByte -/
def G_ringlaw2_askByte (P : Program) (N d : Nat) (q_879 : S_ringlaw2_Ask) (s880 : tS) (s881 : List (Option Nat)) (s882 : tM) (s883 : S_ringref2_Memory) (s884 : tP) (s885 : List tE) : Option ((Bool) × (tS) × (S_ringref2_Memory) × tP × (List tE) × (List (Option Nat)) × Unit) := R4 (EE P) prims sums N d 52 [⟨(.rf 0 []), ()⟩, ⟨(.rf 3 []), ()⟩, ⟨c_ringlaw2_Ask, q_879⟩] [(.ob (.bx (.pr cI (.pr cI (.pr cI (.pr (.sr 1) (.pr (.sr 2) .un)))))) s880), (.ob (.rw 93 1 (.vp 1)) s881), (.ob (.mp cI (.vm 2)) s882), (.ob (.bx c_ringref2_Memory) s883), (.ob (.ab 1 c_space_page) s884), (.ob (.am 2 cI c_space_entry) s885)]
/-- ringhall/ringlaw2.askBoth -/
def G_ringlaw2_askBoth (P : Program) (N d : Nat) (q_175 : S_ringlaw2_Ask) (s176 : tS) (s177 : List (Option Nat)) (s178 : tM) (s179 : S_ringref2_Memory) (s180 : tP) (s181 : List tE) : Option ((Bool) × (tS) × (S_ringref2_Memory) × tP × (List tE) × (List (Option Nat)) × tM × Unit) := R4 (EE P) prims sums N d 21 [⟨(.rf 0 []), ()⟩, ⟨(.rf 3 []), ()⟩, ⟨c_ringlaw2_Ask, q_175⟩] [(.ob (.bx (.pr cI (.pr cI (.pr cI (.pr (.sr 1) (.pr (.sr 2) .un)))))) s176), (.ob (.rw 93 1 (.vp 1)) s177), (.ob (.mp cI (.vm 2)) s178), (.ob (.bx c_ringref2_Memory) s179), (.ob (.ab 1 c_space_page) s180), (.ob (.am 2 cI c_space_entry) s181)]
/-- ringhall/ringlaw2.SpaceTells -/
def G_ringlaw2_SpaceTells (P : Program) (N d : Nat) (frames_1 : Int) (slots_2 : Int) (l_3 : List (S_ringlaw2_Ask)) (s4 : tP) (s5 : List tE) : Option ((Bool) × tP × (List tE) × Unit) := R4 (EE P) prims sums N d 4 [⟨cI, frames_1⟩, ⟨cI, slots_2⟩, ⟨(.sl c_ringlaw2_Ask), l_3⟩] [(.ob (.ab 1 c_space_page) s4), (.ob (.am 2 cI c_space_entry) s5)]
def G_ringlaw2_SpaceTells_J2 (P : Program) (N d : Nat) (frames_12 : Int) (slots_13 : Int) (l_14 : List (S_ringlaw2_Ask)) (e_15 : Int) (s16 : tP) (s17 : List tE) : Option ((Bool) × tP × (List tE) × Unit) := RJ (EE P) prims sums N d 4 2 [] [(.ab 1 c_space_page), (.am 2 cI c_space_entry)] ⟨[(0, ⟨cI, frames_12⟩), (1, ⟨cI, slots_13⟩), (2, ⟨(.sl c_ringlaw2_Ask), l_14⟩), (7, ⟨(.nz .np), ()⟩), (8, ⟨cI, e_15⟩)], [(0, (.ob (.ab 1 c_space_page) s16)), (1, (.ob (.am 2 cI c_space_entry) s17)), (2, (.gh 0 ⟨.dead, ()⟩)), (3, (.gh 1 ⟨.dead, ()⟩))], 4⟩
def G_ringlaw2_SpaceTells_J2_1 (P : Program) (N d : Nat) (frames_25 : Int) (slots_26 : Int) (l_27 : List (S_ringlaw2_Ask)) (e_28 : Int) (s29 : tP) (s30 : List tE) (s31 : tS) (s32 : List (Option Nat)) (s33 : tM) : Option ((Bool) × tP × (List tE) × Unit) := RJ (EE P) prims sums N d 4 2 [] [(.ab 1 c_space_page), (.am 2 cI c_space_entry)] ⟨[(0, ⟨cI, frames_25⟩), (1, ⟨cI, slots_26⟩), (2, ⟨(.sl c_ringlaw2_Ask), l_27⟩), (7, ⟨(.rf 4 []), ()⟩), (8, ⟨cI, e_28⟩)], [(0, (.ob (.ab 1 c_space_page) s29)), (1, (.ob (.am 2 cI c_space_entry) s30)), (2, (.gh 0 ⟨.dead, ()⟩)), (3, (.gh 1 ⟨.dead, ()⟩)), (4, (.ob (.bx (.pr cI (.pr cI (.pr cI (.pr (.sr 5) (.pr (.sr 6) .un)))))) s31)), (5, (.ob (.rw 93 1 (.vp 1)) s32)), (6, (.ob (.mp cI (.vm 2)) s33))], 7⟩
def G_ringlaw2_SpaceTells_L8 (P : Program) (N d : Nat) (k : Nat) (frames_37 : Int) (slots_38 : Int) (t_39 : List (S_ringlaw2_Ask)) (t_40 : Int) (t_41 : Int) (s42 : tP) (s43 : List tE) (s44 : tS) (s45 : List (Option Nat)) (s46 : tM) (s47 : S_ringref2_Memory) : Option ((Bool) × tP × (List tE) × Unit) := RL4 (EE P) prims sums N d 4 8 [] [(.ab 1 c_space_page), (.am 2 cI c_space_entry)] k ⟨[(0, ⟨cI, frames_37⟩), (1, ⟨cI, slots_38⟩), (7, ⟨(.rf 4 []), ()⟩), (9, ⟨(.rf 7 []), ()⟩), (52, ⟨(.sl c_ringlaw2_Ask), t_39⟩), (53, ⟨cI, t_40⟩), (54, ⟨cI, t_41⟩)], [(0, (.ob (.ab 1 c_space_page) s42)), (1, (.ob (.am 2 cI c_space_entry) s43)), (2, (.gh 0 ⟨.dead, ()⟩)), (3, (.gh 1 ⟨.dead, ()⟩)), (4, (.ob (.bx (.pr cI (.pr cI (.pr cI (.pr (.sr 5) (.pr (.sr 6) .un)))))) s44)), (5, (.ob (.rw 93 1 (.vp 1)) s45)), (6, (.ob (.mp cI (.vm 2)) s46)), (7, (.ob (.bx c_ringref2_Memory) s47))], 8⟩
def G_ringlaw2_SpaceTells_J24 (P : Program) (N d : Nat) (k48 : Nat) (frames_126 : Int) (slots_127 : Int) (was_128 : Int) (parts_129 : Int) (t_130 : List (S_ringlaw2_Ask)) (t_131 : Int) (t_132 : Int) (s133 : tP) (s134 : List tE) (s135 : tS) (s136 : List (Option Nat)) (s137 : tM) (s138 : S_ringref2_Memory) (s139 : S_ringlaw2_Ask) : Option ((Bool) × tP × (List tE) × Unit) := RJ (EE P) prims sums N d 4 24 [k48] [(.ab 1 c_space_page), (.am 2 cI c_space_entry)] ⟨[(0, ⟨cI, frames_126⟩), (1, ⟨cI, slots_127⟩), (7, ⟨(.rf 4 []), ()⟩), (9, ⟨(.rf 7 []), ()⟩), (11, ⟨(.rf 8 []), ()⟩), (12, ⟨cI, was_128⟩), (14, ⟨cI, parts_129⟩), (52, ⟨(.sl c_ringlaw2_Ask), t_130⟩), (53, ⟨cI, t_131⟩), (54, ⟨cI, t_132⟩)], [(0, (.ob (.ab 1 c_space_page) s133)), (1, (.ob (.am 2 cI c_space_entry) s134)), (2, (.gh 0 ⟨.dead, ()⟩)), (3, (.gh 1 ⟨.dead, ()⟩)), (4, (.ob (.bx (.pr cI (.pr cI (.pr cI (.pr (.sr 5) (.pr (.sr 6) .un)))))) s135)), (5, (.ob (.rw 93 1 (.vp 1)) s136)), (6, (.ob (.mp cI (.vm 2)) s137)), (7, (.ob (.bx c_ringref2_Memory) s138)), (8, (.ob (.bx c_ringlaw2_Ask) s139))], 9⟩
theorem G_space_New_eq (hP : P = Try.prog) (N d : Nat) (frames_6 : Int) (slots_7 : Int) : G_space_New P N (d + 1) frames_6 slots_7 =
(bif (decide (frames_6 < 4)) then
some true
else
bif (decide (frames_6 > 64)) then
some true
else
bif (decide (slots_7 < 0)) then
some true
else
some (decide (slots_7 > 64))).bind fun b8 =>
bif b8 then
some (Sum.inl (((), 1, ()), ()))
else
some (Sum.inr (((), 0, ()), (frames_6, slots_7, 0, (), (), ()), [], [], ())) := by subst hP; kernel_rfl
theorem G_ringref2_In_eq (hP : P = Try.prog) (N d : Nat) (n_18 : Int) (least_19 : Int) (most_20 : Int) : G_ringref2_In P N (d + 1) n_18 least_19 most_20 =
(bif (decide (n_18 ≥ least_19)) then
some (decide (n_18 ≤ most_20))
else
some false).bind fun b21 =>
some (b21, ()) := by subst hP; kernel_rfl
theorem Gm_here_L3_eq (hP : P = Try.prog) (N d : Nat) (k65 : Nat) (n_58 : Int) (t_59 : Int) (t_60 : Int) (s61 : tS) (s62 : List (Option Nat)) (s63 : tM) (s64 : tP) : Gm_here_L3 P N d (k65 + 1) n_58 t_59 t_60 s61 s62 s63 s64 =
bif (decide (t_60 < t_59)) then
bif inb t_60 s62.length then
(lget s62 t_60.toNat).bind fun y66 =>
y66.bind fun i67 =>
(lget s64 i67).bind fun y68 =>
bif y68.2.2.1 then
Gm_here_L3 P N d k65 (wi .i64 (n_58 + 1)) t_59 (wi .i64 (t_60 + 1)) s61 s62 s63 s64
else
Gm_here_L3 P N d k65 n_58 t_59 (wi .i64 (t_60 + 1)) s61 s62 s63 s64
else none
else
some (n_58, ()) := by subst hP; kernel_rfl
theorem Gm_here_eq (hP : P = Try.prog) (N d : Nat) (s54 : tS) (s55 : List (Option Nat)) (s56 : tM) (s57 : tP) : Gm_here P N (d + 1) s54 s55 s56 s57 =
Gm_here_L3 P N d N 0 (s55.length : Int) 0 s54 s55 s56 s57 := by subst hP; kernel_rfl
theorem Gm_Free_eq (hP : P = Try.prog) (N d : Nat) (s50 : tS) (s51 : List (Option Nat)) (s52 : tM) (s53 : tP) : Gm_Free P N (d + 1) s50 s51 s52 s53 =
(Gm_here P N d s50 s51 s52 s53).bind fun x69 =>
some (((wi .i64 (s50.1 - x69.1)), (wi .i64 (s50.2.1 - (wi .i64 ((s51.length : Int) - x69.1)))), ()), ()) := by subst hP; kernel_rfl
theorem Gr_Live_L3_eq (hP : P = Try.prog) (N d : Nat) (k75 : Nat) (t_72 : Int) (s73 : S_ringref2_Memory) (s74 : List ((Int) × (Bool))) : Gr_Live_L3 P N d (k75 + 1) t_72 s73 s74 =
bif (decide (t_72 < 17)) then
if h76 : inb t_72 17 = true then
Gr_Live_L6 P N d k75 N t_72 (gA s73.2.2.2.1 ⟨t_72.toNat, inb_lt h76⟩) 0 s73 s74
else none
else
some ((s74.length : Int), ()) := by subst hP; kernel_rfl
theorem Gr_Live_L6_eq (hP : P = Try.prog) (N d : Nat) (k75 : Nat) (k82 : Nat) (t_77 : Int) (t_78 : Ar 64 (S_ringref2_Cell)) (t_79 : Int) (s80 : S_ringref2_Memory) (s81 : List ((Int) × (Bool))) : Gr_Live_L6 P N d k75 (k82 + 1) t_77 t_78 t_79 s80 s81 =
bif (decide (t_79 < 64)) then
if h83 : inb t_79 64 = true then
bif (gA t_78 ⟨t_79.toNat, inb_lt h83⟩).1 then
Gr_Live_L6 P N d k75 k82 t_77 t_78 (wi .i64 (t_79 + 1)) s80 (mpI s81 ((gA t_78 ⟨t_79.toNat, inb_lt h83⟩).2.2.2.1) true)
else
Gr_Live_L6 P N d k75 k82 t_77 t_78 (wi .i64 (t_79 + 1)) s80 s81
else none
else
Gr_Live_L3 P N d k75 (wi .i64 (t_77 + 1)) s80 s81 := by subst hP; kernel_rfl
theorem Gr_Live_eq (hP : P = Try.prog) (N d : Nat) (s71 : S_ringref2_Memory) : Gr_Live P N (d + 1) s71 =
Gr_Live_L3 P N d N 0 s71 ([]) := by subst hP; kernel_rfl
theorem Gm_oldest_L3_eq (hP : P = Try.prog) (N d : Nat) (k111 : Nat) (best_104 : Option Nat) (t_105 : Int) (t_106 : Int) (s107 : tS) (s108 : List (Option Nat)) (s109 : tM) (s110 : tP) : Gm_oldest_L3 P N d (k111 + 1) best_104 t_105 t_106 s107 s108 s109 s110 =
bif (decide (t_106 < t_105)) then
bif inb t_106 s108.length then
(lget s108 t_106.toNat).bind fun y112 =>
(y112.bind fun i113 =>
(lget s110 i113).bind fun y114 =>
bif y114.2.2.1 then
bif (best_104 == none) then
some true
else
y112.bind fun i115 =>
(lget s110 i115).bind fun y116 =>
best_104.bind fun i117 =>
(lget s110 i117).bind fun y118 =>
some (decide (y116.2.2.2.1 < y118.2.2.2.1))
else
some false).bind fun b119 =>
bif b119 then
Gm_oldest_L3 P N d k111 y112 t_105 (wi .i64 (t_106 + 1)) s107 s108 s109 s110
else
Gm_oldest_L3 P N d k111 best_104 t_105 (wi .i64 (t_106 + 1)) s107 s108 s109 s110
else none
else
some (best_104, ()) := by subst hP; kernel_rfl
theorem Gm_oldest_eq (hP : P = Try.prog) (N d : Nat) (s100 : tS) (s101 : List (Option Nat)) (s102 : tM) (s103 : tP) : Gm_oldest P N (d + 1) s100 s101 s102 s103 =
Gm_oldest_L3 P N d N none (s101.length : Int) 0 s100 s101 s102 s103 := by subst hP; kernel_rfl
theorem Gm_Reclaim_L2_eq (hP : P = Try.prog) (N d : Nat) (k96 : Nat) (n_90 : Int) (k_91 : Int) (s92 : tS) (s93 : List (Option Nat)) (s94 : tM) (s95 : tP) : Gm_Reclaim_L2 P N d (k96 + 1) n_90 k_91 s92 s93 s94 s95 =
(bif (decide (k_91 < n_90)) then
(Gm_here P N d s92 s93 s94 s95).bind fun x97 =>
bif (decide (x97.1 > 0)) then
(Gm_here P N d s92 s93 s94 s95).bind fun x98 =>
some (decide ((wi .i64 ((s93.length : Int) - x98.1)) < s92.2.1))
else
some false
else
some false).bind fun b99 =>
bif b99 then
(Gm_oldest P N d s92 s93 s94 s95).bind fun x120 =>
x120.1.bind fun i121 =>
(lget s95 i121).bind fun y122 =>
Gm_Reclaim_L2 P N d k96 n_90 (wi .i64 (k_91 + 1)) s92 s93 s94 (lset s95 i121 (u2 y122 false))
else
some (k_91, s95, ()) := by subst hP; kernel_rfl
theorem Gm_Reclaim_eq (hP : P = Try.prog) (N d : Nat) (n_85 : Int) (s86 : tS) (s87 : List (Option Nat)) (s88 : tM) (s89 : tP) : Gm_Reclaim P N (d + 1) n_85 s86 s87 s88 s89 =
Gm_Reclaim_L2 P N d N n_85 0 s86 s87 s88 s89 := by subst hP; kernel_rfl

theorem Gm_Spaces_R3_S_eq (hP : P = Try.prog) (N d : Nat) (p153 : (Int) × (Option Nat)) (s148 : tS) (s149 : List (Option Nat)) (s150 : tM) (s151 : List (Int)) (s152 : tM) : Gm_Spaces_R3_S P N d p153 s148 s149 s150 s151 s152 =
bif lenOk (s151.length + ([p153.1] : List (Int)).length) 8 then
some (Gm_Spaces_R3_X (some p153) s148 s149 s150 (s151 ++ [p153.1]) (mdI s152 p153.1))
else none := by subst hP; kernel_rfl
theorem Gm_Spaces_R3_E_eq (hP : P = Try.prog) (N d : Nat) (s148 : tS) (s149 : List (Option Nat)) (s150 : tM) (s151 : List (Int)) (s152 : tM) : Gm_Spaces_R3_E P N d s148 s149 s150 s151 s152 =
(G_slices_Sort P N d s151).bind fun x155 =>
some (x155.2.1, s148, s150, ()) := by subst hP; kernel_rfl
theorem Gm_Spaces_eq (hP : P = Try.prog) (N d : Nat) (s145 : tS) (s146 : List (Option Nat)) (s147 : tM) : Gm_Spaces P N (d + 1) s145 s146 s147 =
Gm_Spaces_R3 P N d s145 s146 s147 ([]) s147 := by subst hP; kernel_rfl
theorem Gr_Spaces_L3_eq (hP : P = Try.prog) (N d : Nat) (k162 : Nat) (t_158 : Ar 17 (Bool)) (t_159 : Int) (s160 : S_ringref2_Memory) (s161 : List (Int)) : Gr_Spaces_L3 P N d (k162 + 1) t_158 t_159 s160 s161 =
bif (decide (t_159 < 17)) then
if h163 : inb t_159 17 = true then
bif (gA t_158 ⟨t_159.toNat, inb_lt h163⟩) then
bif lenOk (s161.length + ([t_159] : List (Int)).length) 8 then
Gr_Spaces_L3 P N d k162 t_158 (wi .i64 (t_159 + 1)) s160 (s161 ++ [t_159])
else none
else
Gr_Spaces_L3 P N d k162 t_158 (wi .i64 (t_159 + 1)) s160 s161
else none
else
some (s161, ()) := by subst hP; kernel_rfl
theorem Gr_Spaces_eq (hP : P = Try.prog) (N d : Nat) (s157 : S_ringref2_Memory) : Gr_Spaces P N (d + 1) s157 =
Gr_Spaces_L3 P N d N s157.2.2.1 0 s157 ([]) := by subst hP; kernel_rfl
theorem G_slices_Equal_L4_eq (hP : P = Try.prog) (N d : Nat) (k171 : Nat) (s_167 : List (Int)) (s_168 : List (Int)) (t_169 : Int) (t_170 : Int) : G_slices_Equal_L4 P N d (k171 + 1) s_167 s_168 t_169 t_170 =
bif (decide (t_170 < t_169)) then
bif decide (0 ≤ t_170) then
(lget s_167 t_170.toNat).bind fun y172 =>
bif decide (0 ≤ t_170) then
(lget s_168 t_170.toNat).bind fun y173 =>
bif (y172 != y173) then
some (false, ())
else
G_slices_Equal_L4 P N d k171 s_167 s_168 t_169 (wi .i64 (t_170 + 1))
else none
else none
else
some (true, ()) := by subst hP; kernel_rfl
theorem G_slices_Equal_eq (hP : P = Try.prog) (N d : Nat) (s_165 : List (Int)) (s_166 : List (Int)) : G_slices_Equal P N (d + 1) s_165 s_166 =
bif ((s_165.length : Int) != (s_166.length : Int)) then
some (false, ())
else
G_slices_Equal_L4 P N d N s_165 s_166 (s_165.length : Int) 0 := by subst hP; kernel_rfl
theorem Gm_Make_L2_eq (hP : P = Try.prog) (N d : Nat) (k191 : Nat) (s_186 : Int) (s187 : tS) (s188 : List (Option Nat)) (s189 : List tE) (s190 : tM) : Gm_Make_L2 P N d (k191 + 1) s_186 s187 s188 s189 s190 =
bif (decide (s_186 ≤ 16)) then
bif ((mlI s190 s_186).getD none).isNone then
some ((s_186, 0, ()), s187, (s189 ++ [[]]), (mpI s190 s_186 (some s189.length)), ())
else
Gm_Make_L2 P N d k191 (wi .i64 (s_186 + 1)) s187 s188 s189 s190
else
some ((0, 6, ()), s187, s189, s190, ()) := by subst hP; kernel_rfl
theorem Gm_Make_eq (hP : P = Try.prog) (N d : Nat) (s182 : tS) (s183 : List (Option Nat)) (s184 : tM) (s185 : List tE) : Gm_Make P N (d + 1) s182 s183 s184 s185 =
Gm_Make_L2 P N d N 1 s182 s183 s185 s184 := by subst hP; kernel_rfl
theorem Gr_Make_L2_eq (hP : P = Try.prog) (N d : Nat) (k196 : Nat) (s_194 : Int) (s195 : S_ringref2_Memory) : Gr_Make_L2 P N d (k196 + 1) s_194 s195 =
bif (decide (s_194 < 17)) then
if h197 : inb s_194 17 = true then
bif (!(gA s195.2.2.1 ⟨s_194.toNat, inb_lt h197⟩)) then
if h198 : inb s_194 17 = true then
if h199 : inb s_194 17 = true then
some ((s_194, 0, ()), (u3 (u2 s195 (sA s195.2.2.1 ⟨s_194.toNat, inb_lt h198⟩ true)) (sA s195.2.2.2.1 ⟨s_194.toNat, inb_lt h199⟩ (nA 64 (false, 0, (nA 16 0), 0, ())))), ())
else none
else none
else
Gr_Make_L2 P N d k196 (wi .i64 (s_194 + 1)) s195
else none
else
some ((0, 6, ()), s195, ()) := by subst hP; kernel_rfl
theorem Gr_Make_eq (hP : P = Try.prog) (N d : Nat) (s193 : S_ringref2_Memory) : Gr_Make P N (d + 1) s193 =
Gr_Make_L2 P N d N 1 s193 := by subst hP; kernel_rfl
theorem Gm_Fork_R7_S_eq (hP : P = Try.prog) (N d : Nat) (p219 : (Int) × (S_space_entry)) (to_211 : Int) (s212 : tS) (s213 : List (Option Nat)) (s214 : tP) (s215 : Nat) (s216 : List tE) (s217 : tM) (s218 : tE) : Gm_Fork_R7_S P N d p219 to_211 s212 s213 s214 s215 s216 s217 s218 =
p219.2.1.bind fun i220 =>
(lget s214 i220).bind fun y221 =>
p219.2.1.bind fun i222 =>
(lget s214 i222).bind fun y223 =>
oc ((mlI s217 to_211).getD none) none fun i224 => bif Nat.beq i224 s215 then none else (lget s216 i224).bind fun d225 =>
some (Gm_Fork_R7_X (some p219) to_211 s212 s213 (lset s214 i222 (u1 y223 (wi .i64 (y221.2.1 + 1)))) s215 (lset s216 i224 (mpI d225 p219.1 p219.2)) s217 (mdI s218 p219.1)) := by subst hP; kernel_rfl
theorem Gm_Fork_R7_E_eq (hP : P = Try.prog) (N d : Nat) (to_211 : Int) (s212 : tS) (s213 : List (Option Nat)) (s214 : tP) (s215 : Nat) (s216 : List tE) (s217 : tM) (s218 : tE) : Gm_Fork_R7_E P N d to_211 s212 s213 s214 s215 s216 s217 s218 =
some ((to_211, 0, ()), s212, s214, s216, s217, ()) := by subst hP; kernel_rfl
theorem Gm_Fork_eq (hP : P = Try.prog) (N d : Nat) (s_202 : Int) (s203 : tS) (s204 : List (Option Nat)) (s205 : tM) (s206 : tP) (s207 : List tE) : Gm_Fork P N (d + 1) s_202 s203 s204 s205 s206 s207 =
bif ((mlI s205 s_202).getD none).isNone then
some ((0, 4, ()), s203, s206, s207, s205, ())
else
(Gm_Make P N d s203 s204 s205 s207).bind fun x208 =>
bif (x208.1.2.1 != 0) then
some ((0, x208.1.2.1, ()), x208.2.1, s206, x208.2.2.1, x208.2.2.2.1, ())
else
((mlI x208.2.2.2.1 s_202).getD none).bind fun i209 =>
(lget x208.2.2.1 i209).bind fun d210 =>
Gm_Fork_R7 P N d x208.1.1 x208.2.1 s204 s206 i209 x208.2.2.1 x208.2.2.2.1 d210 := by subst hP; kernel_rfl
theorem Gr_There_eq (hP : P = Try.prog) (N d : Nat) (s_229 : Int) (s230 : S_ringref2_Memory) : Gr_There P N (d + 1) s_229 s230 =
((G_ringref2_In P N d s_229 1 16).bind fun x231 =>
bif x231.1 then
if h232 : inb s_229 17 = true then
some (gA s230.2.2.1 ⟨s_229.toNat, inb_lt h232⟩)
else none
else
some false).bind fun b233 =>
some (b233, ()) := by subst hP; kernel_rfl
theorem Gr_Fork_eq (hP : P = Try.prog) (N d : Nat) (s_227 : Int) (s228 : S_ringref2_Memory) : Gr_Fork P N (d + 1) s_227 s228 =
(Gr_There P N d s_227 s228).bind fun x234 =>
bif (!x234.1) then
some ((0, 4, ()), s228, ())
else
(Gr_Make P N d s228).bind fun x235 =>
bif (x235.1.2.1 == 0) then
if h236 : inb s_227 17 = true then
if h237 : inb x235.1.1 17 = true then
some ((x235.1.1, x235.1.2.1, ()), (u3 x235.2.1 (sA x235.2.1.2.2.2.1 ⟨x235.1.1.toNat, inb_lt h237⟩ (gA x235.2.1.2.2.2.1 ⟨s_227.toNat, inb_lt h236⟩))), ())
else none
else none
else
some ((x235.1.1, x235.1.2.1, ()), x235.2.1, ()) := by subst hP; kernel_rfl
theorem Gm_let_1_eq (hP : P = Try.prog) (N d : Nat) (p_281 : Option Nat) (s282 : S_space_entry) (s283 : tP) : Gm_let_1 P N (d + 1) p_281 s282 s283 =
some ((p_281 == s282.1), ()) := by subst hP; kernel_rfl
theorem G_slices_IndexFunc_L2_eq (hP : P = Try.prog) (N d : Nat) (k279 : Nat) (t_274 : Int) (t_275 : Int) (s276 : List (Option Nat)) (s277 : S_space_entry) (s278 : tP) : G_slices_IndexFunc_L2 P N d (k279 + 1) t_274 t_275 s276 s277 s278 =
bif (decide (t_275 < t_274)) then
bif inb t_275 s276.length then
(lget s276 t_275.toNat).bind fun y280 =>
(Gm_let_1 P N d y280 s277 s278).bind fun x284 =>
bif x284.1 then
some (t_275, ())
else
G_slices_IndexFunc_L2 P N d k279 t_274 (wi .i64 (t_275 + 1)) s276 s277 s278
else none
else
some ((-1), ()) := by subst hP; kernel_rfl
theorem G_slices_IndexFunc_eq (hP : P = Try.prog) (N d : Nat) (s271 : List (Option Nat)) (s272 : S_space_entry) (s273 : tP) : G_slices_IndexFunc P N (d + 1) s271 s272 s273 =
G_slices_IndexFunc_L2 P N d N (s271.length : Int) 0 s271 s272 s273 := by subst hP; kernel_rfl
theorem G_slices_DeleteFunc_L5_eq (hP : P = Try.prog) (N d : Nat) (k291 : Nat) (i_286 : Int) (j_287 : Int) (s288 : S_space_entry) (s289 : tP) (s290 : List (Option Nat)) : G_slices_DeleteFunc_L5 P N d (k291 + 1) i_286 j_287 s288 s289 s290 =
bif (decide (j_287 < (s290.length : Int))) then
bif inb j_287 s290.length then
(lget s290 j_287.toNat).bind fun y292 =>
(Gm_let_1 P N d y292 s288 s289).bind fun x293 =>
bif (!x293.1) then
bif inb i_286 s290.length then
(lget s290 i_286.toNat).bind fun y294 =>
G_slices_DeleteFunc_L5 P N d k291 (wi .i64 (i_286 + 1)) (wi .i64 (j_287 + 1)) s288 s289 (lset s290 i_286.toNat y292)
else none
else
G_slices_DeleteFunc_L5 P N d k291 i_286 (wi .i64 (j_287 + 1)) s288 s289 s290
else none
else
bif slOk i_286 (s290.length : Int) s290.length then
bif Nat.ble i_286.toNat ((s290.length : Int).toNat) && Nat.ble ((s290.length : Int).toNat) s290.length then
bif slOk 0 i_286 (clrR s290 i_286.toNat ((s290.length : Int).toNat) none).length then
bif Nat.ble i_286.toNat (clrR s290 i_286.toNat ((s290.length : Int).toNat) none).length then
some ((), (List.take i_286.toNat (clrR s290 i_286.toNat ((s290.length : Int).toNat) none)), ())
else none
else none
else none
else none := by subst hP; kernel_rfl
theorem G_slices_DeleteFunc_eq (hP : P = Try.prog) (N d : Nat) (s268 : List (Option Nat)) (s269 : S_space_entry) (s270 : tP) : G_slices_DeleteFunc P N (d + 1) s268 s269 s270 =
(G_slices_IndexFunc P N d s268 s269 s270).bind fun x285 =>
bif (x285.1 == (-1)) then
some ((), s268, ())
else
G_slices_DeleteFunc_L5 P N d N x285.1 (wi .i64 (x285.1 + 1)) s269 s270 s268 := by subst hP; kernel_rfl
theorem Gm_let_eq (hP : P = Try.prog) (N d : Nat) (e_257 : S_space_entry) (s258 : tS) (s259 : List (Option Nat)) (s260 : tM) (s261 : tP) : Gm_let P N (d + 1) e_257 s258 s259 s260 s261 =
e_257.1.bind fun i262 =>
(lget s261 i262).bind fun y263 =>
e_257.1.bind fun i264 =>
(lget s261 i264).bind fun y265 =>
e_257.1.bind fun i266 =>
(lget (lset s261 i264 (u1 y265 (wi .i64 (y263.2.1 - 1)))) i266).bind fun y267 =>
bif (y267.2.1 == 0) then
(G_slices_DeleteFunc P N d s259 e_257 (lset s261 i264 (u1 y265 (wi .i64 (y263.2.1 - 1))))).bind fun x295 =>
some ((), (s258.1, s258.2.1, s258.2.2.1, (), (), ()), (lset s261 i264 (u1 y265 (wi .i64 (y263.2.1 - 1)))), x295.2.1, ())
else
some ((), s258, (lset s261 i264 (u1 y265 (wi .i64 (y263.2.1 - 1)))), s259, ()) := by subst hP; kernel_rfl
theorem Gm_Drop_R4_S_eq (hP : P = Try.prog) (N d : Nat) (p256 : (Int) × (S_space_entry)) (s_248 : Int) (s249 : tS) (s250 : tP) (s251 : Nat) (s252 : List tE) (s253 : List (Option Nat)) (s254 : tM) (s255 : tE) : Gm_Drop_R4_S P N d p256 s_248 s249 s250 s251 s252 s253 s254 s255 =
(Gm_let P N d p256.2 s249 s253 s254 s250).bind fun x296 =>
some (Gm_Drop_R4_X (some p256) s_248 x296.2.1 x296.2.2.1 s251 s252 x296.2.2.2.1 s254 (mdI s255 p256.1)) := by subst hP; kernel_rfl
theorem Gm_Drop_R4_E_eq (hP : P = Try.prog) (N d : Nat) (s_248 : Int) (s249 : tS) (s250 : tP) (s251 : Nat) (s252 : List tE) (s253 : List (Option Nat)) (s254 : tM) (s255 : tE) : Gm_Drop_R4_E P N d s_248 s249 s250 s251 s252 s253 s254 s255 =
some (0, s249, s250, s252, s253, (mdI s254 s_248), ()) := by subst hP; kernel_rfl
theorem Gm_Drop_eq (hP : P = Try.prog) (N d : Nat) (s_240 : Int) (s241 : tS) (s242 : List (Option Nat)) (s243 : tM) (s244 : tP) (s245 : List tE) : Gm_Drop P N (d + 1) s_240 s241 s242 s243 s244 s245 =
bif ((mlI s243 s_240).getD none).isNone then
some (4, s241, s244, s245, s242, s243, ())
else
((mlI s243 s_240).getD none).bind fun i246 =>
(lget s245 i246).bind fun d247 =>
Gm_Drop_R4 P N d s_240 s241 s244 i246 s245 s242 s243 d247 := by subst hP; kernel_rfl
theorem Gr_Drop_eq (hP : P = Try.prog) (N d : Nat) (s_298 : Int) (s299 : S_ringref2_Memory) : Gr_Drop P N (d + 1) s_298 s299 =
(Gr_There P N d s_298 s299).bind fun x300 =>
bif (!x300.1) then
some (4, s299, ())
else
if h301 : inb s_298 17 = true then
if h302 : inb s_298 17 = true then
some (0, (u3 (u2 s299 (sA s299.2.2.1 ⟨s_298.toNat, inb_lt h301⟩ false)) (sA s299.2.2.2.1 ⟨s_298.toNat, inb_lt h302⟩ (nA 64 (false, 0, (nA 16 0), 0, ())))), ())
else none
else none := by subst hP; kernel_rfl
theorem Gm_span_eq (hP : P = Try.prog) (N d : Nat) (s_313 : Int) (first_314 : Int) (n_315 : Int) (rights_316 : Int) (s317 : tS) (s318 : List (Option Nat)) (s319 : tM) : Gm_span P N (d + 1) s_313 first_314 n_315 rights_316 s317 s318 s319 =
bif ((mlI s319 s_313).getD none).isNone then
some (4, ())
else
(bif (decide (first_314 < 0)) then
some true
else
bif (decide (first_314 ≥ 64)) then
some true
else
bif (decide (n_315 < 1)) then
some true
else
bif (decide (n_315 > (wi .i64 (64 - first_314)))) then
some true
else
bif (decide (rights_316 < 0)) then
some true
else
some (decide (rights_316 > 7))).bind fun b320 =>
bif b320 then
some (1, ())
else
some (0, ()) := by subst hP; kernel_rfl
theorem Gm_room_eq (hP : P = Try.prog) (N d : Nat) (n_348 : Int) (s349 : tS) (s350 : List (Option Nat)) (s351 : tM) : Gm_room P N (d + 1) n_348 s349 s350 s351 =
some ((decide (n_348 ≤ (wi .i64 ((wi .i64 (s349.1 + s349.2.1)) - (s350.length : Int))))), ()) := by subst hP; kernel_rfl
theorem Gm_ask_eq (hP : P = Try.prog) (N d : Nat) (p_369 : Option Nat) (s370 : tS) (s371 : List (Option Nat)) (s372 : tM) (s373 : tP) : Gm_ask P N (d + 1) p_369 s370 s371 s372 s373 =
p_369.bind fun i374 =>
(lget s373 i374).bind fun y375 =>
p_369.bind fun i376 =>
(lget (lset s373 i374 (u3 y375 (wi .i64 (s370.2.2.1 + 1)))) i376).bind fun y377 =>
bif y377.2.2.1 then
some ((), (u2 s370 (wi .i64 (s370.2.2.1 + 1))), (lset s373 i374 (u3 y375 (wi .i64 (s370.2.2.1 + 1)))), ())
else
(Gm_here P N d (u2 s370 (wi .i64 (s370.2.2.1 + 1))) s371 s372 (lset s373 i374 (u3 y375 (wi .i64 (s370.2.2.1 + 1))))).bind fun x378 =>
bif (x378.1 == s370.1) then
(Gm_oldest P N d (u2 s370 (wi .i64 (s370.2.2.1 + 1))) s371 s372 (lset s373 i374 (u3 y375 (wi .i64 (s370.2.2.1 + 1))))).bind fun x379 =>
x379.1.bind fun i380 =>
(lget (lset s373 i374 (u3 y375 (wi .i64 (s370.2.2.1 + 1)))) i380).bind fun y381 =>
p_369.bind fun i382 =>
(lget (lset (lset s373 i374 (u3 y375 (wi .i64 (s370.2.2.1 + 1)))) i380 (u2 y381 false)) i382).bind fun y383 =>
some ((), (u2 s370 (wi .i64 (s370.2.2.1 + 1))), (lset (lset (lset s373 i374 (u3 y375 (wi .i64 (s370.2.2.1 + 1)))) i380 (u2 y381 false)) i382 (u2 y383 true)), ())
else
p_369.bind fun i384 =>
(lget (lset s373 i374 (u3 y375 (wi .i64 (s370.2.2.1 + 1)))) i384).bind fun y385 =>
some ((), (u2 s370 (wi .i64 (s370.2.2.1 + 1))), (lset (lset s373 i374 (u3 y375 (wi .i64 (s370.2.2.1 + 1)))) i384 (u2 y385 true)), ()) := by subst hP; kernel_rfl
theorem Gm_add_eq (hP : P = Try.prog) (N d : Nat) (data_364 : Ar 16 (Int)) (s365 : tS) (s366 : List (Option Nat)) (s367 : tM) (s368 : tP) : Gm_add P N (d + 1) data_364 s365 s366 s367 s368 =
bif lenOk (s366.length + ([(some s368.length)] : List (Option Nat)).length) 8 then
(Gm_ask P N d (some s368.length) (s365.1, s365.2.1, s365.2.2.1, (), (), ()) (s366 ++ [(some s368.length)]) s367 (s368 ++ [(data_364, 1, false, 0, ())])).bind fun x386 =>
some ((some s368.length), x386.2.1, x386.2.2.1, (s366 ++ [(some s368.length)]), ())
else none := by subst hP; kernel_rfl
theorem Gm_Map_L5_eq (hP : P = Try.prog) (N d : Nat) (k333 : Nat) (s_322 : Int) (first_323 : Int) (n_324 : Int) (rights_325 : Int) (t_326 : Int) (t_327 : Int) (s328 : tS) (s329 : tM) (s330 : tP) (s331 : List tE) (s332 : List (Option Nat)) : Gm_Map_L5 P N d (k333 + 1) s_322 first_323 n_324 rights_325 t_326 t_327 s328 s329 s330 s331 s332 =
bif (decide (t_327 < t_326)) then
oc ((mlI s329 s_322).getD none) (
Gm_Map_J8 P N d k333 s_322 first_323 n_324 rights_325 false t_326 t_327 s328 s329 s330 s331 s332) fun i334 => (lget s331 i334).bind fun d335 =>
Gm_Map_J8 P N d k333 s_322 first_323 n_324 rights_325 ((mlI d335 (wi .i64 (first_323 + t_327))).isSome) t_326 t_327 s328 s329 s330 s331 s332
else
(Gm_room P N d n_324 s328 s332 s329).bind fun x352 =>
bif (!x352.1) then
some (6, s328, s330, s331, s332, ())
else
Gm_Map_L14 P N d N s_322 first_323 rights_325 n_324 0 s328 s329 s330 s331 s332 := by subst hP; kernel_rfl
theorem Gm_Map_J8_eq (hP : P = Try.prog) (N d : Nat) (k333 : Nat) (s_336 : Int) (first_337 : Int) (n_338 : Int) (rights_339 : Int) (is_340 : Bool) (t_341 : Int) (t_342 : Int) (s343 : tS) (s344 : tM) (s345 : tP) (s346 : List tE) (s347 : List (Option Nat)) : Gm_Map_J8 P N d k333 s_336 first_337 n_338 rights_339 is_340 t_341 t_342 s343 s344 s345 s346 s347 =
bif is_340 then
some (5, s343, s345, s346, s347, ())
else
Gm_Map_L5 P N d k333 s_336 first_337 n_338 rights_339 t_341 (wi .i64 (t_342 + 1)) s343 s344 s345 s346 s347 := by subst hP; kernel_rfl
theorem Gm_Map_L14_eq (hP : P = Try.prog) (N d : Nat) (k363 : Nat) (s_353 : Int) (first_354 : Int) (rights_355 : Int) (t_356 : Int) (t_357 : Int) (s358 : tS) (s359 : tM) (s360 : tP) (s361 : List tE) (s362 : List (Option Nat)) : Gm_Map_L14 P N d (k363 + 1) s_353 first_354 rights_355 t_356 t_357 s358 s359 s360 s361 s362 =
bif (decide (t_357 < t_356)) then
(Gm_add P N d (nA 16 0) s358 s362 s359 s360).bind fun x387 =>
oc ((mlI s359 s_353).getD none) (
none) fun i388 => (lget s361 i388).bind fun d389 =>
Gm_Map_L14 P N d k363 s_353 first_354 rights_355 t_356 (wi .i64 (t_357 + 1)) x387.2.1 s359 x387.2.2.1 (lset s361 i388 (mpI d389 (wi .i64 (first_354 + t_357)) (x387.1, rights_355, ()))) x387.2.2.2.1
else
some (0, s358, s360, s361, s362, ()) := by subst hP; kernel_rfl
theorem Gm_Map_eq (hP : P = Try.prog) (N d : Nat) (s_304 : Int) (first_305 : Int) (n_306 : Int) (rights_307 : Int) (s308 : tS) (s309 : List (Option Nat)) (s310 : tM) (s311 : tP) (s312 : List tE) : Gm_Map P N (d + 1) s_304 first_305 n_306 rights_307 s308 s309 s310 s311 s312 =
(Gm_span P N d s_304 first_305 n_306 rights_307 s308 s309 s310).bind fun x321 =>
bif (x321.1 != 0) then
some (x321.1, s308, s311, s312, s309, ())
else
Gm_Map_L5 P N d N s_304 first_305 n_306 rights_307 n_306 0 s308 s310 s311 s312 s309 := by subst hP; kernel_rfl
theorem Gr_Span_eq (hP : P = Try.prog) (N d : Nat) (s_397 : Int) (page_398 : Int) (n_399 : Int) (rights_400 : Int) (s401 : S_ringref2_Memory) : Gr_Span P N (d + 1) s_397 page_398 n_399 rights_400 s401 =
(Gr_There P N d s_397 s401).bind fun x402 =>
bif (!x402.1) then
some (4, ())
else
((G_ringref2_In P N d page_398 0 63).bind fun x403 =>
bif (!x403.1) then
some true
else
(G_ringref2_In P N d n_399 1 (wi .i64 (64 - page_398))).bind fun x404 =>
bif (!x404.1) then
some true
else
(G_ringref2_In P N d rights_400 0 7).bind fun x405 =>
some (!x405.1)).bind fun b406 =>
bif b406 then
some (1, ())
else
some (0, ()) := by subst hP; kernel_rfl
theorem Gr_Map_L7_eq (hP : P = Try.prog) (N d : Nat) (k416 : Nat) (s_408 : Int) (page_409 : Int) (n_410 : Int) (rights_411 : Int) (data_412 : List (Int)) (t_413 : Int) (t_414 : Int) (s415 : S_ringref2_Memory) : Gr_Map_L7 P N d (k416 + 1) s_408 page_409 n_410 rights_411 data_412 t_413 t_414 s415 =
bif (decide (t_414 < t_413)) then
if h417 : inb s_408 17 = true then
if h418 : inb (wi .i64 (page_409 + t_414)) 64 = true then
bif (gA (gA s415.2.2.2.1 ⟨s_408.toNat, inb_lt h417⟩) ⟨(wi .i64 (page_409 + t_414)).toNat, inb_lt h418⟩).1 then
some (5, s415, ())
else
Gr_Map_L7 P N d k416 s_408 page_409 n_410 rights_411 data_412 t_413 (wi .i64 (t_414 + 1)) s415
else none
else none
else
(Gr_Live P N d s415).bind fun x419 =>
bif (decide ((wi .i64 (x419.1 + n_410)) > s415.1)) then
some (6, s415, ())
else
Gr_Map_L15 P N d N s_408 page_409 rights_411 data_412 n_410 0 s415 := by subst hP; kernel_rfl
theorem Gr_Map_L15_eq (hP : P = Try.prog) (N d : Nat) (k427 : Nat) (s_420 : Int) (page_421 : Int) (rights_422 : Int) (data_423 : List (Int)) (t_424 : Int) (t_425 : Int) (s426 : S_ringref2_Memory) : Gr_Map_L15 P N d (k427 + 1) s_420 page_421 rights_422 data_423 t_424 t_425 s426 =
bif (decide (t_425 < t_424)) then
bif (t_425 == 0) then
if h428 : (cpyR (nA 16 0).1 0 16 data_423).length = 16 then
if h429 : inb s_420 17 = true then
if h430 : inb (wi .i64 (page_421 + t_425)) 64 = true then
Gr_Map_L15 P N d k427 s_420 page_421 rights_422 data_423 t_424 (wi .i64 (t_425 + 1)) (u3 (u1 s426 (wi .i64 (s426.2.1 + 1))) (sA s426.2.2.2.1 ⟨s_420.toNat, inb_lt h429⟩ (sA (gA s426.2.2.2.1 ⟨s_420.toNat, inb_lt h429⟩) ⟨(wi .i64 (page_421 + t_425)).toNat, inb_lt h430⟩ (true, rights_422, (⟨cpyR (nA 16 0).1 0 16 data_423, h428⟩ : Ar 16 (Int)), (wi .i64 (s426.2.1 + 1)), ()))))
else none
else none
else none
else
if h431 : inb s_420 17 = true then
if h432 : inb (wi .i64 (page_421 + t_425)) 64 = true then
Gr_Map_L15 P N d k427 s_420 page_421 rights_422 data_423 t_424 (wi .i64 (t_425 + 1)) (u3 (u1 s426 (wi .i64 (s426.2.1 + 1))) (sA s426.2.2.2.1 ⟨s_420.toNat, inb_lt h431⟩ (sA (gA s426.2.2.2.1 ⟨s_420.toNat, inb_lt h431⟩) ⟨(wi .i64 (page_421 + t_425)).toNat, inb_lt h432⟩ (true, rights_422, (nA 16 0), (wi .i64 (s426.2.1 + 1)), ()))))
else none
else none
else
some (0, s426, ()) := by subst hP; kernel_rfl
theorem Gr_Map_eq (hP : P = Try.prog) (N d : Nat) (s_391 : Int) (page_392 : Int) (n_393 : Int) (rights_394 : Int) (data_395 : List (Int)) (s396 : S_ringref2_Memory) : Gr_Map P N (d + 1) s_391 page_392 n_393 rights_394 data_395 s396 =
(Gr_Span P N d s_391 page_392 n_393 rights_394 s396).bind fun x407 =>
bif (x407.1 != 0) then
some (x407.1, s396, ())
else
bif (decide ((data_395.length : Int) > 16)) then
some (1, s396, ())
else
Gr_Map_L7 P N d N s_391 page_392 n_393 rights_394 data_395 n_393 0 s396 := by subst hP; kernel_rfl
theorem Gm_Unmap_L5_eq (hP : P = Try.prog) (N d : Nat) (k452 : Nat) (s_443 : Int) (first_444 : Int) (n_445 : Int) (k_446 : Int) (s447 : tS) (s448 : tM) (s449 : tP) (s450 : List tE) (s451 : List (Option Nat)) : Gm_Unmap_L5 P N d (k452 + 1) s_443 first_444 n_445 k_446 s447 s448 s449 s450 s451 =
bif (decide (k_446 < (wi .i64 (first_444 + n_445)))) then
oc ((mlI s448 s_443).getD none) (
Gm_Unmap_J8 P N d k452 s_443 first_444 n_445 k_446 false s447 s448 s449 s450 s451 (none, 0, ())) fun i453 => (lget s450 i453).bind fun d454 =>
Gm_Unmap_J8 P N d k452 s_443 first_444 n_445 k_446 ((mlI d454 k_446).isSome) s447 s448 s449 s450 s451 ((mlI d454 k_446).getD (none, 0, ()))
else
some (0, s447, s449, s450, s451, ()) := by subst hP; kernel_rfl
theorem Gm_Unmap_J8_eq (hP : P = Try.prog) (N d : Nat) (k452 : Nat) (s_455 : Int) (first_456 : Int) (n_457 : Int) (k_458 : Int) (is_459 : Bool) (s460 : tS) (s461 : tM) (s462 : tP) (s463 : List tE) (s464 : List (Option Nat)) (s465 : S_space_entry) : Gm_Unmap_J8 P N d k452 s_455 first_456 n_457 k_458 is_459 s460 s461 s462 s463 s464 s465 =
bif is_459 then
(Gm_let P N d s465 s460 s464 s461 s462).bind fun x466 =>
oc ((mlI s461 s_455).getD none) (
Gm_Unmap_L5 P N d k452 s_455 first_456 n_457 (wi .i64 (k_458 + 1)) x466.2.1 s461 x466.2.2.1 s463 x466.2.2.2.1) fun i467 => (lget s463 i467).bind fun d468 =>
Gm_Unmap_L5 P N d k452 s_455 first_456 n_457 (wi .i64 (k_458 + 1)) x466.2.1 s461 x466.2.2.1 (lset s463 i467 (mdI d468 k_458)) x466.2.2.2.1
else
Gm_Unmap_L5 P N d k452 s_455 first_456 n_457 (wi .i64 (k_458 + 1)) s460 s461 s462 s463 s464 := by subst hP; kernel_rfl
theorem Gm_Unmap_eq (hP : P = Try.prog) (N d : Nat) (s_434 : Int) (first_435 : Int) (n_436 : Int) (s437 : tS) (s438 : List (Option Nat)) (s439 : tM) (s440 : tP) (s441 : List tE) : Gm_Unmap P N (d + 1) s_434 first_435 n_436 s437 s438 s439 s440 s441 =
(Gm_span P N d s_434 first_435 n_436 0 s437 s438 s439).bind fun x442 =>
bif (x442.1 != 0) then
some (x442.1, s437, s440, s441, s438, ())
else
Gm_Unmap_L5 P N d N s_434 first_435 n_436 first_435 s437 s439 s440 s441 s438 := by subst hP; kernel_rfl
theorem Gr_Unmap_L5_eq (hP : P = Try.prog) (N d : Nat) (k480 : Nat) (s_475 : Int) (page_476 : Int) (t_477 : Int) (t_478 : Int) (s479 : S_ringref2_Memory) : Gr_Unmap_L5 P N d (k480 + 1) s_475 page_476 t_477 t_478 s479 =
bif (decide (t_478 < t_477)) then
if h481 : inb s_475 17 = true then
if h482 : inb (wi .i64 (page_476 + t_478)) 64 = true then
Gr_Unmap_L5 P N d k480 s_475 page_476 t_477 (wi .i64 (t_478 + 1)) (u3 s479 (sA s479.2.2.2.1 ⟨s_475.toNat, inb_lt h481⟩ (sA (gA s479.2.2.2.1 ⟨s_475.toNat, inb_lt h481⟩) ⟨(wi .i64 (page_476 + t_478)).toNat, inb_lt h482⟩ (false, 0, (nA 16 0), 0, ()))))
else none
else none
else
some (0, s479, ()) := by subst hP; kernel_rfl
theorem Gr_Unmap_eq (hP : P = Try.prog) (N d : Nat) (s_470 : Int) (page_471 : Int) (n_472 : Int) (s473 : S_ringref2_Memory) : Gr_Unmap P N (d + 1) s_470 page_471 n_472 s473 =
(Gr_Span P N d s_470 page_471 n_472 0 s473).bind fun x474 =>
bif (x474.1 != 0) then
some (x474.1, s473, ())
else
Gr_Unmap_L5 P N d N s_470 page_471 n_472 0 s473 := by subst hP; kernel_rfl
theorem Gm_Protect_L5_eq (hP : P = Try.prog) (N d : Nat) (k503 : Nat) (s_493 : Int) (first_494 : Int) (n_495 : Int) (rights_496 : Int) (t_497 : Int) (t_498 : Int) (s499 : tS) (s500 : List (Option Nat)) (s501 : tM) (s502 : List tE) : Gm_Protect_L5 P N d (k503 + 1) s_493 first_494 n_495 rights_496 t_497 t_498 s499 s500 s501 s502 =
bif (decide (t_498 < t_497)) then
oc ((mlI s501 s_493).getD none) (
Gm_Protect_J8 P N d k503 s_493 first_494 n_495 rights_496 false t_497 t_498 s499 s500 s501 s502) fun i504 => (lget s502 i504).bind fun d505 =>
Gm_Protect_J8 P N d k503 s_493 first_494 n_495 rights_496 ((mlI d505 (wi .i64 (first_494 + t_498))).isSome) t_497 t_498 s499 s500 s501 s502
else
Gm_Protect_L12 P N d N s_493 first_494 rights_496 n_495 0 s499 s500 s501 s502 := by subst hP; kernel_rfl
theorem Gm_Protect_J8_eq (hP : P = Try.prog) (N d : Nat) (k503 : Nat) (s_506 : Int) (first_507 : Int) (n_508 : Int) (rights_509 : Int) (is_510 : Bool) (t_511 : Int) (t_512 : Int) (s513 : tS) (s514 : List (Option Nat)) (s515 : tM) (s516 : List tE) : Gm_Protect_J8 P N d k503 s_506 first_507 n_508 rights_509 is_510 t_511 t_512 s513 s514 s515 s516 =
bif (!is_510) then
some (11, s516, ())
else
Gm_Protect_L5 P N d k503 s_506 first_507 n_508 rights_509 t_511 (wi .i64 (t_512 + 1)) s513 s514 s515 s516 := by subst hP; kernel_rfl
theorem Gm_Protect_L12_eq (hP : P = Try.prog) (N d : Nat) (k526 : Nat) (s_517 : Int) (first_518 : Int) (rights_519 : Int) (t_520 : Int) (t_521 : Int) (s522 : tS) (s523 : List (Option Nat)) (s524 : tM) (s525 : List tE) : Gm_Protect_L12 P N d (k526 + 1) s_517 first_518 rights_519 t_520 t_521 s522 s523 s524 s525 =
bif (decide (t_521 < t_520)) then
oc ((mlI s524 s_517).getD none) (
oc ((mlI s524 s_517).getD none) (
none) fun i529 => (lget s525 i529).bind fun d530 =>
Gm_Protect_L12 P N d k526 s_517 first_518 rights_519 t_520 (wi .i64 (t_521 + 1)) s522 s523 s524 (lset s525 i529 (mpI d530 (wi .i64 (first_518 + t_521)) (none, rights_519, ())))) fun i527 => (lget s525 i527).bind fun d528 =>
oc ((mlI s524 s_517).getD none) (
none) fun i531 => (lget s525 i531).bind fun d532 =>
Gm_Protect_L12 P N d k526 s_517 first_518 rights_519 t_520 (wi .i64 (t_521 + 1)) s522 s523 s524 (lset s525 i531 (mpI d532 (wi .i64 (first_518 + t_521)) (((mlI d528 (wi .i64 (first_518 + t_521))).getD (none, 0, ())).1, rights_519, ())))
else
some (0, s525, ()) := by subst hP; kernel_rfl
theorem Gm_Protect_eq (hP : P = Try.prog) (N d : Nat) (s_484 : Int) (first_485 : Int) (n_486 : Int) (rights_487 : Int) (s488 : tS) (s489 : List (Option Nat)) (s490 : tM) (s491 : List tE) : Gm_Protect P N (d + 1) s_484 first_485 n_486 rights_487 s488 s489 s490 s491 =
(Gm_span P N d s_484 first_485 n_486 rights_487 s488 s489 s490).bind fun x492 =>
bif (x492.1 != 0) then
some (x492.1, s491, ())
else
Gm_Protect_L5 P N d N s_484 first_485 n_486 rights_487 n_486 0 s488 s489 s490 s491 := by subst hP; kernel_rfl
theorem Gr_Protect_L5_eq (hP : P = Try.prog) (N d : Nat) (k547 : Nat) (s_540 : Int) (page_541 : Int) (n_542 : Int) (rights_543 : Int) (t_544 : Int) (t_545 : Int) (s546 : S_ringref2_Memory) : Gr_Protect_L5 P N d (k547 + 1) s_540 page_541 n_542 rights_543 t_544 t_545 s546 =
bif (decide (t_545 < t_544)) then
if h548 : inb s_540 17 = true then
if h549 : inb (wi .i64 (page_541 + t_545)) 64 = true then
bif (!(gA (gA s546.2.2.2.1 ⟨s_540.toNat, inb_lt h548⟩) ⟨(wi .i64 (page_541 + t_545)).toNat, inb_lt h549⟩).1) then
some (11, s546, ())
else
Gr_Protect_L5 P N d k547 s_540 page_541 n_542 rights_543 t_544 (wi .i64 (t_545 + 1)) s546
else none
else none
else
Gr_Protect_L11 P N d N s_540 page_541 rights_543 n_542 0 s546 := by subst hP; kernel_rfl
theorem Gr_Protect_L11_eq (hP : P = Try.prog) (N d : Nat) (k556 : Nat) (s_550 : Int) (page_551 : Int) (rights_552 : Int) (t_553 : Int) (t_554 : Int) (s555 : S_ringref2_Memory) : Gr_Protect_L11 P N d (k556 + 1) s_550 page_551 rights_552 t_553 t_554 s555 =
bif (decide (t_554 < t_553)) then
if h557 : inb s_550 17 = true then
if h558 : inb (wi .i64 (page_551 + t_554)) 64 = true then
Gr_Protect_L11 P N d k556 s_550 page_551 rights_552 t_553 (wi .i64 (t_554 + 1)) (u3 s555 (sA s555.2.2.2.1 ⟨s_550.toNat, inb_lt h557⟩ (sA (gA s555.2.2.2.1 ⟨s_550.toNat, inb_lt h557⟩) ⟨(wi .i64 (page_551 + t_554)).toNat, inb_lt h558⟩ (u1 (gA (gA s555.2.2.2.1 ⟨s_550.toNat, inb_lt h557⟩) ⟨(wi .i64 (page_551 + t_554)).toNat, inb_lt h558⟩) rights_552))))
else none
else none
else
some (0, s555, ()) := by subst hP; kernel_rfl
theorem Gr_Protect_eq (hP : P = Try.prog) (N d : Nat) (s_534 : Int) (page_535 : Int) (n_536 : Int) (rights_537 : Int) (s538 : S_ringref2_Memory) : Gr_Protect P N (d + 1) s_534 page_535 n_536 rights_537 s538 =
(Gr_Span P N d s_534 page_535 n_536 rights_537 s538).bind fun x539 =>
bif (x539.1 != 0) then
some (x539.1, s538, ())
else
Gr_Protect_L5 P N d N s_534 page_535 n_536 rights_537 n_536 0 s538 := by subst hP; kernel_rfl
theorem Gm_Put_J7_eq (hP : P = Try.prog) (N d : Nat) (s_572 : Int) (at_573 : Int) (rights_574 : Int) (data_575 : List (Int)) (is_576 : Bool) (s577 : tS) (s578 : tM) (s579 : tP) (s580 : List tE) (s581 : List (Option Nat)) : Gm_Put_J7 P N d s_572 at_573 rights_574 data_575 is_576 s577 s578 s579 s580 s581 =
bif is_576 then
some (5, s577, s579, s580, s581, ())
else
(Gm_room P N d 1 s577 s581 s578).bind fun x582 =>
bif (!x582.1) then
some (6, s577, s579, s580, s581, ())
else
if h583 : (cpyR (nA 16 0).1 0 16 data_575).length = 16 then
(Gm_add P N d (⟨cpyR (nA 16 0).1 0 16 data_575, h583⟩ : Ar 16 (Int)) s577 s581 s578 s579).bind fun x584 =>
oc ((mlI s578 s_572).getD none) (
none) fun i585 => (lget s580 i585).bind fun d586 =>
some (0, x584.2.1, x584.2.2.1, (lset s580 i585 (mpI d586 at_573 (x584.1, rights_574, ()))), x584.2.2.2.1, ())
else none := by subst hP; kernel_rfl
theorem Gm_Put_eq (hP : P = Try.prog) (N d : Nat) (s_560 : Int) (at_561 : Int) (rights_562 : Int) (data_563 : List (Int)) (s564 : tS) (s565 : List (Option Nat)) (s566 : tM) (s567 : tP) (s568 : List tE) : Gm_Put P N (d + 1) s_560 at_561 rights_562 data_563 s564 s565 s566 s567 s568 =
(Gm_span P N d s_560 at_561 1 rights_562 s564 s565 s566).bind fun x569 =>
bif (x569.1 != 0) then
some (x569.1, s564, s567, s568, s565, ())
else
bif (decide ((data_563.length : Int) > 16)) then
some (1, s564, s567, s568, s565, ())
else
oc ((mlI s566 s_560).getD none) (
Gm_Put_J7 P N d s_560 at_561 rights_562 data_563 false s564 s566 s567 s568 s565) fun i570 => (lget s568 i570).bind fun d571 =>
Gm_Put_J7 P N d s_560 at_561 rights_562 data_563 ((mlI d571 at_561).isSome) s564 s566 s567 s568 s565 := by subst hP; kernel_rfl
theorem Gm_may_L6_eq (hP : P = Try.prog) (N d : Nat) (k616 : Nat) (s_607 : Int) (addr_608 : Int) (n_609 : Int) (want_610 : Int) (k_611 : Int) (s612 : tS) (s613 : List (Option Nat)) (s614 : tM) (s615 : List tE) : Gm_may_L6 P N d (k616 + 1) s_607 addr_608 n_609 want_610 k_611 s612 s613 s614 s615 =
bif (decide (k_611 ≤ (wi .i64 ((wi .i64 ((wi .i64 (addr_608 + n_609)) - 1)).tdiv 16)))) then
oc ((mlI s614 s_607).getD none) (
Gm_may_J9 P N d k616 s_607 addr_608 n_609 want_610 k_611 false s612 s613 s614 s615 (none, 0, ())) fun i617 => (lget s615 i617).bind fun d618 =>
Gm_may_J9 P N d k616 s_607 addr_608 n_609 want_610 k_611 ((mlI d618 k_611).isSome) s612 s613 s614 s615 ((mlI d618 k_611).getD (none, 0, ()))
else
some (true, ()) := by subst hP; kernel_rfl
theorem Gm_may_J9_eq (hP : P = Try.prog) (N d : Nat) (k616 : Nat) (s_619 : Int) (addr_620 : Int) (n_621 : Int) (want_622 : Int) (k_623 : Int) (is_624 : Bool) (s625 : tS) (s626 : List (Option Nat)) (s627 : tM) (s628 : List tE) (s629 : S_space_entry) : Gm_may_J9 P N d k616 s_619 addr_620 n_621 want_622 k_623 is_624 s625 s626 s627 s628 s629 =
(bif (!is_624) then
some true
else
some ((bits .and .i64 s629.2.1 want_622) != want_622)).bind fun b630 =>
bif b630 then
some (false, ())
else
Gm_may_L6 P N d k616 s_619 addr_620 n_621 want_622 (wi .i64 (k_623 + 1)) s625 s626 s627 s628 := by subst hP; kernel_rfl
theorem Gm_may_eq (hP : P = Try.prog) (N d : Nat) (s_598 : Int) (addr_599 : Int) (n_600 : Int) (want_601 : Int) (s602 : tS) (s603 : List (Option Nat)) (s604 : tM) (s605 : List tE) : Gm_may P N (d + 1) s_598 addr_599 n_600 want_601 s602 s603 s604 s605 =
bif (n_600 == 0) then
some (true, ())
else
(bif (decide (addr_599 < 0)) then
some true
else
some (decide (addr_599 > (wi .i64 (1024 - n_600))))).bind fun b606 =>
bif b606 then
some (false, ())
else
Gm_may_L6 P N d N s_598 addr_599 n_600 want_601 (wi .i64 (addr_599.tdiv 16)) s602 s603 s604 s605 := by subst hP; kernel_rfl
theorem Gm_fetch_L3_eq (hP : P = Try.prog) (N d : Nat) (k650 : Nat) (s_640 : Int) (addr_641 : Int) (n_642 : Int) (i_643 : Int) (s644 : tS) (s645 : List (Option Nat)) (s646 : tM) (s647 : tP) (s648 : List tE) (s649 : List (Int)) : Gm_fetch_L3 P N d (k650 + 1) s_640 addr_641 n_642 i_643 s644 s645 s646 s647 s648 s649 =
bif (decide (i_643 < (wi .i64 (addr_641 + n_642)))) then
oc ((mlI s646 s_640).getD none) (
Gm_fetch_J6 P N d k650 s_640 addr_641 n_642 i_643 none s644 s645 s646 s647 s648 s649) fun i651 => (lget s648 i651).bind fun d652 =>
Gm_fetch_J6 P N d k650 s_640 addr_641 n_642 i_643 (((mlI d652 (wi .i64 (i_643.tdiv 16))).getD (none, 0, ())).1) s644 s645 s646 s647 s648 s649
else
some (s649, s644, s647, ()) := by subst hP; kernel_rfl
theorem Gm_fetch_J6_eq (hP : P = Try.prog) (N d : Nat) (k650 : Nat) (s_653 : Int) (addr_654 : Int) (n_655 : Int) (i_656 : Int) (p_657 : Option Nat) (s658 : tS) (s659 : List (Option Nat)) (s660 : tM) (s661 : tP) (s662 : List tE) (s663 : List (Int)) : Gm_fetch_J6 P N d k650 s_653 addr_654 n_655 i_656 p_657 s658 s659 s660 s661 s662 s663 =
(Gm_ask P N d p_657 s658 s659 s660 s661).bind fun x664 =>
p_657.bind fun i665 =>
if h666 : inb (i_656.tmod 16) 16 = true then
(lget x664.2.2.1 i665).bind fun y667 =>
bif lenOk (s663.length + ([(gA y667.1 ⟨(i_656.tmod 16).toNat, inb_lt h666⟩)] : List (Int)).length) 1 then
Gm_fetch_L3 P N d k650 s_653 addr_654 n_655 (wi .i64 (i_656 + 1)) x664.2.1 s659 s660 x664.2.2.1 s662 (s663 ++ [(gA y667.1 ⟨(i_656.tmod 16).toNat, inb_lt h666⟩)])
else none
else none := by subst hP; kernel_rfl
theorem Gm_fetch_eq (hP : P = Try.prog) (N d : Nat) (s_632 : Int) (addr_633 : Int) (n_634 : Int) (s635 : tS) (s636 : List (Option Nat)) (s637 : tM) (s638 : tP) (s639 : List tE) : Gm_fetch P N (d + 1) s_632 addr_633 n_634 s635 s636 s637 s638 s639 =
Gm_fetch_L3 P N d N s_632 addr_633 n_634 addr_633 s635 s636 s637 s638 s639 ([]) := by subst hP; kernel_rfl
theorem Gm_Read_eq (hP : P = Try.prog) (N d : Nat) (s_589 : Int) (addr_590 : Int) (n_591 : Int) (s592 : tS) (s593 : List (Option Nat)) (s594 : tM) (s595 : tP) (s596 : List tE) : Gm_Read P N (d + 1) s_589 addr_590 n_591 s592 s593 s594 s595 s596 =
bif ((mlI s594 s_589).getD none).isNone then
some (([], 4, ()), s592, s595, ())
else
(bif (decide (n_591 < 0)) then
some true
else
some (decide (n_591 > 256))).bind fun b597 =>
bif b597 then
some (([], 1, ()), s592, s595, ())
else
(Gm_may P N d s_589 addr_590 n_591 1 s592 s593 s594 s596).bind fun x631 =>
bif (!x631.1) then
some (([], 11, ()), s592, s595, ())
else
(Gm_fetch P N d s_589 addr_590 n_591 s592 s593 s594 s595 s596).bind fun x668 =>
some ((x668.1, 0, ()), x668.2.1, x668.2.2.1, ()) := by subst hP; kernel_rfl
theorem G_ringref2_Has_L2_eq (hP : P = Try.prog) (N d : Nat) (k700 : Nat) (rights_696 : Int) (want_697 : Int) (t_698 : Ar 3 (Int)) (t_699 : Int) : G_ringref2_Has_L2 P N d (k700 + 1) rights_696 want_697 t_698 t_699 =
bif (decide (t_699 < 3)) then
if h701 : inb t_699 3 = true then
(bif ((gA t_698 ⟨t_699.toNat, inb_lt h701⟩) != 0) then
bif (((wi .i64 (want_697.tdiv (gA t_698 ⟨t_699.toNat, inb_lt h701⟩))).tmod 2) == 1) then
bif ((gA t_698 ⟨t_699.toNat, inb_lt h701⟩) != 0) then
some (((wi .i64 (rights_696.tdiv (gA t_698 ⟨t_699.toNat, inb_lt h701⟩))).tmod 2) == 0)
else none
else
some false
else none).bind fun b702 =>
bif b702 then
some (false, ())
else
G_ringref2_Has_L2 P N d k700 rights_696 want_697 t_698 (wi .i64 (t_699 + 1))
else none
else
some (true, ()) := by subst hP; kernel_rfl
theorem G_ringref2_Has_eq (hP : P = Try.prog) (N d : Nat) (rights_694 : Int) (want_695 : Int) : G_ringref2_Has P N (d + 1) rights_694 want_695 =
G_ringref2_Has_L2 P N d N rights_694 want_695 (sA (sA (sA (nA 3 0) ⟨0, by decide⟩ 1) ⟨1, by decide⟩ 2) ⟨2, by decide⟩ 4) 0 := by subst hP; kernel_rfl
theorem Gr_May_L2_eq (hP : P = Try.prog) (N d : Nat) (k690 : Nat) (s_684 : Int) (addr_685 : Int) (want_686 : Int) (t_687 : Int) (t_688 : Int) (s689 : S_ringref2_Memory) : Gr_May_L2 P N d (k690 + 1) s_684 addr_685 want_686 t_687 t_688 s689 =
bif (decide (t_688 < t_687)) then
(bif (decide (addr_685 < 0)) then
some true
else
some (decide (addr_685 > (wi .i64 (1023 - t_688))))).bind fun b691 =>
bif b691 then
some (false, ())
else
if h692 : inb s_684 17 = true then
if h693 : inb (wi .i64 ((wi .i64 (addr_685 + t_688)).tdiv 16)) 64 = true then
(bif (!(gA (gA s689.2.2.2.1 ⟨s_684.toNat, inb_lt h692⟩) ⟨(wi .i64 ((wi .i64 (addr_685 + t_688)).tdiv 16)).toNat, inb_lt h693⟩).1) then
some true
else
(G_ringref2_Has P N d ((gA (gA s689.2.2.2.1 ⟨s_684.toNat, inb_lt h692⟩) ⟨(wi .i64 ((wi .i64 (addr_685 + t_688)).tdiv 16)).toNat, inb_lt h693⟩).2.1) want_686).bind fun x703 =>
some (!x703.1)).bind fun b704 =>
bif b704 then
some (false, ())
else
Gr_May_L2 P N d k690 s_684 addr_685 want_686 t_687 (wi .i64 (t_688 + 1)) s689
else none
else none
else
some (true, ()) := by subst hP; kernel_rfl
theorem Gr_May_eq (hP : P = Try.prog) (N d : Nat) (s_679 : Int) (addr_680 : Int) (n_681 : Int) (want_682 : Int) (s683 : S_ringref2_Memory) : Gr_May P N (d + 1) s_679 addr_680 n_681 want_682 s683 =
Gr_May_L2 P N d N s_679 addr_680 want_682 n_681 0 s683 := by subst hP; kernel_rfl
theorem Gr_Read_L9_eq (hP : P = Try.prog) (N d : Nat) (k712 : Nat) (s_706 : Int) (addr_707 : Int) (t_708 : Int) (t_709 : Int) (s710 : S_ringref2_Memory) (s711 : List (Int)) : Gr_Read_L9 P N d (k712 + 1) s_706 addr_707 t_708 t_709 s710 s711 =
bif (decide (t_709 < t_708)) then
if h713 : inb s_706 17 = true then
if h714 : inb (wi .i64 ((wi .i64 (addr_707 + t_709)).tdiv 16)) 64 = true then
if h715 : inb ((wi .i64 (addr_707 + t_709)).tmod 16) 16 = true then
bif lenOk (s711.length + ([(gA ((gA (gA s710.2.2.2.1 ⟨s_706.toNat, inb_lt h713⟩) ⟨(wi .i64 ((wi .i64 (addr_707 + t_709)).tdiv 16)).toNat, inb_lt h714⟩).2.2.1) ⟨((wi .i64 (addr_707 + t_709)).tmod 16).toNat, inb_lt h715⟩)] : List (Int)).length) 1 then
Gr_Read_L9 P N d k712 s_706 addr_707 t_708 (wi .i64 (t_709 + 1)) s710 (s711 ++ [(gA ((gA (gA s710.2.2.2.1 ⟨s_706.toNat, inb_lt h713⟩) ⟨(wi .i64 ((wi .i64 (addr_707 + t_709)).tdiv 16)).toNat, inb_lt h714⟩).2.2.1) ⟨((wi .i64 (addr_707 + t_709)).tmod 16).toNat, inb_lt h715⟩)])
else none
else none
else none
else none
else
some ((s711, 0, ()), ()) := by subst hP; kernel_rfl
theorem Gr_Read_eq (hP : P = Try.prog) (N d : Nat) (s_670 : Int) (addr_671 : Int) (n_672 : Int) (want_673 : Int) (s674 : S_ringref2_Memory) : Gr_Read P N (d + 1) s_670 addr_671 n_672 want_673 s674 =
(Gr_There P N d s_670 s674).bind fun x675 =>
bif (!x675.1) then
some (([], 4, ()), ())
else
((G_ringref2_In P N d n_672 0 256).bind fun x676 =>
bif (!x676.1) then
some true
else
(G_ringref2_In P N d want_673 1 7).bind fun x677 =>
some (!x677.1)).bind fun b678 =>
bif b678 then
some (([], 1, ()), ())
else
(Gr_May P N d s_670 addr_671 n_672 want_673 s674).bind fun x705 =>
bif (!x705.1) then
some (([], 11, ()), ())
else
Gr_Read_L9 P N d N s_670 addr_671 n_672 0 s674 ([]) := by subst hP; kernel_rfl
theorem G_slices_Equal_f32_L4_eq (hP : P = Try.prog) (N d : Nat) (k723 : Nat) (s_719 : List (Int)) (s_720 : List (Int)) (t_721 : Int) (t_722 : Int) : G_slices_Equal_f32_L4 P N d (k723 + 1) s_719 s_720 t_721 t_722 =
bif (decide (t_722 < t_721)) then
bif decide (0 ≤ t_722) then
(lget s_719 t_722.toNat).bind fun y724 =>
bif decide (0 ≤ t_722) then
(lget s_720 t_722.toNat).bind fun y725 =>
bif (y724 != y725) then
some (false, ())
else
G_slices_Equal_f32_L4 P N d k723 s_719 s_720 t_721 (wi .i64 (t_722 + 1))
else none
else none
else
some (true, ()) := by subst hP; kernel_rfl
theorem G_slices_Equal_f32_eq (hP : P = Try.prog) (N d : Nat) (s_717 : List (Int)) (s_718 : List (Int)) : G_slices_Equal_f32 P N (d + 1) s_717 s_718 =
bif ((s_717.length : Int) != (s_718.length : Int)) then
some (false, ())
else
G_slices_Equal_f32_L4 P N d N s_717 s_718 (s_717.length : Int) 0 := by subst hP; kernel_rfl
theorem Gm_shared_L3_eq (hP : P = Try.prog) (N d : Nat) (k763 : Nat) (s_753 : Int) (addr_754 : Int) (n_755 : Int) (many_756 : Int) (k_757 : Int) (s758 : tS) (s759 : List (Option Nat)) (s760 : tM) (s761 : tP) (s762 : List tE) : Gm_shared_L3 P N d (k763 + 1) s_753 addr_754 n_755 many_756 k_757 s758 s759 s760 s761 s762 =
(bif (decide (n_755 > 0)) then
some (decide (k_757 ≤ (wi .i64 ((wi .i64 ((wi .i64 (addr_754 + n_755)) - 1)).tdiv 16))))
else
some false).bind fun b764 =>
bif b764 then
oc ((mlI s760 s_753).getD none) (
none.bind fun i767 =>
(lget s761 i767).bind fun y768 =>
bif (decide (y768.2.1 > 1)) then
Gm_shared_L3 P N d k763 s_753 addr_754 n_755 (wi .i64 (many_756 + 1)) (wi .i64 (k_757 + 1)) s758 s759 s760 s761 s762
else
Gm_shared_L3 P N d k763 s_753 addr_754 n_755 many_756 (wi .i64 (k_757 + 1)) s758 s759 s760 s761 s762) fun i765 => (lget s762 i765).bind fun d766 =>
(((mlI d766 k_757).getD (none, 0, ())).1).bind fun i769 =>
(lget s761 i769).bind fun y770 =>
bif (decide (y770.2.1 > 1)) then
Gm_shared_L3 P N d k763 s_753 addr_754 n_755 (wi .i64 (many_756 + 1)) (wi .i64 (k_757 + 1)) s758 s759 s760 s761 s762
else
Gm_shared_L3 P N d k763 s_753 addr_754 n_755 many_756 (wi .i64 (k_757 + 1)) s758 s759 s760 s761 s762
else
some (many_756, ()) := by subst hP; kernel_rfl
theorem Gm_shared_eq (hP : P = Try.prog) (N d : Nat) (s_745 : Int) (addr_746 : Int) (n_747 : Int) (s748 : tS) (s749 : List (Option Nat)) (s750 : tM) (s751 : tP) (s752 : List tE) : Gm_shared P N (d + 1) s_745 addr_746 n_747 s748 s749 s750 s751 s752 =
Gm_shared_L3 P N d N s_745 addr_746 n_747 0 (wi .i64 (addr_746.tdiv 16)) s748 s749 s750 s751 s752 := by subst hP; kernel_rfl
theorem Gm_lay_L4_eq (hP : P = Try.prog) (N d : Nat) (k783 : Nat) (s_773 : Int) (addr_774 : Int) (t_775 : List (Int)) (t_776 : Int) (t_777 : Int) (s778 : tS) (s779 : tM) (s780 : tP) (s781 : List tE) (s782 : List (Option Nat)) : Gm_lay_L4 P N d (k783 + 1) s_773 addr_774 t_775 t_776 t_777 s778 s779 s780 s781 s782 =
bif (decide (t_777 < t_776)) then
bif decide (0 ≤ t_777) then
(lget t_775 t_777.toNat).bind fun y784 =>
oc ((mlI s779 s_773).getD none) (
Gm_lay_J8 P N d k783 s_773 addr_774 t_777 y784 (wi .i64 ((wi .i64 (addr_774 + t_777)).tdiv 16)) t_775 t_776 t_777 s778 s779 s780 s781 s782 (none, 0, ())) fun i785 => (lget s781 i785).bind fun d786 =>
Gm_lay_J8 P N d k783 s_773 addr_774 t_777 y784 (wi .i64 ((wi .i64 (addr_774 + t_777)).tdiv 16)) t_775 t_776 t_777 s778 s779 s780 s781 s782 ((mlI d786 (wi .i64 ((wi .i64 (addr_774 + t_777)).tdiv 16))).getD (none, 0, ()))
else none
else
some (0, s778, s780, s781, s782, ()) := by subst hP; kernel_rfl
theorem Gm_lay_J8_eq (hP : P = Try.prog) (N d : Nat) (k783 : Nat) (s_787 : Int) (addr_788 : Int) (i_789 : Int) (b_790 : Int) (k_791 : Int) (t_792 : List (Int)) (t_793 : Int) (t_794 : Int) (s795 : tS) (s796 : tM) (s797 : tP) (s798 : List tE) (s799 : List (Option Nat)) (s800 : S_space_entry) : Gm_lay_J8 P N d k783 s_787 addr_788 i_789 b_790 k_791 t_792 t_793 t_794 s795 s796 s797 s798 s799 s800 =
s800.1.bind fun i801 =>
(lget s797 i801).bind fun y802 =>
bif (decide (y802.2.1 > 1)) then
s800.1.bind fun i803 =>
(lget s797 i803).bind fun y804 =>
s800.1.bind fun i805 =>
(lget s797 i805).bind fun y806 =>
s800.1.bind fun i807 =>
(lget (lset s797 i805 (u1 y806 (wi .i64 (y804.2.1 - 1)))) i807).bind fun y808 =>
(Gm_add P N d y808.1 s795 s799 s796 (lset s797 i805 (u1 y806 (wi .i64 (y804.2.1 - 1))))).bind fun x809 =>
oc ((mlI s796 s_787).getD none) (
none) fun i810 => (lget s798 i810).bind fun d811 =>
Gm_lay_J12 P N d k783 s_787 addr_788 i_789 b_790 t_792 t_793 t_794 x809.2.1 s796 x809.2.2.1 (lset s798 i810 (mpI d811 k_791 (u0 s800 x809.1))) x809.2.2.2.1 (u0 s800 x809.1)
else
Gm_lay_J12 P N d k783 s_787 addr_788 i_789 b_790 t_792 t_793 t_794 s795 s796 s797 s798 s799 s800 := by subst hP; kernel_rfl
theorem Gm_lay_J12_eq (hP : P = Try.prog) (N d : Nat) (k783 : Nat) (s_812 : Int) (addr_813 : Int) (i_814 : Int) (b_815 : Int) (t_816 : List (Int)) (t_817 : Int) (t_818 : Int) (s819 : tS) (s820 : tM) (s821 : tP) (s822 : List tE) (s823 : List (Option Nat)) (s824 : S_space_entry) : Gm_lay_J12 P N d k783 s_812 addr_813 i_814 b_815 t_816 t_817 t_818 s819 s820 s821 s822 s823 s824 =
(Gm_ask P N d s824.1 s819 s823 s820 s821).bind fun x825 =>
s824.1.bind fun i826 =>
if h827 : inb ((wi .i64 (addr_813 + i_814)).tmod 16) 16 = true then
(lget x825.2.2.1 i826).bind fun y828 =>
Gm_lay_L4 P N d k783 s_812 addr_813 t_816 t_817 (wi .i64 (t_818 + 1)) x825.2.1 s820 (lset x825.2.2.1 i826 (u0 y828 (sA y828.1 ⟨((wi .i64 (addr_813 + i_814)).tmod 16).toNat, inb_lt h827⟩ b_815))) s822 s823
else none := by subst hP; kernel_rfl
theorem Gm_lay_eq (hP : P = Try.prog) (N d : Nat) (s_737 : Int) (addr_738 : Int) (data_739 : List (Int)) (s740 : tS) (s741 : List (Option Nat)) (s742 : tM) (s743 : tP) (s744 : List tE) : Gm_lay P N (d + 1) s_737 addr_738 data_739 s740 s741 s742 s743 s744 =
(Gm_shared P N d s_737 addr_738 (data_739.length : Int) s740 s741 s742 s743 s744).bind fun x771 =>
(Gm_room P N d x771.1 s740 s741 s742).bind fun x772 =>
bif (!x772.1) then
some (6, s740, s743, s744, s741, ())
else
Gm_lay_L4 P N d N s_737 addr_738 data_739 (data_739.length : Int) 0 s740 s742 s743 s744 s741 := by subst hP; kernel_rfl
theorem Gm_Write_eq (hP : P = Try.prog) (N d : Nat) (s_728 : Int) (addr_729 : Int) (data_730 : List (Int)) (s731 : tS) (s732 : List (Option Nat)) (s733 : tM) (s734 : tP) (s735 : List tE) : Gm_Write P N (d + 1) s_728 addr_729 data_730 s731 s732 s733 s734 s735 =
bif ((mlI s733 s_728).getD none).isNone then
some (4, s731, s734, s735, s732, ())
else
bif (decide ((data_730.length : Int) > 256)) then
some (1, s731, s734, s735, s732, ())
else
(Gm_may P N d s_728 addr_729 (data_730.length : Int) 2 s731 s732 s733 s735).bind fun x736 =>
bif (!x736.1) then
some (11, s731, s734, s735, s732, ())
else
(Gm_lay P N d s_728 addr_729 data_730 s731 s732 s733 s734 s735).bind fun x829 =>
some (x829.1, x829.2.1, x829.2.2.1, x829.2.2.2.1, x829.2.2.2.2.1, ()) := by subst hP; kernel_rfl
theorem Gr_Others_L3_eq (hP : P = Try.prog) (N d : Nat) (k854 : Nat) (s_849 : Int) (k_850 : Int) (n_851 : Int) (t_852 : Int) (s853 : S_ringref2_Memory) : Gr_Others_L3 P N d (k854 + 1) s_849 k_850 n_851 t_852 s853 =
bif (decide (t_852 < 17)) then
if h855 : inb t_852 17 = true then
Gr_Others_L6 P N d k854 N s_849 k_850 n_851 t_852 (gA s853.2.2.2.1 ⟨t_852.toNat, inb_lt h855⟩) 0 s853
else none
else
some ((decide (n_851 > 1)), ()) := by subst hP; kernel_rfl
theorem Gr_Others_L6_eq (hP : P = Try.prog) (N d : Nat) (k854 : Nat) (k863 : Nat) (s_856 : Int) (k_857 : Int) (n_858 : Int) (t_859 : Int) (t_860 : Ar 64 (S_ringref2_Cell)) (t_861 : Int) (s862 : S_ringref2_Memory) : Gr_Others_L6 P N d k854 (k863 + 1) s_856 k_857 n_858 t_859 t_860 t_861 s862 =
bif (decide (t_861 < 64)) then
if h864 : inb t_861 64 = true then
(bif (gA t_860 ⟨t_861.toNat, inb_lt h864⟩).1 then
if h865 : inb s_856 17 = true then
if h866 : inb k_857 64 = true then
some ((gA t_860 ⟨t_861.toNat, inb_lt h864⟩).2.2.2.1 == (gA (gA s862.2.2.2.1 ⟨s_856.toNat, inb_lt h865⟩) ⟨k_857.toNat, inb_lt h866⟩).2.2.2.1)
else none
else none
else
some false).bind fun b867 =>
bif b867 then
Gr_Others_L6 P N d k854 k863 s_856 k_857 (wi .i64 (n_858 + 1)) t_859 t_860 (wi .i64 (t_861 + 1)) s862
else
Gr_Others_L6 P N d k854 k863 s_856 k_857 n_858 t_859 t_860 (wi .i64 (t_861 + 1)) s862
else none
else
Gr_Others_L3 P N d k854 s_856 k_857 n_858 (wi .i64 (t_859 + 1)) s862 := by subst hP; kernel_rfl
theorem Gr_Others_eq (hP : P = Try.prog) (N d : Nat) (s_846 : Int) (k_847 : Int) (s848 : S_ringref2_Memory) : Gr_Others P N (d + 1) s_846 k_847 s848 =
Gr_Others_L3 P N d N s_846 k_847 0 0 s848 := by subst hP; kernel_rfl
theorem Gr_Write_L9_eq (hP : P = Try.prog) (N d : Nat) (k844 : Nat) (s_837 : Int) (addr_838 : Int) (t_839 : List (Int)) (t_840 : Int) (t_841 : Int) (s842 : S_ringref2_Memory) (s843 : S_ringref2_Memory) : Gr_Write_L9 P N d (k844 + 1) s_837 addr_838 t_839 t_840 t_841 s842 s843 =
bif (decide (t_841 < t_840)) then
bif decide (0 ≤ t_841) then
(lget t_839 t_841.toNat).bind fun y845 =>
(Gr_Others P N d s_837 (wi .i64 ((wi .i64 (addr_838 + t_841)).tdiv 16)) s842).bind fun x868 =>
bif x868.1 then
if h869 : inb s_837 17 = true then
if h870 : inb (wi .i64 ((wi .i64 (addr_838 + t_841)).tdiv 16)) 64 = true then
if h871 : inb s_837 17 = true then
if h872 : inb (wi .i64 ((wi .i64 (addr_838 + t_841)).tdiv 16)) 64 = true then
if h873 : inb ((wi .i64 (addr_838 + t_841)).tmod 16) 16 = true then
Gr_Write_L9 P N d k844 s_837 addr_838 t_839 t_840 (wi .i64 (t_841 + 1)) (u3 (u1 s842 (wi .i64 (s842.2.1 + 1))) (sA (sA s842.2.2.2.1 ⟨s_837.toNat, inb_lt h869⟩ (sA (gA s842.2.2.2.1 ⟨s_837.toNat, inb_lt h869⟩) ⟨(wi .i64 ((wi .i64 (addr_838 + t_841)).tdiv 16)).toNat, inb_lt h870⟩ (u3 (gA (gA s842.2.2.2.1 ⟨s_837.toNat, inb_lt h869⟩) ⟨(wi .i64 ((wi .i64 (addr_838 + t_841)).tdiv 16)).toNat, inb_lt h870⟩) (wi .i64 (s842.2.1 + 1))))) ⟨s_837.toNat, inb_lt h871⟩ (sA (gA (sA s842.2.2.2.1 ⟨s_837.toNat, inb_lt h869⟩ (sA (gA s842.2.2.2.1 ⟨s_837.toNat, inb_lt h869⟩) ⟨(wi .i64 ((wi .i64 (addr_838 + t_841)).tdiv 16)).toNat, inb_lt h870⟩ (u3 (gA (gA s842.2.2.2.1 ⟨s_837.toNat, inb_lt h869⟩) ⟨(wi .i64 ((wi .i64 (addr_838 + t_841)).tdiv 16)).toNat, inb_lt h870⟩) (wi .i64 (s842.2.1 + 1))))) ⟨s_837.toNat, inb_lt h871⟩) ⟨(wi .i64 ((wi .i64 (addr_838 + t_841)).tdiv 16)).toNat, inb_lt h872⟩ (u2 (gA (gA (sA s842.2.2.2.1 ⟨s_837.toNat, inb_lt h869⟩ (sA (gA s842.2.2.2.1 ⟨s_837.toNat, inb_lt h869⟩) ⟨(wi .i64 ((wi .i64 (addr_838 + t_841)).tdiv 16)).toNat, inb_lt h870⟩ (u3 (gA (gA s842.2.2.2.1 ⟨s_837.toNat, inb_lt h869⟩) ⟨(wi .i64 ((wi .i64 (addr_838 + t_841)).tdiv 16)).toNat, inb_lt h870⟩) (wi .i64 (s842.2.1 + 1))))) ⟨s_837.toNat, inb_lt h871⟩) ⟨(wi .i64 ((wi .i64 (addr_838 + t_841)).tdiv 16)).toNat, inb_lt h872⟩) (sA ((gA (gA (sA s842.2.2.2.1 ⟨s_837.toNat, inb_lt h869⟩ (sA (gA s842.2.2.2.1 ⟨s_837.toNat, inb_lt h869⟩) ⟨(wi .i64 ((wi .i64 (addr_838 + t_841)).tdiv 16)).toNat, inb_lt h870⟩ (u3 (gA (gA s842.2.2.2.1 ⟨s_837.toNat, inb_lt h869⟩) ⟨(wi .i64 ((wi .i64 (addr_838 + t_841)).tdiv 16)).toNat, inb_lt h870⟩) (wi .i64 (s842.2.1 + 1))))) ⟨s_837.toNat, inb_lt h871⟩) ⟨(wi .i64 ((wi .i64 (addr_838 + t_841)).tdiv 16)).toNat, inb_lt h872⟩).2.2.1) ⟨((wi .i64 (addr_838 + t_841)).tmod 16).toNat, inb_lt h873⟩ y845))))) s843
else none
else none
else none
else none
else none
else
if h874 : inb s_837 17 = true then
if h875 : inb (wi .i64 ((wi .i64 (addr_838 + t_841)).tdiv 16)) 64 = true then
if h876 : inb ((wi .i64 (addr_838 + t_841)).tmod 16) 16 = true then
Gr_Write_L9 P N d k844 s_837 addr_838 t_839 t_840 (wi .i64 (t_841 + 1)) (u3 s842 (sA s842.2.2.2.1 ⟨s_837.toNat, inb_lt h874⟩ (sA (gA s842.2.2.2.1 ⟨s_837.toNat, inb_lt h874⟩) ⟨(wi .i64 ((wi .i64 (addr_838 + t_841)).tdiv 16)).toNat, inb_lt h875⟩ (u2 (gA (gA s842.2.2.2.1 ⟨s_837.toNat, inb_lt h874⟩) ⟨(wi .i64 ((wi .i64 (addr_838 + t_841)).tdiv 16)).toNat, inb_lt h875⟩) (sA ((gA (gA s842.2.2.2.1 ⟨s_837.toNat, inb_lt h874⟩) ⟨(wi .i64 ((wi .i64 (addr_838 + t_841)).tdiv 16)).toNat, inb_lt h875⟩).2.2.1) ⟨((wi .i64 (addr_838 + t_841)).tmod 16).toNat, inb_lt h876⟩ y845))))) s843
else none
else none
else none
else none
else
(Gr_Live P N d s842).bind fun x877 =>
bif (decide (x877.1 > s842.1)) then
some (6, s843, ())
else
some (0, s842, ()) := by subst hP; kernel_rfl
theorem Gr_Write_eq (hP : P = Try.prog) (N d : Nat) (s_831 : Int) (addr_832 : Int) (data_833 : List (Int)) (s834 : S_ringref2_Memory) : Gr_Write P N (d + 1) s_831 addr_832 data_833 s834 =
(Gr_There P N d s_831 s834).bind fun x835 =>
bif (!x835.1) then
some (4, s834, ())
else
bif (decide ((data_833.length : Int) > 256)) then
some (1, s834, ())
else
(Gr_May P N d s_831 addr_832 (data_833.length : Int) 2 s834).bind fun x836 =>
bif (!x836.1) then
some (11, s834, ())
else
Gr_Write_L9 P N d N s_831 addr_832 data_833 (data_833.length : Int) 0 s834 s834 := by subst hP; kernel_rfl
theorem Gm_Load_eq (hP : P = Try.prog) (N d : Nat) (s_886 : Int) (addr_887 : Int) (want_888 : Int) (s889 : tS) (s890 : List (Option Nat)) (s891 : tM) (s892 : tP) (s893 : List tE) : Gm_Load P N (d + 1) s_886 addr_887 want_888 s889 s890 s891 s892 s893 =
bif ((mlI s891 s_886).getD none).isNone then
some ((0, 4, ()), s889, s892, ())
else
(bif (decide (want_888 < 1)) then
some true
else
some (decide (want_888 > 7))).bind fun b894 =>
bif b894 then
some ((0, 1, ()), s889, s892, ())
else
(Gm_may P N d s_886 (wi .i64 (addr_887)) 1 want_888 s889 s890 s891 s893).bind fun x895 =>
bif (!x895.1) then
some ((0, 11, ()), s889, s892, ())
else
(Gm_fetch P N d s_886 (wi .i64 (addr_887)) 1 s889 s890 s891 s892 s893).bind fun x896 =>
(lget x896.1 (0 : Int).toNat).bind fun y897 =>
some ((y897, 0, ()), x896.2.1, x896.2.2.1, ()) := by subst hP; kernel_rfl
theorem Gm_Store_eq (hP : P = Try.prog) (N d : Nat) (s_903 : Int) (addr_904 : Int) (b_905 : Int) (s906 : tS) (s907 : List (Option Nat)) (s908 : tM) (s909 : tP) (s910 : List tE) : Gm_Store P N (d + 1) s_903 addr_904 b_905 s906 s907 s908 s909 s910 =
(Gm_Write P N d s_903 (wi .i64 (addr_904)) ([b_905]) s906 s907 s908 s909 s910).bind fun x911 =>
some (x911.1, x911.2.1, x911.2.2.1, x911.2.2.2.1, x911.2.2.2.2.1, ()) := by subst hP; kernel_rfl
theorem G_ringlaw2_askByte_eq (hP : P = Try.prog) (N d : Nat) (q_879 : S_ringlaw2_Ask) (s880 : tS) (s881 : List (Option Nat)) (s882 : tM) (s883 : S_ringref2_Memory) (s884 : tP) (s885 : List tE) : G_ringlaw2_askByte P N (d + 1) q_879 s880 s881 s882 s883 s884 s885 =
bif (q_879.1 == 10) then
(Gm_Load P N d q_879.2.1 (wi .u32 (q_879.2.2.2.2.2.1)) q_879.2.2.2.2.1 s880 s881 s882 s884 s885).bind fun x898 =>
(Gr_Read P N d q_879.2.1 (wi .i64 ((wi .u32 (q_879.2.2.2.2.2.1)))) 1 q_879.2.2.2.2.1 s883).bind fun x899 =>
(bif (x898.1.2.1 == x899.1.2.1) then
bif (x899.1.2.1 == 0) then
(lget x899.1.1 (0 : Int).toNat).bind fun y900 =>
bif (x898.1.1 == y900) then
some true
else
bif (x899.1.2.1 != 0) then
some (x898.1.1 == 0)
else
some false
else
bif (x899.1.2.1 != 0) then
some (x898.1.1 == 0)
else
some false
else
some false).bind fun b901 =>
some (b901, x898.2.1, s883, x898.2.2.1, s885, s881, ())
else
bif (q_879.1 == 11) then
(lget ([(wi .u8 (q_879.2.2.2.1))]) (0 : Int).toNat).bind fun y902 =>
(Gm_Store P N d q_879.2.1 (wi .u32 (q_879.2.2.2.2.2.1)) y902 s880 s881 s882 s884 s885).bind fun x912 =>
(Gr_Write P N d q_879.2.1 (wi .i64 ((wi .u32 (q_879.2.2.2.2.2.1)))) ([(wi .u8 (q_879.2.2.2.1))]) s883).bind fun x913 =>
some ((x912.1 == x913.1), x912.2.1, x913.2.1, x912.2.2.1, x912.2.2.2.1, x912.2.2.2.2.1, ())
else
some (true, s880, s883, s884, s885, s881, ()) := by subst hP; kernel_rfl
theorem G_ringlaw2_askBoth_eq (hP : P = Try.prog) (N d : Nat) (q_175 : S_ringlaw2_Ask) (s176 : tS) (s177 : List (Option Nat)) (s178 : tM) (s179 : S_ringref2_Memory) (s180 : tP) (s181 : List tE) : G_ringlaw2_askBoth P N (d + 1) q_175 s176 s177 s178 s179 s180 s181 =
bif (q_175.1 == 1) then
(Gm_Make P N d s176 s177 s178 s181).bind fun x192 =>
(Gr_Make P N d s179).bind fun x200 =>
(bif (x192.1.1 == x200.1.1) then
some (x192.1.2.1 == x200.1.2.1)
else
some false).bind fun b201 =>
some (b201, x192.2.1, x200.2.1, s180, x192.2.2.1, s177, x192.2.2.2.1, ())
else
bif (q_175.1 == 2) then
(Gm_Fork P N d q_175.2.1 s176 s177 s178 s180 s181).bind fun x226 =>
(Gr_Fork P N d q_175.2.1 s179).bind fun x238 =>
(bif (x226.1.1 == x238.1.1) then
some (x226.1.2.1 == x238.1.2.1)
else
some false).bind fun b239 =>
some (b239, x226.2.1, x238.2.1, x226.2.2.1, x226.2.2.2.1, s177, x226.2.2.2.2.1, ())
else
bif (q_175.1 == 3) then
(Gm_Drop P N d q_175.2.1 s176 s177 s178 s180 s181).bind fun x297 =>
(Gr_Drop P N d q_175.2.1 s179).bind fun x303 =>
some ((x297.1 == x303.1), x297.2.1, x303.2.1, x297.2.2.1, x297.2.2.2.1, x297.2.2.2.2.1, x297.2.2.2.2.2.1, ())
else
bif (q_175.1 == 4) then
(Gm_Map P N d q_175.2.1 q_175.2.2.1 q_175.2.2.2.1 q_175.2.2.2.2.1 s176 s177 s178 s180 s181).bind fun x390 =>
(Gr_Map P N d q_175.2.1 q_175.2.2.1 q_175.2.2.2.1 q_175.2.2.2.2.1 ([]) s179).bind fun x433 =>
some ((x390.1 == x433.1), x390.2.1, x433.2.1, x390.2.2.1, x390.2.2.2.1, x390.2.2.2.2.1, s178, ())
else
bif (q_175.1 == 5) then
(Gm_Unmap P N d q_175.2.1 q_175.2.2.1 q_175.2.2.2.1 s176 s177 s178 s180 s181).bind fun x469 =>
(Gr_Unmap P N d q_175.2.1 q_175.2.2.1 q_175.2.2.2.1 s179).bind fun x483 =>
some ((x469.1 == x483.1), x469.2.1, x483.2.1, x469.2.2.1, x469.2.2.2.1, x469.2.2.2.2.1, s178, ())
else
bif (q_175.1 == 6) then
(Gm_Protect P N d q_175.2.1 q_175.2.2.1 q_175.2.2.2.1 q_175.2.2.2.2.1 s176 s177 s178 s181).bind fun x533 =>
(Gr_Protect P N d q_175.2.1 q_175.2.2.1 q_175.2.2.2.1 q_175.2.2.2.2.1 s179).bind fun x559 =>
some ((x533.1 == x559.1), s176, x559.2.1, s180, x533.2.1, s177, s178, ())
else
bif (q_175.1 == 7) then
(Gm_Put P N d q_175.2.1 q_175.2.2.1 q_175.2.2.2.2.1 q_175.2.2.2.2.2.2.1 s176 s177 s178 s180 s181).bind fun x587 =>
(Gr_Map P N d q_175.2.1 q_175.2.2.1 1 q_175.2.2.2.2.1 q_175.2.2.2.2.2.2.1 s179).bind fun x588 =>
some ((x587.1 == x588.1), x587.2.1, x588.2.1, x587.2.2.1, x587.2.2.2.1, x587.2.2.2.2.1, s178, ())
else
bif (q_175.1 == 8) then
(Gm_Read P N d q_175.2.1 q_175.2.2.2.2.2.1 q_175.2.2.2.1 s176 s177 s178 s180 s181).bind fun x669 =>
(Gr_Read P N d q_175.2.1 q_175.2.2.2.2.2.1 q_175.2.2.2.1 1 s179).bind fun x716 =>
((G_slices_Equal_f32 P N d x669.1.1 x716.1.1).bind fun x726 =>
bif x726.1 then
some (x669.1.2.1 == x716.1.2.1)
else
some false).bind fun b727 =>
some (b727, x669.2.1, s179, x669.2.2.1, s181, s177, s178, ())
else
bif (q_175.1 == 9) then
(Gm_Write P N d q_175.2.1 q_175.2.2.2.2.2.1 q_175.2.2.2.2.2.2.1 s176 s177 s178 s180 s181).bind fun x830 =>
(Gr_Write P N d q_175.2.1 q_175.2.2.2.2.2.1 q_175.2.2.2.2.2.2.1 s179).bind fun x878 =>
some ((x830.1 == x878.1), x830.2.1, x878.2.1, x830.2.2.1, x830.2.2.2.1, x830.2.2.2.2.1, s178, ())
else
(G_ringlaw2_askByte P N d q_175 s176 s177 s178 s179 s180 s181).bind fun x914 =>
some (x914.1, x914.2.1, x914.2.2.1, x914.2.2.2.1, x914.2.2.2.2.1, x914.2.2.2.2.2.1, s178, ()) := by subst hP; kernel_rfl
theorem G_ringlaw2_SpaceTells_J2_eq (hP : P = Try.prog) (N d : Nat) (frames_12 : Int) (slots_13 : Int) (l_14 : List (S_ringlaw2_Ask)) (e_15 : Int) (s16 : tP) (s17 : List tE) : G_ringlaw2_SpaceTells_J2 P N d frames_12 slots_13 l_14 e_15 s16 s17 =
((G_ringref2_In P N d frames_12 4 64).bind fun x22 =>
bif (!x22.1) then
some true
else
(G_ringref2_In P N d slots_13 0 64).bind fun x23 =>
some (!x23.1)).bind fun b24 =>
bif b24 then
some ((e_15 == 1), s16, s17, ())
else
some (false, s16, s17, ()) := by subst hP; kernel_rfl
theorem G_ringlaw2_SpaceTells_J2_1_eq (hP : P = Try.prog) (N d : Nat) (frames_25 : Int) (slots_26 : Int) (l_27 : List (S_ringlaw2_Ask)) (e_28 : Int) (s29 : tP) (s30 : List tE) (s31 : tS) (s32 : List (Option Nat)) (s33 : tM) : G_ringlaw2_SpaceTells_J2_1 P N d frames_25 slots_26 l_27 e_28 s29 s30 s31 s32 s33 =
((G_ringref2_In P N d frames_25 4 64).bind fun x34 =>
bif (!x34.1) then
some true
else
(G_ringref2_In P N d slots_26 0 64).bind fun x35 =>
some (!x35.1)).bind fun b36 =>
bif b36 then
some (false, s29, s30, ())
else
bif (e_28 != 0) then
some (false, s29, s30, ())
else
G_ringlaw2_SpaceTells_L8 P N d N frames_25 slots_26 l_27 (l_27.length : Int) 0 s29 s30 s31 s32 s33 ((wi .i64 (frames_25 + slots_26)), 0, (nA 17 false), (nA 17 (nA 64 (false, 0, (nA 16 0), 0, ()))), ()) := by subst hP; kernel_rfl
theorem G_ringlaw2_SpaceTells_L8_eq (hP : P = Try.prog) (N d : Nat) (k48 : Nat) (frames_37 : Int) (slots_38 : Int) (t_39 : List (S_ringlaw2_Ask)) (t_40 : Int) (t_41 : Int) (s42 : tP) (s43 : List tE) (s44 : tS) (s45 : List (Option Nat)) (s46 : tM) (s47 : S_ringref2_Memory) : G_ringlaw2_SpaceTells_L8 P N d (k48 + 1) frames_37 slots_38 t_39 t_40 t_41 s42 s43 s44 s45 s46 s47 =
bif (decide (t_41 < t_40)) then
bif decide (0 ≤ t_41) then
(lget t_39 t_41.toNat).bind fun y49 =>
bif (decide (t_41 ≥ 60)) then
some (true, s42, s43, ())
else
(Gm_Free P N d s44 s45 s46 s42).bind fun x70 =>
(Gr_Live P N d s47).bind fun x84 =>
bif (y49.1 == 12) then
(Gm_Reclaim P N d y49.2.2.2.1 s44 s45 s46 s42).bind fun x123 =>
bif (x123.1 != (minI (minI (maxI y49.2.2.2.1 0) (wi .i64 (frames_37 - x70.1.1))) x70.1.2.1)) then
some (false, x123.2.1, s43, ())
else
(Gm_Free P N d s44 s45 s46 x123.2.1).bind fun x124 =>
(bif (x124.1.1 != (wi .i64 (x70.1.1 + (minI (minI (maxI y49.2.2.2.1 0) (wi .i64 (frames_37 - x70.1.1))) x70.1.2.1)))) then
some true
else
some (x124.1.2.1 != (wi .i64 (x70.1.2.1 - (minI (minI (maxI y49.2.2.2.1 0) (wi .i64 (frames_37 - x70.1.1))) x70.1.2.1))))).bind fun b125 =>
bif b125 then
some (false, x123.2.1, s43, ())
else
G_ringlaw2_SpaceTells_J24 P N d k48 frames_37 slots_38 (wi .i64 (x70.1.1 + (minI (minI (maxI y49.2.2.2.1 0) (wi .i64 (frames_37 - x70.1.1))) x70.1.2.1))) x84.1 t_39 t_40 t_41 x123.2.1 s43 s44 s45 s46 s47 y49
else
(G_ringlaw2_askBoth P N d y49 s44 s45 s46 s47 s42 s43).bind fun x915 =>
bif (!x915.1) then
some (false, x915.2.2.2.1, x915.2.2.2.2.1, ())
else
G_ringlaw2_SpaceTells_J24 P N d k48 frames_37 slots_38 x70.1.1 x84.1 t_39 t_40 t_41 x915.2.2.2.1 x915.2.2.2.2.1 x915.2.1 x915.2.2.2.2.2.1 x915.2.2.2.2.2.2.1 x915.2.2.1 y49
else none
else
some (true, s42, s43, ()) := by subst hP; kernel_rfl
theorem G_ringlaw2_SpaceTells_J24_eq (hP : P = Try.prog) (N d : Nat) (k48 : Nat) (frames_126 : Int) (slots_127 : Int) (was_128 : Int) (parts_129 : Int) (t_130 : List (S_ringlaw2_Ask)) (t_131 : Int) (t_132 : Int) (s133 : tP) (s134 : List tE) (s135 : tS) (s136 : List (Option Nat)) (s137 : tM) (s138 : S_ringref2_Memory) (s139 : S_ringlaw2_Ask) : G_ringlaw2_SpaceTells_J24 P N d k48 frames_126 slots_127 was_128 parts_129 t_130 t_131 t_132 s133 s134 s135 s136 s137 s138 s139 =
(Gm_Free P N d s135 s136 s137 s133).bind fun x140 =>
(bif (decide (x140.1.1 < 0)) then
some true
else
bif (decide (x140.1.1 > frames_126)) then
some true
else
bif (decide (x140.1.2.1 < 0)) then
some true
else
bif (decide (x140.1.2.1 > slots_127)) then
some true
else
(Gr_Live P N d s138).bind fun x141 =>
some ((wi .i64 (x140.1.1 + x140.1.2.1)) != (wi .i64 ((wi .i64 (frames_126 + slots_127)) - x141.1)))).bind fun b142 =>
bif b142 then
some (false, s133, s134, ())
else
(Gr_Live P N d s138).bind fun x143 =>
(bif (decide ((wi .i64 (x143.1 - parts_129)) ≥ 0)) then
bif (s139.1 != 12) then
some (decide (x140.1.1 > (maxI 1 (wi .i64 (was_128 - (wi .i64 (x143.1 - parts_129)))))))
else
some false
else
some false).bind fun b144 =>
bif b144 then
some (false, s133, s134, ())
else
(Gm_Spaces P N d s135 s136 s137).bind fun x156 =>
(Gr_Spaces P N d s138).bind fun x164 =>
(G_slices_Equal P N d x156.1 x164.1).bind fun x174 =>
bif (!x174.1) then
some (false, s133, s134, ())
else
G_ringlaw2_SpaceTells_L8 P N d k48 frames_126 slots_127 t_130 t_131 (wi .i64 (t_132 + 1)) s133 s134 x156.2.1 s136 x156.2.2.1 s138 := by subst hP; kernel_rfl
theorem G_ringlaw2_SpaceTells_eq (hP : P = Try.prog) (N d : Nat) (frames_1 : Int) (slots_2 : Int) (l_3 : List (S_ringlaw2_Ask)) (s4 : tP) (s5 : List tE) : G_ringlaw2_SpaceTells P N (d + 1) frames_1 slots_2 l_3 s4 s5 =
(G_space_New P N d frames_1 slots_2).bind fun x9 =>
match x9 with
| .inl x10 =>
G_ringlaw2_SpaceTells_J2 P N d frames_1 slots_2 l_3 x10.1.2.1 s4 s5
| .inr x11 =>
(G_ringlaw2_SpaceTells_J2_1 P N d frames_1 slots_2 l_3 x11.1.2.1 s4 s5 x11.2.1 x11.2.2.1 x11.2.2.2.1) := by subst hP; kernel_rfl
end
end Go.Proofs.Ytmjkechkdfobgaa.pv
