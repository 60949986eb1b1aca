/- What the functions compute, as functions over plain data, with their contracts: written by gen.py. -/
import Derived.Test.YtiaebagjcbkkgaaProg
import Derived.Test.YtiaebagjcbkkgaaQr
import Derived.Test.YtiaebagjcbkkgaaShelf
import Derived.Test.YtiaebagjcbkkgaaSh
set_option maxRecDepth 100000
set_option linter.all false
namespace Go.Proofs.Ytiaebagjcbkkgaa.pv
open Go.RowKit
def TT : List TI := [
⟨1, 0, .oth, []⟩,
⟨1, 8, .oth, [.nf]⟩,
⟨1, 8, .int .i64, [.i .i64]⟩,
⟨1, 8, .int .i64, [.i .i64]⟩,
⟨1, 1, .bool, [.b]⟩,
⟨1, 1, .int .u8, [.i .u8]⟩,
⟨1, 1, .int .u8, [.i .u8]⟩,
⟨4, 24, .st [(0, 2), (1, 3), (2, 4), (3, 6)], [.i .i64, .i .i64, .b, .i .u8]⟩,
⟨4, 24, .st [(0, 2), (1, 3), (2, 4), (3, 6)], [.i .i64, .i .i64, .b, .i .u8]⟩,
⟨1, 16, .str, [.s]⟩,
⟨1, 16, .str, [.s]⟩,
⟨1, 16, .str, [.s]⟩,
⟨1, 8, .int .u64, [.i .u64]⟩,
⟨2, 24, .st [(0, 9), (1, 12)], [.s, .i .u64]⟩,
⟨2, 24, .st [(0, 9), (1, 12)], [.s, .i .u64]⟩,
⟨1, 8, .ptr 450, [.np]⟩,
⟨1, 8, .ptr 453, [.np]⟩,
⟨1, 8, .ptr 460, [.np]⟩,
⟨1, 8, .st [(0, 17)], [.np]⟩,
⟨1, 8, .st [(0, 17)], [.np]⟩,
⟨1, 16, .oth, [.ni]⟩,
⟨1, 4, .int .i32, [.i .i32]⟩,
⟨1, 24, .sl 37, [.sl]⟩,
⟨1, 24, .sl 27, [.sl]⟩,
⟨1, 24, .sl 3, [.sl]⟩,
⟨1, 8, .oth, [.nf]⟩,
⟨1, 24, .sl 28, [.sl]⟩,
⟨1, 24, .sl 30, [.sl]⟩,
⟨1, 24, .sl 31, [.sl]⟩,
⟨3, 24, .st [(0, 3), (1, 3), (2, 3)], [.i .i64, .i .i64, .i .i64]⟩,
⟨3, 24, .st [(0, 3), (1, 3), (2, 3)], [.i .i64, .i .i64, .i .i64]⟩,
⟨3, 24, .st [(0, 3), (1, 3), (2, 3)], [.i .i64, .i .i64, .i .i64]⟩,
⟨1, 8, .int .i64, [.i .i64]⟩,
⟨1, 0, .oth, []⟩,
⟨1, 8, .oth, [.nf]⟩,
⟨1, 8, .oth, [.nf]⟩,
⟨1, 8, .oth, [.nf]⟩,
⟨1, 4, .int .u32, [.i .u32]⟩,
⟨1, 8, .oth, [.nf]⟩,
⟨1, 0, .oth, []⟩,
⟨1, 8, .oth, [.nf]⟩,
⟨1, 0, .oth, []⟩,
⟨1, 8, .oth, [.nf]⟩,
⟨1, 8, .oth, [.nf]⟩,
⟨1, 8, .oth, [.nf]⟩,
⟨1, 8, .oth, [.nf]⟩,
⟨1, 8, .oth, [.nf]⟩,
⟨1, 8, .oth, [.nf]⟩,
⟨1, 24, .sl 5, [.sl]⟩,
⟨1, 24, .sl 24, [.sl]⟩,
⟨2, 48, .st [(0, 48), (1, 49)], [.sl, .sl]⟩,
⟨2, 48, .st [(0, 48), (1, 49)], [.sl, .sl]⟩,
⟨1, 0, .oth, []⟩,
⟨1, 8, .oth, [.nf]⟩,
⟨1, 0, .oth, []⟩,
⟨1, 8, .oth, [.nf]⟩,
⟨1, 8, .oth, [.nf]⟩,
⟨1, 0, .oth, []⟩,
⟨1, 8, .oth, [.nf]⟩,
⟨1, 0, .oth, []⟩,
⟨1, 8, .oth, [.nf]⟩,
⟨1, 8, .oth, [.nf]⟩,
⟨1, 8, .oth, [.nf]⟩,
⟨1, 8, .oth, [.nf]⟩,
⟨1, 0, .oth, []⟩,
⟨1, 8, .oth, [.nf]⟩,
⟨1, 8, .oth, [.nf]⟩,
⟨1, 8, .oth, [.nf]⟩,
⟨1, 8, .oth, [.nf]⟩,
⟨1, 8, .oth, [.nf]⟩,
⟨1, 8, .oth, [.nf]⟩,
⟨1, 24, .sl 89, [.sl]⟩,
⟨2, 16, .st [(0, 3), (1, 3)], [.i .i64, .i .i64]⟩,
⟨2, 16, .st [(0, 3), (1, 3)], [.i .i64, .i .i64]⟩,
⟨1, 0, .oth, []⟩,
⟨1, 8, .oth, [.nf]⟩,
⟨1, 8, .oth, [.nf]⟩,
⟨1, 0, .oth, []⟩,
⟨1, 8, .oth, [.nf]⟩,
⟨1, 8, .oth, [.nf]⟩,
⟨1, 0, .oth, []⟩,
⟨1, 8, .oth, [.nf]⟩,
⟨1, 0, .oth, []⟩,
⟨1, 8, .oth, [.nf]⟩,
⟨1, 8, .oth, [.nf]⟩,
⟨1, 8, .oth, [.nf]⟩,
⟨1, 24, .sl 92, [.sl]⟩,
⟨1, 24, .sl 73, [.sl]⟩,
⟨2, 48, .st [(0, 86), (1, 87)], [.sl, .sl]⟩,
⟨2, 48, .st [(0, 86), (1, 87)], [.sl, .sl]⟩,
⟨1, 8, .oth, [.nf]⟩,
⟨3, 24, .st [(0, 3), (1, 3), (2, 37)], [.i .i64, .i .i64, .i .u32]⟩,
⟨3, 24, .st [(0, 3), (1, 3), (2, 37)], [.i .i64, .i .i64, .i .u32]⟩,
⟨1, 8, .oth, [.nf]⟩,
⟨1, 8, .oth, [.nf]⟩,
⟨1, 8, .oth, [.nf]⟩,
⟨1, 8, .oth, [.nf]⟩,
⟨1, 8, .oth, [.nf]⟩,
⟨1, 8, .oth, [.nf]⟩,
⟨1, 24, .sl 269, [.sl]⟩,
⟨2, 32, .st [(0, 3), (1, 99)], [.i .i64, .sl]⟩,
⟨2, 32, .st [(0, 3), (1, 99)], [.i .i64, .sl]⟩,
⟨2, 16, .st [(0, 3), (1, 3)], [.i .i64, .i .i64]⟩,
⟨2, 16, .st [(0, 3), (1, 3)], [.i .i64, .i .i64]⟩,
⟨1, 0, .oth, []⟩,
⟨1, 8, .oth, [.nf]⟩,
⟨1, 0, .oth, []⟩,
⟨1, 8, .oth, [.nf]⟩,
⟨1, 0, .oth, []⟩,
⟨1, 8, .oth, [.nf]⟩,
⟨1, 0, .oth, []⟩,
⟨1, 8, .oth, [.nf]⟩,
⟨1, 8, .oth, [.nf]⟩,
⟨1, 8, .oth, [.nf]⟩,
⟨16, 16, .arr 16 4, List.replicate 16 (.b)⟩,
⟨1024, 1024, .arr 64 114, List.replicate 1024 (.b)⟩,
⟨1, 8, .oth, [.nf]⟩,
⟨1, 8, .oth, [.nf]⟩,
⟨1, 24, .sl 4, [.sl]⟩,
⟨1, 8, .oth, [.nf]⟩,
⟨1, 0, .oth, []⟩,
⟨1, 8, .oth, [.nf]⟩,
⟨1, 8, .oth, [.nf]⟩,
⟨1, 24, .sl 134, [.sl]⟩,
⟨2, 32, .st [(0, 3), (1, 123)], [.i .i64, .sl]⟩,
⟨2, 32, .st [(0, 3), (1, 123)], [.i .i64, .sl]⟩,
⟨1, 0, .oth, []⟩,
⟨1, 8, .oth, [.nf]⟩,
⟨1, 0, .oth, []⟩,
⟨1, 8, .oth, [.nf]⟩,
⟨1, 8, .oth, [.nf]⟩,
⟨1, 8, .oth, [.nf]⟩,
⟨1, 8, .oth, [.nf]⟩,
⟨2, 16, .st [(0, 3), (1, 3)], [.i .i64, .i .i64]⟩,
⟨2, 16, .st [(0, 3), (1, 3)], [.i .i64, .i .i64]⟩,
⟨1, 8, .oth, [.nf]⟩,
⟨64, 64, .arr 64 4, List.replicate 64 (.b)⟩,
⟨1, 8, .oth, [.nf]⟩,
⟨1, 8, .oth, [.nf]⟩,
⟨1, 8, .oth, [.nf]⟩,
⟨1, 8, .oth, [.nf]⟩,
⟨1, 0, .oth, []⟩,
⟨1, 8, .oth, [.nf]⟩,
⟨1, 8, .oth, [.nf]⟩,
⟨1, 24, .sl 161, [.sl]⟩,
⟨1, 8, .ptr 292, [.np]⟩,
⟨1, 8, .oth, [.nf]⟩,
⟨1, 8, .oth, [.nf]⟩,
⟨5, 40, .st [(0, 3), (1, 3), (2, 3), (3, 4), (4, 3)], [.i .i64, .i .i64, .i .i64, .b, .i .i64]⟩,
⟨5, 40, .st [(0, 3), (1, 3), (2, 3), (3, 4), (4, 3)], [.i .i64, .i .i64, .i .i64, .b, .i .i64]⟩,
⟨1, 24, .sl 149, [.sl]⟩,
⟨1, 0, .oth, []⟩,
⟨1, 8, .oth, [.nf]⟩,
⟨1, 8, .ptr 158, [.np]⟩,
⟨1, 24, .sl 159, [.sl]⟩,
⟨8, 64, .arr 8 3, [.i .i64, .i .i64, .i .i64, .i .i64, .i .i64, .i .i64, .i .i64, .i .i64]⟩,
⟨136, 1088, .arr 17 155, List.replicate 136 (.i .i64)⟩,
⟨137, 1112, .st [(0, 154), (1, 156)], (List.replicate 1 (.sl) ++ List.replicate 136 (.i .i64))⟩,
⟨137, 1112, .st [(0, 154), (1, 156)], (List.replicate 1 (.sl) ++ List.replicate 136 (.i .i64))⟩,
⟨5, 40, .st [(0, 3), (1, 3), (2, 3), (3, 4), (4, 3)], [.i .i64, .i .i64, .i .i64, .b, .i .i64]⟩,
⟨9, 72, .st [(0, 3), (1, 3), (2, 3), (3, 3), (4, 159)], [.i .i64, .i .i64, .i .i64, .i .i64, .i .i64, .i .i64, .i .i64, .b, .i .i64]⟩,
⟨9, 72, .st [(0, 3), (1, 3), (2, 3), (3, 3), (4, 159)], [.i .i64, .i .i64, .i .i64, .i .i64, .i .i64, .i .i64, .i .i64, .b, .i .i64]⟩,
⟨1, 8, .oth, [.nf]⟩,
⟨1, 8, .oth, [.nf]⟩,
⟨1, 24, .sl 306, [.sl]⟩,
⟨1, 24, .sl 180, [.sl]⟩,
⟨1, 8, .oth, [.nf]⟩,
⟨1, 8, .oth, [.nf]⟩,
⟨1, 0, .oth, []⟩,
⟨1, 8, .oth, [.nf]⟩,
⟨1, 0, .oth, []⟩,
⟨1, 8, .oth, [.nf]⟩,
⟨1, 8, .oth, [.nf]⟩,
⟨1, 8, .oth, [.nf]⟩,
⟨1, 8, .oth, [.nf]⟩,
⟨1, 8, .oth, [.nf]⟩,
⟨1, 8, .oth, [.nf]⟩,
⟨1, 8, .oth, [.nf]⟩,
⟨1, 8, .oth, [.nf]⟩,
⟨2, 16, .st [(0, 3), (1, 3)], [.i .i64, .i .i64]⟩,
⟨2, 16, .st [(0, 3), (1, 3)], [.i .i64, .i .i64]⟩,
⟨1, 8, .oth, [.nf]⟩,
⟨1, 8, .oth, [.nf]⟩,
⟨1, 8, .oth, [.nf]⟩,
⟨1, 24, .sl 186, [.sl]⟩,
⟨3, 40, .st [(0, 3), (1, 48), (2, 4)], [.i .i64, .sl, .b]⟩,
⟨3, 40, .st [(0, 3), (1, 48), (2, 4)], [.i .i64, .sl, .b]⟩,
⟨1, 8, .oth, [.nf]⟩,
⟨1, 0, .oth, []⟩,
⟨1, 8, .oth, [.nf]⟩,
⟨1, 8, .oth, [.nf]⟩,
⟨1, 8, .oth, [.nf]⟩,
⟨1, 24, .sl 194, [.sl]⟩,
⟨2, 24, .st [(0, 3), (1, 9)], [.i .i64, .s]⟩,
⟨2, 24, .st [(0, 3), (1, 9)], [.i .i64, .s]⟩,
⟨1, 8, .oth, [.nf]⟩,
⟨1, 8, .oth, [.nf]⟩,
⟨1, 8, .oth, [.nf]⟩,
⟨1, 8, .oth, [.nf]⟩,
⟨1, 24, .sl 207, [.sl]⟩,
⟨1, 8, .oth, [.nf]⟩,
⟨1, 0, .oth, []⟩,
⟨1, 8, .oth, [.nf]⟩,
⟨1, 8, .oth, [.nf]⟩,
⟨1, 8, .oth, [.nf]⟩,
⟨1, 8, .oth, [.nf]⟩,
⟨4, 32, .st [(0, 3), (1, 3), (2, 3), (3, 4)], [.i .i64, .i .i64, .i .i64, .b]⟩,
⟨4, 32, .st [(0, 3), (1, 3), (2, 3), (3, 4)], [.i .i64, .i .i64, .i .i64, .b]⟩,
⟨1, 8, .oth, [.nf]⟩,
⟨1, 8, .oth, [.nf]⟩,
⟨1, 24, .sl 218, [.sl]⟩,
⟨1, 8, .ptr 328, [.np]⟩,
⟨1, 0, .oth, []⟩,
⟨1, 8, .oth, [.nf]⟩,
⟨1, 8, .oth, [.nf]⟩,
⟨1, 8, .ptr 226, [.np]⟩,
⟨1, 8, .oth, [.nf]⟩,
⟨4, 64, .st [(0, 3), (1, 3), (2, 48), (3, 118)], [.i .i64, .i .i64, .sl, .sl]⟩,
⟨4, 64, .st [(0, 3), (1, 3), (2, 48), (3, 118)], [.i .i64, .i .i64, .sl, .sl]⟩,
⟨1, 8, .oth, [.nf]⟩,
⟨1, 8, .oth, [.nf]⟩,
⟨1, 8, .oth, [.nf]⟩,
⟨1, 8, .oth, [.nf]⟩,
⟨1, 8, .oth, [.nf]⟩,
⟨1, 24, .sl 331, [.sl]⟩,
⟨4, 48, .st [(0, 3), (1, 3), (2, 3), (3, 224)], [.i .i64, .i .i64, .i .i64, .sl]⟩,
⟨4, 48, .st [(0, 3), (1, 3), (2, 3), (3, 224)], [.i .i64, .i .i64, .i .i64, .sl]⟩,
⟨1, 8, .oth, [.nf]⟩,
⟨1, 8, .oth, [.nf]⟩,
⟨1, 8, .oth, [.nf]⟩,
⟨1, 8, .oth, [.nf]⟩,
⟨1, 8, .oth, [.nf]⟩,
⟨8, 32, .arr 8 37, [.i .u32, .i .u32, .i .u32, .i .u32, .i .u32, .i .u32, .i .u32, .i .u32]⟩,
⟨10, 48, .st [(0, 232), (8, 37), (9, 3)], [.i .u32, .i .u32, .i .u32, .i .u32, .i .u32, .i .u32, .i .u32, .i .u32, .i .u32, .i .i64]⟩,
⟨10, 48, .st [(0, 232), (8, 37), (9, 3)], [.i .u32, .i .u32, .i .u32, .i .u32, .i .u32, .i .u32, .i .u32, .i .u32, .i .u32, .i .i64]⟩,
⟨3, 40, .st [(0, 37), (1, 48), (2, 3)], [.i .u32, .sl, .i .i64]⟩,
⟨3, 40, .st [(0, 37), (1, 48), (2, 3)], [.i .u32, .sl, .i .i64]⟩,
⟨1, 8, .oth, [.nf]⟩,
⟨1, 8, .oth, [.nf]⟩,
⟨2, 16, .st [(0, 3), (1, 37)], [.i .i64, .i .u32]⟩,
⟨2, 16, .st [(0, 3), (1, 37)], [.i .i64, .i .u32]⟩,
⟨1, 0, .oth, []⟩,
⟨1, 8, .oth, [.nf]⟩,
⟨1, 8, .ptr 236, [.np]⟩,
⟨1, 8, .oth, [.nf]⟩,
⟨1, 8, .oth, [.nf]⟩,
⟨1, 8, .oth, [.nf]⟩,
⟨1, 8, .oth, [.nf]⟩,
⟨1, 8, .ptr 37, [.np]⟩,
⟨1, 8, .oth, [.nf]⟩,
⟨1, 8, .oth, [.nf]⟩,
⟨1, 8, .oth, [.nf]⟩,
⟨4, 32, .arr 4 3, [.i .i64, .i .i64, .i .i64, .i .i64]⟩,
⟨1, 8, .oth, [.nf]⟩,
⟨1, 8, .oth, [.nf]⟩,
⟨1, 8, .oth, [.nf]⟩,
⟨1, 8, .oth, [.nf]⟩,
⟨1, 8, .oth, [.nf]⟩,
⟨1, 8, .oth, [.nf]⟩,
⟨1, 8, .oth, [.nf]⟩,
⟨1, 8, .oth, [.nf]⟩,
⟨1, 8, .oth, [.nf]⟩,
⟨1, 8, .ptr 89, [.np]⟩,
⟨1, 8, .oth, [.nf]⟩,
⟨1, 8, .oth, [.nf]⟩,
⟨1, 8, .oth, [.nf]⟩,
⟨1, 8, .oth, [.nf]⟩,
⟨1, 8, .oth, [.nf]⟩,
⟨2, 32, .st [(0, 3), (1, 24)], [.i .i64, .sl]⟩,
⟨2, 32, .st [(0, 3), (1, 24)], [.i .i64, .sl]⟩,
⟨1, 8, .oth, [.nf]⟩,
⟨1, 8, .oth, [.nf]⟩,
⟨1, 8, .oth, [.nf]⟩,
⟨1, 8, .oth, [.nf]⟩,
⟨1, 8, .oth, [.nf]⟩,
⟨1, 8, .oth, [.nf]⟩,
⟨1, 8, .oth, [.nf]⟩,
⟨1, 8, .oth, [.nf]⟩,
⟨1, 8, .oth, [.nf]⟩,
⟨1, 8, .oth, [.nf]⟩,
⟨1, 8, .oth, [.nf]⟩,
⟨1, 8, .oth, [.nf]⟩,
⟨1, 8, .oth, [.nf]⟩,
⟨1, 8, .oth, [.nf]⟩,
⟨1, 8, .oth, [.nf]⟩,
⟨1, 8, .oth, [.nf]⟩,
⟨1, 8, .oth, [.nf]⟩,
⟨1, 8, .oth, [.nf]⟩,
⟨6, 48, .st [(0, 149), (5, 3)], [.i .i64, .i .i64, .i .i64, .b, .i .i64, .i .i64]⟩,
⟨6, 48, .st [(0, 149), (5, 3)], [.i .i64, .i .i64, .i .i64, .b, .i .i64, .i .i64]⟩,
⟨192, 1536, .arr 32 289, (List.replicate 32 [.i .i64, .i .i64, .i .i64, .b, .i .i64, .i .i64]).flatten⟩,
⟨328, 2624, .st [(0, 290), (192, 156)], [.i .i64, .i .i64, .i .i64, .b, .i .i64, .i .i64, .i .i64, .i .i64, .i .i64, .b, .i .i64, .i .i64, .i .i64, .i .i64, .i .i64, .b, .i .i64, .i .i64, .i .i64, .i .i64, .i .i64, .b, .i .i64, .i .i64, .i .i64, .i .i64, .i .i64, .b, .i .i64, .i .i64, .i .i64, .i .i64, .i .i64, .b, .i .i64, .i .i64, .i .i64, .i .i64, .i .i64, .b, .i .i64, .i .i64, .i .i64, .i .i64, .i .i64, .b, .i .i64, .i .i64, .i .i64, .i .i64, .i .i64, .b, .i .i64, .i .i64, .i .i64, .i .i64, .i .i64, .b, .i .i64, .i .i64, .i .i64, .i .i64, .i .i64, .b, .i .i64, .i .i64, .i .i64, .i .i64, .i .i64, .b, .i .i64, .i .i64, .i .i64, .i .i64, .i .i64, .b, .i .i64, .i .i64, .i .i64, .i .i64, .i .i64, .b, .i .i64, .i .i64, .i .i64, .i .i64, .i .i64, .b, .i .i64, .i .i64, .i .i64, .i .i64, .i .i64, .b, .i .i64, .i .i64, .i .i64, .i .i64, .i .i64, .b, .i .i64, .i .i64, .i .i64, .i .i64, .i .i64, .b, .i .i64, .i .i64, .i .i64, .i .i64, .i .i64, .b, .i .i64, .i .i64, .i .i64, .i .i64, .i .i64, .b, .i .i64, .i .i64, .i .i64, .i .i64, .i .i64, .b, .i .i64, .i .i64, .i .i64, .i .i64, .i .i64, .b, .i .i64, .i .i64, .i .i64, .i .i64, .i .i64, .b, .i .i64, .i .i64, .i .i64, .i .i64, .i .i64, .b, .i .i64, .i .i64, .i .i64, .i .i64, .i .i64, .b, .i .i64, .i .i64, .i .i64, .i .i64, .i .i64, .b, .i .i64, .i .i64, .i .i64, .i .i64, .i .i64, .b, .i .i64, .i .i64, .i .i64, .i .i64, .i .i64, .b, .i .i64, .i .i64, .i .i64, .i .i64, .i .i64, .b, .i .i64, .i .i64, .i .i64, .i .i64, .i .i64, .b, .i .i64, .i .i64, .i .i64, .i .i64, .i .i64, .b, .i .i64, .i .i64, .i .i64, .i .i64, .i .i64, .b, .i .i64, .i .i64, .i .i64, .i .i64, .i .i64, .i .i64, .i .i64, .i .i64, .i .i64, .i .i64, .i .i64, .i .i64, .i .i64, .i .i64, .i .i64, .i .i64, .i .i64, .i .i64, .i .i64, .i .i64, .i .i64, .i .i64, .i .i64, .i .i64, .i .i64, .i .i64, .i .i64, .i .i64, .i .i64, .i .i64, .i .i64, .i .i64, .i .i64, .i .i64, .i .i64, .i .i64, .i .i64, .i .i64, .i .i64, .i .i64, .i .i64, .i .i64, .i .i64, .i .i64, .i .i64, .i .i64, .i .i64, .i .i64, .i .i64, .i .i64, .i .i64, .i .i64, .i .i64, .i .i64, .i .i64, .i .i64, .i .i64, .i .i64, .i .i64, .i .i64, .i .i64, .i .i64, .i .i64, .i .i64, .i .i64, .i .i64, .i .i64, .i .i64, .i .i64, .i .i64, .i .i64, .i .i64, .i .i64, .i .i64, .i .i64, .i .i64, .i .i64, .i .i64, .i .i64, .i .i64, .i .i64, .i .i64, .i .i64, .i .i64, .i .i64, .i .i64, .i .i64, .i .i64, .i .i64, .i .i64, .i .i64, .i .i64, .i .i64, .i .i64, .i .i64, .i .i64, .i .i64, .i .i64, .i .i64, .i .i64, .i .i64, .i .i64, .i .i64, .i .i64, .i .i64, .i .i64, .i .i64, .i .i64, .i .i64, .i .i64, .i .i64, .i .i64, .i .i64, .i .i64, .i .i64, .i .i64, .i .i64, .i .i64, .i .i64, .i .i64, .i .i64, .i .i64, .i .i64, .i .i64, .i .i64, .i .i64, .i .i64, .i .i64, .i .i64, .i .i64, .i .i64, .i .i64, .i .i64, .i .i64, .i .i64, .i .i64, .i .i64, .i .i64]⟩,
⟨328, 2624, .st [(0, 290), (192, 156)], [.i .i64, .i .i64, .i .i64, .b, .i .i64, .i .i64, .i .i64, .i .i64, .i .i64, .b, .i .i64, .i .i64, .i .i64, .i .i64, .i .i64, .b, .i .i64, .i .i64, .i .i64, .i .i64, .i .i64, .b, .i .i64, .i .i64, .i .i64, .i .i64, .i .i64, .b, .i .i64, .i .i64, .i .i64, .i .i64, .i .i64, .b, .i .i64, .i .i64, .i .i64, .i .i64, .i .i64, .b, .i .i64, .i .i64, .i .i64, .i .i64, .i .i64, .b, .i .i64, .i .i64, .i .i64, .i .i64, .i .i64, .b, .i .i64, .i .i64, .i .i64, .i .i64, .i .i64, .b, .i .i64, .i .i64, .i .i64, .i .i64, .i .i64, .b, .i .i64, .i .i64, .i .i64, .i .i64, .i .i64, .b, .i .i64, .i .i64, .i .i64, .i .i64, .i .i64, .b, .i .i64, .i .i64, .i .i64, .i .i64, .i .i64, .b, .i .i64, .i .i64, .i .i64, .i .i64, .i .i64, .b, .i .i64, .i .i64, .i .i64, .i .i64, .i .i64, .b, .i .i64, .i .i64, .i .i64, .i .i64, .i .i64, .b, .i .i64, .i .i64, .i .i64, .i .i64, .i .i64, .b, .i .i64, .i .i64, .i .i64, .i .i64, .i .i64, .b, .i .i64, .i .i64, .i .i64, .i .i64, .i .i64, .b, .i .i64, .i .i64, .i .i64, .i .i64, .i .i64, .b, .i .i64, .i .i64, .i .i64, .i .i64, .i .i64, .b, .i .i64, .i .i64, .i .i64, .i .i64, .i .i64, .b, .i .i64, .i .i64, .i .i64, .i .i64, .i .i64, .b, .i .i64, .i .i64, .i .i64, .i .i64, .i .i64, .b, .i .i64, .i .i64, .i .i64, .i .i64, .i .i64, .b, .i .i64, .i .i64, .i .i64, .i .i64, .i .i64, .b, .i .i64, .i .i64, .i .i64, .i .i64, .i .i64, .b, .i .i64, .i .i64, .i .i64, .i .i64, .i .i64, .b, .i .i64, .i .i64, .i .i64, .i .i64, .i .i64, .b, .i .i64, .i .i64, .i .i64, .i .i64, .i .i64, .b, .i .i64, .i .i64, .i .i64, .i .i64, .i .i64, .b, .i .i64, .i .i64, .i .i64, .i .i64, .i .i64, .i .i64, .i .i64, .i .i64, .i .i64, .i .i64, .i .i64, .i .i64, .i .i64, .i .i64, .i .i64, .i .i64, .i .i64, .i .i64, .i .i64, .i .i64, .i .i64, .i .i64, .i .i64, .i .i64, .i .i64, .i .i64, .i .i64, .i .i64, .i .i64, .i .i64, .i .i64, .i .i64, .i .i64, .i .i64, .i .i64, .i .i64, .i .i64, .i .i64, .i .i64, .i .i64, .i .i64, .i .i64, .i .i64, .i .i64, .i .i64, .i .i64, .i .i64, .i .i64, .i .i64, .i .i64, .i .i64, .i .i64, .i .i64, .i .i64, .i .i64, .i .i64, .i .i64, .i .i64, .i .i64, .i .i64, .i .i64, .i .i64, .i .i64, .i .i64, .i .i64, .i .i64, .i .i64, .i .i64, .i .i64, .i .i64, .i .i64, .i .i64, .i .i64, .i .i64, .i .i64, .i .i64, .i .i64, .i .i64, .i .i64, .i .i64, .i .i64, .i .i64, .i .i64, .i .i64, .i .i64, .i .i64, .i .i64, .i .i64, .i .i64, .i .i64, .i .i64, .i .i64, .i .i64, .i .i64, .i .i64, .i .i64, .i .i64, .i .i64, .i .i64, .i .i64, .i .i64, .i .i64, .i .i64, .i .i64, .i .i64, .i .i64, .i .i64, .i .i64, .i .i64, .i .i64, .i .i64, .i .i64, .i .i64, .i .i64, .i .i64, .i .i64, .i .i64, .i .i64, .i .i64, .i .i64, .i .i64, .i .i64, .i .i64, .i .i64, .i .i64, .i .i64, .i .i64, .i .i64, .i .i64, .i .i64, .i .i64, .i .i64, .i .i64, .i .i64, .i .i64, .i .i64, .i .i64, .i .i64]⟩,
⟨1, 0, .oth, []⟩,
⟨1, 8, .oth, [.nf]⟩,
⟨1, 8, .oth, [.nf]⟩,
⟨1, 8, .oth, [.nf]⟩,
⟨1, 8, .oth, [.nf]⟩,
⟨1, 0, .oth, []⟩,
⟨1, 8, .oth, [.nf]⟩,
⟨1, 8, .ptr 159, [.np]⟩,
⟨1, 8, .oth, [.nf]⟩,
⟨1, 8, .oth, [.nf]⟩,
⟨1, 0, .oth, []⟩,
⟨1, 8, .oth, [.nf]⟩,
⟨1, 8, .oth, [.nf]⟩,
⟨2, 16, .st [(0, 3), (1, 3)], [.i .i64, .i .i64]⟩,
⟨1, 8, .oth, [.nf]⟩,
⟨1, 8, .oth, [.nf]⟩,
⟨1, 8, .oth, [.nf]⟩,
⟨1, 8, .oth, [.nf]⟩,
⟨1, 8, .oth, [.nm]⟩,
⟨1, 0, .oth, []⟩,
⟨1, 8, .int .u64, [.i .u64]⟩,
⟨1, 8, .oth, [.nf]⟩,
⟨1, 8, .oth, [.nf]⟩,
⟨1, 8, .oth, [.nf]⟩,
⟨1, 0, .oth, []⟩,
⟨1, 8, .oth, [.nf]⟩,
⟨1, 8, .oth, [.nf]⟩,
⟨1, 8, .oth, [.nf]⟩,
⟨1, 8, .oth, [.nf]⟩,
⟨1, 8, .oth, [.nf]⟩,
⟨1, 8, .oth, [.nf]⟩,
⟨1, 8, .oth, [.nf]⟩,
⟨1, 8, .oth, [.nf]⟩,
⟨1, 24, .sl 330, [.sl]⟩,
⟨4, 80, .st [(0, 48), (1, 48), (2, 326), (3, 3)], [.sl, .sl, .sl, .i .i64]⟩,
⟨4, 80, .st [(0, 48), (1, 48), (2, 326), (3, 3)], [.sl, .sl, .sl, .i .i64]⟩,
⟨2, 32, .st [(0, 3), (1, 48)], [.i .i64, .sl]⟩,
⟨2, 32, .st [(0, 3), (1, 48)], [.i .i64, .sl]⟩,
⟨2, 24, .st [(0, 3), (1, 9)], [.i .i64, .s]⟩,
⟨1, 8, .oth, [.nf]⟩,
⟨1, 16, .oth, [.ni]⟩,
⟨1, 16, .oth, [.ni]⟩,
⟨1, 0, .oth, []⟩,
⟨1, 8, .oth, [.nf]⟩,
⟨4, 32, .st [(0, 3), (1, 3), (2, 3), (3, 3)], [.i .i64, .i .i64, .i .i64, .i .i64]⟩,
⟨4, 32, .st [(0, 3), (1, 3), (2, 3), (3, 3)], [.i .i64, .i .i64, .i .i64, .i .i64]⟩,
⟨1, 0, .oth, []⟩,
⟨1, 8, .oth, [.nf]⟩,
⟨1, 0, .oth, []⟩,
⟨1, 8, .oth, [.nf]⟩,
⟨1, 8, .oth, [.nf]⟩,
⟨1, 8, .ptr 234, [.np]⟩,
⟨1, 8, .oth, [.nf]⟩,
⟨1, 8, .oth, [.nf]⟩,
⟨1, 8, .oth, [.nf]⟩,
⟨1, 8, .oth, [.nf]⟩,
⟨1, 8, .oth, [.nf]⟩,
⟨1, 8, .oth, [.nf]⟩,
⟨1, 8, .oth, [.nm]⟩,
⟨1, 8, .oth, [.nf]⟩,
⟨1, 8, .oth, [.nf]⟩,
⟨1, 8, .oth, [.nf]⟩,
⟨1, 8, .oth, [.nf]⟩,
⟨1, 8, .oth, [.nf]⟩,
⟨1, 8, .oth, [.nf]⟩,
⟨1, 8, .oth, [.nf]⟩,
⟨1, 8, .oth, [.nf]⟩,
⟨1, 8, .oth, [.nf]⟩,
⟨1, 8, .oth, [.nf]⟩,
⟨1, 8, .oth, [.nf]⟩,
⟨1, 8, .oth, [.nf]⟩,
⟨1, 8, .oth, [.nf]⟩,
⟨1, 8, .oth, [.nf]⟩,
⟨1, 8, .ptr 289, [.np]⟩,
⟨1, 0, .oth, []⟩,
⟨1, 8, .oth, [.nf]⟩,
⟨1, 8, .oth, [.nf]⟩,
⟨1, 8, .oth, [.nf]⟩,
⟨1, 8, .oth, [.nf]⟩,
⟨1, 8, .oth, [.nf]⟩,
⟨1, 8, .oth, [.nf]⟩,
⟨1, 8, .oth, [.nf]⟩,
⟨1, 8, .oth, [.nf]⟩,
⟨1, 8, .oth, [.nf]⟩,
⟨1, 8, .oth, [.nm]⟩,
⟨1, 8, .oth, [.nf]⟩,
⟨1, 8, .oth, [.nf]⟩,
⟨1, 8, .oth, [.nf]⟩,
⟨1, 8, .oth, [.nf]⟩,
⟨1, 8, .oth, [.nf]⟩,
⟨1, 8, .oth, [.nf]⟩,
⟨1, 8, .oth, [.nf]⟩,
⟨1, 0, .oth, []⟩,
⟨1, 8, .oth, [.nf]⟩,
⟨1, 2, .int .i16, [.i .i16]⟩,
⟨1, 0, .oth, []⟩,
⟨1, 8, .oth, [.nf]⟩,
⟨1, 8, .oth, [.nf]⟩,
⟨1, 8, .oth, [.nf]⟩,
⟨1, 2, .int .u16, [.i .u16]⟩,
⟨1, 8, .oth, [.nf]⟩,
⟨1, 8, .int .u64, [.i .u64]⟩,
⟨1, 8, .ptr 134, [.np]⟩,
⟨1, 0, .oth, []⟩,
⟨1, 8, .oth, [.nf]⟩,
⟨1, 8, .oth, [.nf]⟩,
⟨1, 8, .ptr 401, [.np]⟩,
⟨2, 32, .st [(0, 399), (1, 48)], [.np, .sl]⟩,
⟨2, 32, .st [(0, 399), (1, 48)], [.np, .sl]⟩,
⟨1, 16, .oth, [.ni]⟩,
⟨1, 16, .oth, [.ni]⟩,
⟨1, 0, .oth, []⟩,
⟨1, 8, .oth, [.nf]⟩,
⟨1, 8, .oth, [.nf]⟩,
⟨1, 8, .oth, [.nf]⟩,
⟨1, 8, .int .i64, [.i .i64]⟩,
⟨1, 0, .oth, []⟩,
⟨1, 8, .oth, [.nf]⟩,
⟨1, 8, .oth, [.nf]⟩,
⟨1, 8, .oth, [.nf]⟩,
⟨1, 8, .oth, [.nf]⟩,
⟨1, 8, .oth, [.nf]⟩,
⟨1, 8, .oth, [.nf]⟩,
⟨1, 0, .oth, []⟩,
⟨1, 8, .oth, [.nf]⟩,
⟨1, 0, .oth, []⟩,
⟨1, 8, .oth, [.nf]⟩,
⟨1, 8, .oth, [.nf]⟩,
⟨1, 8, .oth, [.nf]⟩,
⟨1, 8, .oth, [.nf]⟩,
⟨1, 8, .oth, [.nf]⟩,
⟨1, 0, .oth, []⟩,
⟨1, 8, .oth, [.nf]⟩,
⟨1, 0, .oth, []⟩,
⟨1, 8, .oth, [.nf]⟩,
⟨1, 8, .ptr 5, [.np]⟩,
⟨1, 8, .oth, [.nf]⟩,
⟨1, 8, .oth, [.nf]⟩,
⟨1, 8, .oth, [.nf]⟩,
⟨1, 8, .oth, [.nf]⟩,
⟨1, 8, .oth, [.nf]⟩,
⟨1, 8, .int .u64, [.i .u64]⟩,
⟨1, 8, .oth, [.nf]⟩,
⟨1, 8, .oth, [.nf]⟩,
⟨1, 8, .oth, [.nf]⟩,
⟨1, 8, .ptr 3, [.np]⟩,
⟨1, 8, .oth, [.nf]⟩,
⟨1, 8, .oth, [.np]⟩,
⟨1, 8, .oth, [.nf]⟩,
⟨1, 8, .oth, [.nf]⟩,
⟨1, 8, .oth, [.nf]⟩,
⟨1, 8, .oth, [.nf]⟩,
⟨1, 8, .ptr 434, [.np]⟩,
⟨1, 0, .oth, []⟩,
⟨1, 8, .oth, [.nf]⟩,
⟨1, 8, .oth, [.nf]⟩,
⟨4, 40, .st [(0, 17), (1, 17), (2, 17), (3, 9)], [.np, .np, .np, .s]⟩,
⟨4, 40, .st [(0, 17), (1, 17), (2, 17), (3, 9)], [.np, .np, .np, .s]⟩,
⟨0, 0, .arr 0 16, []⟩,
⟨0, 0, .st [(0, 451)], []⟩,
⟨0, 0, .st [(0, 451)], []⟩,
⟨1, 1, .int .u8, [.i .u8]⟩,
⟨1, 1, .int .u8, [.i .u8]⟩,
⟨1, 8, .oth, [.nf]⟩,
⟨1, 4, .int .i32, [.i .i32]⟩,
⟨1, 4, .int .i32, [.i .i32]⟩,
⟨11, 48, .st [(0, 12), (1, 12), (2, 37), (3, 454), (4, 5), (5, 5), (6, 455), (7, 456), (8, 428), (9, 457), (10, 458)], [.i .u64, .i .u64, .i .u32, .i .u8, .i .u8, .i .u8, .i .u8, .nf, .np, .i .i32, .i .i32]⟩,
⟨11, 48, .st [(0, 12), (1, 12), (2, 37), (3, 454), (4, 5), (5, 5), (6, 455), (7, 456), (8, 428), (9, 457), (10, 458)], [.i .u64, .i .u64, .i .u32, .i .u8, .i .u8, .i .u8, .i .u8, .nf, .np, .i .i32, .i .i32]⟩]
theorem TTok : TOk Try.prog TT := by unfold TOk; kernel_rfl
theorem mix : Try.prog.follows .mixedOrders = true := by kernel_rfl
structure S_quota_Row where
  fUser : Int
  fLimit : Int
def eS_quota_Row (x : S_quota_Row) : PV := .agg [.v (.int .i64 x.fUser), .v (.int .i64 x.fLimit)]
structure S_ringref3_Row where
  fUser : Int
  fLimit : Int
def eS_ringref3_Row (x : S_ringref3_Row) : PV := .agg [.v (.int .i64 x.fUser), .v (.int .i64 x.fLimit)]
def eqS_ringref3_Row (x y : S_ringref3_Row) : Bool := ((x.fUser == y.fUser) && ((x.fLimit == y.fLimit) && true))
theorem eqS_ringref3_Row_ok (x y : S_ringref3_Row) : EqA Try.prog 180 [((.int .i64 x.fUser)), ((.int .i64 x.fLimit))] [((.int .i64 y.fUser)), ((.int .i64 y.fLimit))] (eqS_ringref3_Row x y) := eqA_of TTok (by kernel_rfl) (by kernel_rfl) (by kernel_rfl)
inductive G_ringlaw3_rows_L1_R where
  | x0 (v_w14 : (List S_ringref3_Row))
def G_ringlaw3_rows_L1_ex : G_ringlaw3_rows_L1_R → Ex
  | .x0 _ => .exit 0
def G_ringlaw3_rows_L1_st (v_l7 : (List S_quota_Row)) : G_ringlaw3_rows_L1_R → PS
  | .x0 v_w14 => ⟨[dd, dd, dd, .srf 0, dd, dd, dd, dd, dd, dd, dd, dd, dd, dd, dd, dd, dd, dd, dd, dd, dd, dd], [.row 180 2 (v_w14.map eS_ringref3_Row)]⟩
def G_ringlaw3_rows_L1_hd (v_l7 : (List S_quota_Row)) (v_x8 : Int) (v_w9 : (List S_ringref3_Row)) : PS := ⟨[dd, dd, dd, .srf 0, dd, dd, .d (.sl (v_l7.map eS_quota_Row)), .d (.v (.int .i64 (v_l7.length : Int))), .d (.v (.int .i64 v_x8)), dd, dd, dd, dd, dd, dd, dd, dd, dd, dd, dd, dd, dd], [.row 180 2 (v_w9.map eS_ringref3_Row)]⟩
def G_ringlaw3_rows_L1 (n : Nat) (v_l7 : (List S_quota_Row)) : Nat → Int → (List S_ringref3_Row) → Option G_ringlaw3_rows_L1_R
  | 0, _, _ => none
  | k + 1, v_x8, v_w9 =>
    if v_x8 < (v_l7.length : Int) then
     (getI v_l7 v_x8).bind fun (v_y12 : S_quota_Row) =>
     (app 16 v_w9 ([(S_ringref3_Row.mk v_y12.fUser v_y12.fLimit)])).bind fun (v_a13 : (List S_ringref3_Row)) =>
     G_ringlaw3_rows_L1 n v_l7 k (wi .i64 (v_x8 + 1)) v_a13
    else
     some (.x0 v_w9)
theorem G_ringlaw3_rows_L1_ok {Fi : Ex → PS → Prop} (hF : KC 22 Fi) (ks : List Fr) (n : Nat) (v_l7 : (List S_quota_Row))  : ∀ (k : Nat) (v_x8 : Int) (v_w9 : (List S_ringref3_Row)) (o : G_ringlaw3_rows_L1_R), G_ringlaw3_rows_L1 n v_l7 k v_x8 v_w9 = some o → RunE Try.prog 22 Fi ks (G_ringlaw3_rows_L1_ex o) (G_ringlaw3_rows_L1_st v_l7 o) → RunE Try.prog 22 Fi (.l k (cP (cB (cR (cL (cR (cR (bodyOf Try.f85))))))) :: ks) .normal (G_ringlaw3_rows_L1_hd v_l7 v_x8 v_w9)
  | 0, v_x8, v_w9, o, h, q => by rw [G_ringlaw3_rows_L1] at h; cases h
  | k + 1, v_x8, v_w9, o, h, q => by
    rw [G_ringlaw3_rows_L1] at h
    by_cases h3 : v_x8 < (v_l7.length : Int)
    · rw [if_pos h3] at h
      obtain ⟨v_y12, h6, h⟩ := bind_some h
      obtain ⟨v_a13, h7, h⟩ := bind_some h
      exact pkk_sound TTok mix hF 13 (hs := [.t true, .y (eS_quota_Row v_y12), .c, .c, .c, .bd, .w (v_a13.map eS_ringref3_Row)]) (ts := []) (s := [37]) (l := [3, 6, 7, 8]) (by kernel_rfl) (by kernel_rfl) (.cons (dt h3) (.cons (getI_ob (f := eS_quota_Row) h6) (.cons (show 0 + 2 ≤ 2 by decide) (.cons (app_ob (f := eS_ringref3_Row) (s := 2) h7 (fun _ => rfl)).1 (.cons (app_ob (f := eS_ringref3_Row) (s := 2) h7 (fun _ => rfl)).2.1 (.cons (app_ob (f := eS_ringref3_Row) (s := 2) h7 (fun _ => rfl)).2.2.1 (.cons (app_ob (f := eS_ringref3_Row) (s := 2) h7 (fun _ => rfl)).2.2.2 .nil))))))) (G_ringlaw3_rows_L1_ok hF ks n v_l7 k (wi .i64 (v_x8 + 1)) v_a13 _ h q)
    · rw [if_neg h3] at h
      cases h
      exact pkk_sound TTok mix hF 8 (hs := [.t false]) (ts := []) (s := [0]) (l := [3]) (by kernel_rfl) (by kernel_rfl) (.cons (df h3) .nil) q
/- ringhall/ringlaw3.rows -/
def G_ringlaw3_rows (n : Nat) (v_l7 : (List S_quota_Row)) : Option ((List S_ringref3_Row)) :=
  (G_ringlaw3_rows_L1 n v_l7 n 0 ([] : List S_ringref3_Row)).bind fun v_o15 => match v_o15 with
  | .x0 v_z16 =>
    some v_z16
theorem G_ringlaw3_rows_ok (n : Nat) (v_l7 : (List S_quota_Row)) (r : (List S_ringref3_Row)) (h : G_ringlaw3_rows n v_l7 = some r) : Ret Try.prog 85 [(eL eS_quota_Row) v_l7] ((eL eS_ringref3_Row) r) := by
  refine ret_run (n := 22) (fn := Try.f85) (c := bodyOf Try.f85) (by kernel_rfl) (by kernel_rfl) (by kernel_rfl) (by kernel_rfl) ?_
  have hF : KC 22 (FinR Try.prog Try.f85 ((eL eS_ringref3_Row) r)) := FinR.kc' (by kernel_rfl)
  unfold G_ringlaw3_rows at h
  obtain ⟨v_o15, h8, h⟩ := bind_some h
  refine pkk_sound TTok mix hF 9 (hs := [.u (.d (.v (.int .i64 (v_l7.length : Int)))), .n n]) (ts := [(3, 180, 2)]) (s := [15]) (l := [3, 6, 7, 8]) (by kernel_rfl) (by kernel_rfl) (.cons (len_ob (f := eS_quota_Row) (l := v_l7)) .nil) (G_ringlaw3_rows_L1_ok hF (.b 0 :: .s (cR (cR (cR (bodyOf Try.f85)))) :: []) n v_l7 n 0 ([] : List S_ringref3_Row) _ h8 ?_)
  cases v_o15 with
  | x0 v_z16 =>
    try dsimp only at h
    obtain rfl := Option.some.inj h
    exact pend_sound TTok mix 4 (hs := []) (by kernel_rfl) (by kernel_rfl) (by kernel_rfl) .nil
/- ringhall/ringref3.within -/
def G_ringref3_within (n : Nat) (v_n22 : Int) (v_low23 : Int) (v_high24 : Int) : Option (Bool) :=
  if v_low23 ≤ v_n22 then
   some (decide (v_n22 ≤ v_high24))
  else
   some false
theorem G_ringref3_within_ok (n : Nat) (v_n22 : Int) (v_low23 : Int) (v_high24 : Int) (r : Bool) (h : G_ringref3_within n v_n22 v_low23 v_high24 = some r) : Ret Try.prog 189 [(eI .i64) v_n22, (eI .i64) v_low23, (eI .i64) v_high24] (eB r) := by
  refine ret_run (n := 15) (fn := Try.f189) (c := bodyOf Try.f189) (by kernel_rfl) (by kernel_rfl) (by kernel_rfl) (by kernel_rfl) ?_
  have hF : KC 15 (FinR Try.prog Try.f189 (eB r)) := FinR.kc' (by kernel_rfl)
  unfold G_ringref3_within at h
  by_cases h13 : v_low23 ≤ v_n22
  · rw [if_pos h13] at h
    obtain rfl := Option.some.inj h
    exact pend_sound TTok mix 5 (hs := [.t true, .c, .c]) (by kernel_rfl) (by kernel_rfl) (by kernel_rfl) (.cons (dt h13) .nil)
  · rw [if_neg h13] at h
    obtain rfl := Option.some.inj h
    exact pend_sound TTok mix 5 (hs := [.t false, .c, .c]) (by kernel_rfl) (by kernel_rfl) (by kernel_rfl) (.cons (df h13) .nil)
inductive G_ringref3_RowsRight_L1_R where
  | x0 (v_x33 : Int)
  | x1 
def G_ringref3_RowsRight_L1_ex : G_ringref3_RowsRight_L1_R → Ex
  | .x0 _ => .ret
  | .x1  => .exit 0
def G_ringref3_RowsRight_L1_st (v_l18 : (List S_ringref3_Row)) : G_ringref3_RowsRight_L1_R → PS
  | .x0 v_x33 => ⟨[dd, dd, .d (.v (.int .i64 v_x33)), dd, dd, dd, dd, dd, dd, dd, dd, dd, dd, dd, dd, dd, dd, dd, dd, dd, dd, dd, dd, dd, dd, dd, dd, dd, dd, dd], []⟩
  | .x1  => ⟨[dd, dd, dd, dd, dd, dd, dd, dd, dd, dd, dd, dd, dd, dd, dd, dd, dd, dd, dd, dd, dd, dd, dd, dd, dd, dd, dd, dd, dd, dd], []⟩
def G_ringref3_RowsRight_L1_hd (v_l18 : (List S_ringref3_Row)) (v_least19 : Int) (v_x20 : Int) : PS := ⟨[dd, dd, dd, .d (.v (.int .i64 v_least19)), dd, dd, dd, dd, dd, .d (.sl (v_l18.map eS_ringref3_Row)), .d (.v (.int .i64 (v_l18.length : Int))), .d (.v (.int .i64 v_x20)), dd, dd, dd, dd, dd, dd, dd, dd, dd, dd, dd, dd, dd, dd, dd, dd, dd, dd], []⟩
def G_ringref3_RowsRight_L1 (n : Nat) (v_l18 : (List S_ringref3_Row)) : Nat → Int → Int → Option G_ringref3_RowsRight_L1_R
  | 0, _, _ => none
  | k + 1, v_least19, v_x20 =>
    if v_x20 < (v_l18.length : Int) then
     (getI v_l18 v_x20).bind fun (v_y29 : S_ringref3_Row) =>
     (G_ringref3_within n v_y29.fUser v_least19 255).bind fun (v_r32 : (Bool)) =>
     if v_r32 = true then
      (G_ringref3_within n v_y29.fLimit 0 256).bind fun (v_r34 : (Bool)) =>
      if v_r34 = true then
       G_ringref3_RowsRight_L1 n v_l18 k (wi .i64 (v_y29.fUser + 1)) (wi .i64 (v_x20 + 1))
      else
       some (.x0 3)
     else
      some (.x0 3)
    else
     some (.x1 )
theorem G_ringref3_RowsRight_L1_ok {Fi : Ex → PS → Prop} (hF : KC 30 Fi) (ks : List Fr) (n : Nat) (v_l18 : (List S_ringref3_Row))  : ∀ (k : Nat) (v_least19 : Int) (v_x20 : Int) (o : G_ringref3_RowsRight_L1_R), G_ringref3_RowsRight_L1 n v_l18 k v_least19 v_x20 = some o → RunE Try.prog 30 Fi ks (G_ringref3_RowsRight_L1_ex o) (G_ringref3_RowsRight_L1_st v_l18 o) → RunE Try.prog 30 Fi (.l k (cP (cB (cR (cL (cR (cR (cR (bodyOf Try.f86)))))))) :: ks) .normal (G_ringref3_RowsRight_L1_hd v_l18 v_least19 v_x20)
  | 0, v_least19, v_x20, o, h, q => by rw [G_ringref3_RowsRight_L1] at h; cases h
  | k + 1, v_least19, v_x20, o, h, q => by
    rw [G_ringref3_RowsRight_L1] at h
    by_cases h11 : v_x20 < (v_l18.length : Int)
    · rw [if_pos h11] at h
      obtain ⟨v_y29, h21, h⟩ := bind_some h
      obtain ⟨v_r32, h25, h⟩ := bind_some h
      by_cases h26 : v_r32 = true
      · rw [if_pos h26] at h
        obtain ⟨v_r34, h27, h⟩ := bind_some h
        by_cases h28 : v_r34 = true
        · rw [if_pos h28] at h
          exact pkk_sound TTok mix hF 18 (hs := [.t true, .y (eS_ringref3_Row v_y29), .c, .c, .r (eB v_r32), .t false, .c, .c, .c, .r (eB v_r34), .c, .t false, .c]) (ts := []) (s := []) (l := [3, 9, 10, 11]) (by kernel_rfl) (by kernel_rfl) (.cons (dt h11) (.cons (getI_ob (f := eS_ringref3_Row) h21) (.cons (show 0 + 2 ≤ 2 by decide) (.cons (G_ringref3_within_ok n v_y29.fUser v_least19 255 _ h25) (.cons (bnf h26) (.cons (G_ringref3_within_ok n v_y29.fLimit 0 256 _ h27) (.cons (bnf h28) .nil))))))) (G_ringref3_RowsRight_L1_ok hF ks n v_l18 k (wi .i64 (v_y29.fUser + 1)) (wi .i64 (v_x20 + 1)) _ h q)
        · rw [if_neg h28] at h
          cases h
          exact pkk_sound TTok mix hF 21 (hs := [.t true, .y (eS_ringref3_Row v_y29), .c, .c, .r (eB v_r32), .t false, .c, .c, .c, .r (eB v_r34), .c, .t true]) (ts := []) (s := []) (l := [2]) (by kernel_rfl) (by kernel_rfl) (.cons (dt h11) (.cons (getI_ob (f := eS_ringref3_Row) h21) (.cons (show 0 + 2 ≤ 2 by decide) (.cons (G_ringref3_within_ok n v_y29.fUser v_least19 255 _ h25) (.cons (bnf h26) (.cons (G_ringref3_within_ok n v_y29.fLimit 0 256 _ h27) (.cons (bnt (vf h28)) .nil))))))) q
      · rw [if_neg h26] at h
        cases h
        exact pkk_sound TTok mix hF 21 (hs := [.t true, .y (eS_ringref3_Row v_y29), .c, .c, .r (eB v_r32), .t true, .c, .c, .c, .c]) (ts := []) (s := []) (l := [2]) (by kernel_rfl) (by kernel_rfl) (.cons (dt h11) (.cons (getI_ob (f := eS_ringref3_Row) h21) (.cons (show 0 + 2 ≤ 2 by decide) (.cons (G_ringref3_within_ok n v_y29.fUser v_least19 255 _ h25) (.cons (bnt (vf h26)) .nil))))) q
    · rw [if_neg h11] at h
      cases h
      exact pkk_sound TTok mix hF 8 (hs := [.t false]) (ts := []) (s := []) (l := []) (by kernel_rfl) (by kernel_rfl) (.cons (df h11) .nil) q
/- ringhall/ringref3.RowsRight -/
def G_ringref3_RowsRight (n : Nat) (v_l18 : (List S_ringref3_Row)) : Option (Int) :=
  if (v_l18.length : Int) > 20 then
   some 2
  else
   (G_ringref3_RowsRight_L1 n v_l18 n 0 0).bind fun v_o36 => match v_o36 with
   | .x0 v_z37 =>
     some v_z37
   | .x1  =>
     some 0
theorem G_ringref3_RowsRight_ok (n : Nat) (v_l18 : (List S_ringref3_Row)) (r : Int) (h : G_ringref3_RowsRight n v_l18 = some r) : Ret Try.prog 86 [(eL eS_ringref3_Row) v_l18] ((eI .i64) r) := by
  refine ret_run (n := 30) (fn := Try.f86) (c := bodyOf Try.f86) (by kernel_rfl) (by kernel_rfl) (by kernel_rfl) (by kernel_rfl) ?_
  have hF : KC 30 (FinR Try.prog Try.f86 ((eI .i64) r)) := FinR.kc' (by kernel_rfl)
  unfold G_ringref3_RowsRight at h
  by_cases h10 : (v_l18.length : Int) > 20
  · rw [if_pos h10] at h
    obtain rfl := Option.some.inj h
    exact pend_sound TTok mix 10 (hs := [.u (.d (.v (.int .i64 (v_l18.length : Int)))), .t true]) (by kernel_rfl) (by kernel_rfl) (by kernel_rfl) (.cons (len_ob (f := eS_ringref3_Row) (l := v_l18)) (.cons (dt h10) .nil))
  · rw [if_neg h10] at h
    obtain ⟨v_o36, h29, h⟩ := bind_some h
    refine pkk_sound TTok mix hF 14 (hs := [.u (.d (.v (.int .i64 (v_l18.length : Int)))), .t false, .u (.d (.v (.int .i64 (v_l18.length : Int)))), .n n]) (ts := []) (s := []) (l := [3, 9, 10, 11]) (by kernel_rfl) (by kernel_rfl) (.cons (len_ob (f := eS_ringref3_Row) (l := v_l18)) (.cons (df h10) (.cons (len_ob (f := eS_ringref3_Row) (l := v_l18)) .nil))) (G_ringref3_RowsRight_L1_ok hF (.b 0 :: .s (cR (cR (cR (cR (bodyOf Try.f86))))) :: []) n v_l18 n 0 0 _ h29 ?_)
    cases v_o36 with
    | x0 v_z37 =>
      try dsimp only at h
      obtain rfl := Option.some.inj h
      exact pend_sound TTok mix 2 (hs := []) (by kernel_rfl) (by kernel_rfl) (by kernel_rfl) .nil
    | x1  =>
      try dsimp only at h
      obtain rfl := Option.some.inj h
      exact pend_sound TTok mix 4 (hs := []) (by kernel_rfl) (by kernel_rfl) (by kernel_rfl) .nil
inductive G_quota_Right_C1_R where
  | x0 (v_x63 : Bool)
def G_quota_Right_C1_ex : G_quota_Right_C1_R → Ex
  | .x0 _ => .normal
def G_quota_Right_C1_st (v_l48 : (List S_quota_Row)) (v_x49 : Int) (v_y61 : S_quota_Row) : G_quota_Right_C1_R → PS
  | .x0 v_x63 => ⟨[.d (.sl (v_l48.map eS_quota_Row)), dd, dd, dd, dd, dd, dd, dd, .d (.sl (v_l48.map eS_quota_Row)), .d (.v (.int .i64 (v_l48.length : Int))), .d (.v (.int .i64 v_x49)), dd, dd, dd, dd, dd, dd, dd, dd, dd, dd, dd, dd, dd, dd, dd, dd, dd, dd, dd, dd, dd, dd, dd, dd, dd, dd, dd, dd, dd, dd, dd, dd, dd, dd, dd, dd, .d (.v (.bool v_x63)), dd], []⟩
def G_quota_Right_C1_hd (v_l48 : (List S_quota_Row)) (v_x49 : Int) (v_y61 : S_quota_Row)  : PS := ⟨[.d (.sl (v_l48.map eS_quota_Row)), dd, dd, .d (.v (.int .i64 v_x49)), .ref 0 0, dd, dd, dd, .d (.sl (v_l48.map eS_quota_Row)), .d (.v (.int .i64 (v_l48.length : Int))), .d (.v (.int .i64 v_x49)), dd, dd, dd, dd, dd, dd, dd, dd, dd, dd, dd, dd, dd, dd, dd, dd, dd, dd, dd, dd, dd, dd, dd, dd, dd, dd, dd, dd, dd, dd, dd, dd, dd, dd, dd, dd, dd, dd], [.box [.d (.v (.int .i64 v_y61.fUser)), .d (.v (.int .i64 v_y61.fLimit))]]⟩
def G_quota_Right_C1 (n : Nat) (v_l48 : (List S_quota_Row)) (v_x49 : Int) (v_y61 : S_quota_Row) : Option G_quota_Right_C1_R :=
  if v_y61.fUser < 0 then
   some (.x0 true)
  else
   if v_y61.fUser > 255 then
    some (.x0 true)
   else
    if v_y61.fLimit < 0 then
     some (.x0 true)
    else
     if v_y61.fLimit > 256 then
      some (.x0 true)
     else
      if v_x49 > 0 then
       (getI v_l48 (wi .i64 (v_x49 - 1))).bind fun (v_y67 : S_quota_Row) =>
       some (.x0 (decide (v_y67.fUser ≥ v_y61.fUser)))
      else
       some (.x0 false)
theorem G_quota_Right_C1_ok {Fi : Ex → PS → Prop} (hF : KC 49 Fi) (ks : List Fr) (n : Nat) (v_l48 : (List S_quota_Row)) (v_x49 : Int) (v_y61 : S_quota_Row)  (o : G_quota_Right_C1_R) (h : G_quota_Right_C1 n v_l48 v_x49 v_y61 = some o) (q : RunE Try.prog 49 Fi ks (G_quota_Right_C1_ex o) (G_quota_Right_C1_st v_l48 v_x49 v_y61 o)) : RunE Try.prog 49 Fi (.s (cL (cR (cB (cL (cR (cR (cP (cB (cR (cL (cR (cR (bodyOf Try.f92))))))))))))) :: ks) .normal (G_quota_Right_C1_hd v_l48 v_x49 v_y61) := by
  unfold G_quota_Right_C1 at h
  by_cases h63 : v_y61.fUser < 0
  · rw [if_pos h63] at h
    cases h
    exact pkk_sound TTok mix hF 1 (hs := [.c, .t true, .c, .c, .c, .c, .c, .c, .c, .c, .c, .c, .c, .c]) (ts := []) (s := []) (l := [0, 8, 9, 10, 47]) (by kernel_rfl) (by kernel_rfl) (.cons (dt h63) .nil) q
  · rw [if_neg h63] at h
    by_cases h64 : v_y61.fUser > 255
    · rw [if_pos h64] at h
      cases h
      exact pkk_sound TTok mix hF 1 (hs := [.c, .t false, .c, .c, .c, .t true, .c, .c, .c, .c, .c, .c, .c, .c, .c]) (ts := []) (s := []) (l := [0, 8, 9, 10, 47]) (by kernel_rfl) (by kernel_rfl) (.cons (df h63) (.cons (dt h64) .nil)) q
    · rw [if_neg h64] at h
      by_cases h65 : v_y61.fLimit < 0
      · rw [if_pos h65] at h
        cases h
        exact pkk_sound TTok mix hF 1 (hs := [.c, .t false, .c, .c, .c, .t false, .c, .c, .c, .t true, .c, .c, .c, .c, .c, .c]) (ts := []) (s := []) (l := [0, 8, 9, 10, 47]) (by kernel_rfl) (by kernel_rfl) (.cons (df h63) (.cons (df h64) (.cons (dt h65) .nil))) q
      · rw [if_neg h65] at h
        by_cases h66 : v_y61.fLimit > 256
        · rw [if_pos h66] at h
          cases h
          exact pkk_sound TTok mix hF 1 (hs := [.c, .t false, .c, .c, .c, .t false, .c, .c, .c, .t false, .c, .c, .c, .t true, .c, .c, .c]) (ts := []) (s := []) (l := [0, 8, 9, 10, 47]) (by kernel_rfl) (by kernel_rfl) (.cons (df h63) (.cons (df h64) (.cons (df h65) (.cons (dt h66) .nil)))) q
        · rw [if_neg h66] at h
          by_cases h67 : v_x49 > 0
          · rw [if_pos h67] at h
            obtain ⟨v_y67, h68, h⟩ := bind_some h
            cases h
            exact pkk_sound TTok mix hF 1 (hs := [.c, .t false, .c, .c, .c, .t false, .c, .c, .c, .t false, .c, .c, .c, .t false, .c, .c, .t true, .c, .c, .c, .y (eS_quota_Row v_y67), .c, .c, .c, .c, .c, .c, .c, .c]) (ts := []) (s := []) (l := [0, 8, 9, 10, 47]) (by kernel_rfl) (by kernel_rfl) (.cons (df h63) (.cons (df h64) (.cons (df h65) (.cons (df h66) (.cons (dt h67) (.cons (getI_ob (f := eS_quota_Row) h68) .nil)))))) q
          · rw [if_neg h67] at h
            cases h
            exact pkk_sound TTok mix hF 1 (hs := [.c, .t false, .c, .c, .c, .t false, .c, .c, .c, .t false, .c, .c, .c, .t false, .c, .c, .t false, .c, .c, .c, .c, .c, .c, .c, .c, .c]) (ts := []) (s := []) (l := [0, 8, 9, 10, 47]) (by kernel_rfl) (by kernel_rfl) (.cons (df h63) (.cons (df h64) (.cons (df h65) (.cons (df h66) (.cons (df h67) .nil))))) q
inductive G_quota_Right_L2_R where
  | x0 (v_x72 : Int)
  | x1 
def G_quota_Right_L2_ex : G_quota_Right_L2_R → Ex
  | .x0 _ => .ret
  | .x1  => .exit 0
def G_quota_Right_L2_st (v_l48 : (List S_quota_Row)) : G_quota_Right_L2_R → PS
  | .x0 v_x72 => ⟨[dd, dd, .d (.v (.int .i64 v_x72)), dd, dd, dd, dd, dd, dd, dd, dd, dd, dd, dd, dd, dd, dd, dd, dd, dd, dd, dd, dd, dd, dd, dd, dd, dd, dd, dd, dd, dd, dd, dd, dd, dd, dd, dd, dd, dd, dd, dd, dd, dd, dd, dd, dd, dd, dd], []⟩
  | .x1  => ⟨[dd, dd, dd, dd, dd, dd, dd, dd, dd, dd, dd, dd, dd, dd, dd, dd, dd, dd, dd, dd, dd, dd, dd, dd, dd, dd, dd, dd, dd, dd, dd, dd, dd, dd, dd, dd, dd, dd, dd, dd, dd, dd, dd, dd, dd, dd, dd, dd, dd], []⟩
def G_quota_Right_L2_hd (v_l48 : (List S_quota_Row)) (v_x49 : Int) : PS := ⟨[.d (.sl (v_l48.map eS_quota_Row)), dd, dd, dd, dd, dd, dd, dd, .d (.sl (v_l48.map eS_quota_Row)), .d (.v (.int .i64 (v_l48.length : Int))), .d (.v (.int .i64 v_x49)), dd, dd, dd, dd, dd, dd, dd, dd, dd, dd, dd, dd, dd, dd, dd, dd, dd, dd, dd, dd, dd, dd, dd, dd, dd, dd, dd, dd, dd, dd, dd, dd, dd, dd, dd, dd, dd, dd], []⟩
def G_quota_Right_L2 (n : Nat) (v_l48 : (List S_quota_Row)) : Nat → Int → Option G_quota_Right_L2_R
  | 0, _ => none
  | k + 1, v_x49 =>
    if v_x49 < (v_l48.length : Int) then
     (getI v_l48 v_x49).bind fun (v_y61 : S_quota_Row) =>
     (G_quota_Right_C1 n v_l48 v_x49 v_y61).bind fun v_o70 => match v_o70 with
     | .x0 v_z71 =>
       if v_z71 = true then
        some (.x0 3)
       else
        G_quota_Right_L2 n v_l48 k (wi .i64 (v_x49 + 1))
    else
     some (.x1 )
theorem G_quota_Right_L2_ok {Fi : Ex → PS → Prop} (hF : KC 49 Fi) (ks : List Fr) (n : Nat) (v_l48 : (List S_quota_Row))  : ∀ (k : Nat) (v_x49 : Int) (o : G_quota_Right_L2_R), G_quota_Right_L2 n v_l48 k v_x49 = some o → RunE Try.prog 49 Fi ks (G_quota_Right_L2_ex o) (G_quota_Right_L2_st v_l48 o) → RunE Try.prog 49 Fi (.l k (cP (cB (cR (cL (cR (cR (bodyOf Try.f92))))))) :: ks) .normal (G_quota_Right_L2_hd v_l48 v_x49)
  | 0, v_x49, o, h, q => by rw [G_quota_Right_L2] at h; cases h
  | k + 1, v_x49, o, h, q => by
    rw [G_quota_Right_L2] at h
    by_cases h40 : v_x49 < (v_l48.length : Int)
    · rw [if_pos h40] at h
      obtain ⟨v_y61, h56, h⟩ := bind_some h
      obtain ⟨v_o70, h69, h⟩ := bind_some h
      refine pkk_sound TTok mix hF 11 (hs := [.t true, .y (eS_quota_Row v_y61), .c]) (ts := []) (s := [12]) (l := [0, 3, 4, 8, 9, 10]) (by kernel_rfl) (by kernel_rfl) (.cons (dt h40) (.cons (getI_ob (f := eS_quota_Row) h56) (.cons (show 0 + 2 ≤ 2 by decide) .nil))) (G_quota_Right_C1_ok hF (.s (cR (cR (cB (cL (cR (cR (cP (cB (cR (cL (cR (cR (bodyOf Try.f92))))))))))))) :: .b 1 :: .s (cR (cR (cR (cP (cB (cR (cL (cR (cR (bodyOf Try.f92)))))))))) :: .l k (cP (cB (cR (cL (cR (cR (bodyOf Try.f92))))))) :: ks) n v_l48 v_x49 v_y61 _ h69 ?_)
      cases v_o70 with
      | x0 v_z71 =>
        try dsimp only at h
        by_cases h70 : v_z71 = true
        · rw [if_pos h70] at h
          cases h
          exact pkk_sound TTok mix hF 7 (hs := [.t true]) (ts := []) (s := []) (l := [2]) (by kernel_rfl) (by kernel_rfl) (.cons h70 .nil) q
        · rw [if_neg h70] at h
          exact pkk_sound TTok mix hF 4 (hs := [.t false]) (ts := []) (s := []) (l := [0, 8, 9, 10]) (by kernel_rfl) (by kernel_rfl) (.cons (vf h70) .nil) (G_quota_Right_L2_ok hF ks n v_l48 k (wi .i64 (v_x49 + 1)) _ h q)
    · rw [if_neg h40] at h
      cases h
      exact pkk_sound TTok mix hF 8 (hs := [.t false]) (ts := []) (s := []) (l := []) (by kernel_rfl) (by kernel_rfl) (.cons (df h40) .nil) q
/- ringhall/quota.Right -/
def G_quota_Right (n : Nat) (v_l48 : (List S_quota_Row)) : Option (Int) :=
  if (v_l48.length : Int) > 20 then
   some 2
  else
   (G_quota_Right_L2 n v_l48 n 0).bind fun v_o73 => match v_o73 with
   | .x0 v_z74 =>
     some v_z74
   | .x1  =>
     some 0
theorem G_quota_Right_ok (n : Nat) (v_l48 : (List S_quota_Row)) (r : Int) (h : G_quota_Right n v_l48 = some r) : Ret Try.prog 92 [(eL eS_quota_Row) v_l48] ((eI .i64) r) := by
  refine ret_run (n := 49) (fn := Try.f92) (c := bodyOf Try.f92) (by kernel_rfl) (by kernel_rfl) (by kernel_rfl) (by kernel_rfl) ?_
  have hF : KC 49 (FinR Try.prog Try.f92 ((eI .i64) r)) := FinR.kc' (by kernel_rfl)
  unfold G_quota_Right at h
  by_cases h39 : (v_l48.length : Int) > 20
  · rw [if_pos h39] at h
    obtain rfl := Option.some.inj h
    exact pend_sound TTok mix 10 (hs := [.u (.d (.v (.int .i64 (v_l48.length : Int)))), .t true]) (by kernel_rfl) (by kernel_rfl) (by kernel_rfl) (.cons (len_ob (f := eS_quota_Row) (l := v_l48)) (.cons (dt h39) .nil))
  · rw [if_neg h39] at h
    obtain ⟨v_o73, h71, h⟩ := bind_some h
    refine pkk_sound TTok mix hF 12 (hs := [.u (.d (.v (.int .i64 (v_l48.length : Int)))), .t false, .u (.d (.v (.int .i64 (v_l48.length : Int)))), .n n]) (ts := []) (s := []) (l := [0, 8, 9, 10]) (by kernel_rfl) (by kernel_rfl) (.cons (len_ob (f := eS_quota_Row) (l := v_l48)) (.cons (df h39) (.cons (len_ob (f := eS_quota_Row) (l := v_l48)) .nil))) (G_quota_Right_L2_ok hF (.b 0 :: .s (cR (cR (cR (bodyOf Try.f92)))) :: []) n v_l48 n 0 _ h71 ?_)
    cases v_o73 with
    | x0 v_z74 =>
      try dsimp only at h
      obtain rfl := Option.some.inj h
      exact pend_sound TTok mix 2 (hs := []) (by kernel_rfl) (by kernel_rfl) (by kernel_rfl) .nil
    | x1  =>
      try dsimp only at h
      obtain rfl := Option.some.inj h
      exact pend_sound TTok mix 4 (hs := []) (by kernel_rfl) (by kernel_rfl) (by kernel_rfl) .nil
/- slices.Clone[[]ringhall/quota.Row,ringhall/quota.Row] -/
def G_slices_Clone_quota_Row_quota_Row_A (n : Nat) (v_c76 : Nat) : Option ((List S_quota_Row)) :=
  some ([] : List S_quota_Row)
theorem G_slices_Clone_quota_Row_quota_Row_A_ok (n : Nat) (v_c76 : Nat) (r : (List S_quota_Row)) (h : G_slices_Clone_quota_Row_quota_Row_A n v_c76 = some r) : RetH Try.prog 191 [.d (.v (.slice none 0 v_c76))] [] (.srf 0) [.row 306 2 (r.map eS_quota_Row)] := by
  refine retH_run (n := 8) (fn := Try.f191) (c := bodyOf Try.f191) (by kernel_rfl) (by kernel_rfl) (by kernel_rfl) (by kernel_rfl) ?_
  have hF : KC 8 (FinH Try.prog Try.f191 [] (.srf 0) [.row 306 2 (r.map eS_quota_Row)]) := FinH.kc' (by kernel_rfl)
  unfold G_slices_Clone_quota_Row_quota_Row_A at h
  obtain rfl := Option.some.inj h
  exact pendH_sound TTok mix 11 (hs := [.c, .dl 4, .th 2 306 2]) [12] (by kernel_rfl) (by kernel_rfl) (by kernel_rfl) .nil
/- slices.Clone[[]ringhall/quota.Row,ringhall/quota.Row] -/
def G_slices_Clone_quota_Row_quota_Row_B (n : Nat) (v_a77 : Addr) (v_c78 : Nat) : Option ((List S_quota_Row)) :=
  (app 16 ([] : List S_quota_Row) ([] : (List S_quota_Row))).bind fun (v_a79 : (List S_quota_Row)) =>
  some v_a79
theorem G_slices_Clone_quota_Row_quota_Row_B_ok (n : Nat) (v_a77 : Addr) (v_c78 : Nat) (r : (List S_quota_Row)) (h : G_slices_Clone_quota_Row_quota_Row_B n v_a77 v_c78 = some r) : RetH Try.prog 191 [.d (.v (.slice (some v_a77) 0 v_c78))] [] (.srf 0) [.row 306 2 (r.map eS_quota_Row)] := by
  refine retH_run (n := 8) (fn := Try.f191) (c := bodyOf Try.f191) (by kernel_rfl) (by kernel_rfl) (by kernel_rfl) (by kernel_rfl) ?_
  have hF : KC 8 (FinH Try.prog Try.f191 [] (.srf 0) [.row 306 2 (r.map eS_quota_Row)]) := FinH.kc' (by kernel_rfl)
  unfold G_slices_Clone_quota_Row_quota_Row_B at h
  obtain ⟨v_a79, h75, h⟩ := bind_some h
  obtain rfl := Option.some.inj h
  exact pendH_sound TTok mix 10 (hs := [.c, .w (([] : List S_quota_Row).map eS_quota_Row), .w (v_a79.map eS_quota_Row)]) [15] (by kernel_rfl) (by kernel_rfl) (by kernel_rfl) (.cons (Eq.refl (([] : List S_quota_Row).map eS_quota_Row)) (.cons (app_ob (f := eS_quota_Row) (s := 2) h75 (fun _ => rfl)).1 (.cons (app_ob (f := eS_quota_Row) (s := 2) h75 (fun _ => rfl)).2.1 (.cons (app_ob (f := eS_quota_Row) (s := 2) h75 (fun _ => rfl)).2.2.1 (.cons (app_ob (f := eS_quota_Row) (s := 2) h75 (fun _ => rfl)).2.2.2 .nil)))))
/- slices.Clone[[]ringhall/quota.Row,ringhall/quota.Row] -/
def G_slices_Clone_quota_Row_quota_Row_C (n : Nat) (v_y80 : S_quota_Row) (v_ys81 : (List S_quota_Row)) : Option ((List S_quota_Row)) :=
  (app 16 ([] : List S_quota_Row) (v_y80 :: v_ys81)).bind fun (v_a82 : (List S_quota_Row)) =>
  some v_a82
theorem G_slices_Clone_quota_Row_quota_Row_C_ok (n : Nat) (v_y80 : S_quota_Row) (v_ys81 : (List S_quota_Row)) (r : (List S_quota_Row)) (h : G_slices_Clone_quota_Row_quota_Row_C n v_y80 v_ys81 = some r) : RetH Try.prog 191 [.d (.sl (eS_quota_Row v_y80 :: v_ys81.map eS_quota_Row))] [] (.srf 0) [.row 306 2 (r.map eS_quota_Row)] := by
  refine retH_run (n := 8) (fn := Try.f191) (c := bodyOf Try.f191) (by kernel_rfl) (by kernel_rfl) (by kernel_rfl) (by kernel_rfl) ?_
  have hF : KC 8 (FinH Try.prog Try.f191 [] (.srf 0) [.row 306 2 (r.map eS_quota_Row)]) := FinH.kc' (by kernel_rfl)
  unfold G_slices_Clone_quota_Row_quota_Row_C at h
  obtain ⟨v_a82, h76, h⟩ := bind_some h
  obtain rfl := Option.some.inj h
  exact pendH_sound TTok mix 10 (hs := [.c, .w (([] : List S_quota_Row).map eS_quota_Row), .w (v_a82.map eS_quota_Row)]) [15] (by kernel_rfl) (by kernel_rfl) (by kernel_rfl) (.cons (Eq.refl (([] : List S_quota_Row).map eS_quota_Row)) (.cons (app_ob (f := eS_quota_Row) (s := 2) h76 (fun _ => rfl)).1 (.cons (app_ob (f := eS_quota_Row) (s := 2) h76 (fun _ => rfl)).2.1 (.cons (app_ob (f := eS_quota_Row) (s := 2) h76 (fun _ => rfl)).2.2.1 (.cons (app_ob (f := eS_quota_Row) (s := 2) h76 (fun _ => rfl)).2.2.2 .nil)))))
def G_slices_Clone_quota_Row_quota_Row (n : Nat) (xs : (List S_quota_Row)) : Option (List S_quota_Row) := app 16 [] xs
theorem G_slices_Clone_quota_Row_quota_Row_ok (n : Nat) (xs : (List S_quota_Row)) (r : (List S_quota_Row)) (h : G_slices_Clone_quota_Row_quota_Row n xs = some r) : RetH Try.prog 191 [.d (.sl (xs.map eS_quota_Row))] [] (.srf 0) [.row 306 2 (r.map eS_quota_Row)] := by
  unfold G_slices_Clone_quota_Row_quota_Row at h
  have e : app 16 ([] : (List S_quota_Row)) [] = some [] := by simp [app]
  cases xs with
  | nil =>
    rw [e] at h; obtain rfl := Option.some.inj h
    exact clone_nil (fun c => G_slices_Clone_quota_Row_quota_Row_A_ok n c _ (by unfold G_slices_Clone_quota_Row_quota_Row_A; rfl)) (fun a c => G_slices_Clone_quota_Row_quota_Row_B_ok n a c _ (by unfold G_slices_Clone_quota_Row_quota_Row_B; rw [e]; rfl))
  | cons y ys => exact G_slices_Clone_quota_Row_quota_Row_C_ok n y ys _ (by unfold G_slices_Clone_quota_Row_quota_Row_C; rw [h]; rfl)
/- ringhall/quota.Set$1 -/
def G_quota_Set_1 (n : Nat) (v_r85 : S_quota_Row) (v_c86 : Int) : Option (Bool) :=
  some (v_r85.fUser == v_c86)
theorem G_quota_Set_1_ok (n : Nat) (v_r85 : S_quota_Row) (v_c86 : Int) (r : Bool) (h : G_quota_Set_1 n v_r85 v_c86 = some r) : Ret Try.prog 192 [eS_quota_Row v_r85, .iptr [.v (.int .i64 v_c86)] 0] (eB r) := by
  refine ret_run (n := 8) (fn := Try.f192) (c := bodyOf Try.f192) (by kernel_rfl) (by kernel_rfl) (by kernel_rfl) (by kernel_rfl) ?_
  have hF : KC 8 (FinR Try.prog Try.f192 (eB r)) := FinR.kc' (by kernel_rfl)
  unfold G_quota_Set_1 at h
  obtain rfl := Option.some.inj h
  exact pend_sound TTok mix 5 (hs := [.c, .c]) (by kernel_rfl) (by kernel_rfl) (by kernel_rfl) .nil
inductive G_slices_IndexFunc_quota_Row_quota_Row_L1_R where
  | x0 (v_x96 : Int)
  | x1 
def G_slices_IndexFunc_quota_Row_quota_Row_L1_ex : G_slices_IndexFunc_quota_Row_quota_Row_L1_R → Ex
  | .x0 _ => .ret
  | .x1  => .exit 0
def G_slices_IndexFunc_quota_Row_quota_Row_L1_st (v_s89 : (List S_quota_Row)) (v_f90 : (S_quota_Row → Option (Bool))) (v_f90_g : FuncId) (v_f90_c : (List PV)) : G_slices_IndexFunc_quota_Row_quota_Row_L1_R → PS
  | .x0 v_x96 => ⟨[dd, dd, dd, dd, .d (.v (.int .i64 v_x96)), dd, dd, dd, dd, dd, dd, dd, dd, dd, dd, dd, dd, dd, dd], []⟩
  | .x1  => ⟨[dd, dd, dd, dd, dd, dd, dd, dd, dd, dd, dd, dd, dd, dd, dd, dd, dd, dd, dd], []⟩
def G_slices_IndexFunc_quota_Row_quota_Row_L1_hd (v_s89 : (List S_quota_Row)) (v_f90 : (S_quota_Row → Option (Bool))) (v_f90_g : FuncId) (v_f90_c : (List PV)) (v_x91 : Int) : PS := ⟨[.d (.sl (v_s89.map eS_quota_Row)), .d (.clo v_f90_g v_f90_c), dd, dd, dd, dd, dd, .d (.v (.int .i64 (v_s89.length : Int))), .d (.v (.int .i64 v_x91)), dd, dd, dd, dd, dd, dd, dd, dd, dd, dd], []⟩
def G_slices_IndexFunc_quota_Row_quota_Row_L1 (n : Nat) (v_s89 : (List S_quota_Row)) (v_f90 : (S_quota_Row → Option (Bool))) : Nat → Int → Option G_slices_IndexFunc_quota_Row_quota_Row_L1_R
  | 0, _ => none
  | k + 1, v_x91 =>
    if v_x91 < (v_s89.length : Int) then
     (getI v_s89 v_x91).bind fun (v_y94 : S_quota_Row) =>
     (v_f90 v_y94).bind fun (v_r95 : (Bool)) =>
     if v_r95 = true then
      some (.x0 v_x91)
     else
      G_slices_IndexFunc_quota_Row_quota_Row_L1 n v_s89 v_f90 k (wi .i64 (v_x91 + 1))
    else
     some (.x1 )
theorem G_slices_IndexFunc_quota_Row_quota_Row_L1_ok {Fi : Ex → PS → Prop} (hF : KC 19 Fi) (ks : List Fr) (n : Nat) (v_s89 : (List S_quota_Row)) (v_f90 : (S_quota_Row → Option (Bool))) (v_f90_g : FuncId) (v_f90_c : (List PV)) (v_f90_h : ∀ (x0 : S_quota_Row) (r : Bool), v_f90 x0 = some r → Ret Try.prog v_f90_g ([eS_quota_Row x0] ++ v_f90_c) (eB r)) : ∀ (k : Nat) (v_x91 : Int) (o : G_slices_IndexFunc_quota_Row_quota_Row_L1_R), G_slices_IndexFunc_quota_Row_quota_Row_L1 n v_s89 v_f90 k v_x91 = some o → RunE Try.prog 19 Fi ks (G_slices_IndexFunc_quota_Row_quota_Row_L1_ex o) (G_slices_IndexFunc_quota_Row_quota_Row_L1_st v_s89 v_f90 v_f90_g v_f90_c o) → RunE Try.prog 19 Fi (.l k (cP (cB (cR (cL (cR (bodyOf Try.f253)))))) :: ks) .normal (G_slices_IndexFunc_quota_Row_quota_Row_L1_hd v_s89 v_f90 v_f90_g v_f90_c v_x91)
  | 0, v_x91, o, h, q => by rw [G_slices_IndexFunc_quota_Row_quota_Row_L1] at h; cases h
  | k + 1, v_x91, o, h, q => by
    rw [G_slices_IndexFunc_quota_Row_quota_Row_L1] at h
    by_cases h79 : v_x91 < (v_s89.length : Int)
    · rw [if_pos h79] at h
      obtain ⟨v_y94, h83, h⟩ := bind_some h
      obtain ⟨v_r95, h84, h⟩ := bind_some h
      by_cases h85 : v_r95 = true
      · rw [if_pos h85] at h
        cases h
        exact pkk_sound TTok mix hF 19 (hs := [.t true, .y (eS_quota_Row v_y94), .r (eB v_r95), .t true]) (ts := []) (s := []) (l := [4]) (by kernel_rfl) (by kernel_rfl) (.cons (dt h79) (.cons (getI_ob (f := eS_quota_Row) h83) (.cons (v_f90_h v_y94 _ h84) (.cons h85 .nil)))) q
      · rw [if_neg h85] at h
        exact pkk_sound TTok mix hF 16 (hs := [.t true, .y (eS_quota_Row v_y94), .r (eB v_r95), .t false]) (ts := []) (s := []) (l := [0, 1, 7, 8]) (by kernel_rfl) (by kernel_rfl) (.cons (dt h79) (.cons (getI_ob (f := eS_quota_Row) h83) (.cons (v_f90_h v_y94 _ h84) (.cons (vf h85) .nil)))) (G_slices_IndexFunc_quota_Row_quota_Row_L1_ok hF ks n v_s89 v_f90 v_f90_g v_f90_c v_f90_h k (wi .i64 (v_x91 + 1)) _ h q)
    · rw [if_neg h79] at h
      cases h
      exact pkk_sound TTok mix hF 8 (hs := [.t false]) (ts := []) (s := []) (l := []) (by kernel_rfl) (by kernel_rfl) (.cons (df h79) .nil) q
/- slices.IndexFunc[[]ringhall/quota.Row,ringhall/quota.Row] -/
def G_slices_IndexFunc_quota_Row_quota_Row (n : Nat) (v_s89 : (List S_quota_Row)) (v_f90 : (S_quota_Row → Option (Bool))) : Option (Int) :=
  (G_slices_IndexFunc_quota_Row_quota_Row_L1 n v_s89 v_f90 n 0).bind fun v_o97 => match v_o97 with
  | .x0 v_z98 =>
    some v_z98
  | .x1  =>
    some (-1)
theorem G_slices_IndexFunc_quota_Row_quota_Row_ok (n : Nat) (v_s89 : (List S_quota_Row)) (v_f90 : (S_quota_Row → Option (Bool))) (v_f90_g : FuncId) (v_f90_c : List PV) (v_f90_h : ∀ (x0 : S_quota_Row) (r : Bool), v_f90 x0 = some r → Ret Try.prog v_f90_g ([eS_quota_Row x0] ++ v_f90_c) (eB r)) (r : Int) (h : G_slices_IndexFunc_quota_Row_quota_Row n v_s89 v_f90 = some r) : Ret Try.prog 253 [(eL eS_quota_Row) v_s89, (.clo v_f90_g v_f90_c)] ((eI .i64) r) := by
  refine ret_run (n := 19) (fn := Try.f253) (c := bodyOf Try.f253) (by kernel_rfl) (by kernel_rfl) (by kernel_rfl) (by kernel_rfl) ?_
  have hF : KC 19 (FinR Try.prog Try.f253 ((eI .i64) r)) := FinR.kc' (by kernel_rfl)
  unfold G_slices_IndexFunc_quota_Row_quota_Row at h
  obtain ⟨v_o97, h86, h⟩ := bind_some h
  refine pkk_sound TTok mix hF 7 (hs := [.u (.d (.v (.int .i64 (v_s89.length : Int)))), .n n]) (ts := []) (s := []) (l := [0, 1, 7, 8]) (by kernel_rfl) (by kernel_rfl) (.cons (len_ob (f := eS_quota_Row) (l := v_s89)) .nil) (G_slices_IndexFunc_quota_Row_quota_Row_L1_ok hF (.b 0 :: .s (cR (cR (bodyOf Try.f253))) :: []) n v_s89 v_f90 v_f90_g v_f90_c v_f90_h n 0 _ h86 ?_)
  cases v_o97 with
  | x0 v_z98 =>
    try dsimp only at h
    obtain rfl := Option.some.inj h
    exact pend_sound TTok mix 2 (hs := []) (by kernel_rfl) (by kernel_rfl) (by kernel_rfl) .nil
  | x1  =>
    try dsimp only at h
    obtain rfl := Option.some.inj h
    exact pend_sound TTok mix 4 (hs := []) (by kernel_rfl) (by kernel_rfl) (by kernel_rfl) .nil
inductive G_slices_DeleteFunc_quota_Row_quota_Row_h_L1_R where
  | x0 (v_i111 : Int) (v_w112 : (List S_quota_Row))
def G_slices_DeleteFunc_quota_Row_quota_Row_h_L1_ex : G_slices_DeleteFunc_quota_Row_quota_Row_h_L1_R → Ex
  | .x0 _ _ => .exit 0
def G_slices_DeleteFunc_quota_Row_quota_Row_h_L1_st (v_del88 : (S_quota_Row → Option (Bool))) (v_del88_g : FuncId) (v_del88_c : (List PV)) : G_slices_DeleteFunc_quota_Row_quota_Row_h_L1_R → PS
  | .x0 v_i111 v_w112 => ⟨[.srf 1, dd, dd, dd, dd, .d (.v (.int .i64 v_i111)), dd, dd, dd, dd, dd, dd, dd, dd, dd, dd, dd, dd, dd, dd, dd, dd, dd, dd, dd, dd, dd, dd, dd, dd, dd, dd, dd, dd, dd, dd, dd, dd, dd, dd, dd, dd], [.gh 0 (.srf 1), .row 306 2 (v_w112.map eS_quota_Row)]⟩
def G_slices_DeleteFunc_quota_Row_quota_Row_h_L1_hd (v_del88 : (S_quota_Row → Option (Bool))) (v_del88_g : FuncId) (v_del88_c : (List PV)) (v_i100 : Int) (v_j101 : Int) (v_w102 : (List S_quota_Row)) : PS := ⟨[.srf 1, .d (.clo v_del88_g v_del88_c), dd, dd, dd, .d (.v (.int .i64 v_i100)), .d (.v (.int .i64 v_j101)), dd, dd, dd, dd, dd, dd, dd, dd, dd, dd, dd, dd, dd, dd, dd, dd, dd, dd, dd, dd, dd, dd, dd, dd, dd, dd, dd, dd, dd, dd, dd, dd, dd, dd, dd], [.gh 0 (.srf 1), .row 306 2 (v_w102.map eS_quota_Row)]⟩
def G_slices_DeleteFunc_quota_Row_quota_Row_h_L1 (n : Nat) (v_del88 : (S_quota_Row → Option (Bool))) : Nat → Int → Int → (List S_quota_Row) → Option G_slices_DeleteFunc_quota_Row_quota_Row_h_L1_R
  | 0, _, _, _ => none
  | k + 1, v_i100, v_j101, v_w102 =>
    if v_j101 < (v_w102.length : Int) then
     if 0 ≤ v_j101 ∧ (v_j101).toNat < v_w102.length then
      (v_w102[(v_j101).toNat]?).bind fun (v_y107 : S_quota_Row) =>
      (v_del88 v_y107).bind fun (v_r108 : (Bool)) =>
      if v_r108 = true then
       G_slices_DeleteFunc_quota_Row_quota_Row_h_L1 n v_del88 k v_i100 (wi .i64 (v_j101 + 1)) v_w102
      else
       if 0 ≤ v_i100 ∧ (v_i100).toNat < v_w102.length then
        (v_w102[(v_i100).toNat]?).bind fun (v_y110 : S_quota_Row) =>
        G_slices_DeleteFunc_quota_Row_quota_Row_h_L1 n v_del88 k (wi .i64 (v_i100 + 1)) (wi .i64 (v_j101 + 1)) (v_w102.set (v_i100).toNat v_y107)
       else none
     else none
    else
     some (.x0 v_i100 v_w102)
theorem G_slices_DeleteFunc_quota_Row_quota_Row_h_L1_ok {Fi : Ex → PS → Prop} (hF : KC 42 Fi) (ks : List Fr) (n : Nat) (v_del88 : (S_quota_Row → Option (Bool))) (v_del88_g : FuncId) (v_del88_c : (List PV)) (v_del88_h : ∀ (x0 : S_quota_Row) (r : Bool), v_del88 x0 = some r → Ret Try.prog v_del88_g ([eS_quota_Row x0] ++ v_del88_c) (eB r)) : ∀ (k : Nat) (v_i100 : Int) (v_j101 : Int) (v_w102 : (List S_quota_Row)) (o : G_slices_DeleteFunc_quota_Row_quota_Row_h_L1_R), G_slices_DeleteFunc_quota_Row_quota_Row_h_L1 n v_del88 k v_i100 v_j101 v_w102 = some o → RunE Try.prog 42 Fi ks (G_slices_DeleteFunc_quota_Row_quota_Row_h_L1_ex o) (G_slices_DeleteFunc_quota_Row_quota_Row_h_L1_st v_del88 v_del88_g v_del88_c o) → RunE Try.prog 42 Fi (.l k (cP (cB (cR (cL (cR (cR (cR (bodyOf Try.f190)))))))) :: ks) .normal (G_slices_DeleteFunc_quota_Row_quota_Row_h_L1_hd v_del88 v_del88_g v_del88_c v_i100 v_j101 v_w102)
  | 0, v_i100, v_j101, v_w102, o, h, q => by rw [G_slices_DeleteFunc_quota_Row_quota_Row_h_L1] at h; cases h
  | k + 1, v_i100, v_j101, v_w102, o, h, q => by
    rw [G_slices_DeleteFunc_quota_Row_quota_Row_h_L1] at h
    by_cases h89 : v_j101 < (v_w102.length : Int)
    · rw [if_pos h89] at h
      by_cases h99 : 0 ≤ v_j101 ∧ (v_j101).toNat < v_w102.length
      · rw [if_pos h99] at h
        obtain ⟨v_y107, h100, h⟩ := bind_some h
        obtain ⟨v_r108, h101, h⟩ := bind_some h
        by_cases h105 : v_r108 = true
        · rw [if_pos h105] at h
          exact pkk_sound TTok mix hF 16 (hs := [.u (.d (.v (.int .i64 (v_w102.length : Int)))), .t true, .y (eS_quota_Row v_y107), .c, .c, .r (eB v_r108), .t false]) (ts := []) (s := [0, 1]) (l := [0, 1, 5, 6]) (by kernel_rfl) (by kernel_rfl) (.cons (len_ob (f := eS_quota_Row) (l := v_w102)) (.cons (dt h89) (.cons (idx_ob (f := eS_quota_Row) h99) (.cons (get_ob (f := eS_quota_Row) h100) (.cons (show 0 + 2 ≤ 2 by decide) (.cons (v_del88_h v_y107 _ h101) (.cons (bnf h105) .nil))))))) (G_slices_DeleteFunc_quota_Row_quota_Row_h_L1_ok hF ks n v_del88 v_del88_g v_del88_c v_del88_h k v_i100 (wi .i64 (v_j101 + 1)) v_w102 _ h q)
        · rw [if_neg h105] at h
          by_cases h106 : 0 ≤ v_i100 ∧ (v_i100).toNat < v_w102.length
          · rw [if_pos h106] at h
            obtain ⟨v_y110, h107, h⟩ := bind_some h
            exact pkk_sound TTok mix hF 18 (hs := [.u (.d (.v (.int .i64 (v_w102.length : Int)))), .t true, .y (eS_quota_Row v_y107), .c, .c, .r (eB v_r108), .t true, .c, .w ((v_w102.set (v_i100).toNat v_y107).map eS_quota_Row), .y (eS_quota_Row v_y110)]) (ts := []) (s := [0, 1]) (l := [0, 1, 5, 6]) (by kernel_rfl) (by kernel_rfl) (.cons (len_ob (f := eS_quota_Row) (l := v_w102)) (.cons (dt h89) (.cons (idx_ob (f := eS_quota_Row) h99) (.cons (get_ob (f := eS_quota_Row) h100) (.cons (show 0 + 2 ≤ 2 by decide) (.cons (v_del88_h v_y107 _ h101) (.cons (bnt (vf h105)) (.cons (idx_ob (f := eS_quota_Row) h106) (.cons (get_ob (f := eS_quota_Row) h107) (.cons (Eq.refl (pcells (.agg [.v (.int .i64 v_y107.fUser), .v (.int .i64 v_y107.fLimit)]))) (.cons (set_ob (f := eS_quota_Row) (l := v_w102) (k := (v_i100).toNat) (z := v_y107) (p := .agg [.v (.int .i64 v_y107.fUser), .v (.int .i64 v_y107.fLimit)]) rfl) .nil))))))))))) (G_slices_DeleteFunc_quota_Row_quota_Row_h_L1_ok hF ks n v_del88 v_del88_g v_del88_c v_del88_h k (wi .i64 (v_i100 + 1)) (wi .i64 (v_j101 + 1)) (v_w102.set (v_i100).toNat v_y107) _ h q)
          · rw [if_neg h106] at h; cases h
      · rw [if_neg h99] at h; cases h
    · rw [if_neg h89] at h
      cases h
      exact pkk_sound TTok mix hF 8 (hs := [.u (.d (.v (.int .i64 (v_w102.length : Int)))), .t false]) (ts := []) (s := [0, 1]) (l := [0, 5]) (by kernel_rfl) (by kernel_rfl) (.cons (len_ob (f := eS_quota_Row) (l := v_w102)) (.cons (df h89) .nil)) q
/- slices.DeleteFunc[[]ringhall/quota.Row,ringhall/quota.Row] -/
def G_slices_DeleteFunc_quota_Row_quota_Row_h (n : Nat) (v_s87 : (List S_quota_Row)) (v_del88 : (S_quota_Row → Option (Bool))) : Option ((List S_quota_Row)) :=
  (G_slices_IndexFunc_quota_Row_quota_Row n v_s87 v_del88).bind fun (v_r99 : (Int)) =>
  if v_r99 = (-1) then
   some v_s87
  else
   (G_slices_DeleteFunc_quota_Row_quota_Row_h_L1 n v_del88 n v_r99 (wi .i64 (v_r99 + 1)) v_s87).bind fun v_o113 => match v_o113 with
   | .x0 v_z114 v_z115 =>
     if ((0 : Int) ≤ v_z114 ∧ v_z114 ≤ (v_z115.length : Int)) then
      if v_z114.toNat ≤ v_z115.length ∧ v_z115.length ≤ v_z115.length then
       (sub (clrR v_z115 v_z114.toNat v_z115.length (S_quota_Row.mk 0 0)) 0 v_z114).bind fun (v_s116 : (List S_quota_Row)) =>
       some v_s116
      else none
     else none
theorem G_slices_DeleteFunc_quota_Row_quota_Row_h_ok (n : Nat) (v_s87 : (List S_quota_Row)) (v_del88 : (S_quota_Row → Option (Bool))) (v_del88_g : FuncId) (v_del88_c : List PV) (v_del88_h : ∀ (x0 : S_quota_Row) (r : Bool), v_del88 x0 = some r → Ret Try.prog v_del88_g ([eS_quota_Row x0] ++ v_del88_c) (eB r)) (r : (List S_quota_Row)) (h : G_slices_DeleteFunc_quota_Row_quota_Row_h n v_s87 v_del88 = some r) : RetH Try.prog 190 [.srf 0, .d ((.clo v_del88_g v_del88_c))] [.row 306 2 (v_s87.map eS_quota_Row)] (.srf 1) [.none, .row 306 2 (r.map eS_quota_Row)] := by
  refine retH_run (n := 42) (fn := Try.f190) (c := bodyOf Try.f190) (by kernel_rfl) (by kernel_rfl) (by kernel_rfl) (by kernel_rfl) ?_
  have hF : KC 42 (FinH Try.prog Try.f190 [.row 306 2 (v_s87.map eS_quota_Row)] (.srf 1) [.none, .row 306 2 (r.map eS_quota_Row)]) := FinH.kc' (by kernel_rfl)
  unfold G_slices_DeleteFunc_quota_Row_quota_Row_h at h
  obtain ⟨v_r99, h87, h⟩ := bind_some h
  by_cases h88 : v_r99 = (-1)
  · rw [if_pos h88] at h
    obtain rfl := Option.some.inj h
    exact pendH_sound TTok mix 13 (hs := [.c, .r ((eI .i64) v_r99), .t true, .dl 4, .mv 0]) [0, 29] (by kernel_rfl) (by kernel_rfl) (by kernel_rfl) (.cons (G_slices_IndexFunc_quota_Row_quota_Row_ok n v_s87 v_del88 v_del88_g v_del88_c v_del88_h _ h87) (.cons (bt h88) .nil))
  · rw [if_neg h88] at h
    obtain ⟨v_o113, h108, h⟩ := bind_some h
    refine pkk_sound TTok mix hF 14 (hs := [.c, .r ((eI .i64) v_r99), .t false, .n n]) (ts := []) (s := [1, 0]) (l := [0, 1, 5, 6]) (by kernel_rfl) (by kernel_rfl) (.cons (G_slices_IndexFunc_quota_Row_quota_Row_ok n v_s87 v_del88 v_del88_g v_del88_c v_del88_h _ h87) (.cons (bf h88) .nil)) (G_slices_DeleteFunc_quota_Row_quota_Row_h_L1_ok hF (.b 0 :: .s (cR (cR (cR (cR (bodyOf Try.f190))))) :: []) n v_del88 v_del88_g v_del88_c v_del88_h n v_r99 (wi .i64 (v_r99 + 1)) v_s87 _ h108 ?_)
    cases v_o113 with
    | x0 v_z114 v_z115 =>
      try dsimp only at h
      by_cases h109 : ((0 : Int) ≤ v_z114 ∧ v_z114 ≤ (v_z115.length : Int))
      · rw [if_pos h109] at h
        by_cases h110 : v_z114.toNat ≤ v_z115.length ∧ v_z115.length ≤ v_z115.length
        · rw [if_pos h110] at h
          obtain ⟨v_s116, h111, h⟩ := bind_some h
          obtain rfl := Option.some.inj h
          exact pendH_sound TTok mix 6 (hs := [.e 8 [1] (.ssl 1 v_z114.toNat v_z115.length 2) [], .e 11 [1] (dd) [(1, .row 306 2 ((clrR v_z115 v_z114.toNat v_z115.length (S_quota_Row.mk 0 0)).map eS_quota_Row))], .w (v_s116.map eS_quota_Row)]) [1, 20] (by kernel_rfl) (by kernel_rfl) (by kernel_rfl) (.cons (xs10 (P := Try.prog) (T := TT) (f := eS_quota_Row) (t := 164) (e := 306) (s := 2) (l := 1) (L := v_z115) (x := (.tmp 36)) (lo := (.tmp 37)) (a := v_z114) (ka := .i64) (by kernel_rfl) h109) (.cons (xclr (ti := ⟨2, 16, .st [(0, 3), (1, 3)], [.i .i64, .i .i64]⟩) (P := Try.prog) (T := TT) (f := eS_quota_Row) (t := 164) (e := 306) (s := 2) (l := 1) (i := v_z114.toNat) (j := v_z115.length) (z := (S_quota_Row.mk 0 0)) (L := v_z115) (x := (.tmp 38)) (p := .agg [.v (.int .i64 0), .v (.int .i64 0)]) (by kernel_rfl) (by kernel_rfl) (by kernel_rfl) (by kernel_rfl) (by decide) rfl h110) (.cons (Eq.refl (0 : Int)) (.cons (subR_ob (f := eS_quota_Row) h111).1 (.cons (subR_ob (f := eS_quota_Row) h111).2.1 (.cons (subR_ob (f := eS_quota_Row) h111).2.2 .nil))))))
        · rw [if_neg h110] at h; cases h
      · rw [if_neg h109] at h; cases h
/- slices.Insert[[]ringhall/quota.Row,ringhall/quota.Row] -/
def G_slices_Insert_quota_Row_quota_Row_hC (n : Nat) (v_C130 : Nat) (v_s129 : (List S_quota_Row)) (v_i131 : Int) (v_v132 : (List S_quota_Row)) : Option ((List S_quota_Row)) :=
  if (0 ≤ v_i131 ∧ v_i131 ≤ (v_s129.length : Int)) ∧ v_s129.length ≤ v_C130 then
   if (v_v132.length : Int) = 0 then
    some v_s129
   else
    if v_i131 = (v_s129.length : Int) then
     (app 16 v_s129 v_v132).bind fun (v_a134 : (List S_quota_Row)) =>
     some v_a134
    else
     if (wi .i64 ((v_s129.length : Int) + (v_v132.length : Int))) > (v_C130 : Int) then
      if (0 ≤ v_i131 ∧ v_i131 ≤ (v_s129.length : Int)) ∧ v_s129.length ≤ v_C130 then
       if (wi .i64 ((wi .i64 ((v_s129.length : Int) + (v_v132.length : Int))) - v_i131)) = (((v_s129.length + v_v132.length - v_i131.toNat) : Nat) : Int) ∧ v_i131.toNat ≤ v_s129.length ∧ 0 < (v_s129.length + v_v132.length - v_i131.toNat) ∧ v_C130 < v_i131.toNat + (v_s129.length + v_v132.length - v_i131.toNat) ∧ v_i131.toNat + (v_s129.length + v_v132.length - v_i131.toNat) ≤ maxLen ∧ (v_i131.toNat + (v_s129.length + v_v132.length - v_i131.toNat)) * 16 ≤ 140737488355328 then
        if ((0 : Int) ≤ v_i131 ∧ v_i131 ≤ ((v_s129.take v_i131.toNat ++ List.replicate (v_s129.length + v_v132.length - v_i131.toNat) (S_quota_Row.mk 0 0)).length : Int)) then
         if (v_s129.take v_i131.toNat ++ List.replicate (v_s129.length + v_v132.length - v_i131.toNat) (S_quota_Row.mk 0 0)).length ≤ (v_s129.take v_i131.toNat ++ List.replicate (v_s129.length + v_v132.length - v_i131.toNat) (S_quota_Row.mk 0 0)).length then
          if ((0 : Int) ≤ (wi .i64 (v_i131 + (v_v132.length : Int))) ∧ (wi .i64 (v_i131 + (v_v132.length : Int))) ≤ ((cpyR (v_s129.take v_i131.toNat ++ List.replicate (v_s129.length + v_v132.length - v_i131.toNat) (S_quota_Row.mk 0 0)) v_i131.toNat ((v_s129.take v_i131.toNat ++ List.replicate (v_s129.length + v_v132.length - v_i131.toNat) (S_quota_Row.mk 0 0)).length) v_v132).length : Int)) then
           if (0 ≤ v_i131 ∧ v_i131 ≤ (v_s129.length : Int)) ∧ v_s129.length ≤ v_C130 then
            if (cpyR (v_s129.take v_i131.toNat ++ List.replicate (v_s129.length + v_v132.length - v_i131.toNat) (S_quota_Row.mk 0 0)) v_i131.toNat ((v_s129.take v_i131.toNat ++ List.replicate (v_s129.length + v_v132.length - v_i131.toNat) (S_quota_Row.mk 0 0)).length) v_v132).length ≤ (cpyR (v_s129.take v_i131.toNat ++ List.replicate (v_s129.length + v_v132.length - v_i131.toNat) (S_quota_Row.mk 0 0)) v_i131.toNat ((v_s129.take v_i131.toNat ++ List.replicate (v_s129.length + v_v132.length - v_i131.toNat) (S_quota_Row.mk 0 0)).length) v_v132).length ∧ v_s129.length ≤ v_s129.length then
             some (cpyR (cpyR (v_s129.take v_i131.toNat ++ List.replicate (v_s129.length + v_v132.length - v_i131.toNat) (S_quota_Row.mk 0 0)) v_i131.toNat ((v_s129.take v_i131.toNat ++ List.replicate (v_s129.length + v_v132.length - v_i131.toNat) (S_quota_Row.mk 0 0)).length) v_v132) ((wi .i64 (v_i131 + (v_v132.length : Int))).toNat) ((cpyR (v_s129.take v_i131.toNat ++ List.replicate (v_s129.length + v_v132.length - v_i131.toNat) (S_quota_Row.mk 0 0)) v_i131.toNat ((v_s129.take v_i131.toNat ++ List.replicate (v_s129.length + v_v132.length - v_i131.toNat) (S_quota_Row.mk 0 0)).length) v_v132).length) ((v_s129.take v_s129.length).drop v_i131.toNat))
            else none
           else none
          else none
         else none
        else none
       else none
      else none
     else
      if 0 < v_v132.length ∧ (v_s129.length + v_v132.length) ≤ v_C130 ∧ (wi .i64 ((v_s129.length : Int) + (v_v132.length : Int))) = (((v_s129.length + v_v132.length) : Nat) : Int) then
       if (wi .i64 (v_i131 + (v_v132.length : Int))) = (((v_i131.toNat + v_v132.length) : Nat) : Int) ∧ (v_i131.toNat + v_v132.length) ≤ (v_s129.length + v_v132.length) then
        if (wi .i64 (v_i131 + (v_v132.length : Int))) = (((v_i131.toNat + v_v132.length) : Nat) : Int) ∧ (v_i131.toNat + v_v132.length) ≤ (v_s129.length + v_v132.length) then
         if 0 ≤ v_i131 ∧ v_i131 ≤ (((v_s129.length + v_v132.length) : Nat) : Int) then
          if 0 ≤ v_i131 ∧ v_i131 ≤ (((v_s129.length + v_v132.length) : Nat) : Int) then
           some ((v_s129.take v_i131.toNat) ++ v_v132 ++ (v_s129.drop v_i131.toNat))
          else none
         else none
        else none
       else none
      else none
  else none
theorem G_slices_Insert_quota_Row_quota_Row_hC_ok (n : Nat) (v_C130 : Nat) (v_s129 : (List S_quota_Row)) (v_i131 : Int) (v_v132 : (List S_quota_Row)) (r : (List S_quota_Row)) (h : G_slices_Insert_quota_Row_quota_Row_hC n v_C130 v_s129 v_i131 v_v132 = some r) : RetH Try.prog 193 [.srf 0, .d ((eI .i64) v_i131), .d ((eL eS_quota_Row) v_v132)] [.cu (rowC 306 2 v_C130 (v_s129.map eS_quota_Row)) []] (.srf 1) [.none, .row 306 2 (r.map eS_quota_Row)] := by
  refine retH_run (n := 95) (fn := Try.f193) (c := bodyOf Try.f193) (by kernel_rfl) (by kernel_rfl) (by kernel_rfl) (by kernel_rfl) ?_
  have hF : KC 95 (FinH Try.prog Try.f193 [.cu (rowC 306 2 v_C130 (v_s129.map eS_quota_Row)) []] (.srf 1) [.none, .row 306 2 (r.map eS_quota_Row)]) := FinH.kc' (by kernel_rfl)
  unfold G_slices_Insert_quota_Row_quota_Row_hC at h
  by_cases h124 : (0 ≤ v_i131 ∧ v_i131 ≤ (v_s129.length : Int)) ∧ v_s129.length ≤ v_C130
  · rw [if_pos h124] at h
    by_cases h125 : (v_v132.length : Int) = 0
    · rw [if_pos h125] at h
      obtain rfl := Option.some.inj h
      exact pendH_sound TTok mix 14 (hs := [.e 11 [0] (.ssl 0 v_i131.toNat v_s129.length 2) [], .u (.d (.v (.int .i64 (v_v132.length : Int)))), .t true, .e 29 [0, 29] (.srf 29) [(0, .none), (29, .row 306 2 (v_s129.map eS_quota_Row))]]) [0, 29] (by kernel_rfl) (by kernel_rfl) (by kernel_rfl) (.cons (ext_same (yc10 (P := Try.prog) (T := TT) (f := eS_quota_Row) (t := 164) (e := 306) (s := 2) (l := 0) (L := v_s129) (x := (.tmp 10)) (C := v_C130) (lo := (.tmp 11)) (A := v_i131) (ka := .i64) (by kernel_rfl) h124.1 h124.2)) (.cons (len_ob (f := eS_quota_Row) (l := v_v132)) (.cons (bt h125) (.cons (ymv (L := v_s129) (C := v_C130) (P := Try.prog) (T := TT) (f := eS_quota_Row) (e := 306) (s := 2) (l := 0) (nl := 29) (x := (.tmp 0)) (by decide)) .nil))))
    · rw [if_neg h125] at h
      by_cases h128 : v_i131 = (v_s129.length : Int)
      · rw [if_pos h128] at h
        obtain ⟨v_a134, h129, h⟩ := bind_some h
        obtain rfl := Option.some.inj h
        exact pendH_sound TTok mix 21 (hs := [.e 11 [0] (.ssl 0 v_i131.toNat v_s129.length 2) [], .u (.d (.v (.int .i64 (v_v132.length : Int)))), .t false, .e 32 [0] (.d (.v (.int .i64 (v_s129.length : Int)))) [], .t true, .e 53 [0, 53] (.srf 53) [(0, .none), (53, .row 306 2 (v_a134.map eS_quota_Row))]]) [0, 53] (by kernel_rfl) (by kernel_rfl) (by kernel_rfl) (.cons (ext_same (yc10 (P := Try.prog) (T := TT) (f := eS_quota_Row) (t := 164) (e := 306) (s := 2) (l := 0) (L := v_s129) (x := (.tmp 10)) (C := v_C130) (lo := (.tmp 11)) (A := v_i131) (ka := .i64) (by kernel_rfl) h124.1 h124.2)) (.cons (len_ob (f := eS_quota_Row) (l := v_v132)) (.cons (bf h125) (.cons (ylen (P := Try.prog) (T := TT) (f := eS_quota_Row) (t := 164) (e := 306) (s := 2) (l := 0) (L := v_s129) (C := v_C130) (x := (.tmp 18)) (by kernel_rfl)) (.cons (bt h128) (.cons (yapp (P := Try.prog) (T := TT) (f := eS_quota_Row) (t := 164) (e := 306) (s := 2) (l := 0) (nl := 53) (C := v_C130) (x := (.tmp 23)) (y := (.tmp 24)) (ti := ⟨2, 16, .st [(0, 3), (1, 3)], [.i .i64, .i .i64]⟩) (by kernel_rfl) h129 (by kernel_rfl) (by kernel_rfl) (by decide) (fun _ => rfl) (by decide)) .nil))))))
      · rw [if_neg h128] at h
        by_cases h138 : (wi .i64 ((v_s129.length : Int) + (v_v132.length : Int))) > (v_C130 : Int)
        · rw [if_pos h138] at h
          by_cases h139 : (0 ≤ v_i131 ∧ v_i131 ≤ (v_s129.length : Int)) ∧ v_s129.length ≤ v_C130
          · rw [if_pos h139] at h
            by_cases h140 : (wi .i64 ((wi .i64 ((v_s129.length : Int) + (v_v132.length : Int))) - v_i131)) = (((v_s129.length + v_v132.length - v_i131.toNat) : Nat) : Int) ∧ v_i131.toNat ≤ v_s129.length ∧ 0 < (v_s129.length + v_v132.length - v_i131.toNat) ∧ v_C130 < v_i131.toNat + (v_s129.length + v_v132.length - v_i131.toNat) ∧ v_i131.toNat + (v_s129.length + v_v132.length - v_i131.toNat) ≤ maxLen ∧ (v_i131.toNat + (v_s129.length + v_v132.length - v_i131.toNat)) * 16 ≤ 140737488355328
            · rw [if_pos h140] at h
              by_cases h141 : ((0 : Int) ≤ v_i131 ∧ v_i131 ≤ ((v_s129.take v_i131.toNat ++ List.replicate (v_s129.length + v_v132.length - v_i131.toNat) (S_quota_Row.mk 0 0)).length : Int))
              · rw [if_pos h141] at h
                by_cases h142 : (v_s129.take v_i131.toNat ++ List.replicate (v_s129.length + v_v132.length - v_i131.toNat) (S_quota_Row.mk 0 0)).length ≤ (v_s129.take v_i131.toNat ++ List.replicate (v_s129.length + v_v132.length - v_i131.toNat) (S_quota_Row.mk 0 0)).length
                · rw [if_pos h142] at h
                  by_cases h143 : ((0 : Int) ≤ (wi .i64 (v_i131 + (v_v132.length : Int))) ∧ (wi .i64 (v_i131 + (v_v132.length : Int))) ≤ ((cpyR (v_s129.take v_i131.toNat ++ List.replicate (v_s129.length + v_v132.length - v_i131.toNat) (S_quota_Row.mk 0 0)) v_i131.toNat ((v_s129.take v_i131.toNat ++ List.replicate (v_s129.length + v_v132.length - v_i131.toNat) (S_quota_Row.mk 0 0)).length) v_v132).length : Int))
                  · rw [if_pos h143] at h
                    by_cases h144 : (0 ≤ v_i131 ∧ v_i131 ≤ (v_s129.length : Int)) ∧ v_s129.length ≤ v_C130
                    · rw [if_pos h144] at h
                      by_cases h145 : (cpyR (v_s129.take v_i131.toNat ++ List.replicate (v_s129.length + v_v132.length - v_i131.toNat) (S_quota_Row.mk 0 0)) v_i131.toNat ((v_s129.take v_i131.toNat ++ List.replicate (v_s129.length + v_v132.length - v_i131.toNat) (S_quota_Row.mk 0 0)).length) v_v132).length ≤ (cpyR (v_s129.take v_i131.toNat ++ List.replicate (v_s129.length + v_v132.length - v_i131.toNat) (S_quota_Row.mk 0 0)) v_i131.toNat ((v_s129.take v_i131.toNat ++ List.replicate (v_s129.length + v_v132.length - v_i131.toNat) (S_quota_Row.mk 0 0)).length) v_v132).length ∧ v_s129.length ≤ v_s129.length
                      · rw [if_pos h145] at h
                        obtain rfl := Option.some.inj h
                        exact pendH_sound TTok mix 32 (hs := [.e 11 [0] (.ssl 0 v_i131.toNat v_s129.length 2) [], .u (.d (.v (.int .i64 (v_v132.length : Int)))), .t false, .e 32 [0] (.d (.v (.int .i64 (v_s129.length : Int)))) [], .t false, .e 59 [0] (.d (.v (.int .i64 (v_C130 : Int)))) [], .t true, .e 71 [0] (.ssl 0 0 v_i131.toNat 2) [], .e 89 [0, 89] (.srf 89) [(89, .row 306 2 ((v_s129.take v_i131.toNat ++ List.replicate (v_s129.length + v_v132.length - v_i131.toNat) (S_quota_Row.mk 0 0)).map eS_quota_Row))], .e 101 [89] (.ssl 89 v_i131.toNat ((v_s129.take v_i131.toNat ++ List.replicate (v_s129.length + v_v132.length - v_i131.toNat) (S_quota_Row.mk 0 0)).length) 2) [], .e 107 [89] (.d (.v (.int .i64 ((Nat.min v_v132.length ((v_s129.take v_i131.toNat ++ List.replicate (v_s129.length + v_v132.length - v_i131.toNat) (S_quota_Row.mk 0 0)).length - v_i131.toNat) : Nat) : Int)))) [(89, .row 306 2 ((cpyR (v_s129.take v_i131.toNat ++ List.replicate (v_s129.length + v_v132.length - v_i131.toNat) (S_quota_Row.mk 0 0)) v_i131.toNat ((v_s129.take v_i131.toNat ++ List.replicate (v_s129.length + v_v132.length - v_i131.toNat) (S_quota_Row.mk 0 0)).length) v_v132).map eS_quota_Row))], .e 122 [89] (.ssl 89 ((wi .i64 (v_i131 + (v_v132.length : Int))).toNat) ((cpyR (v_s129.take v_i131.toNat ++ List.replicate (v_s129.length + v_v132.length - v_i131.toNat) (S_quota_Row.mk 0 0)) v_i131.toNat ((v_s129.take v_i131.toNat ++ List.replicate (v_s129.length + v_v132.length - v_i131.toNat) (S_quota_Row.mk 0 0)).length) v_v132).length) 2) [], .e 131 [0] (.ssl 0 v_i131.toNat v_s129.length 2) [], .e 134 [89, 0] (.d (.v (.int .i64 ((Nat.min ((v_s129.take v_s129.length).drop v_i131.toNat).length ((cpyR (v_s129.take v_i131.toNat ++ List.replicate (v_s129.length + v_v132.length - v_i131.toNat) (S_quota_Row.mk 0 0)) v_i131.toNat ((v_s129.take v_i131.toNat ++ List.replicate (v_s129.length + v_v132.length - v_i131.toNat) (S_quota_Row.mk 0 0)).length) v_v132).length - (wi .i64 (v_i131 + (v_v132.length : Int))).toNat) : Nat) : Int)))) [(89, .row 306 2 ((cpyR (cpyR (v_s129.take v_i131.toNat ++ List.replicate (v_s129.length + v_v132.length - v_i131.toNat) (S_quota_Row.mk 0 0)) v_i131.toNat ((v_s129.take v_i131.toNat ++ List.replicate (v_s129.length + v_v132.length - v_i131.toNat) (S_quota_Row.mk 0 0)).length) v_v132) ((wi .i64 (v_i131 + (v_v132.length : Int))).toNat) ((cpyR (v_s129.take v_i131.toNat ++ List.replicate (v_s129.length + v_v132.length - v_i131.toNat) (S_quota_Row.mk 0 0)) v_i131.toNat ((v_s129.take v_i131.toNat ++ List.replicate (v_s129.length + v_v132.length - v_i131.toNat) (S_quota_Row.mk 0 0)).length) v_v132).length) ((v_s129.take v_s129.length).drop v_i131.toNat)).map eS_quota_Row)), (0, .none)]]) [0, 89] (by kernel_rfl) (by kernel_rfl) (by kernel_rfl) (.cons (ext_same (yc10 (P := Try.prog) (T := TT) (f := eS_quota_Row) (t := 164) (e := 306) (s := 2) (l := 0) (L := v_s129) (x := (.tmp 10)) (C := v_C130) (lo := (.tmp 11)) (A := v_i131) (ka := .i64) (by kernel_rfl) h124.1 h124.2)) (.cons (len_ob (f := eS_quota_Row) (l := v_v132)) (.cons (bf h125) (.cons (ylen (P := Try.prog) (T := TT) (f := eS_quota_Row) (t := 164) (e := 306) (s := 2) (l := 0) (L := v_s129) (C := v_C130) (x := (.tmp 18)) (by kernel_rfl)) (.cons (bf h128) (.cons (ycap (P := Try.prog) (T := TT) (f := eS_quota_Row) (t := 164) (e := 306) (s := 2) (l := 0) (L := v_s129) (C := v_C130) (x := (.tmp 29)) (by kernel_rfl)) (.cons (dt h138) (.cons (ext_same (yc01 (P := Try.prog) (T := TT) (f := eS_quota_Row) (t := 164) (e := 306) (s := 2) (l := 0) (L := v_s129) (x := (.tmp 32)) (C := v_C130) (hi := (.tmp 33)) (B := v_i131) (kb := .i64) (by kernel_rfl) h139.1 h139.2)) (.cons (yapZ (P := Try.prog) (T := TT) (f := eS_quota_Row) (t := 164) (e := 306) (s := 2) (l := 0) (nl := 89) (C := v_C130) (i := v_i131.toNat) (k := (v_s129.length + v_v132.length - v_i131.toNat)) (L := v_s129) (x := (.tmp 34)) (y := (.tmp 39)) (ti := ⟨2, 16, .st [(0, 3), (1, 3)], [.i .i64, .i .i64]⟩) (tn := 3) (kn := .i64) (kq := .i64) (z := (S_quota_Row.mk 0 0)) (p := .agg [.v (.int .i64 0), .v (.int .i64 0)]) (B := (wi .i64 ((wi .i64 ((v_s129.length : Int) + (v_v132.length : Int))) - v_i131))) (by kernel_rfl) (by kernel_rfl) (by kernel_rfl) (by kernel_rfl) (by kernel_rfl) (by decide) rfl h140.1 h140.2.1 h140.2.2.1 h140.2.2.2.1 h140.2.2.2.2.1 h140.2.2.2.2.2 (by decide)) (.cons (xs10 (P := Try.prog) (T := TT) (f := eS_quota_Row) (t := 164) (e := 306) (s := 2) (l := 89) (L := (v_s129.take v_i131.toNat ++ List.replicate (v_s129.length + v_v132.length - v_i131.toNat) (S_quota_Row.mk 0 0))) (x := (.tmp 41)) (lo := (.tmp 42)) (a := v_i131) (ka := .i64) (by kernel_rfl) h141) (.cons (xcpD (P := Try.prog) (T := TT) (f := eS_quota_Row) (t := 164) (t' := 164) (e := 306) (s := 2) (l := 89) (x := (.tmp 43)) (y := (.tmp 44)) (ti := ⟨2, 16, .st [(0, 3), (1, 3)], [.i .i64, .i .i64]⟩) (L := (v_s129.take v_i131.toNat ++ List.replicate (v_s129.length + v_v132.length - v_i131.toNat) (S_quota_Row.mk 0 0))) (Y := v_v132) (i := v_i131.toNat) (j := (v_s129.take v_i131.toNat ++ List.replicate (v_s129.length + v_v132.length - v_i131.toNat) (S_quota_Row.mk 0 0)).length) (by kernel_rfl) (by kernel_rfl) h142 (fun _ => rfl)) (.cons (xs10 (P := Try.prog) (T := TT) (f := eS_quota_Row) (t := 164) (e := 306) (s := 2) (l := 89) (L := (cpyR (v_s129.take v_i131.toNat ++ List.replicate (v_s129.length + v_v132.length - v_i131.toNat) (S_quota_Row.mk 0 0)) v_i131.toNat ((v_s129.take v_i131.toNat ++ List.replicate (v_s129.length + v_v132.length - v_i131.toNat) (S_quota_Row.mk 0 0)).length) v_v132)) (x := (.tmp 46)) (lo := (.tmp 49)) (a := (wi .i64 (v_i131 + (v_v132.length : Int)))) (ka := .i64) (by kernel_rfl) h143) (.cons (ext_same (yc10 (P := Try.prog) (T := TT) (f := eS_quota_Row) (t := 164) (e := 306) (s := 2) (l := 0) (L := v_s129) (x := (.tmp 51)) (C := v_C130) (lo := (.tmp 52)) (A := v_i131) (ka := .i64) (by kernel_rfl) h144.1 h144.2)) (.cons (ext_kill (l := 0) (ycpC (P := Try.prog) (T := TT) (f := eS_quota_Row) (t := 164) (t' := 164) (e := 306) (s := 2) (l := 89) (x := (.tmp 50)) (y := (.tmp 53)) (ti := ⟨2, 16, .st [(0, 3), (1, 3)], [.i .i64, .i .i64]⟩) (L := (cpyR (v_s129.take v_i131.toNat ++ List.replicate (v_s129.length + v_v132.length - v_i131.toNat) (S_quota_Row.mk 0 0)) v_i131.toNat ((v_s129.take v_i131.toNat ++ List.replicate (v_s129.length + v_v132.length - v_i131.toNat) (S_quota_Row.mk 0 0)).length) v_v132)) (i := (wi .i64 (v_i131 + (v_v132.length : Int))).toNat) (j := (cpyR (v_s129.take v_i131.toNat ++ List.replicate (v_s129.length + v_v132.length - v_i131.toNat) (S_quota_Row.mk 0 0)) v_i131.toNat ((v_s129.take v_i131.toNat ++ List.replicate (v_s129.length + v_v132.length - v_i131.toNat) (S_quota_Row.mk 0 0)).length) v_v132).length) (p := v_i131.toNat) (q := v_s129.length) (Y := v_s129) (l' := 0) (C := v_C130) (by kernel_rfl) (by kernel_rfl) h145.1 h145.2)) .nil))))))))))))))
                      · rw [if_neg h145] at h; cases h
                    · rw [if_neg h144] at h; cases h
                  · rw [if_neg h143] at h; cases h
                · rw [if_neg h142] at h; cases h
              · rw [if_neg h141] at h; cases h
            · rw [if_neg h140] at h; cases h
          · rw [if_neg h139] at h; cases h
        · rw [if_neg h138] at h
          by_cases h146 : 0 < v_v132.length ∧ (v_s129.length + v_v132.length) ≤ v_C130 ∧ (wi .i64 ((v_s129.length : Int) + (v_v132.length : Int))) = (((v_s129.length + v_v132.length) : Nat) : Int)
          · rw [if_pos h146] at h
            by_cases h147 : (wi .i64 (v_i131 + (v_v132.length : Int))) = (((v_i131.toNat + v_v132.length) : Nat) : Int) ∧ (v_i131.toNat + v_v132.length) ≤ (v_s129.length + v_v132.length)
            · rw [if_pos h147] at h
              by_cases h151 : (wi .i64 (v_i131 + (v_v132.length : Int))) = (((v_i131.toNat + v_v132.length) : Nat) : Int) ∧ (v_i131.toNat + v_v132.length) ≤ (v_s129.length + v_v132.length)
              · rw [if_pos h151] at h
                by_cases h152 : 0 ≤ v_i131 ∧ v_i131 ≤ (((v_s129.length + v_v132.length) : Nat) : Int)
                · rw [if_pos h152] at h
                  by_cases h153 : 0 ≤ v_i131 ∧ v_i131 ≤ (((v_s129.length + v_v132.length) : Nat) : Int)
                  · rw [if_pos h153] at h
                    obtain rfl := Option.some.inj h
                    exact pendH_sound TTok mix 37 (hs := [.e 11 [0] (.ssl 0 v_i131.toNat v_s129.length 2) [], .u (.d (.v (.int .i64 (v_v132.length : Int)))), .t false, .e 32 [0] (.d (.v (.int .i64 (v_s129.length : Int)))) [], .t false, .e 59 [0] (.d (.v (.int .i64 (v_C130 : Int)))) [], .t false, .e 77 [0] (.ssl 0 0 (v_s129.length + v_v132.length) 2) [(0, .cu (rowH 306 2 v_C130 (v_s129.map eS_quota_Row) v_v132.length (([] : List S_quota_Row).map eS_quota_Row)) [])], .e 98 [0] (.ssl 0 (v_i131.toNat + v_v132.length) (v_s129.length + v_v132.length) 2) [], .e 101 [0] (.d (.v (.bool false))) [], .c, .e 119 [0] (.ssl 0 (v_i131.toNat + v_v132.length) (v_s129.length + v_v132.length) 2) [], .e 128 [0] (.ssl 0 v_i131.toNat (v_s129.length + v_v132.length) 2) [], .e 131 [0] (.d (.v (.int .i64 ((v_s129.length - v_i131.toNat : Nat) : Int)))) [(0, .cu (rowH 306 2 v_C130 ((v_s129.take v_i131.toNat).map eS_quota_Row) v_v132.length ((v_s129.drop v_i131.toNat).map eS_quota_Row)) [])], .e 140 [0] (.ssl 0 v_i131.toNat (v_s129.length + v_v132.length) 2) [], .e 146 [0] (.d (.v (.int .i64 (v_v132.length : Int)))) [(0, .cu (rowH 306 2 v_C130 (((v_s129.take v_i131.toNat) ++ v_v132 ++ (v_s129.drop v_i131.toNat)).map eS_quota_Row) 0 (([] : List S_quota_Row).map eS_quota_Row)) [])], .e 149 [0, 149] (.srf 149) [(0, .none), (149, .row 306 2 (((v_s129.take v_i131.toNat) ++ v_v132 ++ (v_s129.drop v_i131.toNat)).map eS_quota_Row))]]) [0, 149] (by kernel_rfl) (by kernel_rfl) (by kernel_rfl) (.cons (ext_same (yc10 (P := Try.prog) (T := TT) (f := eS_quota_Row) (t := 164) (e := 306) (s := 2) (l := 0) (L := v_s129) (x := (.tmp 10)) (C := v_C130) (lo := (.tmp 11)) (A := v_i131) (ka := .i64) (by kernel_rfl) h124.1 h124.2)) (.cons (len_ob (f := eS_quota_Row) (l := v_v132)) (.cons (bf h125) (.cons (ylen (P := Try.prog) (T := TT) (f := eS_quota_Row) (t := 164) (e := 306) (s := 2) (l := 0) (L := v_s129) (C := v_C130) (x := (.tmp 18)) (by kernel_rfl)) (.cons (bf h128) (.cons (ycap (P := Try.prog) (T := TT) (f := eS_quota_Row) (t := 164) (e := 306) (s := 2) (l := 0) (L := v_s129) (C := v_C130) (x := (.tmp 29)) (by kernel_rfl)) (.cons (df h138) (.cons (ycup (P := Try.prog) (T := TT) (f := eS_quota_Row) (t := 164) (e := 306) (s := 2) (l := 0) (L := v_s129) (x := (.tmp 56)) (C := v_C130) (m := v_v132.length) (hi := (.tmp 59)) (B := (wi .i64 ((v_s129.length : Int) + (v_v132.length : Int)))) (kb := .i64) (by kernel_rfl) h146.1 h146.2.1 h146.2.2) (.cons (ext_same (yh10q (P := Try.prog) (T := TT) (f := eS_quota_Row) (t := 164) (e := 306) (s := 2) (l := 0) (L := v_s129) (x := (.tmp 62)) (C := v_C130) (m := v_v132.length) (k := (v_s129.length + v_v132.length)) (Z := ([] : List S_quota_Row)) (q := (v_i131.toNat + v_v132.length)) (lo := (.tmp 65)) (A := (wi .i64 (v_i131 + (v_v132.length : Int)))) (ka := .i64) (by kernel_rfl) (by simp only [List.length_take, List.length_drop, List.length_nil]; omega) h147.1 h147.2)) (.cons (yov (P := Try.prog) (T := TT) (f := eS_quota_Row) (t := 164) (e := 306) (s := 2) (l := 0) (L := v_s129) (Y := v_v132) (Z := ([] : List S_quota_Row)) (m := v_v132.length) (C := v_C130) (i := (v_i131.toNat + v_v132.length)) (j := (v_s129.length + v_v132.length)) (x := (.tmp 61)) (y := (.tmp 66)) (g := 254) (fn := Try.f254) (tR := 4) (tys := #[164, 164]) (by kernel_rfl) (by kernel_rfl) (by kernel_rfl) (by kernel_rfl) (by kernel_rfl) (by kernel_rfl) (by decide) (fun _ => rfl)) (.cons (ext_same (yh10q (P := Try.prog) (T := TT) (f := eS_quota_Row) (t := 164) (e := 306) (s := 2) (l := 0) (L := v_s129) (x := (.tmp 69)) (C := v_C130) (m := v_v132.length) (k := (v_s129.length + v_v132.length)) (Z := ([] : List S_quota_Row)) (q := (v_i131.toNat + v_v132.length)) (lo := (.tmp 72)) (A := (wi .i64 (v_i131 + (v_v132.length : Int)))) (ka := .i64) (by kernel_rfl) (by simp only [List.length_take, List.length_drop, List.length_nil]; omega) h151.1 h151.2)) (.cons (ext_same (yh10 (P := Try.prog) (T := TT) (f := eS_quota_Row) (t := 164) (e := 306) (s := 2) (l := 0) (L := v_s129) (x := (.tmp 74)) (C := v_C130) (m := v_v132.length) (k := (v_s129.length + v_v132.length)) (Y := ([] : List S_quota_Row)) (lo := (.tmp 75)) (A := v_i131) (ka := .i64) (by kernel_rfl) (by simp only [List.length_take, List.length_drop, List.length_nil]; omega) h152)) (.cons (ycpS (P := Try.prog) (T := TT) (f := eS_quota_Row) (t := 164) (t' := 164) (e := 306) (s := 2) (l := 0) (x := (.tmp 73)) (y := (.tmp 76)) (ti := ⟨2, 16, .st [(0, 3), (1, 3)], [.i .i64, .i .i64]⟩) (L := v_s129) (i := v_i131.toNat) (m := v_v132.length) (C := v_C130) (by kernel_rfl) (by kernel_rfl) (by omega)) (.cons (ext_same (yh10 (P := Try.prog) (T := TT) (f := eS_quota_Row) (t := 164) (e := 306) (s := 2) (l := 0) (L := (v_s129.take v_i131.toNat)) (x := (.tmp 78)) (C := v_C130) (m := v_v132.length) (k := (v_s129.length + v_v132.length)) (Y := (v_s129.drop v_i131.toNat)) (lo := (.tmp 79)) (A := v_i131) (ka := .i64) (by kernel_rfl) (by simp only [List.length_take, List.length_drop, List.length_nil]; omega) h153)) (.cons (ycpD (P := Try.prog) (T := TT) (f := eS_quota_Row) (t := 164) (t' := 164) (e := 306) (s := 2) (l := 0) (x := (.tmp 80)) (y := (.tmp 81)) (ti := ⟨2, 16, .st [(0, 3), (1, 3)], [.i .i64, .i .i64]⟩) (L := (v_s129.take v_i131.toNat)) (Y := v_v132) (Z := (v_s129.drop v_i131.toNat)) (i := v_i131.toNat) (k := (v_s129.length + v_v132.length)) (m := v_v132.length) (C := v_C130) (by kernel_rfl) (by kernel_rfl) (by simp only [List.length_take, List.length_drop, List.length_nil]; omega) (by simp only [List.length_take, List.length_drop, List.length_nil]; omega) rfl (by omega) (fun _ => rfl)) (.cons (ymvH (L := ((v_s129.take v_i131.toNat) ++ v_v132 ++ (v_s129.drop v_i131.toNat))) (C := v_C130) (k := (v_s129.length + v_v132.length)) (P := Try.prog) (T := TT) (f := eS_quota_Row) (e := 306) (s := 2) (l := 0) (nl := 149) (x := (.tmp 0)) (by simp only [List.length_append, List.length_take, List.length_drop]; omega)) .nil))))))))))))))))
                  · rw [if_neg h153] at h; cases h
                · rw [if_neg h152] at h; cases h
              · rw [if_neg h151] at h; cases h
            · rw [if_neg h147] at h; cases h
          · rw [if_neg h146] at h; cases h
  · rw [if_neg h124] at h; cases h
def G_slices_Insert_quota_Row_quota_Row_h (n : Nat) (s : (List S_quota_Row)) (i : Int) (v : (List S_quota_Row)) : Option (List S_quota_Row) := insI 16 s i v
theorem G_slices_Insert_quota_Row_quota_Row_h_all (C n : Nat) (s : (List S_quota_Row)) (i : Int) (v r : (List S_quota_Row)) (h1 : s.length ≤ C) (h2 : C ≤ maxLen) (h : G_slices_Insert_quota_Row_quota_Row_h n s i v = some r) : G_slices_Insert_quota_Row_quota_Row_hC n C s i v = some r := by
  unfold G_slices_Insert_quota_Row_quota_Row_h insI at h
  split at h
  · rename_i c
    obtain ⟨c1, c2, c3, c4⟩ := c
    obtain rfl := Option.some.inj h
    obtain ⟨i, rfl⟩ := Int.eq_ofNat_of_zero_le c1
    simp only [Int.toNat_natCast]
    have hi : i ≤ s.length := by omega
    have w1 : wi .i64 ((s.length : Int) + (v.length : Int)) = ((s.length + v.length : Nat) : Int) := by rw [wi, IntKind.wrap_i64]; omega
    have w2 : wi .i64 ((i : Int) + (v.length : Int)) = ((i + v.length : Nat) : Int) := by rw [wi, IntKind.wrap_i64]; omega
    have w3 : wi .i64 (((s.length + v.length : Nat) : Int) - (i : Int)) = ((s.length + v.length - i : Nat) : Int) := by rw [wi, IntKind.wrap_i64]; omega
    unfold G_slices_Insert_quota_Row_quota_Row_hC
    rw [if_pos ⟨⟨by omega, by omega⟩, h1⟩]
    by_cases hm : (v.length : Int) = 0
    · rw [if_pos hm]
      have : v = [] := List.eq_nil_of_length_eq_zero (by omega)
      subst this; simp
    · rw [if_neg hm]
      by_cases he : (i : Int) = (s.length : Int)
      · rw [if_pos he]
        have e : i = s.length := by omega
        subst e
        unfold app
        rw [if_pos ⟨by unfold maxLen; omega, c4⟩]
        simp
      · rw [if_neg he, w1]
        by_cases hg : ((s.length + v.length : Nat) : Int) > (C : Int)
        · rw [if_pos hg, w3]
          simp only [Int.toNat_natCast]
          have hl : (s.take i ++ List.replicate (s.length + v.length - i) (S_quota_Row.mk 0 0)).length = s.length + v.length := by simp; omega
          rw [if_pos ⟨⟨by omega, by omega⟩, h1⟩, if_pos ⟨trivial, hi, by omega, by omega, by unfold maxLen; omega, by rw [show i + (s.length + v.length - i) = s.length + v.length by omega]; exact c4⟩, w2]
          simp only [Int.toNat_natCast]
          rw [if_pos ⟨by omega, by rw [hl]; omega⟩, if_pos (Nat.le_refl _)]
          have hl2 : (cpyR (s.take i ++ List.replicate (s.length + v.length - i) (S_quota_Row.mk 0 0)) i (s.take i ++ List.replicate (s.length + v.length - i) (S_quota_Row.mk 0 0)).length v).length = s.length + v.length := by
            unfold cpyR
            rw [hl]
            rcases Nat.le_total v.length (s.length + v.length - i) with h' | h'
            · rw [show Nat.min v.length (s.length + v.length - i) = v.length from Nat.min_eq_left h']; simp; omega
            · rw [show Nat.min v.length (s.length + v.length - i) = s.length + v.length - i from Nat.min_eq_right h']; simp; omega
          rw [if_pos ⟨by omega, by rw [hl2]; omega⟩, if_pos ⟨⟨by omega, by omega⟩, h1⟩, if_pos ⟨Nat.le_refl _, Nat.le_refl _⟩]
          rw [ins_grow hi rfl]
        · rw [if_neg hg, w2]
          simp only [Int.toNat_natCast]
          rw [if_pos ⟨by omega, by omega, trivial⟩, if_pos ⟨trivial, by omega⟩, if_pos ⟨trivial, by omega⟩, if_pos ⟨by omega, by omega⟩, if_pos ⟨by omega, by omega⟩]
  · cases h
theorem G_slices_Insert_quota_Row_quota_Row_h_ok (n : Nat) (s : (List S_quota_Row)) (i : Int) (v r : (List S_quota_Row)) (h : G_slices_Insert_quota_Row_quota_Row_h n s i v = some r) : RetH Try.prog 193 [.srf 0, .d (.v (.int .i64 i)), .d ((eL eS_quota_Row) v)] [.row 306 2 (s.map eS_quota_Row)] (.srf 1) [.none, .row 306 2 (r.map eS_quota_Row)] :=
  retH_cap ⟨Try.f193, by kernel_rfl, by kernel_rfl, by kernel_rfl⟩ (fun C h1 h2 => G_slices_Insert_quota_Row_quota_Row_hC_ok n C s i v r (G_slices_Insert_quota_Row_quota_Row_h_all C n s i v r (by simpa using h1) h2 h))
inductive G_quota_Set_C1_R where
  | x0 (v_x42 : Bool)
def G_quota_Set_C1_ex : G_quota_Set_C1_R → Ex
  | .x0 _ => .normal
def G_quota_Set_C1_st (v_l39 : (List S_quota_Row)) (v_limit41 : Int) (v_user40 : Int) : G_quota_Set_C1_R → PS
  | .x0 v_x42 => ⟨[.d (.sl (v_l39.map eS_quota_Row)), dd, .d (.v (.int .i64 v_limit41)), dd, .ref 0 0, dd, dd, dd, dd, dd, dd, dd, dd, dd, dd, dd, dd, dd, dd, dd, dd, dd, dd, dd, .d (.v (.bool v_x42)), dd, dd, dd, dd, dd, dd, dd, dd, dd, dd, dd, dd, dd, dd, dd, dd, dd, dd, dd, dd, dd, dd, dd, dd, dd, dd, dd, dd, dd, dd, dd, dd, dd, dd, dd, dd, dd], [.box [.d (.v (.int .i64 v_user40))]]⟩
def G_quota_Set_C1_hd (v_l39 : (List S_quota_Row)) (v_limit41 : Int) (v_user40 : Int)  : PS := ⟨[.d (.sl (v_l39.map eS_quota_Row)), dd, .d (.v (.int .i64 v_limit41)), dd, .ref 0 0, dd, dd, dd, dd, dd, dd, dd, dd, dd, dd, dd, dd, dd, dd, dd, dd, dd, dd, dd, dd, dd, dd, dd, dd, dd, dd, dd, dd, dd, dd, dd, dd, dd, dd, dd, dd, dd, dd, dd, dd, dd, dd, dd, dd, dd, dd, dd, dd, dd, dd, dd, dd, dd, dd, dd, dd, dd], [.box [.d (.v (.int .i64 v_user40))]]⟩
def G_quota_Set_C1 (n : Nat) (v_l39 : (List S_quota_Row)) (v_limit41 : Int) (v_user40 : Int) : Option G_quota_Set_C1_R :=
  if v_user40 < 0 then
   some (.x0 true)
  else
   if v_user40 > 255 then
    some (.x0 true)
   else
    if v_limit41 < (-1) then
     some (.x0 true)
    else
     some (.x0 (decide (v_limit41 > 256)))
theorem G_quota_Set_C1_ok {Fi : Ex → PS → Prop} (hF : KC 62 Fi) (ks : List Fr) (n : Nat) (v_l39 : (List S_quota_Row)) (v_limit41 : Int) (v_user40 : Int)  (o : G_quota_Set_C1_R) (h : G_quota_Set_C1 n v_l39 v_limit41 v_user40 = some o) (q : RunE Try.prog 62 Fi ks (G_quota_Set_C1_ex o) (G_quota_Set_C1_st v_l39 v_limit41 v_user40 o)) : RunE Try.prog 62 Fi (.s (cL (cL (cR (bodyOf Try.f87)))) :: ks) .normal (G_quota_Set_C1_hd v_l39 v_limit41 v_user40) := by
  unfold G_quota_Set_C1 at h
  by_cases h34 : v_user40 < 0
  · rw [if_pos h34] at h
    cases h
    exact pkk_sound TTok mix hF 1 (hs := [.c, .t true, .c, .c, .c, .c, .c]) (ts := []) (s := [0]) (l := [0, 2, 4, 24]) (by kernel_rfl) (by kernel_rfl) (.cons (dt h34) .nil) q
  · rw [if_neg h34] at h
    by_cases h35 : v_user40 > 255
    · rw [if_pos h35] at h
      cases h
      exact pkk_sound TTok mix hF 1 (hs := [.c, .t false, .c, .c, .t true, .c, .c, .c]) (ts := []) (s := [0]) (l := [0, 2, 4, 24]) (by kernel_rfl) (by kernel_rfl) (.cons (df h34) (.cons (dt h35) .nil)) q
    · rw [if_neg h35] at h
      by_cases h36 : v_limit41 < (-1)
      · rw [if_pos h36] at h
        cases h
        exact pkk_sound TTok mix hF 1 (hs := [.c, .t false, .c, .c, .t false, .c, .t true, .c]) (ts := []) (s := [0]) (l := [0, 2, 4, 24]) (by kernel_rfl) (by kernel_rfl) (.cons (df h34) (.cons (df h35) (.cons (dt h36) .nil))) q
      · rw [if_neg h36] at h
        cases h
        exact pkk_sound TTok mix hF 1 (hs := [.c, .t false, .c, .c, .t false, .c, .t false, .c]) (ts := []) (s := [0]) (l := [0, 2, 4, 24]) (by kernel_rfl) (by kernel_rfl) (.cons (df h34) (.cons (df h35) (.cons (df h36) .nil))) q
inductive G_quota_Set_L2_R where
  | x0 (v_i122 : Int) (v_w123 : (List S_quota_Row))
def G_quota_Set_L2_ex : G_quota_Set_L2_R → Ex
  | .x0 _ _ => .exit 0
def G_quota_Set_L2_st (v_limit41 : Int) (v_user40 : Int) : G_quota_Set_L2_R → PS
  | .x0 v_i122 v_w123 => ⟨[dd, dd, .d (.v (.int .i64 v_limit41)), dd, .d (.iptr [.v (.int .i64 v_user40)] 0), dd, dd, dd, dd, .srf 0, .d (.v (.int .i64 v_i122)), dd, dd, dd, dd, dd, dd, dd, dd, dd, dd, dd, dd, dd, dd, dd, dd, dd, dd, dd, dd, dd, dd, dd, dd, dd, dd, dd, dd, dd, dd, dd, dd, dd, dd, dd, dd, dd, dd, dd, dd, dd, dd, dd, dd, dd, dd, dd, dd, dd, dd, dd], [.row 306 2 (v_w123.map eS_quota_Row)]⟩
def G_quota_Set_L2_hd (v_limit41 : Int) (v_user40 : Int) (v_i118 : Int) (v_w119 : (List S_quota_Row)) : PS := ⟨[dd, dd, .d (.v (.int .i64 v_limit41)), dd, .d (.iptr [.v (.int .i64 v_user40)] 0), dd, dd, dd, dd, .srf 0, .d (.v (.int .i64 v_i118)), dd, dd, dd, dd, dd, dd, dd, dd, dd, dd, dd, dd, dd, dd, dd, dd, dd, dd, dd, dd, dd, dd, dd, dd, dd, dd, dd, dd, dd, dd, dd, dd, dd, dd, dd, dd, dd, dd, dd, dd, dd, dd, dd, dd, dd, dd, dd, dd, dd, dd, dd], [.row 306 2 (v_w119.map eS_quota_Row)]⟩
def G_quota_Set_L2 (n : Nat) (v_limit41 : Int) (v_user40 : Int) : Nat → Int → (List S_quota_Row) → Option G_quota_Set_L2_R
  | 0, _, _ => none
  | k + 1, v_i118, v_w119 =>
    if v_i118 < (v_w119.length : Int) then
     if 0 ≤ v_i118 ∧ (v_i118).toNat < v_w119.length then
      (v_w119[(v_i118).toNat]?).bind fun (v_y121 : S_quota_Row) =>
      if v_y121.fUser < v_user40 then
       G_quota_Set_L2 n v_limit41 v_user40 k (wi .i64 (v_i118 + 1)) v_w119
      else
       some (.x0 v_i118 v_w119)
     else none
    else
     some (.x0 v_i118 v_w119)
theorem G_quota_Set_L2_ok {Fi : Ex → PS → Prop} (hF : KC 62 Fi) (ks : List Fr) (n : Nat) (v_limit41 : Int) (v_user40 : Int)  : ∀ (k : Nat) (v_i118 : Int) (v_w119 : (List S_quota_Row)) (o : G_quota_Set_L2_R), G_quota_Set_L2 n v_limit41 v_user40 k v_i118 v_w119 = some o → RunE Try.prog 62 Fi ks (G_quota_Set_L2_ex o) (G_quota_Set_L2_st v_limit41 v_user40 o) → RunE Try.prog 62 Fi (.l k (cP (cB (cL (cR (cR (cR (cR (cR (cR (cR (bodyOf Try.f87))))))))))) :: ks) .normal (G_quota_Set_L2_hd v_limit41 v_user40 v_i118 v_w119)
  | 0, v_i118, v_w119, o, h, q => by rw [G_quota_Set_L2] at h; cases h
  | k + 1, v_i118, v_w119, o, h, q => by
    rw [G_quota_Set_L2] at h
    by_cases h119 : v_i118 < (v_w119.length : Int)
    · rw [if_pos h119] at h
      by_cases h120 : 0 ≤ v_i118 ∧ (v_i118).toNat < v_w119.length
      · rw [if_pos h120] at h
        obtain ⟨v_y121, h121, h⟩ := bind_some h
        by_cases h122 : v_y121.fUser < v_user40
        · rw [if_pos h122] at h
          exact pkk_sound TTok mix hF 9 (hs := [.u (.d (.v (.int .i64 (v_w119.length : Int)))), .t true, .c, .c, .c, .c, .y (eS_quota_Row v_y121), .c, .c, .c, .t true]) (ts := []) (s := [0]) (l := [2, 4, 9, 10]) (by kernel_rfl) (by kernel_rfl) (.cons (len_ob (f := eS_quota_Row) (l := v_w119)) (.cons (dt h119) (.cons (idx_ob (f := eS_quota_Row) h120) (.cons (get_ob (f := eS_quota_Row) h121) (.cons (dt h122) .nil))))) (G_quota_Set_L2_ok hF ks n v_limit41 v_user40 k (wi .i64 (v_i118 + 1)) v_w119 _ h q)
        · rw [if_neg h122] at h
          cases h
          exact pkk_sound TTok mix hF 8 (hs := [.u (.d (.v (.int .i64 (v_w119.length : Int)))), .t true, .c, .c, .c, .c, .y (eS_quota_Row v_y121), .c, .c, .c, .t false]) (ts := []) (s := [0]) (l := [2, 4, 9, 10]) (by kernel_rfl) (by kernel_rfl) (.cons (len_ob (f := eS_quota_Row) (l := v_w119)) (.cons (dt h119) (.cons (idx_ob (f := eS_quota_Row) h120) (.cons (get_ob (f := eS_quota_Row) h121) (.cons (df h122) .nil))))) q
      · rw [if_neg h120] at h; cases h
    · rw [if_neg h119] at h
      cases h
      exact pkk_sound TTok mix hF 8 (hs := [.u (.d (.v (.int .i64 (v_w119.length : Int)))), .t false, .c, .c, .c, .c, .c, .c, .c]) (ts := []) (s := [0]) (l := [2, 4, 9, 10]) (by kernel_rfl) (by kernel_rfl) (.cons (len_ob (f := eS_quota_Row) (l := v_w119)) (.cons (df h119) .nil)) q
/- ringhall/quota.Set -/
def G_quota_Set (n : Nat) (v_l39 : (List S_quota_Row)) (v_user40 : Int) (v_limit41 : Int) : Option ((List S_quota_Row) × Int) :=
  (G_quota_Set_C1 n v_l39 v_limit41 v_user40).bind fun v_o46 => match v_o46 with
  | .x0 v_z47 =>
    if v_z47 = true then
     some (([] : (List S_quota_Row)), 1)
    else
     (G_quota_Right n v_l39).bind fun (v_r75 : (Int)) =>
     if v_r75 = 0 then
      (G_slices_Clone_quota_Row_quota_Row n v_l39).bind fun (v_r84 : ((List S_quota_Row))) =>
      (G_slices_DeleteFunc_quota_Row_quota_Row_h n v_r84 (fun (y0 : S_quota_Row) => G_quota_Set_1 n y0 v_user40)).bind fun (v_r117 : ((List S_quota_Row))) =>
      if v_limit41 = (-1) then
       some (v_r117, 0)
      else
       if (v_r117.length : Int) = 20 then
        some (([] : (List S_quota_Row)), 6)
       else
        (G_quota_Set_L2 n v_limit41 v_user40 n 0 v_r117).bind fun v_o126 => match v_o126 with
        | .x0 v_z127 v_z128 =>
          (G_slices_Insert_quota_Row_quota_Row_h n v_z128 v_z127 ([(S_quota_Row.mk v_user40 v_limit41)])).bind fun (v_r135 : ((List S_quota_Row))) =>
          some (v_r135, 0)
     else
      some (([] : (List S_quota_Row)), v_r75)
theorem G_quota_Set_ok (n : Nat) (v_l39 : (List S_quota_Row)) (v_user40 : Int) (v_limit41 : Int) (r : (List S_quota_Row) × Int) (h : G_quota_Set n v_l39 v_user40 v_limit41 = some r) : Ret Try.prog 87 [(eL eS_quota_Row) v_l39, (eI .i64) v_user40, (eI .i64) v_limit41] (.tup [(eL eS_quota_Row) r.1, (eI .i64) r.2]) := by
  refine ret_run (n := 62) (fn := Try.f87) (c := bodyOf Try.f87) (by kernel_rfl) (by kernel_rfl) (by kernel_rfl) (by kernel_rfl) ?_
  have hF : KC 62 (FinR Try.prog Try.f87 (.tup [(eL eS_quota_Row) r.1, (eI .i64) r.2])) := FinR.kc' (by kernel_rfl)
  unfold G_quota_Set at h
  obtain ⟨v_o46, h37, h⟩ := bind_some h
  refine pkk_sound TTok mix hF 4 (hs := []) (ts := []) (s := [0]) (l := [0, 2, 4]) (by kernel_rfl) (by kernel_rfl) .nil (G_quota_Set_C1_ok hF (.s (cR (cL (cR (bodyOf Try.f87)))) :: .s (cR (cR (bodyOf Try.f87))) :: []) n v_l39 v_limit41 v_user40 _ h37 ?_)
  cases v_o46 with
  | x0 v_z47 =>
    try dsimp only at h
    by_cases h38 : v_z47 = true
    · rw [if_pos h38] at h
      obtain rfl := Option.some.inj h
      exact pend_sound TTok mix 5 (hs := [.t true]) (by kernel_rfl) (by kernel_rfl) (by kernel_rfl) (.cons h38 .nil)
    · rw [if_neg h38] at h
      obtain ⟨v_r75, h72, h⟩ := bind_some h
      by_cases h74 : v_r75 = 0
      · rw [if_pos h74] at h
        obtain ⟨v_r84, h78, h⟩ := bind_some h
        obtain ⟨v_r117, h112, h⟩ := bind_some h
        by_cases h114 : v_limit41 = (-1)
        · rw [if_pos h114] at h
          obtain rfl := Option.some.inj h
          exact pend_sound TTok mix 20 (hs := [.t false, .r ((eI .i64) v_r75), .t false, .dl 2, .fb 0, .h [] [] [.row 306 2 (v_r84.map eS_quota_Row)] (.srf 0), .h [19] [] [.none, .row 306 2 (v_r117.map eS_quota_Row)] (.srf 1), .t true]) (by kernel_rfl) (by kernel_rfl) (by kernel_rfl) (.cons (vf h38) (.cons (G_quota_Right_ok n v_l39 _ h72) (.cons (nf h74) (.cons (G_slices_Clone_quota_Row_quota_Row_ok n v_l39 _ h78) (.cons (G_slices_DeleteFunc_quota_Row_quota_Row_h_ok n v_r84 (fun (y0 : S_quota_Row) => G_quota_Set_1 n y0 v_user40) 192 [.iptr [.v (.int .i64 v_user40)] 0] (fun y0 r h => G_quota_Set_1_ok n y0 v_user40 r h) _ h112) (.cons (bt h114) .nil))))))
        · rw [if_neg h114] at h
          by_cases h115 : (v_r117.length : Int) = 20
          · rw [if_pos h115] at h
            obtain rfl := Option.some.inj h
            exact pend_sound TTok mix 25 (hs := [.t false, .r ((eI .i64) v_r75), .t false, .dl 2, .fb 0, .h [] [] [.row 306 2 (v_r84.map eS_quota_Row)] (.srf 0), .h [19] [] [.none, .row 306 2 (v_r117.map eS_quota_Row)] (.srf 1), .t false, .u (.d (.v (.int .i64 (v_r117.length : Int)))), .t true]) (by kernel_rfl) (by kernel_rfl) (by kernel_rfl) (.cons (vf h38) (.cons (G_quota_Right_ok n v_l39 _ h72) (.cons (nf h74) (.cons (G_slices_Clone_quota_Row_quota_Row_ok n v_l39 _ h78) (.cons (G_slices_DeleteFunc_quota_Row_quota_Row_h_ok n v_r84 (fun (y0 : S_quota_Row) => G_quota_Set_1 n y0 v_user40) 192 [.iptr [.v (.int .i64 v_user40)] 0] (fun y0 r h => G_quota_Set_1_ok n y0 v_user40 r h) _ h112) (.cons (bf h114) (.cons (len_ob (f := eS_quota_Row) (l := v_r117)) (.cons (bt h115) .nil))))))))
          · rw [if_neg h115] at h
            obtain ⟨v_o126, h123, h⟩ := bind_some h
            refine pkk_sound TTok mix hF 27 (hs := [.t false, .r ((eI .i64) v_r75), .t false, .dl 2, .fb 0, .h [] [] [.row 306 2 (v_r84.map eS_quota_Row)] (.srf 0), .h [19] [] [.none, .row 306 2 (v_r117.map eS_quota_Row)] (.srf 1), .t false, .u (.d (.v (.int .i64 (v_r117.length : Int)))), .t false, .n n]) (ts := []) (s := [25]) (l := [2, 4, 9, 10]) (by kernel_rfl) (by kernel_rfl) (.cons (vf h38) (.cons (G_quota_Right_ok n v_l39 _ h72) (.cons (nf h74) (.cons (G_slices_Clone_quota_Row_quota_Row_ok n v_l39 _ h78) (.cons (G_slices_DeleteFunc_quota_Row_quota_Row_h_ok n v_r84 (fun (y0 : S_quota_Row) => G_quota_Set_1 n y0 v_user40) 192 [.iptr [.v (.int .i64 v_user40)] 0] (fun y0 r h => G_quota_Set_1_ok n y0 v_user40 r h) _ h112) (.cons (bf h114) (.cons (len_ob (f := eS_quota_Row) (l := v_r117)) (.cons (bf h115) .nil)))))))) (G_quota_Set_L2_ok hF (.b 0 :: .s (cR (cR (cR (cR (cR (cR (cR (cR (bodyOf Try.f87))))))))) :: []) n v_limit41 v_user40 n 0 v_r117 _ h123 ?_)
            cases v_o126 with
            | x0 v_z127 v_z128 =>
              try dsimp only at h
              obtain ⟨v_r135, h154, h⟩ := bind_some h
              obtain rfl := Option.some.inj h
              exact pend_sound TTok mix 4 (hs := [.c, .bd, .h [0] [] [.none, .row 306 2 (v_r135.map eS_quota_Row)] (.srf 1)]) (by kernel_rfl) (by kernel_rfl) (by kernel_rfl) (.cons (G_slices_Insert_quota_Row_quota_Row_h_ok n v_z128 v_z127 ([(S_quota_Row.mk v_user40 v_limit41)]) _ h154) .nil)
      · rw [if_neg h74] at h
        obtain rfl := Option.some.inj h
        exact pend_sound TTok mix 12 (hs := [.t false, .r ((eI .i64) v_r75), .t true]) (by kernel_rfl) (by kernel_rfl) (by kernel_rfl) (.cons (vf h38) (.cons (G_quota_Right_ok n v_l39 _ h72) (.cons (nt h74) .nil)))
inductive G_ringref3_SetRow_L1_R where
  | x0 (v_w147 : (List (Int × Int)))
def G_ringref3_SetRow_L1_ex : G_ringref3_SetRow_L1_R → Ex
  | .x0 _ => .exit 0
def G_ringref3_SetRow_L1_st (v_user138 : Int) (v_limit139 : Int) (v_l137 : (List S_ringref3_Row)) : G_ringref3_SetRow_L1_R → PS
  | .x0 v_w147 => ⟨[dd, .d (.v (.int .i64 v_user138)), .d (.v (.int .i64 v_limit139)), dd, dd, dd, dd, dd, dd, .srf 0, dd, dd, dd, dd, dd, dd, dd, dd, dd, dd, dd, dd, dd, dd, dd, dd, dd, dd, dd, dd, dd, dd, dd, dd, dd, dd, dd, dd, dd, dd, dd, dd, dd, dd, dd, dd, dd, dd, dd, dd, dd, dd, dd, dd, dd, dd, dd, dd, dd, dd, dd, dd, dd, dd, dd, dd, dd, dd, dd, dd], [.cu (mapC (fun x : Int => Value.int .i64 x) (fun x : Int => Value.int .i64 x) v_w147) []]⟩
def G_ringref3_SetRow_L1_hd (v_user138 : Int) (v_limit139 : Int) (v_l137 : (List S_ringref3_Row)) (v_x143 : Int) (v_w144 : (List (Int × Int))) : PS := ⟨[dd, .d (.v (.int .i64 v_user138)), .d (.v (.int .i64 v_limit139)), dd, dd, dd, dd, dd, dd, .srf 0, dd, dd, dd, dd, dd, dd, dd, dd, dd, dd, dd, dd, dd, dd, dd, dd, dd, dd, dd, dd, .d (.sl (v_l137.map eS_ringref3_Row)), .d (.v (.int .i64 (v_l137.length : Int))), .d (.v (.int .i64 v_x143)), dd, dd, dd, dd, dd, dd, dd, dd, dd, dd, dd, dd, dd, dd, dd, dd, dd, dd, dd, dd, dd, dd, dd, dd, dd, dd, dd, dd, dd, dd, dd, dd, dd, dd, dd, dd, dd], [.cu (mapC (fun x : Int => Value.int .i64 x) (fun x : Int => Value.int .i64 x) v_w144) []]⟩
def G_ringref3_SetRow_L1 (n : Nat) (v_user138 : Int) (v_limit139 : Int) (v_l137 : (List S_ringref3_Row)) : Nat → Int → (List (Int × Int)) → Option G_ringref3_SetRow_L1_R
  | 0, _, _ => none
  | k + 1, v_x143, v_w144 =>
    if v_x143 < (v_l137.length : Int) then
     (getI v_l137 v_x143).bind fun (v_y146 : S_ringref3_Row) =>
     G_ringref3_SetRow_L1 n v_user138 v_limit139 v_l137 k (wi .i64 (v_x143 + 1)) (mput v_w144 v_y146.fUser v_y146.fLimit)
    else
     some (.x0 v_w144)
theorem G_ringref3_SetRow_L1_ok {Fi : Ex → PS → Prop} (hF : KC 70 Fi) (ks : List Fr) (n : Nat) (v_user138 : Int) (v_limit139 : Int) (v_l137 : (List S_ringref3_Row))  : ∀ (k : Nat) (v_x143 : Int) (v_w144 : (List (Int × Int))) (o : G_ringref3_SetRow_L1_R), G_ringref3_SetRow_L1 n v_user138 v_limit139 v_l137 k v_x143 v_w144 = some o → RunE Try.prog 70 Fi ks (G_ringref3_SetRow_L1_ex o) (G_ringref3_SetRow_L1_st v_user138 v_limit139 v_l137 o) → RunE Try.prog 70 Fi (.l k (cP (cB (cR (cL (cR (cR (cR (cR (bodyOf Try.f88))))))))) :: ks) .normal (G_ringref3_SetRow_L1_hd v_user138 v_limit139 v_l137 v_x143 v_w144)
  | 0, v_x143, v_w144, o, h, q => by rw [G_ringref3_SetRow_L1] at h; cases h
  | k + 1, v_x143, v_w144, o, h, q => by
    rw [G_ringref3_SetRow_L1] at h
    by_cases h163 : v_x143 < (v_l137.length : Int)
    · rw [if_pos h163] at h
      obtain ⟨v_y146, h165, h⟩ := bind_some h
      exact pkk_sound TTok mix hF 13 (hs := [.t true, .y (eS_ringref3_Row v_y146), .c, .c, .c, .e 31 [0] (dd) [(0, .cu (mapC (fun x : Int => Value.int .i64 x) (fun x : Int => Value.int .i64 x) (mput v_w144 v_y146.fUser v_y146.fLimit)) [])]]) (ts := []) (s := [0]) (l := [1, 2, 9, 30, 31, 32]) (by kernel_rfl) (by kernel_rfl) (.cons (dt h163) (.cons (getI_ob (f := eS_ringref3_Row) h165) (.cons (show 0 + 2 ≤ 2 by decide) (.cons (yput (P := Try.prog) (T := TT) (t := 311) (kt := 3) (et := 3) (l := 0) (x := (.tmp 36)) (y := (.tmp 38)) (z := (.tmp 40)) (f := (fun x : Int => Value.int .i64 x)) (g := (fun x : Int => Value.int .i64 x)) (E := v_w144) (k := v_y146.fUser) (v := v_y146.fLimit) (by kernel_rfl) (KOk.int (by kernel_rfl))) .nil)))) (G_ringref3_SetRow_L1_ok hF ks n v_user138 v_limit139 v_l137 k (wi .i64 (v_x143 + 1)) (mput v_w144 v_y146.fUser v_y146.fLimit) _ h q)
    · rw [if_neg h163] at h
      cases h
      exact pkk_sound TTok mix hF 8 (hs := [.t false]) (ts := []) (s := [0]) (l := [1, 2, 9]) (by kernel_rfl) (by kernel_rfl) (.cons (df h163) .nil) q
inductive G_ringref3_SetRow_C2_R where
  | x0 (v_w157 : (List (Int × Int))) (v_w158 : (List S_ringref3_Row))
def G_ringref3_SetRow_C2_ex : G_ringref3_SetRow_C2_R → Ex
  | .x0 _ _ => .normal
def G_ringref3_SetRow_C2_st (v_x150 : Int) (v_w151 : (List (Int × Int))) (v_w152 : (List S_ringref3_Row)) : G_ringref3_SetRow_C2_R → PS
  | .x0 v_w157 v_w158 => ⟨[dd, dd, dd, dd, dd, dd, dd, dd, dd, .srf 0, dd, dd, .srf 1, dd, dd, dd, dd, dd, dd, dd, dd, dd, dd, dd, dd, dd, dd, dd, dd, dd, dd, dd, dd, dd, dd, dd, dd, dd, dd, dd, dd, dd, dd, dd, dd, .d (.v (.int .i64 v_x150)), dd, dd, dd, dd, dd, dd, dd, dd, dd, dd, dd, dd, dd, dd, dd, dd, dd, dd, dd, dd, dd, dd, dd, dd], [.cu (mapC (fun x : Int => Value.int .i64 x) (fun x : Int => Value.int .i64 x) v_w157) [], .row 180 2 (v_w158.map eS_ringref3_Row)]⟩
def G_ringref3_SetRow_C2_hd (v_x150 : Int) (v_w151 : (List (Int × Int))) (v_w152 : (List S_ringref3_Row))  : PS := ⟨[dd, dd, dd, dd, dd, dd, dd, dd, dd, .srf 0, dd, dd, .srf 1, dd, dd, dd, dd, dd, dd, dd, dd, dd, dd, dd, dd, dd, dd, dd, dd, dd, dd, dd, dd, dd, dd, dd, dd, dd, dd, dd, dd, dd, dd, dd, dd, .d (.v (.int .i64 v_x150)), dd, dd, dd, dd, dd, dd, dd, dd, dd, dd, dd, dd, dd, dd, dd, dd, dd, dd, dd, dd, dd, dd, dd, dd], [.cu (mapC (fun x : Int => Value.int .i64 x) (fun x : Int => Value.int .i64 x) v_w151) [], .row 180 2 (v_w152.map eS_ringref3_Row)]⟩
def G_ringref3_SetRow_C2 (n : Nat) (v_x150 : Int) (v_w151 : (List (Int × Int))) (v_w152 : (List S_ringref3_Row)) : Option G_ringref3_SetRow_C2_R :=
  if (mget v_w151 v_x150).isSome = true then
   if ((mget v_w151 v_x150).getD 0) ≥ 0 then
    (app 16 v_w152 ([(S_ringref3_Row.mk v_x150 ((mget v_w151 v_x150).getD 0))])).bind fun (v_a156 : (List S_ringref3_Row)) =>
    some (.x0 v_w151 v_a156)
   else
    some (.x0 v_w151 v_w152)
  else
   some (.x0 v_w151 v_w152)
theorem G_ringref3_SetRow_C2_ok {Fi : Ex → PS → Prop} (hF : KC 70 Fi) (ks : List Fr) (n : Nat) (v_x150 : Int) (v_w151 : (List (Int × Int))) (v_w152 : (List S_ringref3_Row))  (o : G_ringref3_SetRow_C2_R) (h : G_ringref3_SetRow_C2 n v_x150 v_w151 v_w152 = some o) (q : RunE Try.prog 70 Fi ks (G_ringref3_SetRow_C2_ex o) (G_ringref3_SetRow_C2_st v_x150 v_w151 v_w152 o)) : RunE Try.prog 70 Fi (.s (cL (cR (cR (cP (cB (cR (cL (cR (cR (cR (cR (cR (cR (cR (bodyOf Try.f88))))))))))))))) :: ks) .normal (G_ringref3_SetRow_C2_hd v_x150 v_w151 v_w152) := by
  unfold G_ringref3_SetRow_C2 at h
  by_cases h173 : (mget v_w151 v_x150).isSome = true
  · rw [if_pos h173] at h
    by_cases h176 : ((mget v_w151 v_x150).getD 0) ≥ 0
    · rw [if_pos h176] at h
      obtain ⟨v_a156, h177, h⟩ := bind_some h
      cases h
      exact pkk_sound TTok mix hF 10 (hs := [.e 14 [0] (.d (.tup [.v (.int .i64 ((mget v_w151 v_x150).getD 0)), .v (.bool ((mget v_w151 v_x150).isSome))])) [], .t true, .c, .t true, .bd, .w (v_a156.map eS_ringref3_Row)]) (ts := []) (s := [0, 62]) (l := [9, 12, 45]) (by kernel_rfl) (by kernel_rfl) (.cons (ylook (P := Try.prog) (T := TT) (t := 311) (kt := 3) (et := 3) (l := 0) (x := (.tmp 49)) (y := (.tmp 50)) (f := (fun x : Int => Value.int .i64 x)) (g := (fun x : Int => Value.int .i64 x)) (E := v_w151) (k := v_x150) (z := 0) true (by kernel_rfl) (KOk.int (by kernel_rfl)) (fun w => by kernel_rfl) (fun _ => rfl) rfl) (.cons h173 (.cons (dt h176) (.cons (app_ob (f := eS_ringref3_Row) (s := 2) h177 (fun _ => rfl)).1 (.cons (app_ob (f := eS_ringref3_Row) (s := 2) h177 (fun _ => rfl)).2.1 (.cons (app_ob (f := eS_ringref3_Row) (s := 2) h177 (fun _ => rfl)).2.2.1 (.cons (app_ob (f := eS_ringref3_Row) (s := 2) h177 (fun _ => rfl)).2.2.2 .nil))))))) q
    · rw [if_neg h176] at h
      cases h
      exact pkk_sound TTok mix hF 10 (hs := [.e 14 [0] (.d (.tup [.v (.int .i64 ((mget v_w151 v_x150).getD 0)), .v (.bool ((mget v_w151 v_x150).isSome))])) [], .t true, .c, .t false]) (ts := []) (s := [0, 1]) (l := [9, 12, 45]) (by kernel_rfl) (by kernel_rfl) (.cons (ylook (P := Try.prog) (T := TT) (t := 311) (kt := 3) (et := 3) (l := 0) (x := (.tmp 49)) (y := (.tmp 50)) (f := (fun x : Int => Value.int .i64 x)) (g := (fun x : Int => Value.int .i64 x)) (E := v_w151) (k := v_x150) (z := 0) true (by kernel_rfl) (KOk.int (by kernel_rfl)) (fun w => by kernel_rfl) (fun _ => rfl) rfl) (.cons h173 (.cons (df h176) .nil))) q
  · rw [if_neg h173] at h
    cases h
    exact pkk_sound TTok mix hF 10 (hs := [.e 14 [0] (.d (.tup [.v (.int .i64 ((mget v_w151 v_x150).getD 0)), .v (.bool ((mget v_w151 v_x150).isSome))])) [], .t false, .c, .c]) (ts := []) (s := [0, 1]) (l := [9, 12, 45]) (by kernel_rfl) (by kernel_rfl) (.cons (ylook (P := Try.prog) (T := TT) (t := 311) (kt := 3) (et := 3) (l := 0) (x := (.tmp 49)) (y := (.tmp 50)) (f := (fun x : Int => Value.int .i64 x)) (g := (fun x : Int => Value.int .i64 x)) (E := v_w151) (k := v_x150) (z := 0) true (by kernel_rfl) (KOk.int (by kernel_rfl)) (fun w => by kernel_rfl) (fun _ => rfl) rfl) (.cons (vf h173) .nil)) q
inductive G_ringref3_SetRow_L3_R where
  | x0 (v_w166 : (List S_ringref3_Row))
def G_ringref3_SetRow_L3_ex : G_ringref3_SetRow_L3_R → Ex
  | .x0 _ => .exit 2
def G_ringref3_SetRow_L3_st  : G_ringref3_SetRow_L3_R → PS
  | .x0 v_w166 => ⟨[dd, dd, dd, dd, dd, dd, dd, dd, dd, dd, dd, dd, .srf 0, dd, dd, dd, dd, dd, dd, dd, dd, dd, dd, dd, dd, dd, dd, dd, dd, dd, dd, dd, dd, dd, dd, dd, dd, dd, dd, dd, dd, dd, dd, dd, dd, dd, dd, dd, dd, dd, dd, dd, dd, dd, dd, dd, dd, dd, dd, dd, dd, dd, dd, dd, dd, dd, dd, dd, dd, dd], [.row 180 2 (v_w166.map eS_ringref3_Row)]⟩
def G_ringref3_SetRow_L3_hd  (v_x150 : Int) (v_w151 : (List (Int × Int))) (v_w152 : (List S_ringref3_Row)) : PS := ⟨[dd, dd, dd, dd, dd, dd, dd, dd, dd, .srf 0, dd, dd, .srf 1, dd, dd, dd, dd, dd, dd, dd, dd, dd, dd, dd, dd, dd, dd, dd, dd, dd, dd, dd, dd, dd, dd, dd, dd, dd, dd, dd, dd, dd, dd, dd, dd, .d (.v (.int .i64 v_x150)), dd, dd, dd, dd, dd, dd, dd, dd, dd, dd, dd, dd, dd, dd, dd, dd, dd, dd, dd, dd, dd, dd, dd, dd], [.cu (mapC (fun x : Int => Value.int .i64 x) (fun x : Int => Value.int .i64 x) v_w151) [], .row 180 2 (v_w152.map eS_ringref3_Row)]⟩
def G_ringref3_SetRow_L3 (n : Nat)  : Nat → Int → (List (Int × Int)) → (List S_ringref3_Row) → Option G_ringref3_SetRow_L3_R
  | 0, _, _, _ => none
  | k + 1, v_x150, v_w151, v_w152 =>
    if v_x150 < 256 then
     (G_ringref3_SetRow_C2 n v_x150 v_w151 v_w152).bind fun v_o163 => match v_o163 with
     | .x0 v_z164 v_z165 =>
       G_ringref3_SetRow_L3 n  k (wi .i64 (v_x150 + 1)) v_z164 v_z165
    else
     some (.x0 v_w152)
theorem G_ringref3_SetRow_L3_ok {Fi : Ex → PS → Prop} (hF : KC 70 Fi) (ks : List Fr) (n : Nat)   : ∀ (k : Nat) (v_x150 : Int) (v_w151 : (List (Int × Int))) (v_w152 : (List S_ringref3_Row)) (o : G_ringref3_SetRow_L3_R), G_ringref3_SetRow_L3 n  k v_x150 v_w151 v_w152 = some o → RunE Try.prog 70 Fi ks (G_ringref3_SetRow_L3_ex o) (G_ringref3_SetRow_L3_st  o) → RunE Try.prog 70 Fi (.l k (cP (cB (cR (cL (cR (cR (cR (cR (cR (cR (cR (bodyOf Try.f88)))))))))))) :: ks) .normal (G_ringref3_SetRow_L3_hd  v_x150 v_w151 v_w152)
  | 0, v_x150, v_w151, v_w152, o, h, q => by rw [G_ringref3_SetRow_L3] at h; cases h
  | k + 1, v_x150, v_w151, v_w152, o, h, q => by
    rw [G_ringref3_SetRow_L3] at h
    by_cases h167 : v_x150 < 256
    · rw [if_pos h167] at h
      obtain ⟨v_o163, h178, h⟩ := bind_some h
      refine pkk_sound TTok mix hF 7 (hs := [.t true]) (ts := []) (s := [0, 1]) (l := [9, 12, 45]) (by kernel_rfl) (by kernel_rfl) (.cons (dt h167) .nil) (G_ringref3_SetRow_C2_ok hF (.s (cR (cR (cR (cP (cB (cR (cL (cR (cR (cR (cR (cR (cR (cR (bodyOf Try.f88))))))))))))))) :: .l k (cP (cB (cR (cL (cR (cR (cR (cR (cR (cR (cR (bodyOf Try.f88)))))))))))) :: ks) n v_x150 v_w151 v_w152 _ h178 ?_)
      cases v_o163 with
      | x0 v_z164 v_z165 =>
        try dsimp only at h
        exact pkk_sound TTok mix hF 1 (hs := []) (ts := []) (s := [0, 1]) (l := [9, 12, 45]) (by kernel_rfl) (by kernel_rfl) .nil (G_ringref3_SetRow_L3_ok hF ks n  k (wi .i64 (v_x150 + 1)) v_z164 v_z165 _ h q)
    · rw [if_neg h167] at h
      cases h
      exact pkk_sound TTok mix hF 8 (hs := [.t false]) (ts := []) (s := [1]) (l := [12]) (by kernel_rfl) (by kernel_rfl) (.cons (df h167) .nil) q
/- ringhall/ringref3.SetRow -/
def G_ringref3_SetRow (n : Nat) (v_l137 : (List S_ringref3_Row)) (v_user138 : Int) (v_limit139 : Int) : Option ((List S_ringref3_Row) × Int) :=
  (G_ringref3_within n v_user138 0 255).bind fun (v_r140 : (Bool)) =>
  if v_r140 = true then
   (G_ringref3_within n v_limit139 (-1) 256).bind fun (v_r141 : (Bool)) =>
   if v_r141 = true then
    (G_ringref3_RowsRight n v_l137).bind fun (v_r142 : (Int)) =>
    if v_r142 = 0 then
     (G_ringref3_SetRow_L1 n v_user138 v_limit139 v_l137 n 0 ([] : (List (Int × Int)))).bind fun v_o148 => match v_o148 with
     | .x0 v_z149 =>
       (G_ringref3_SetRow_L3 n  n 0 (mput v_z149 v_user138 v_limit139) ([] : List S_ringref3_Row)).bind fun v_o167 => match v_o167 with
       | .x0 v_z168 =>
         if (v_z168.length : Int) > 20 then
          some (([] : (List S_ringref3_Row)), 6)
         else
          some (v_z168, 0)
    else
     some (([] : (List S_ringref3_Row)), v_r142)
   else
    some (([] : (List S_ringref3_Row)), 1)
  else
   some (([] : (List S_ringref3_Row)), 1)
theorem G_ringref3_SetRow_ok (n : Nat) (v_l137 : (List S_ringref3_Row)) (v_user138 : Int) (v_limit139 : Int) (r : (List S_ringref3_Row) × Int) (h : G_ringref3_SetRow n v_l137 v_user138 v_limit139 = some r) : Ret Try.prog 88 [(eL eS_ringref3_Row) v_l137, (eI .i64) v_user138, (eI .i64) v_limit139] (.tup [(eL eS_ringref3_Row) r.1, (eI .i64) r.2]) := by
  refine ret_run (n := 70) (fn := Try.f88) (c := bodyOf Try.f88) (by kernel_rfl) (by kernel_rfl) (by kernel_rfl) (by kernel_rfl) ?_
  have hF : KC 70 (FinR Try.prog Try.f88 (.tup [(eL eS_ringref3_Row) r.1, (eI .i64) r.2])) := FinR.kc' (by kernel_rfl)
  unfold G_ringref3_SetRow at h
  obtain ⟨v_r140, h156, h⟩ := bind_some h
  by_cases h157 : v_r140 = true
  · rw [if_pos h157] at h
    obtain ⟨v_r141, h158, h⟩ := bind_some h
    by_cases h159 : v_r141 = true
    · rw [if_pos h159] at h
      obtain ⟨v_r142, h160, h⟩ := bind_some h
      by_cases h162 : v_r142 = 0
      · rw [if_pos h162] at h
        obtain ⟨v_o148, h166, h⟩ := bind_some h
        refine pkk_sound TTok mix hF 21 (hs := [.r (eB v_r140), .t false, .c, .r (eB v_r141), .c, .t false, .r ((eI .i64) v_r142), .t false, .e 45 [45] (.srf 45) [(45, .cu (mapC (fun x : Int => Value.int .i64 x) (fun x : Int => Value.int .i64 x) ([] : (List (Int × Int)))) [])], .u (.d (.v (.int .i64 (v_l137.length : Int)))), .n n]) (ts := []) (s := [45]) (l := [1, 2, 9, 30, 31, 32]) (by kernel_rfl) (by kernel_rfl) (.cons (G_ringref3_within_ok n v_user138 0 255 _ h156) (.cons (bnf h157) (.cons (G_ringref3_within_ok n v_limit139 (-1) 256 _ h158) (.cons (bnf h159) (.cons (G_ringref3_RowsRight_ok n v_l137 _ h160) (.cons (nf h162) (.cons (ymake (P := Try.prog) (T := TT) (t := 311) (nl := 45) (fun x : Int => Value.int .i64 x) (fun x : Int => Value.int .i64 x)) (.cons (len_ob (f := eS_ringref3_Row) (l := v_l137)) .nil)))))))) (G_ringref3_SetRow_L1_ok hF (.b 0 :: .s (cR (cR (cR (cR (cR (bodyOf Try.f88)))))) :: []) n v_user138 v_limit139 v_l137 n 0 ([] : (List (Int × Int))) _ h166 ?_)
        cases v_o148 with
        | x0 v_z149 =>
          try dsimp only at h
          obtain ⟨v_o167, h179, h⟩ := bind_some h
          refine pkk_sound TTok mix hF 10 (hs := [.e 10 [0] (dd) [(0, .cu (mapC (fun x : Int => Value.int .i64 x) (fun x : Int => Value.int .i64 x) (mput v_z149 v_user138 v_limit139)) [])], .n n]) (ts := [(12, 180, 2)]) (s := [0, 19]) (l := [9, 12, 45]) (by kernel_rfl) (by kernel_rfl) (.cons (yput (P := Try.prog) (T := TT) (t := 311) (kt := 3) (et := 3) (l := 0) (x := (.tmp 42)) (y := (.tmp 43)) (z := (.tmp 44)) (f := (fun x : Int => Value.int .i64 x)) (g := (fun x : Int => Value.int .i64 x)) (E := v_z149) (k := v_user138) (v := v_limit139) (by kernel_rfl) (KOk.int (by kernel_rfl))) .nil) (G_ringref3_SetRow_L3_ok hF (.b 2 :: .s (cR (cR (cR (cR (cR (cR (cR (cR (bodyOf Try.f88))))))))) :: []) n  n 0 (mput v_z149 v_user138 v_limit139) ([] : List S_ringref3_Row) _ h179 ?_)
          cases v_o167 with
          | x0 v_z168 =>
            try dsimp only at h
            by_cases h180 : (v_z168.length : Int) > 20
            · rw [if_pos h180] at h
              obtain rfl := Option.some.inj h
              exact pend_sound TTok mix 9 (hs := [.u (.d (.v (.int .i64 (v_z168.length : Int)))), .t true]) (by kernel_rfl) (by kernel_rfl) (by kernel_rfl) (.cons (len_ob (f := eS_ringref3_Row) (l := v_z168)) (.cons (dt h180) .nil))
            · rw [if_neg h180] at h
              obtain rfl := Option.some.inj h
              exact pend_sound TTok mix 9 (hs := [.u (.d (.v (.int .i64 (v_z168.length : Int)))), .t false]) (by kernel_rfl) (by kernel_rfl) (by kernel_rfl) (.cons (len_ob (f := eS_ringref3_Row) (l := v_z168)) (.cons (df h180) .nil))
      · rw [if_neg h162] at h
        obtain rfl := Option.some.inj h
        exact pend_sound TTok mix 17 (hs := [.r (eB v_r140), .t false, .c, .r (eB v_r141), .c, .t false, .r ((eI .i64) v_r142), .t true]) (by kernel_rfl) (by kernel_rfl) (by kernel_rfl) (.cons (G_ringref3_within_ok n v_user138 0 255 _ h156) (.cons (bnf h157) (.cons (G_ringref3_within_ok n v_limit139 (-1) 256 _ h158) (.cons (bnf h159) (.cons (G_ringref3_RowsRight_ok n v_l137 _ h160) (.cons (nt h162) .nil))))))
    · rw [if_neg h159] at h
      obtain rfl := Option.some.inj h
      exact pend_sound TTok mix 10 (hs := [.r (eB v_r140), .t false, .c, .r (eB v_r141), .c, .t true]) (by kernel_rfl) (by kernel_rfl) (by kernel_rfl) (.cons (G_ringref3_within_ok n v_user138 0 255 _ h156) (.cons (bnf h157) (.cons (G_ringref3_within_ok n v_limit139 (-1) 256 _ h158) (.cons (bnt (vf h159)) .nil))))
  · rw [if_neg h157] at h
    obtain rfl := Option.some.inj h
    exact pend_sound TTok mix 10 (hs := [.r (eB v_r140), .t true, .c, .c, .c]) (by kernel_rfl) (by kernel_rfl) (by kernel_rfl) (.cons (G_ringref3_within_ok n v_user138 0 255 _ h156) (.cons (bnt (vf h157)) .nil))
inductive G_quota_Pack_L1_R where
  | x0 (v_w184 : (List Int))
def G_quota_Pack_L1_ex : G_quota_Pack_L1_R → Ex
  | .x0 _ => .exit 0
def G_quota_Pack_L1_st (v_l170 : (List S_quota_Row)) : G_quota_Pack_L1_R → PS
  | .x0 v_w184 => ⟨[dd, dd, dd, dd, dd, .srf 0, dd, dd, dd, dd, dd, dd, dd, dd, dd, dd, dd, dd, dd, dd, dd, dd, dd, dd, dd, dd, dd, dd, dd, dd, dd, dd, dd, dd, dd, dd, dd, dd, dd, dd, dd, dd, dd, dd, dd, dd, dd, dd, dd, dd, dd, dd, dd], [.row 5 1 (v_w184.map (eI .u8))]⟩
def G_quota_Pack_L1_hd (v_l170 : (List S_quota_Row)) (v_x174 : Int) (v_w175 : (List Int)) : PS := ⟨[dd, dd, dd, dd, dd, .srf 0, dd, dd, dd, dd, dd, dd, dd, dd, dd, dd, dd, dd, dd, .d (.sl (v_l170.map eS_quota_Row)), .d (.v (.int .i64 (v_l170.length : Int))), .d (.v (.int .i64 v_x174)), dd, dd, dd, dd, dd, dd, dd, dd, dd, dd, dd, dd, dd, dd, dd, dd, dd, dd, dd, dd, dd, dd, dd, dd, dd, dd, dd, dd, dd, dd, dd], [.row 5 1 (v_w175.map (eI .u8))]⟩
def G_quota_Pack_L1 (n : Nat) (v_l170 : (List S_quota_Row)) : Nat → Int → (List Int) → Option G_quota_Pack_L1_R
  | 0, _, _ => none
  | k + 1, v_x174, v_w175 =>
    if v_x174 < (v_l170.length : Int) then
     (getI v_l170 v_x174).bind fun (v_y180 : S_quota_Row) =>
     if 0 ≤ (wi .i64 ((wi .i64 (3 * v_x174)) + 1)) ∧ ((wi .i64 ((wi .i64 (3 * v_x174)) + 1))).toNat < v_w175.length then
      (v_w175[((wi .i64 ((wi .i64 (3 * v_x174)) + 1))).toNat]?).bind fun (v_y181 : Int) =>
      if 0 ≤ (wi .i64 ((wi .i64 (3 * v_x174)) + 2)) ∧ ((wi .i64 ((wi .i64 (3 * v_x174)) + 2))).toNat < (v_w175.set ((wi .i64 ((wi .i64 (3 * v_x174)) + 1))).toNat (wi .u8 v_y180.fUser)).length then
       ((v_w175.set ((wi .i64 ((wi .i64 (3 * v_x174)) + 1))).toNat (wi .u8 v_y180.fUser))[((wi .i64 ((wi .i64 (3 * v_x174)) + 2))).toNat]?).bind fun (v_y182 : Int) =>
       if 0 ≤ (wi .i64 ((wi .i64 (3 * v_x174)) + 3)) ∧ ((wi .i64 ((wi .i64 (3 * v_x174)) + 3))).toNat < ((v_w175.set ((wi .i64 ((wi .i64 (3 * v_x174)) + 1))).toNat (wi .u8 v_y180.fUser)).set ((wi .i64 ((wi .i64 (3 * v_x174)) + 2))).toNat (wi .u8 v_y180.fLimit)).length then
        (((v_w175.set ((wi .i64 ((wi .i64 (3 * v_x174)) + 1))).toNat (wi .u8 v_y180.fUser)).set ((wi .i64 ((wi .i64 (3 * v_x174)) + 2))).toNat (wi .u8 v_y180.fLimit))[((wi .i64 ((wi .i64 (3 * v_x174)) + 3))).toNat]?).bind fun (v_y183 : Int) =>
        G_quota_Pack_L1 n v_l170 k (wi .i64 (v_x174 + 1)) (((v_w175.set ((wi .i64 ((wi .i64 (3 * v_x174)) + 1))).toNat (wi .u8 v_y180.fUser)).set ((wi .i64 ((wi .i64 (3 * v_x174)) + 2))).toNat (wi .u8 v_y180.fLimit)).set ((wi .i64 ((wi .i64 (3 * v_x174)) + 3))).toNat (wi .u8 (shrI .i64 v_y180.fLimit 8)))
       else none
      else none
     else none
    else
     some (.x0 v_w175)
theorem G_quota_Pack_L1_ok {Fi : Ex → PS → Prop} (hF : KC 53 Fi) (ks : List Fr) (n : Nat) (v_l170 : (List S_quota_Row))  : ∀ (k : Nat) (v_x174 : Int) (v_w175 : (List Int)) (o : G_quota_Pack_L1_R), G_quota_Pack_L1 n v_l170 k v_x174 v_w175 = some o → RunE Try.prog 53 Fi ks (G_quota_Pack_L1_ex o) (G_quota_Pack_L1_st v_l170 o) → RunE Try.prog 53 Fi (.l k (cP (cB (cR (cL (cR (cR (cR (cR (bodyOf Try.f89))))))))) :: ks) .normal (G_quota_Pack_L1_hd v_l170 v_x174 v_w175)
  | 0, v_x174, v_w175, o, h, q => by rw [G_quota_Pack_L1] at h; cases h
  | k + 1, v_x174, v_w175, o, h, q => by
    rw [G_quota_Pack_L1] at h
    by_cases h188 : v_x174 < (v_l170.length : Int)
    · rw [if_pos h188] at h
      obtain ⟨v_y180, h197, h⟩ := bind_some h
      by_cases h199 : 0 ≤ (wi .i64 ((wi .i64 (3 * v_x174)) + 1)) ∧ ((wi .i64 ((wi .i64 (3 * v_x174)) + 1))).toNat < v_w175.length
      · rw [if_pos h199] at h
        obtain ⟨v_y181, h200, h⟩ := bind_some h
        by_cases h201 : 0 ≤ (wi .i64 ((wi .i64 (3 * v_x174)) + 2)) ∧ ((wi .i64 ((wi .i64 (3 * v_x174)) + 2))).toNat < (v_w175.set ((wi .i64 ((wi .i64 (3 * v_x174)) + 1))).toNat (wi .u8 v_y180.fUser)).length
        · rw [if_pos h201] at h
          obtain ⟨v_y182, h202, h⟩ := bind_some h
          by_cases h203 : 0 ≤ (wi .i64 ((wi .i64 (3 * v_x174)) + 3)) ∧ ((wi .i64 ((wi .i64 (3 * v_x174)) + 3))).toNat < ((v_w175.set ((wi .i64 ((wi .i64 (3 * v_x174)) + 1))).toNat (wi .u8 v_y180.fUser)).set ((wi .i64 ((wi .i64 (3 * v_x174)) + 2))).toNat (wi .u8 v_y180.fLimit)).length
          · rw [if_pos h203] at h
            obtain ⟨v_y183, h204, h⟩ := bind_some h
            exact pkk_sound TTok mix hF 13 (hs := [.t true, .y (eS_quota_Row v_y180), .c, .c, .c, .c, .w ((v_w175.set ((wi .i64 ((wi .i64 (3 * v_x174)) + 1))).toNat (wi .u8 v_y180.fUser)).map (eI .u8)), .y ((eI .u8) v_y181), .w (((v_w175.set ((wi .i64 ((wi .i64 (3 * v_x174)) + 1))).toNat (wi .u8 v_y180.fUser)).set ((wi .i64 ((wi .i64 (3 * v_x174)) + 2))).toNat (wi .u8 v_y180.fLimit)).map (eI .u8)), .y ((eI .u8) v_y182), .w ((((v_w175.set ((wi .i64 ((wi .i64 (3 * v_x174)) + 1))).toNat (wi .u8 v_y180.fUser)).set ((wi .i64 ((wi .i64 (3 * v_x174)) + 2))).toNat (wi .u8 v_y180.fLimit)).set ((wi .i64 ((wi .i64 (3 * v_x174)) + 3))).toNat (wi .u8 (shrI .i64 v_y180.fLimit 8))).map (eI .u8)), .y ((eI .u8) v_y183)]) (ts := []) (s := [0]) (l := [5, 19, 20, 21]) (by kernel_rfl) (by kernel_rfl) (.cons (dt h188) (.cons (getI_ob (f := eS_quota_Row) h197) (.cons (show 0 + 2 ≤ 2 by decide) (.cons (show (0 : Int) ≤ 8 by decide) (.cons (idx_ob (f := (eI .u8)) h199) (.cons (get_ob (f := (eI .u8)) h200) (.cons (Eq.refl (pcells (.v (.int .u8 (wi .u8 v_y180.fUser))))) (.cons (set_ob (f := (eI .u8)) (l := v_w175) (k := ((wi .i64 ((wi .i64 (3 * v_x174)) + 1))).toNat) (z := (wi .u8 v_y180.fUser)) (p := .v (.int .u8 (wi .u8 v_y180.fUser))) rfl) (.cons (idx_ob (f := (eI .u8)) h201) (.cons (get_ob (f := (eI .u8)) h202) (.cons (Eq.refl (pcells (.v (.int .u8 (wi .u8 v_y180.fLimit))))) (.cons (set_ob (f := (eI .u8)) (l := (v_w175.set ((wi .i64 ((wi .i64 (3 * v_x174)) + 1))).toNat (wi .u8 v_y180.fUser))) (k := ((wi .i64 ((wi .i64 (3 * v_x174)) + 2))).toNat) (z := (wi .u8 v_y180.fLimit)) (p := .v (.int .u8 (wi .u8 v_y180.fLimit))) rfl) (.cons (idx_ob (f := (eI .u8)) h203) (.cons (get_ob (f := (eI .u8)) h204) (.cons (Eq.refl (pcells (.v (.int .u8 (wi .u8 (shrI .i64 v_y180.fLimit 8)))))) (.cons (set_ob (f := (eI .u8)) (l := ((v_w175.set ((wi .i64 ((wi .i64 (3 * v_x174)) + 1))).toNat (wi .u8 v_y180.fUser)).set ((wi .i64 ((wi .i64 (3 * v_x174)) + 2))).toNat (wi .u8 v_y180.fLimit))) (k := ((wi .i64 ((wi .i64 (3 * v_x174)) + 3))).toNat) (z := (wi .u8 (shrI .i64 v_y180.fLimit 8))) (p := .v (.int .u8 (wi .u8 (shrI .i64 v_y180.fLimit 8)))) rfl) .nil)))))))))))))))) (G_quota_Pack_L1_ok hF ks n v_l170 k (wi .i64 (v_x174 + 1)) (((v_w175.set ((wi .i64 ((wi .i64 (3 * v_x174)) + 1))).toNat (wi .u8 v_y180.fUser)).set ((wi .i64 ((wi .i64 (3 * v_x174)) + 2))).toNat (wi .u8 v_y180.fLimit)).set ((wi .i64 ((wi .i64 (3 * v_x174)) + 3))).toNat (wi .u8 (shrI .i64 v_y180.fLimit 8))) _ h q)
          · rw [if_neg h203] at h; cases h
        · rw [if_neg h201] at h; cases h
      · rw [if_neg h199] at h; cases h
    · rw [if_neg h188] at h
      cases h
      exact pkk_sound TTok mix hF 8 (hs := [.t false]) (ts := []) (s := [0]) (l := [5]) (by kernel_rfl) (by kernel_rfl) (.cons (df h188) .nil) q
/- ringhall/quota.Pack -/
def G_quota_Pack (n : Nat) (v_l170 : (List S_quota_Row)) : Option ((List Int) × Int) :=
  (G_quota_Right n v_l170).bind fun (v_r171 : (Int)) =>
  if v_r171 = 0 then
   (mkL 1 0 64).bind fun (v_m172 : (List Int)) =>
   if 0 ≤ (0 : Int) ∧ ((0 : Int)).toNat < v_m172.length then
    (v_m172[((0 : Int)).toNat]?).bind fun (v_y173 : Int) =>
    (G_quota_Pack_L1 n v_l170 n 0 (v_m172.set ((0 : Int)).toNat (wi .u8 (v_l170.length : Int)))).bind fun v_o185 => match v_o185 with
    | .x0 v_z186 =>
      some (v_z186, 0)
   else none
  else
   some (([] : (List Int)), v_r171)
theorem G_quota_Pack_ok (n : Nat) (v_l170 : (List S_quota_Row)) (r : (List Int) × Int) (h : G_quota_Pack n v_l170 = some r) : Ret Try.prog 89 [(eL eS_quota_Row) v_l170] (.tup [(eL (eI .u8)) r.1, (eI .i64) r.2]) := by
  refine ret_run (n := 53) (fn := Try.f89) (c := bodyOf Try.f89) (by kernel_rfl) (by kernel_rfl) (by kernel_rfl) (by kernel_rfl) ?_
  have hF : KC 53 (FinR Try.prog Try.f89 (.tup [(eL (eI .u8)) r.1, (eI .i64) r.2])) := FinR.kc' (by kernel_rfl)
  unfold G_quota_Pack at h
  obtain ⟨v_r171, h182, h⟩ := bind_some h
  by_cases h184 : v_r171 = 0
  · rw [if_pos h184] at h
    obtain ⟨v_m172, h185, h⟩ := bind_some h
    by_cases h186 : 0 ≤ (0 : Int) ∧ ((0 : Int)).toNat < v_m172.length
    · rw [if_pos h186] at h
      obtain ⟨v_y173, h187, h⟩ := bind_some h
      obtain ⟨v_o185, h205, h⟩ := bind_some h
      refine pkk_sound TTok mix hF 18 (hs := [.r ((eI .i64) v_r171), .t false, .w (v_m172.map (eI .u8)), .u (.d (.v (.int .i64 (v_l170.length : Int)))), .w ((v_m172.set ((0 : Int)).toNat (wi .u8 (v_l170.length : Int))).map (eI .u8)), .y ((eI .u8) v_y173), .u (.d (.v (.int .i64 (v_l170.length : Int)))), .n n]) (ts := []) (s := [21]) (l := [5, 19, 20, 21]) (by kernel_rfl) (by kernel_rfl) (.cons (G_quota_Right_ok n v_l170 _ h182) (.cons (nf h184) (.cons (mkL_ob (f := (eI .u8)) (p := .v (.int .u8 0)) h185 rfl).1 (.cons (mkL_ob (f := (eI .u8)) (p := .v (.int .u8 0)) h185 rfl).2.1 (.cons (mkL_ob (f := (eI .u8)) (p := .v (.int .u8 0)) h185 rfl).2.2.1 (.cons (mkL_ob (f := (eI .u8)) (p := .v (.int .u8 0)) h185 rfl).2.2.2.1 (.cons (mkL_ob (f := (eI .u8)) (p := .v (.int .u8 0)) h185 rfl).2.2.2.2 (.cons (len_ob (f := eS_quota_Row) (l := v_l170)) (.cons (idx_ob (f := (eI .u8)) h186) (.cons (get_ob (f := (eI .u8)) h187) (.cons (Eq.refl (pcells (.v (.int .u8 (wi .u8 (v_l170.length : Int)))))) (.cons (set_ob (f := (eI .u8)) (l := v_m172) (k := ((0 : Int)).toNat) (z := (wi .u8 (v_l170.length : Int))) (p := .v (.int .u8 (wi .u8 (v_l170.length : Int)))) rfl) (.cons (len_ob (f := eS_quota_Row) (l := v_l170)) .nil))))))))))))) (G_quota_Pack_L1_ok hF (.b 0 :: .s (cR (cR (cR (cR (cR (bodyOf Try.f89)))))) :: []) n v_l170 n 0 (v_m172.set ((0 : Int)).toNat (wi .u8 (v_l170.length : Int))) _ h205 ?_)
      cases v_o185 with
      | x0 v_z186 =>
        try dsimp only at h
        obtain rfl := Option.some.inj h
        exact pend_sound TTok mix 4 (hs := []) (by kernel_rfl) (by kernel_rfl) (by kernel_rfl) .nil
    · rw [if_neg h186] at h; cases h
  · rw [if_neg h184] at h
    obtain rfl := Option.some.inj h
    exact pend_sound TTok mix 12 (hs := [.r ((eI .i64) v_r171), .t true]) (by kernel_rfl) (by kernel_rfl) (by kernel_rfl) (.cons (G_quota_Right_ok n v_l170 _ h182) (.cons (nt h184) .nil))
inductive G_slices_Equal_byte_byte_L1_R where
  | x0 (v_x217 : Bool)
  | x1 
def G_slices_Equal_byte_byte_L1_ex : G_slices_Equal_byte_byte_L1_R → Ex
  | .x0 _ => .ret
  | .x1  => .exit 0
def G_slices_Equal_byte_byte_L1_st (v_s210 : (List Int)) (v_s211 : (List Int)) : G_slices_Equal_byte_byte_L1_R → PS
  | .x0 v_x217 => ⟨[dd, dd, dd, dd, .d (.v (.bool v_x217)), dd, dd, dd, dd, dd, dd, dd, dd, dd, dd, dd, dd, dd, dd, dd, dd, dd, dd, dd, dd, dd], []⟩
  | .x1  => ⟨[dd, dd, dd, dd, dd, dd, dd, dd, dd, dd, dd, dd, dd, dd, dd, dd, dd, dd, dd, dd, dd, dd, dd, dd, dd, dd], []⟩
def G_slices_Equal_byte_byte_L1_hd (v_s210 : (List Int)) (v_s211 : (List Int)) (v_x212 : Int) : PS := ⟨[.d (.sl (v_s210.map (eI .u8))), .d (.sl (v_s211.map (eI .u8))), dd, dd, dd, dd, dd, dd, dd, dd, dd, dd, .d (.v (.int .i64 (v_s210.length : Int))), .d (.v (.int .i64 v_x212)), dd, dd, dd, dd, dd, dd, dd, dd, dd, dd, dd, dd], []⟩
def G_slices_Equal_byte_byte_L1 (n : Nat) (v_s210 : (List Int)) (v_s211 : (List Int)) : Nat → Int → Option G_slices_Equal_byte_byte_L1_R
  | 0, _ => none
  | k + 1, v_x212 =>
    if v_x212 < (v_s210.length : Int) then
     (getI v_s210 v_x212).bind fun (v_y215 : Int) =>
     (getI v_s211 v_x212).bind fun (v_y216 : Int) =>
     if v_y215 = v_y216 then
      G_slices_Equal_byte_byte_L1 n v_s210 v_s211 k (wi .i64 (v_x212 + 1))
     else
      some (.x0 false)
    else
     some (.x1 )
theorem G_slices_Equal_byte_byte_L1_ok {Fi : Ex → PS → Prop} (hF : KC 26 Fi) (ks : List Fr) (n : Nat) (v_s210 : (List Int)) (v_s211 : (List Int))  : ∀ (k : Nat) (v_x212 : Int) (o : G_slices_Equal_byte_byte_L1_R), G_slices_Equal_byte_byte_L1 n v_s210 v_s211 k v_x212 = some o → RunE Try.prog 26 Fi ks (G_slices_Equal_byte_byte_L1_ex o) (G_slices_Equal_byte_byte_L1_st v_s210 v_s211 o) → RunE Try.prog 26 Fi (.l k (cP (cB (cR (cL (cR (cR (bodyOf Try.f38))))))) :: ks) .normal (G_slices_Equal_byte_byte_L1_hd v_s210 v_s211 v_x212)
  | 0, v_x212, o, h, q => by rw [G_slices_Equal_byte_byte_L1] at h; cases h
  | k + 1, v_x212, o, h, q => by
    rw [G_slices_Equal_byte_byte_L1] at h
    by_cases h229 : v_x212 < (v_s210.length : Int)
    · rw [if_pos h229] at h
      obtain ⟨v_y215, h233, h⟩ := bind_some h
      obtain ⟨v_y216, h234, h⟩ := bind_some h
      by_cases h235 : v_y215 = v_y216
      · rw [if_pos h235] at h
        exact pkk_sound TTok mix hF 16 (hs := [.t true, .y ((eI .u8) v_y215), .c, .y ((eI .u8) v_y216), .c, .t false]) (ts := []) (s := []) (l := [0, 1, 12, 13]) (by kernel_rfl) (by kernel_rfl) (.cons (dt h229) (.cons (getI_ob (f := (eI .u8)) h233) (.cons (getI_ob (f := (eI .u8)) h234) (.cons (nf h235) .nil)))) (G_slices_Equal_byte_byte_L1_ok hF ks n v_s210 v_s211 k (wi .i64 (v_x212 + 1)) _ h q)
      · rw [if_neg h235] at h
        cases h
        exact pkk_sound TTok mix hF 19 (hs := [.t true, .y ((eI .u8) v_y215), .c, .y ((eI .u8) v_y216), .c, .t true]) (ts := []) (s := []) (l := [4]) (by kernel_rfl) (by kernel_rfl) (.cons (dt h229) (.cons (getI_ob (f := (eI .u8)) h233) (.cons (getI_ob (f := (eI .u8)) h234) (.cons (nt h235) .nil)))) q
    · rw [if_neg h229] at h
      cases h
      exact pkk_sound TTok mix hF 8 (hs := [.t false]) (ts := []) (s := []) (l := []) (by kernel_rfl) (by kernel_rfl) (.cons (df h229) .nil) q
/- slices.Equal[[]byte,byte] -/
def G_slices_Equal_byte_byte (n : Nat) (v_s210 : (List Int)) (v_s211 : (List Int)) : Option (Bool) :=
  if (v_s210.length : Int) = (v_s211.length : Int) then
   (G_slices_Equal_byte_byte_L1 n v_s210 v_s211 n 0).bind fun v_o218 => match v_o218 with
   | .x0 v_z219 =>
     some v_z219
   | .x1  =>
     some true
  else
   some false
theorem G_slices_Equal_byte_byte_ok (n : Nat) (v_s210 : (List Int)) (v_s211 : (List Int)) (r : Bool) (h : G_slices_Equal_byte_byte n v_s210 v_s211 = some r) : Ret Try.prog 38 [(eL (eI .u8)) v_s210, (eL (eI .u8)) v_s211] (eB r) := by
  refine ret_run (n := 26) (fn := Try.f38) (c := bodyOf Try.f38) (by kernel_rfl) (by kernel_rfl) (by kernel_rfl) (by kernel_rfl) ?_
  have hF : KC 26 (FinR Try.prog Try.f38 (eB r)) := FinR.kc' (by kernel_rfl)
  unfold G_slices_Equal_byte_byte at h
  by_cases h228 : (v_s210.length : Int) = (v_s211.length : Int)
  · rw [if_pos h228] at h
    obtain ⟨v_o218, h236, h⟩ := bind_some h
    refine pkk_sound TTok mix hF 12 (hs := [.u (.d (.v (.int .i64 (v_s210.length : Int)))), .u (.d (.v (.int .i64 (v_s211.length : Int)))), .t false, .u (.d (.v (.int .i64 (v_s210.length : Int)))), .n n]) (ts := []) (s := []) (l := [0, 1, 12, 13]) (by kernel_rfl) (by kernel_rfl) (.cons (len_ob (f := (eI .u8)) (l := v_s210)) (.cons (len_ob (f := (eI .u8)) (l := v_s211)) (.cons (nf h228) (.cons (len_ob (f := (eI .u8)) (l := v_s210)) .nil)))) (G_slices_Equal_byte_byte_L1_ok hF (.b 0 :: .s (cR (cR (cR (bodyOf Try.f38)))) :: []) n v_s210 v_s211 n 0 _ h236 ?_)
    cases v_o218 with
    | x0 v_z219 =>
      try dsimp only at h
      obtain rfl := Option.some.inj h
      exact pend_sound TTok mix 2 (hs := []) (by kernel_rfl) (by kernel_rfl) (by kernel_rfl) .nil
    | x1  =>
      try dsimp only at h
      obtain rfl := Option.some.inj h
      exact pend_sound TTok mix 4 (hs := []) (by kernel_rfl) (by kernel_rfl) (by kernel_rfl) .nil
  · rw [if_neg h228] at h
    obtain rfl := Option.some.inj h
    exact pend_sound TTok mix 10 (hs := [.u (.d (.v (.int .i64 (v_s210.length : Int)))), .u (.d (.v (.int .i64 (v_s211.length : Int)))), .t true]) (by kernel_rfl) (by kernel_rfl) (by kernel_rfl) (.cons (len_ob (f := (eI .u8)) (l := v_s210)) (.cons (len_ob (f := (eI .u8)) (l := v_s211)) (.cons (nt h228) .nil)))
inductive G_quota_Unpack_C1_R where
  | x0 (v_x190 : Bool)
def G_quota_Unpack_C1_ex : G_quota_Unpack_C1_R → Ex
  | .x0 _ => .normal
def G_quota_Unpack_C1_st (v_b188 : (List Int)) : G_quota_Unpack_C1_R → PS
  | .x0 v_x190 => ⟨[.d (.sl (v_b188.map (eI .u8))), dd, dd, dd, dd, dd, dd, dd, dd, dd, dd, dd, dd, dd, dd, dd, .d (.v (.bool v_x190)), dd, dd, dd, dd, dd, dd, dd, dd, dd, dd, dd, dd, dd, dd, dd, dd, dd, dd, dd, dd, dd, dd, dd, dd, dd, dd, dd, dd, dd, dd, dd, dd, dd, dd, dd, dd, dd, dd, dd, dd, dd, dd, dd, dd, dd, dd, dd, dd, dd], []⟩
def G_quota_Unpack_C1_hd (v_b188 : (List Int))  : PS := ⟨[.d (.sl (v_b188.map (eI .u8))), dd, dd, dd, dd, dd, dd, dd, dd, dd, dd, dd, dd, dd, dd, dd, dd, dd, dd, dd, dd, dd, dd, dd, dd, dd, dd, dd, dd, dd, dd, dd, dd, dd, dd, dd, dd, dd, dd, dd, dd, dd, dd, dd, dd, dd, dd, dd, dd, dd, dd, dd, dd, dd, dd, dd, dd, dd, dd, dd, dd, dd, dd, dd, dd, dd], []⟩
def G_quota_Unpack_C1 (n : Nat) (v_b188 : (List Int)) : Option G_quota_Unpack_C1_R :=
  if (v_b188.length : Int) = 64 then
   (getI v_b188 0).bind fun (v_y191 : Int) =>
   some (.x0 (decide (v_y191 > 20)))
  else
   some (.x0 true)
theorem G_quota_Unpack_C1_ok {Fi : Ex → PS → Prop} (hF : KC 66 Fi) (ks : List Fr) (n : Nat) (v_b188 : (List Int))  (o : G_quota_Unpack_C1_R) (h : G_quota_Unpack_C1 n v_b188 = some o) (q : RunE Try.prog 66 Fi ks (G_quota_Unpack_C1_ex o) (G_quota_Unpack_C1_st v_b188 o)) : RunE Try.prog 66 Fi (.s (cL (cL (cR (bodyOf Try.f90)))) :: ks) .normal (G_quota_Unpack_C1_hd v_b188) := by
  unfold G_quota_Unpack_C1 at h
  by_cases h209 : (v_b188.length : Int) = 64
  · rw [if_pos h209] at h
    obtain ⟨v_y191, h210, h⟩ := bind_some h
    cases h
    exact pkk_sound TTok mix hF 1 (hs := [.u (.d (.v (.int .i64 (v_b188.length : Int)))), .t false, .c, .y ((eI .u8) v_y191), .c, .c, .c]) (ts := []) (s := []) (l := [0, 16]) (by kernel_rfl) (by kernel_rfl) (.cons (len_ob (f := (eI .u8)) (l := v_b188)) (.cons (nf h209) (.cons (getI_ob (f := (eI .u8)) h210) .nil))) q
  · rw [if_neg h209] at h
    cases h
    exact pkk_sound TTok mix hF 1 (hs := [.u (.d (.v (.int .i64 (v_b188.length : Int)))), .t true, .c, .c, .c]) (ts := []) (s := []) (l := [0, 16]) (by kernel_rfl) (by kernel_rfl) (.cons (len_ob (f := (eI .u8)) (l := v_b188)) (.cons (nt h209) .nil)) q
inductive G_quota_Unpack_L2_R where
  | x0 (v_w206 : (List S_quota_Row))
def G_quota_Unpack_L2_ex : G_quota_Unpack_L2_R → Ex
  | .x0 _ => .exit 0
def G_quota_Unpack_L2_st (v_b188 : (List Int)) (v_y195 : Int) : G_quota_Unpack_L2_R → PS
  | .x0 v_w206 => ⟨[.d (.sl (v_b188.map (eI .u8))), dd, dd, dd, .srf 0, dd, dd, dd, dd, dd, dd, dd, dd, dd, dd, dd, dd, dd, dd, dd, dd, dd, dd, dd, dd, dd, dd, dd, dd, dd, dd, dd, dd, dd, dd, dd, dd, dd, dd, dd, dd, dd, dd, dd, dd, dd, dd, dd, dd, dd, dd, dd, dd, dd, dd, dd, dd, dd, dd, dd, dd, dd, dd, dd, dd, dd], [.row 306 2 (v_w206.map eS_quota_Row)]⟩
def G_quota_Unpack_L2_hd (v_b188 : (List Int)) (v_y195 : Int) (v_x196 : Int) (v_w197 : (List S_quota_Row)) : PS := ⟨[.d (.sl (v_b188.map (eI .u8))), dd, dd, dd, .srf 0, dd, dd, dd, dd, dd, dd, dd, dd, dd, dd, dd, dd, dd, dd, dd, .d (.v (.int .i64 (wi .i64 v_y195))), .d (.v (.int .i64 v_x196)), dd, dd, dd, dd, dd, dd, dd, dd, dd, dd, dd, dd, dd, dd, dd, dd, dd, dd, dd, dd, dd, dd, dd, dd, dd, dd, dd, dd, dd, dd, dd, dd, dd, dd, dd, dd, dd, dd, dd, dd, dd, dd, dd, dd], [.row 306 2 (v_w197.map eS_quota_Row)]⟩
def G_quota_Unpack_L2 (n : Nat) (v_b188 : (List Int)) (v_y195 : Int) : Nat → Int → (List S_quota_Row) → Option G_quota_Unpack_L2_R
  | 0, _, _ => none
  | k + 1, v_x196, v_w197 =>
    if v_x196 < (wi .i64 v_y195) then
     (getI v_b188 (wi .i64 ((wi .i64 (3 * v_x196)) + 1))).bind fun (v_y202 : Int) =>
     (getI v_b188 (wi .i64 ((wi .i64 (3 * v_x196)) + 2))).bind fun (v_y203 : Int) =>
     (getI v_b188 (wi .i64 ((wi .i64 (3 * v_x196)) + 3))).bind fun (v_y204 : Int) =>
     (app 16 v_w197 ([(S_quota_Row.mk (wi .i64 v_y202) (bits .or .i64 (wi .i64 v_y203) (shlI .i64 (wi .i64 v_y204) 8)))])).bind fun (v_a205 : (List S_quota_Row)) =>
     G_quota_Unpack_L2 n v_b188 v_y195 k (wi .i64 (v_x196 + 1)) v_a205
    else
     some (.x0 v_w197)
theorem G_quota_Unpack_L2_ok {Fi : Ex → PS → Prop} (hF : KC 66 Fi) (ks : List Fr) (n : Nat) (v_b188 : (List Int)) (v_y195 : Int)  : ∀ (k : Nat) (v_x196 : Int) (v_w197 : (List S_quota_Row)) (o : G_quota_Unpack_L2_R), G_quota_Unpack_L2 n v_b188 v_y195 k v_x196 v_w197 = some o → RunE Try.prog 66 Fi ks (G_quota_Unpack_L2_ex o) (G_quota_Unpack_L2_st v_b188 v_y195 o) → RunE Try.prog 66 Fi (.l k (cP (cB (cR (cL (cR (cR (cR (bodyOf Try.f90)))))))) :: ks) .normal (G_quota_Unpack_L2_hd v_b188 v_y195 v_x196 v_w197)
  | 0, v_x196, v_w197, o, h, q => by rw [G_quota_Unpack_L2] at h; cases h
  | k + 1, v_x196, v_w197, o, h, q => by
    rw [G_quota_Unpack_L2] at h
    by_cases h214 : v_x196 < (wi .i64 v_y195)
    · rw [if_pos h214] at h
      obtain ⟨v_y202, h220, h⟩ := bind_some h
      obtain ⟨v_y203, h221, h⟩ := bind_some h
      obtain ⟨v_y204, h222, h⟩ := bind_some h
      obtain ⟨v_a205, h224, h⟩ := bind_some h
      exact pkk_sound TTok mix hF 13 (hs := [.t true, .y ((eI .u8) v_y202), .c, .y ((eI .u8) v_y203), .c, .y ((eI .u8) v_y204), .c, .bd, .w (v_a205.map eS_quota_Row)]) (ts := []) (s := [88]) (l := [0, 4, 20, 21]) (by kernel_rfl) (by kernel_rfl) (.cons (dt h214) (.cons (getI_ob (f := (eI .u8)) h220) (.cons (getI_ob (f := (eI .u8)) h221) (.cons (getI_ob (f := (eI .u8)) h222) (.cons (show (0 : Int) ≤ 8 by decide) (.cons (app_ob (f := eS_quota_Row) (s := 2) h224 (fun _ => rfl)).1 (.cons (app_ob (f := eS_quota_Row) (s := 2) h224 (fun _ => rfl)).2.1 (.cons (app_ob (f := eS_quota_Row) (s := 2) h224 (fun _ => rfl)).2.2.1 (.cons (app_ob (f := eS_quota_Row) (s := 2) h224 (fun _ => rfl)).2.2.2 .nil))))))))) (G_quota_Unpack_L2_ok hF ks n v_b188 v_y195 k (wi .i64 (v_x196 + 1)) v_a205 _ h q)
    · rw [if_neg h214] at h
      cases h
      exact pkk_sound TTok mix hF 8 (hs := [.t false]) (ts := []) (s := [0]) (l := [0, 4]) (by kernel_rfl) (by kernel_rfl) (.cons (df h214) .nil) q
/- ringhall/quota.Unpack -/
def G_quota_Unpack (n : Nat) (v_b188 : (List Int)) : Option ((List S_quota_Row) × Int) :=
  (G_quota_Unpack_C1 n v_b188).bind fun v_o193 => match v_o193 with
  | .x0 v_z194 =>
    if v_z194 = true then
     some (([] : (List S_quota_Row)), 3)
    else
     (getI v_b188 0).bind fun (v_y195 : Int) =>
     (G_quota_Unpack_L2 n v_b188 v_y195 n 0 ([] : List S_quota_Row)).bind fun v_o207 => match v_o207 with
     | .x0 v_z208 =>
       (G_quota_Pack n v_z208).bind fun (v_r209 : ((List Int) × Int)) =>
       if v_r209.2 = 0 then
        (G_slices_Equal_byte_byte n v_r209.1 v_b188).bind fun (v_r221 : (Bool)) =>
        if v_r221 = true then
         some (v_z208, 0)
        else
         some (([] : (List S_quota_Row)), 3)
       else
        some (([] : (List S_quota_Row)), 3)
theorem G_quota_Unpack_ok (n : Nat) (v_b188 : (List Int)) (r : (List S_quota_Row) × Int) (h : G_quota_Unpack n v_b188 = some r) : Ret Try.prog 90 [(eL (eI .u8)) v_b188] (.tup [(eL eS_quota_Row) r.1, (eI .i64) r.2]) := by
  refine ret_run (n := 66) (fn := Try.f90) (c := bodyOf Try.f90) (by kernel_rfl) (by kernel_rfl) (by kernel_rfl) (by kernel_rfl) ?_
  have hF : KC 66 (FinR Try.prog Try.f90 (.tup [(eL eS_quota_Row) r.1, (eI .i64) r.2])) := FinR.kc' (by kernel_rfl)
  unfold G_quota_Unpack at h
  obtain ⟨v_o193, h211, h⟩ := bind_some h
  refine pkk_sound TTok mix hF 4 (hs := []) (ts := []) (s := []) (l := [0]) (by kernel_rfl) (by kernel_rfl) .nil (G_quota_Unpack_C1_ok hF (.s (cR (cL (cR (bodyOf Try.f90)))) :: .s (cR (cR (bodyOf Try.f90))) :: []) n v_b188 _ h211 ?_)
  cases v_o193 with
  | x0 v_z194 =>
    try dsimp only at h
    by_cases h212 : v_z194 = true
    · rw [if_pos h212] at h
      obtain rfl := Option.some.inj h
      exact pend_sound TTok mix 5 (hs := [.t true]) (by kernel_rfl) (by kernel_rfl) (by kernel_rfl) (.cons h212 .nil)
    · rw [if_neg h212] at h
      obtain ⟨v_y195, h213, h⟩ := bind_some h
      obtain ⟨v_o207, h225, h⟩ := bind_some h
      refine pkk_sound TTok mix hF 9 (hs := [.t false, .y ((eI .u8) v_y195), .c, .n n]) (ts := [(4, 306, 2)]) (s := [18]) (l := [0, 4, 20, 21]) (by kernel_rfl) (by kernel_rfl) (.cons (vf h212) (.cons (getI_ob (f := (eI .u8)) h213) .nil)) (G_quota_Unpack_L2_ok hF (.b 0 :: .s (cR (cR (cR (cR (bodyOf Try.f90))))) :: []) n v_b188 v_y195 n 0 ([] : List S_quota_Row) _ h225 ?_)
      cases v_o207 with
      | x0 v_z208 =>
        try dsimp only at h
        obtain ⟨v_r209, h226, h⟩ := bind_some h
        by_cases h238 : v_r209.2 = 0
        · rw [if_pos h238] at h
          obtain ⟨v_r221, h239, h⟩ := bind_some h
          by_cases h240 : v_r221 = true
          · rw [if_pos h240] at h
            obtain rfl := Option.some.inj h
            exact pend_sound TTok mix 12 (hs := [.dl 2, .fz 0, .r (.tup [(eL (eI .u8)) v_r209.1, (eI .i64) v_r209.2]), .t false, .c, .c, .r (eB v_r221), .c, .t false]) (by kernel_rfl) (by kernel_rfl) (by kernel_rfl) (.cons (G_quota_Pack_ok n v_z208 _ h226) (.cons (nf h238) (.cons (G_slices_Equal_byte_byte_ok n v_r209.1 v_b188 _ h239) (.cons (bnf h240) .nil))))
          · rw [if_neg h240] at h
            obtain rfl := Option.some.inj h
            exact pend_sound TTok mix 12 (hs := [.dl 2, .fz 0, .r (.tup [(eL (eI .u8)) v_r209.1, (eI .i64) v_r209.2]), .t false, .c, .c, .r (eB v_r221), .c, .t true]) (by kernel_rfl) (by kernel_rfl) (by kernel_rfl) (.cons (G_quota_Pack_ok n v_z208 _ h226) (.cons (nf h238) (.cons (G_slices_Equal_byte_byte_ok n v_r209.1 v_b188 _ h239) (.cons (bnt (vf h240)) .nil))))
        · rw [if_neg h238] at h
          obtain rfl := Option.some.inj h
          exact pend_sound TTok mix 12 (hs := [.dl 2, .fz 0, .r (.tup [(eL (eI .u8)) v_r209.1, (eI .i64) v_r209.2]), .t true, .c, .c, .c, .c]) (by kernel_rfl) (by kernel_rfl) (by kernel_rfl) (.cons (G_quota_Pack_ok n v_z208 _ h226) (.cons (nt h238) .nil))
/- ringhall/ringref3.one -/
def G_ringref3_one (n : Nat) (v_n241 : Int) : Option (ByteArray) :=
  some (b2s ([(wi .u8 v_n241)]))
theorem G_ringref3_one_ok (n : Nat) (v_n241 : Int) (r : ByteArray) (h : G_ringref3_one n v_n241 = some r) : Ret Try.prog 194 [(eI .i64) v_n241] (eS r) := by
  refine ret_run (n := 7) (fn := Try.f194) (c := bodyOf Try.f194) (by kernel_rfl) (by kernel_rfl) (by kernel_rfl) (by kernel_rfl) ?_
  have hF : KC 7 (FinR Try.prog Try.f194 (eS r)) := FinR.kc' (by kernel_rfl)
  unfold G_ringref3_one at h
  obtain rfl := Option.some.inj h
  exact pend_sound TTok mix 5 (hs := [.w ([(wi .u8 v_n241)].map (eI .u8)), .e 12 [9] (.d (.v (.string (b2s ([(wi .u8 v_n241)]))))) []]) (by kernel_rfl) (by kernel_rfl) (by kernel_rfl) (.cons (Eq.refl ([(wi .u8 v_n241)].map (eI .u8))) (.cons (xb2sR (l := 9) (L := [(wi .u8 v_n241)]) (P := Try.prog) (T := TT) (src := 48) (dst := 9) (e := 5) (s := 1) (x := (.tmp 5)) (by kernel_rfl) (by kernel_rfl) (by kernel_rfl)) .nil))
/- ringhall/ringref3.two -/
def G_ringref3_two (n : Nat) (v_n247 : Int) : Option (ByteArray) :=
  some (b2s ([(wi .u8 (remI v_n247 256)), (wi .u8 (quoI .i64 v_n247 256))]))
theorem G_ringref3_two_ok (n : Nat) (v_n247 : Int) (r : ByteArray) (h : G_ringref3_two n v_n247 = some r) : Ret Try.prog 195 [(eI .i64) v_n247] (eS r) := by
  refine ret_run (n := 11) (fn := Try.f195) (c := bodyOf Try.f195) (by kernel_rfl) (by kernel_rfl) (by kernel_rfl) (by kernel_rfl) ?_
  have hF : KC 11 (FinR Try.prog Try.f195 (eS r)) := FinR.kc' (by kernel_rfl)
  unfold G_ringref3_two at h
  obtain rfl := Option.some.inj h
  exact pend_sound TTok mix 5 (hs := [.w ([(wi .u8 (remI v_n247 256)), (wi .u8 (quoI .i64 v_n247 256))].map (eI .u8)), .e 24 [21] (.d (.v (.string (b2s ([(wi .u8 (remI v_n247 256)), (wi .u8 (quoI .i64 v_n247 256))]))))) []]) (by kernel_rfl) (by kernel_rfl) (by kernel_rfl) (.cons (show (256 : Int) ≠ 0 by decide) (.cons (show (256 : Int) ≠ 0 by decide) (.cons (Eq.refl ([(wi .u8 (remI v_n247 256)), (wi .u8 (quoI .i64 v_n247 256))].map (eI .u8))) (.cons (xb2sR (l := 21) (L := [(wi .u8 (remI v_n247 256)), (wi .u8 (quoI .i64 v_n247 256))]) (P := Try.prog) (T := TT) (src := 48) (dst := 9) (e := 5) (s := 1) (x := (.tmp 9)) (by kernel_rfl) (by kernel_rfl) (by kernel_rfl)) .nil))))
def G_strings_Repeat (n : Nat) (s : ByteArray) (c : Int) : Option ByteArray := if 0 ≤ c ∧ c ≤ 9223372036854775807 ∧ s.size * c.toNat ≤ 140737488355328 then some ⟨(Lib.repeatL s.data.toList c.toNat).toArray⟩ else none
theorem G_strings_Repeat_ok (n : Nat) (s : ByteArray) (c : Int) (r : ByteArray) (h : G_strings_Repeat n s c = some r) : Ret Try.prog 256 [eS s, eI .i64 c] (eS r) := by
  unfold G_strings_Repeat at h
  split at h
  · rename_i q
    obtain ⟨q1, q2, q3⟩ := q
    obtain rfl := Option.some.inj h
    obtain ⟨c, rfl⟩ := Int.eq_ofNat_of_zero_le q1
    refine ⟨⟨Try.f256, by kernel_rfl, by kernel_rfl, by kernel_rfl⟩, fun ow w vs _ hv => ?_⟩
    simp only [RT, R, eS, eI] at hv
    obtain ⟨_, _, rfl, ⟨rfl, _⟩, _, _, rfl, ⟨rfl, _⟩, rfl⟩ := hv
    refine (Try.strings_Repeat s c w (by omega) (by simpa using q3)).mono ?_
    rintro e w' ⟨rfl, hb⟩
    exact ⟨_, rfl, hb, rfl, rfl⟩
  · cases h
/- ringhall/ringref3.pad -/
def G_ringref3_pad (n : Nat) (v_s259 : ByteArray) : Option (ByteArray) :=
  (G_strings_Repeat n (ByteArray.mk #[0]) (wi .i64 (64 - (v_s259.size : Int)))).bind fun (v_r260 : (ByteArray)) =>
  (catS v_s259 v_r260).bind fun (v_s261 : ByteArray) =>
  some v_s261
theorem G_ringref3_pad_ok (n : Nat) (v_s259 : ByteArray) (r : ByteArray) (h : G_ringref3_pad n v_s259 = some r) : Ret Try.prog 196 [eS v_s259] (eS r) := by
  refine ret_run (n := 9) (fn := Try.f196) (c := bodyOf Try.f196) (by kernel_rfl) (by kernel_rfl) (by kernel_rfl) (by kernel_rfl) ?_
  have hF : KC 9 (FinR Try.prog Try.f196 (eS r)) := FinR.kc' (by kernel_rfl)
  unfold G_ringref3_pad at h
  obtain ⟨v_r260, h273, h⟩ := bind_some h
  obtain ⟨v_s261, h274, h⟩ := bind_some h
  obtain rfl := Option.some.inj h
  exact pend_sound TTok mix 5 (hs := [.r (eS v_r260), .e 18 [] (.d (.v (.string v_s261))) []]) (by kernel_rfl) (by kernel_rfl) (by kernel_rfl) (.cons (G_strings_Repeat_ok n (ByteArray.mk #[0]) (wi .i64 (64 - (v_s259.size : Int))) _ h273) (.cons (xcatS (P := Try.prog) (T := TT) (t := 9) (ty' := 9) (x := (.tmp 3)) (y := (.tmp 7)) (p := v_s259) (q := v_r260) (r := v_s261) h274) .nil))
inductive G_ringref3_RowsPack_L1_R where
  | x0 (v_s256 : ByteArray)
def G_ringref3_RowsPack_L1_ex : G_ringref3_RowsPack_L1_R → Ex
  | .x0 _ => .exit 0
def G_ringref3_RowsPack_L1_st (v_l240 : (List S_ringref3_Row)) : G_ringref3_RowsPack_L1_R → PS
  | .x0 v_s256 => ⟨[dd, dd, dd, .d (.v (.string v_s256)), dd, dd, dd, dd, dd, dd, dd, dd, dd, dd, dd, dd, dd, dd, dd, dd, dd, dd, dd, dd, dd, dd, dd], []⟩
def G_ringref3_RowsPack_L1_hd (v_l240 : (List S_ringref3_Row)) (v_s243 : ByteArray) (v_x244 : Int) : PS := ⟨[dd, dd, dd, .d (.v (.string v_s243)), dd, dd, dd, dd, dd, .d (.sl (v_l240.map eS_ringref3_Row)), .d (.v (.int .i64 (v_l240.length : Int))), .d (.v (.int .i64 v_x244)), dd, dd, dd, dd, dd, dd, dd, dd, dd, dd, dd, dd, dd, dd, dd], []⟩
def G_ringref3_RowsPack_L1 (n : Nat) (v_l240 : (List S_ringref3_Row)) : Nat → ByteArray → Int → Option G_ringref3_RowsPack_L1_R
  | 0, _, _ => none
  | k + 1, v_s243, v_x244 =>
    if v_x244 < (v_l240.length : Int) then
     (getI v_l240 v_x244).bind fun (v_y251 : S_ringref3_Row) =>
     (G_ringref3_one n v_y251.fUser).bind fun (v_r252 : (ByteArray)) =>
     (G_ringref3_two n v_y251.fLimit).bind fun (v_r253 : (ByteArray)) =>
     (catS v_r252 v_r253).bind fun (v_s254 : ByteArray) =>
     (catS v_s243 v_s254).bind fun (v_s255 : ByteArray) =>
     G_ringref3_RowsPack_L1 n v_l240 k v_s255 (wi .i64 (v_x244 + 1))
    else
     some (.x0 v_s243)
theorem G_ringref3_RowsPack_L1_ok {Fi : Ex → PS → Prop} (hF : KC 27 Fi) (ks : List Fr) (n : Nat) (v_l240 : (List S_ringref3_Row))  : ∀ (k : Nat) (v_s243 : ByteArray) (v_x244 : Int) (o : G_ringref3_RowsPack_L1_R), G_ringref3_RowsPack_L1 n v_l240 k v_s243 v_x244 = some o → RunE Try.prog 27 Fi ks (G_ringref3_RowsPack_L1_ex o) (G_ringref3_RowsPack_L1_st v_l240 o) → RunE Try.prog 27 Fi (.l k (cP (cB (cR (cL (cR (cR (bodyOf Try.f97))))))) :: ks) .normal (G_ringref3_RowsPack_L1_hd v_l240 v_s243 v_x244)
  | 0, v_s243, v_x244, o, h, q => by rw [G_ringref3_RowsPack_L1] at h; cases h
  | k + 1, v_s243, v_x244, o, h, q => by
    rw [G_ringref3_RowsPack_L1] at h
    by_cases h259 : v_x244 < (v_l240.length : Int)
    · rw [if_pos h259] at h
      obtain ⟨v_y251, h267, h⟩ := bind_some h
      obtain ⟨v_r252, h268, h⟩ := bind_some h
      obtain ⟨v_r253, h269, h⟩ := bind_some h
      obtain ⟨v_s254, h270, h⟩ := bind_some h
      obtain ⟨v_s255, h271, h⟩ := bind_some h
      exact pkk_sound TTok mix hF 13 (hs := [.t true, .y (eS_ringref3_Row v_y251), .c, .c, .r (eS v_r252), .c, .r (eS v_r253), .e 36 [] (.d (.v (.string v_s254))) [], .e 39 [] (.d (.v (.string v_s255))) []]) (ts := []) (s := []) (l := [3, 9, 10, 11]) (by kernel_rfl) (by kernel_rfl) (.cons (dt h259) (.cons (getI_ob (f := eS_ringref3_Row) h267) (.cons (show 0 + 2 ≤ 2 by decide) (.cons (G_ringref3_one_ok n v_y251.fUser _ h268) (.cons (G_ringref3_two_ok n v_y251.fLimit _ h269) (.cons (xcatS (P := Try.prog) (T := TT) (t := 9) (ty' := 9) (x := (.tmp 18)) (y := (.tmp 21)) (p := v_r252) (q := v_r253) (r := v_s254) h270) (.cons (xcatS (P := Try.prog) (T := TT) (t := 9) (ty' := 9) (x := (.tmp 15)) (y := (.tmp 22)) (p := v_s243) (q := v_s254) (r := v_s255) h271) .nil))))))) (G_ringref3_RowsPack_L1_ok hF ks n v_l240 k v_s255 (wi .i64 (v_x244 + 1)) _ h q)
    · rw [if_neg h259] at h
      cases h
      exact pkk_sound TTok mix hF 8 (hs := [.t false]) (ts := []) (s := []) (l := [3]) (by kernel_rfl) (by kernel_rfl) (.cons (df h259) .nil) q
/- ringhall/ringref3.RowsPack -/
def G_ringref3_RowsPack (n : Nat) (v_l240 : (List S_ringref3_Row)) : Option (ByteArray) :=
  (G_ringref3_one n (v_l240.length : Int)).bind fun (v_r242 : (ByteArray)) =>
  (G_ringref3_RowsPack_L1 n v_l240 n v_r242 0).bind fun v_o257 => match v_o257 with
  | .x0 v_z258 =>
    (G_ringref3_pad n v_z258).bind fun (v_r262 : (ByteArray)) =>
    some v_r262
theorem G_ringref3_RowsPack_ok (n : Nat) (v_l240 : (List S_ringref3_Row)) (r : ByteArray) (h : G_ringref3_RowsPack n v_l240 = some r) : Ret Try.prog 97 [(eL eS_ringref3_Row) v_l240] (eS r) := by
  refine ret_run (n := 27) (fn := Try.f97) (c := bodyOf Try.f97) (by kernel_rfl) (by kernel_rfl) (by kernel_rfl) (by kernel_rfl) ?_
  have hF : KC 27 (FinR Try.prog Try.f97 (eS r)) := FinR.kc' (by kernel_rfl)
  unfold G_ringref3_RowsPack at h
  obtain ⟨v_r242, h258, h⟩ := bind_some h
  obtain ⟨v_o257, h272, h⟩ := bind_some h
  refine pkk_sound TTok mix hF 9 (hs := [.u (.d (.v (.int .i64 (v_l240.length : Int)))), .r (eS v_r242), .u (.d (.v (.int .i64 (v_l240.length : Int)))), .n n]) (ts := []) (s := []) (l := [3, 9, 10, 11]) (by kernel_rfl) (by kernel_rfl) (.cons (len_ob (f := eS_ringref3_Row) (l := v_l240)) (.cons (G_ringref3_one_ok n (v_l240.length : Int) _ h258) (.cons (len_ob (f := eS_ringref3_Row) (l := v_l240)) .nil))) (G_ringref3_RowsPack_L1_ok hF (.b 0 :: .s (cR (cR (cR (bodyOf Try.f97)))) :: []) n v_l240 n v_r242 0 _ h272 ?_)
  cases v_o257 with
  | x0 v_z258 =>
    try dsimp only at h
    obtain ⟨v_r262, h275, h⟩ := bind_some h
    obtain rfl := Option.some.inj h
    exact pend_sound TTok mix 4 (hs := [.r (eS v_r262)]) (by kernel_rfl) (by kernel_rfl) (by kernel_rfl) (.cons (G_ringref3_pad_ok n v_z258 _ h275) .nil)
inductive G_ringref3_RowsUnpack_L1_R where
  | x0 (v_w236 : (List S_ringref3_Row))
def G_ringref3_RowsUnpack_L1_ex : G_ringref3_RowsUnpack_L1_R → Ex
  | .x0 _ => .exit 0
def G_ringref3_RowsUnpack_L1_st (v_s223 : ByteArray) (v_y225 : Int) : G_ringref3_RowsUnpack_L1_R → PS
  | .x0 v_w236 => ⟨[.d (.v (.string v_s223)), dd, dd, dd, .srf 0, dd, dd, dd, dd, dd, dd, dd, dd, dd, dd, dd, dd, dd, dd, dd, dd, dd, dd, dd, dd, dd, dd, dd, dd, dd, dd, dd, dd, dd, dd, dd, dd, dd, dd, dd, dd, dd, dd, dd, dd, dd, dd, dd, dd, dd, dd, dd, dd, dd, dd], [.row 180 2 (v_w236.map eS_ringref3_Row)]⟩
def G_ringref3_RowsUnpack_L1_hd (v_s223 : ByteArray) (v_y225 : Int) (v_x226 : Int) (v_w227 : (List S_ringref3_Row)) : PS := ⟨[.d (.v (.string v_s223)), dd, dd, dd, .srf 0, dd, dd, dd, dd, dd, dd, dd, dd, dd, dd, dd, .d (.v (.int .i64 (wi .i64 v_y225))), .d (.v (.int .i64 v_x226)), dd, dd, dd, dd, dd, dd, dd, dd, dd, dd, dd, dd, dd, dd, dd, dd, dd, dd, dd, dd, dd, dd, dd, dd, dd, dd, dd, dd, dd, dd, dd, dd, dd, dd, dd, dd, dd], [.row 180 2 (v_w227.map eS_ringref3_Row)]⟩
def G_ringref3_RowsUnpack_L1 (n : Nat) (v_s223 : ByteArray) (v_y225 : Int) : Nat → Int → (List S_ringref3_Row) → Option G_ringref3_RowsUnpack_L1_R
  | 0, _, _ => none
  | k + 1, v_x226, v_w227 =>
    if v_x226 < (wi .i64 v_y225) then
     (getS v_s223 (wi .i64 (1 + (wi .i64 (3 * v_x226))))).bind fun (v_y232 : Int) =>
     (getS v_s223 (wi .i64 (2 + (wi .i64 (3 * v_x226))))).bind fun (v_y233 : Int) =>
     (getS v_s223 (wi .i64 (3 + (wi .i64 (3 * v_x226))))).bind fun (v_y234 : Int) =>
     (app 16 v_w227 ([(S_ringref3_Row.mk (wi .i64 v_y232) (wi .i64 ((wi .i64 v_y233) + (wi .i64 (256 * (wi .i64 v_y234))))))])).bind fun (v_a235 : (List S_ringref3_Row)) =>
     G_ringref3_RowsUnpack_L1 n v_s223 v_y225 k (wi .i64 (v_x226 + 1)) v_a235
    else
     some (.x0 v_w227)
theorem G_ringref3_RowsUnpack_L1_ok {Fi : Ex → PS → Prop} (hF : KC 55 Fi) (ks : List Fr) (n : Nat) (v_s223 : ByteArray) (v_y225 : Int)  : ∀ (k : Nat) (v_x226 : Int) (v_w227 : (List S_ringref3_Row)) (o : G_ringref3_RowsUnpack_L1_R), G_ringref3_RowsUnpack_L1 n v_s223 v_y225 k v_x226 v_w227 = some o → RunE Try.prog 55 Fi ks (G_ringref3_RowsUnpack_L1_ex o) (G_ringref3_RowsUnpack_L1_st v_s223 v_y225 o) → RunE Try.prog 55 Fi (.l k (cP (cB (cR (cL (cR (cR (cR (bodyOf Try.f91)))))))) :: ks) .normal (G_ringref3_RowsUnpack_L1_hd v_s223 v_y225 v_x226 v_w227)
  | 0, v_x226, v_w227, o, h, q => by rw [G_ringref3_RowsUnpack_L1] at h; cases h
  | k + 1, v_x226, v_w227, o, h, q => by
    rw [G_ringref3_RowsUnpack_L1] at h
    by_cases h246 : v_x226 < (wi .i64 v_y225)
    · rw [if_pos h246] at h
      obtain ⟨v_y232, h251, h⟩ := bind_some h
      obtain ⟨v_y233, h252, h⟩ := bind_some h
      obtain ⟨v_y234, h253, h⟩ := bind_some h
      obtain ⟨v_a235, h254, h⟩ := bind_some h
      exact pkk_sound TTok mix hF 13 (hs := [.t true, .l (.d (.v (.int .u8 v_y232))), .l (.d (.v (.int .u8 v_y233))), .l (.d (.v (.int .u8 v_y234))), .bd, .w (v_a235.map eS_ringref3_Row)]) (ts := []) (s := [79]) (l := [0, 4, 16, 17]) (by kernel_rfl) (by kernel_rfl) (.cons (dt h246) (.cons (getS_ob h251) (.cons (getS_ob h252) (.cons (getS_ob h253) (.cons (app_ob (f := eS_ringref3_Row) (s := 2) h254 (fun _ => rfl)).1 (.cons (app_ob (f := eS_ringref3_Row) (s := 2) h254 (fun _ => rfl)).2.1 (.cons (app_ob (f := eS_ringref3_Row) (s := 2) h254 (fun _ => rfl)).2.2.1 (.cons (app_ob (f := eS_ringref3_Row) (s := 2) h254 (fun _ => rfl)).2.2.2 .nil)))))))) (G_ringref3_RowsUnpack_L1_ok hF ks n v_s223 v_y225 k (wi .i64 (v_x226 + 1)) v_a235 _ h q)
    · rw [if_neg h246] at h
      cases h
      exact pkk_sound TTok mix hF 8 (hs := [.t false]) (ts := []) (s := [0]) (l := [0, 4]) (by kernel_rfl) (by kernel_rfl) (.cons (df h246) .nil) q
/- ringhall/ringref3.RowsUnpack -/
def G_ringref3_RowsUnpack (n : Nat) (v_s223 : ByteArray) : Option ((List S_ringref3_Row) × Int) :=
  if (v_s223.size : Int) = 64 then
   (getS v_s223 0).bind fun (v_y224 : Int) =>
   if v_y224 > 20 then
    some (([] : (List S_ringref3_Row)), 3)
   else
    (getS v_s223 0).bind fun (v_y225 : Int) =>
    (G_ringref3_RowsUnpack_L1 n v_s223 v_y225 n 0 ([] : List S_ringref3_Row)).bind fun v_o237 => match v_o237 with
    | .x0 v_z238 =>
      (G_ringref3_RowsRight n v_z238).bind fun (v_r264 : (Int)) =>
      if v_r264 = 0 then
       (G_ringref3_RowsPack n v_z238).bind fun (v_r265 : (ByteArray)) =>
       if (!(v_r265.toList == v_s223.toList)) = true then
        some (([] : (List S_ringref3_Row)), 3)
       else
        some (v_z238, 0)
      else
       some (([] : (List S_ringref3_Row)), 3)
  else
   some (([] : (List S_ringref3_Row)), 3)
theorem G_ringref3_RowsUnpack_ok (n : Nat) (v_s223 : ByteArray) (r : (List S_ringref3_Row) × Int) (h : G_ringref3_RowsUnpack n v_s223 = some r) : Ret Try.prog 91 [eS v_s223] (.tup [(eL eS_ringref3_Row) r.1, (eI .i64) r.2]) := by
  refine ret_run (n := 55) (fn := Try.f91) (c := bodyOf Try.f91) (by kernel_rfl) (by kernel_rfl) (by kernel_rfl) (by kernel_rfl) ?_
  have hF : KC 55 (FinR Try.prog Try.f91 (.tup [(eL eS_ringref3_Row) r.1, (eI .i64) r.2])) := FinR.kc' (by kernel_rfl)
  unfold G_ringref3_RowsUnpack at h
  by_cases h242 : (v_s223.size : Int) = 64
  · rw [if_pos h242] at h
    obtain ⟨v_y224, h243, h⟩ := bind_some h
    by_cases h244 : v_y224 > 20
    · rw [if_pos h244] at h
      obtain rfl := Option.some.inj h
      exact pend_sound TTok mix 10 (hs := [.t false, .c, .l (.d (.v (.int .u8 v_y224))), .c, .t true]) (by kernel_rfl) (by kernel_rfl) (by kernel_rfl) (.cons (nf h242) (.cons (getS_ob h243) (.cons (dt h244) .nil)))
    · rw [if_neg h244] at h
      obtain ⟨v_y225, h245, h⟩ := bind_some h
      obtain ⟨v_o237, h255, h⟩ := bind_some h
      refine pkk_sound TTok mix hF 14 (hs := [.t false, .c, .l (.d (.v (.int .u8 v_y224))), .c, .t false, .l (.d (.v (.int .u8 v_y225))), .n n]) (ts := [(4, 180, 2)]) (s := [45]) (l := [0, 4, 16, 17]) (by kernel_rfl) (by kernel_rfl) (.cons (nf h242) (.cons (getS_ob h243) (.cons (df h244) (.cons (getS_ob h245) .nil)))) (G_ringref3_RowsUnpack_L1_ok hF (.b 0 :: .s (cR (cR (cR (cR (bodyOf Try.f91))))) :: []) n v_s223 v_y225 n 0 ([] : List S_ringref3_Row) _ h255 ?_)
      cases v_o237 with
      | x0 v_z238 =>
        try dsimp only at h
        obtain ⟨v_r264, h277, h⟩ := bind_some h
        by_cases h278 : v_r264 = 0
        · rw [if_pos h278] at h
          obtain ⟨v_r265, h279, h⟩ := bind_some h
          by_cases h280 : (!(v_r265.toList == v_s223.toList)) = true
          · rw [if_pos h280] at h
            obtain rfl := Option.some.inj h
            exact pend_sound TTok mix 9 (hs := [.c, .r ((eI .i64) v_r264), .t false, .c, .c, .r (eS v_r265), .c, .c, .t true]) (by kernel_rfl) (by kernel_rfl) (by kernel_rfl) (.cons (G_ringref3_RowsRight_ok n v_z238 _ h277) (.cons (nf h278) (.cons (G_ringref3_RowsPack_ok n v_z238 _ h279) (.cons h280 .nil))))
          · rw [if_neg h280] at h
            obtain rfl := Option.some.inj h
            exact pend_sound TTok mix 9 (hs := [.c, .r ((eI .i64) v_r264), .t false, .c, .c, .r (eS v_r265), .c, .c, .t false]) (by kernel_rfl) (by kernel_rfl) (by kernel_rfl) (.cons (G_ringref3_RowsRight_ok n v_z238 _ h277) (.cons (nf h278) (.cons (G_ringref3_RowsPack_ok n v_z238 _ h279) (.cons (vf h280) .nil))))
        · rw [if_neg h278] at h
          obtain rfl := Option.some.inj h
          exact pend_sound TTok mix 9 (hs := [.c, .r ((eI .i64) v_r264), .t true, .c, .c, .c, .c]) (by kernel_rfl) (by kernel_rfl) (by kernel_rfl) (.cons (G_ringref3_RowsRight_ok n v_z238 _ h277) (.cons (nt h278) .nil))
  · rw [if_neg h242] at h
    obtain rfl := Option.some.inj h
    exact pend_sound TTok mix 10 (hs := [.t true, .c, .c, .c]) (by kernel_rfl) (by kernel_rfl) (by kernel_rfl) (.cons (nt h242) .nil)
inductive G_quota_Of_L1_R where
  | x0 (v_x273 : Int)
  | x1 
def G_quota_Of_L1_ex : G_quota_Of_L1_R → Ex
  | .x0 _ => .ret
  | .x1  => .exit 0
def G_quota_Of_L1_st (v_user269 : Int) (v_l268 : (List S_quota_Row)) : G_quota_Of_L1_R → PS
  | .x0 v_x273 => ⟨[dd, dd, dd, dd, .d (.v (.int .i64 v_x273)), dd, dd, dd, dd, dd, dd, dd, dd, dd, dd, dd, dd, dd, dd, dd], []⟩
  | .x1  => ⟨[dd, dd, dd, dd, dd, dd, dd, dd, dd, dd, dd, dd, dd, dd, dd, dd, dd, dd, dd, dd], []⟩
def G_quota_Of_L1_hd (v_user269 : Int) (v_l268 : (List S_quota_Row)) (v_x270 : Int) : PS := ⟨[dd, .d (.v (.int .i64 v_user269)), dd, dd, dd, dd, dd, .d (.sl (v_l268.map eS_quota_Row)), .d (.v (.int .i64 (v_l268.length : Int))), .d (.v (.int .i64 v_x270)), dd, dd, dd, dd, dd, dd, dd, dd, dd, dd], []⟩
def G_quota_Of_L1 (n : Nat) (v_user269 : Int) (v_l268 : (List S_quota_Row)) : Nat → Int → Option G_quota_Of_L1_R
  | 0, _ => none
  | k + 1, v_x270 =>
    if v_x270 < (v_l268.length : Int) then
     (getI v_l268 v_x270).bind fun (v_y272 : S_quota_Row) =>
     if v_y272.fUser = v_user269 then
      some (.x0 v_y272.fLimit)
     else
      G_quota_Of_L1 n v_user269 v_l268 k (wi .i64 (v_x270 + 1))
    else
     some (.x1 )
theorem G_quota_Of_L1_ok {Fi : Ex → PS → Prop} (hF : KC 20 Fi) (ks : List Fr) (n : Nat) (v_user269 : Int) (v_l268 : (List S_quota_Row))  : ∀ (k : Nat) (v_x270 : Int) (o : G_quota_Of_L1_R), G_quota_Of_L1 n v_user269 v_l268 k v_x270 = some o → RunE Try.prog 20 Fi ks (G_quota_Of_L1_ex o) (G_quota_Of_L1_st v_user269 v_l268 o) → RunE Try.prog 20 Fi (.l k (cP (cB (cR (cL (cR (bodyOf Try.f93)))))) :: ks) .normal (G_quota_Of_L1_hd v_user269 v_l268 v_x270)
  | 0, v_x270, o, h, q => by rw [G_quota_Of_L1] at h; cases h
  | k + 1, v_x270, o, h, q => by
    rw [G_quota_Of_L1] at h
    by_cases h284 : v_x270 < (v_l268.length : Int)
    · rw [if_pos h284] at h
      obtain ⟨v_y272, h288, h⟩ := bind_some h
      by_cases h290 : v_y272.fUser = v_user269
      · rw [if_pos h290] at h
        cases h
        exact pkk_sound TTok mix hF 19 (hs := [.t true, .y (eS_quota_Row v_y272), .c, .c, .t true, .c]) (ts := []) (s := []) (l := [4]) (by kernel_rfl) (by kernel_rfl) (.cons (dt h284) (.cons (getI_ob (f := eS_quota_Row) h288) (.cons (show 0 + 2 ≤ 2 by decide) (.cons (bt h290) .nil)))) q
      · rw [if_neg h290] at h
        exact pkk_sound TTok mix hF 16 (hs := [.t true, .y (eS_quota_Row v_y272), .c, .c, .t false]) (ts := []) (s := []) (l := [1, 7, 8, 9]) (by kernel_rfl) (by kernel_rfl) (.cons (dt h284) (.cons (getI_ob (f := eS_quota_Row) h288) (.cons (show 0 + 2 ≤ 2 by decide) (.cons (bf h290) .nil)))) (G_quota_Of_L1_ok hF ks n v_user269 v_l268 k (wi .i64 (v_x270 + 1)) _ h q)
    · rw [if_neg h284] at h
      cases h
      exact pkk_sound TTok mix hF 8 (hs := [.t false]) (ts := []) (s := []) (l := []) (by kernel_rfl) (by kernel_rfl) (.cons (df h284) .nil) q
/- ringhall/quota.Of -/
def G_quota_Of (n : Nat) (v_l268 : (List S_quota_Row)) (v_user269 : Int) : Option (Int) :=
  (G_quota_Of_L1 n v_user269 v_l268 n 0).bind fun v_o274 => match v_o274 with
  | .x0 v_z275 =>
    some v_z275
  | .x1  =>
    some (-1)
theorem G_quota_Of_ok (n : Nat) (v_l268 : (List S_quota_Row)) (v_user269 : Int) (r : Int) (h : G_quota_Of n v_l268 v_user269 = some r) : Ret Try.prog 93 [(eL eS_quota_Row) v_l268, (eI .i64) v_user269] ((eI .i64) r) := by
  refine ret_run (n := 20) (fn := Try.f93) (c := bodyOf Try.f93) (by kernel_rfl) (by kernel_rfl) (by kernel_rfl) (by kernel_rfl) ?_
  have hF : KC 20 (FinR Try.prog Try.f93 ((eI .i64) r)) := FinR.kc' (by kernel_rfl)
  unfold G_quota_Of at h
  obtain ⟨v_o274, h291, h⟩ := bind_some h
  refine pkk_sound TTok mix hF 7 (hs := [.u (.d (.v (.int .i64 (v_l268.length : Int)))), .n n]) (ts := []) (s := []) (l := [1, 7, 8, 9]) (by kernel_rfl) (by kernel_rfl) (.cons (len_ob (f := eS_quota_Row) (l := v_l268)) .nil) (G_quota_Of_L1_ok hF (.b 0 :: .s (cR (cR (bodyOf Try.f93))) :: []) n v_user269 v_l268 n 0 _ h291 ?_)
  cases v_o274 with
  | x0 v_z275 =>
    try dsimp only at h
    obtain rfl := Option.some.inj h
    exact pend_sound TTok mix 2 (hs := []) (by kernel_rfl) (by kernel_rfl) (by kernel_rfl) .nil
  | x1  =>
    try dsimp only at h
    obtain rfl := Option.some.inj h
    exact pend_sound TTok mix 4 (hs := []) (by kernel_rfl) (by kernel_rfl) (by kernel_rfl) .nil
inductive G_ringref3_Limit_L1_R where
  | x0 (v_x286 : Int)
  | x1 
def G_ringref3_Limit_L1_ex : G_ringref3_Limit_L1_R → Ex
  | .x0 _ => .ret
  | .x1  => .exit 0
def G_ringref3_Limit_L1_st (v_l277 : (List S_ringref3_Row)) (v_user278 : Int) : G_ringref3_Limit_L1_R → PS
  | .x0 v_x286 => ⟨[dd, dd, dd, dd, .d (.v (.int .i64 v_x286)), dd, dd, dd, dd, dd, dd, dd, dd, dd, dd, dd, dd, dd, dd, dd, dd, dd, dd, dd], []⟩
  | .x1  => ⟨[dd, dd, dd, dd, dd, dd, dd, dd, dd, dd, dd, dd, dd, dd, dd, dd, dd, dd, dd, dd, dd, dd, dd, dd], []⟩
def G_ringref3_Limit_L1_hd (v_l277 : (List S_ringref3_Row)) (v_user278 : Int) (v_x279 : Int) : PS := ⟨[.d (.sl (v_l277.map eS_ringref3_Row)), .d (.v (.int .i64 v_user278)), dd, dd, dd, dd, dd, .d (.v (.int .i64 (v_l277.length : Int))), .d (.v (.int .i64 v_x279)), dd, dd, dd, dd, dd, dd, dd, dd, dd, dd, dd, dd, dd, dd, dd], []⟩
def G_ringref3_Limit_L1 (n : Nat) (v_l277 : (List S_ringref3_Row)) (v_user278 : Int) : Nat → Int → Option G_ringref3_Limit_L1_R
  | 0, _ => none
  | k + 1, v_x279 =>
    if v_x279 < (v_l277.length : Int) then
     (getI v_l277 v_x279).bind fun (v_y283 : S_ringref3_Row) =>
     if v_y283.fUser = v_user278 then
      (getI v_l277 v_x279).bind fun (v_y285 : S_ringref3_Row) =>
      some (.x0 v_y285.fLimit)
     else
      G_ringref3_Limit_L1 n v_l277 v_user278 k (wi .i64 (v_x279 + 1))
    else
     some (.x1 )
theorem G_ringref3_Limit_L1_ok {Fi : Ex → PS → Prop} (hF : KC 24 Fi) (ks : List Fr) (n : Nat) (v_l277 : (List S_ringref3_Row)) (v_user278 : Int)  : ∀ (k : Nat) (v_x279 : Int) (o : G_ringref3_Limit_L1_R), G_ringref3_Limit_L1 n v_l277 v_user278 k v_x279 = some o → RunE Try.prog 24 Fi ks (G_ringref3_Limit_L1_ex o) (G_ringref3_Limit_L1_st v_l277 v_user278 o) → RunE Try.prog 24 Fi (.l k (cP (cB (cR (cL (cR (bodyOf Try.f94)))))) :: ks) .normal (G_ringref3_Limit_L1_hd v_l277 v_user278 v_x279)
  | 0, v_x279, o, h, q => by rw [G_ringref3_Limit_L1] at h; cases h
  | k + 1, v_x279, o, h, q => by
    rw [G_ringref3_Limit_L1] at h
    by_cases h293 : v_x279 < (v_l277.length : Int)
    · rw [if_pos h293] at h
      obtain ⟨v_y283, h299, h⟩ := bind_some h
      by_cases h302 : v_y283.fUser = v_user278
      · rw [if_pos h302] at h
        obtain ⟨v_y285, h303, h⟩ := bind_some h
        cases h
        exact pkk_sound TTok mix hF 19 (hs := [.t true, .y (eS_ringref3_Row v_y283), .c, .t true, .y (eS_ringref3_Row v_y285), .c]) (ts := []) (s := []) (l := [4]) (by kernel_rfl) (by kernel_rfl) (.cons (dt h293) (.cons (getI_ob (f := eS_ringref3_Row) h299) (.cons (bt h302) (.cons (getI_ob (f := eS_ringref3_Row) h303) .nil)))) q
      · rw [if_neg h302] at h
        exact pkk_sound TTok mix hF 16 (hs := [.t true, .y (eS_ringref3_Row v_y283), .c, .t false]) (ts := []) (s := []) (l := [0, 1, 7, 8]) (by kernel_rfl) (by kernel_rfl) (.cons (dt h293) (.cons (getI_ob (f := eS_ringref3_Row) h299) (.cons (bf h302) .nil))) (G_ringref3_Limit_L1_ok hF ks n v_l277 v_user278 k (wi .i64 (v_x279 + 1)) _ h q)
    · rw [if_neg h293] at h
      cases h
      exact pkk_sound TTok mix hF 8 (hs := [.t false]) (ts := []) (s := []) (l := []) (by kernel_rfl) (by kernel_rfl) (.cons (df h293) .nil) q
/- ringhall/ringref3.Limit -/
def G_ringref3_Limit (n : Nat) (v_l277 : (List S_ringref3_Row)) (v_user278 : Int) : Option (Int) :=
  (G_ringref3_Limit_L1 n v_l277 v_user278 n 0).bind fun v_o287 => match v_o287 with
  | .x0 v_z288 =>
    some v_z288
  | .x1  =>
    some (-1)
theorem G_ringref3_Limit_ok (n : Nat) (v_l277 : (List S_ringref3_Row)) (v_user278 : Int) (r : Int) (h : G_ringref3_Limit n v_l277 v_user278 = some r) : Ret Try.prog 94 [(eL eS_ringref3_Row) v_l277, (eI .i64) v_user278] ((eI .i64) r) := by
  refine ret_run (n := 24) (fn := Try.f94) (c := bodyOf Try.f94) (by kernel_rfl) (by kernel_rfl) (by kernel_rfl) (by kernel_rfl) ?_
  have hF : KC 24 (FinR Try.prog Try.f94 ((eI .i64) r)) := FinR.kc' (by kernel_rfl)
  unfold G_ringref3_Limit at h
  obtain ⟨v_o287, h304, h⟩ := bind_some h
  refine pkk_sound TTok mix hF 7 (hs := [.u (.d (.v (.int .i64 (v_l277.length : Int)))), .n n]) (ts := []) (s := []) (l := [0, 1, 7, 8]) (by kernel_rfl) (by kernel_rfl) (.cons (len_ob (f := eS_ringref3_Row) (l := v_l277)) .nil) (G_ringref3_Limit_L1_ok hF (.b 0 :: .s (cR (cR (bodyOf Try.f94))) :: []) n v_l277 v_user278 n 0 _ h304 ?_)
  cases v_o287 with
  | x0 v_z288 =>
    try dsimp only at h
    obtain rfl := Option.some.inj h
    exact pend_sound TTok mix 2 (hs := []) (by kernel_rfl) (by kernel_rfl) (by kernel_rfl) .nil
  | x1  =>
    try dsimp only at h
    obtain rfl := Option.some.inj h
    exact pend_sound TTok mix 4 (hs := []) (by kernel_rfl) (by kernel_rfl) (by kernel_rfl) .nil
inductive G_slices_Equal_ringref3_Row_ringref3_Row_L1_R where
  | x0 (v_x298 : Bool)
  | x1 
def G_slices_Equal_ringref3_Row_ringref3_Row_L1_ex : G_slices_Equal_ringref3_Row_ringref3_Row_L1_R → Ex
  | .x0 _ => .ret
  | .x1  => .exit 0
def G_slices_Equal_ringref3_Row_ringref3_Row_L1_st (v_s291 : (List S_ringref3_Row)) (v_s292 : (List S_ringref3_Row)) : G_slices_Equal_ringref3_Row_ringref3_Row_L1_R → PS
  | .x0 v_x298 => ⟨[dd, dd, dd, dd, .d (.v (.bool v_x298)), dd, dd, dd, dd, dd, dd, dd, dd, dd, dd, dd, dd, dd, dd, dd, dd, dd, dd, dd, dd, dd], []⟩
  | .x1  => ⟨[dd, dd, dd, dd, dd, dd, dd, dd, dd, dd, dd, dd, dd, dd, dd, dd, dd, dd, dd, dd, dd, dd, dd, dd, dd, dd], []⟩
def G_slices_Equal_ringref3_Row_ringref3_Row_L1_hd (v_s291 : (List S_ringref3_Row)) (v_s292 : (List S_ringref3_Row)) (v_x293 : Int) : PS := ⟨[.d (.sl (v_s291.map eS_ringref3_Row)), .d (.sl (v_s292.map eS_ringref3_Row)), dd, dd, dd, dd, dd, dd, dd, dd, dd, dd, .d (.v (.int .i64 (v_s291.length : Int))), .d (.v (.int .i64 v_x293)), dd, dd, dd, dd, dd, dd, dd, dd, dd, dd, dd, dd], []⟩
def G_slices_Equal_ringref3_Row_ringref3_Row_L1 (n : Nat) (v_s291 : (List S_ringref3_Row)) (v_s292 : (List S_ringref3_Row)) : Nat → Int → Option G_slices_Equal_ringref3_Row_ringref3_Row_L1_R
  | 0, _ => none
  | k + 1, v_x293 =>
    if v_x293 < (v_s291.length : Int) then
     (getI v_s291 v_x293).bind fun (v_y296 : S_ringref3_Row) =>
     (getI v_s292 v_x293).bind fun (v_y297 : S_ringref3_Row) =>
     if (eqRes .neq (eqS_ringref3_Row v_y296 v_y297)) = true then
      some (.x0 false)
     else
      G_slices_Equal_ringref3_Row_ringref3_Row_L1 n v_s291 v_s292 k (wi .i64 (v_x293 + 1))
    else
     some (.x1 )
theorem G_slices_Equal_ringref3_Row_ringref3_Row_L1_ok {Fi : Ex → PS → Prop} (hF : KC 26 Fi) (ks : List Fr) (n : Nat) (v_s291 : (List S_ringref3_Row)) (v_s292 : (List S_ringref3_Row))  : ∀ (k : Nat) (v_x293 : Int) (o : G_slices_Equal_ringref3_Row_ringref3_Row_L1_R), G_slices_Equal_ringref3_Row_ringref3_Row_L1 n v_s291 v_s292 k v_x293 = some o → RunE Try.prog 26 Fi ks (G_slices_Equal_ringref3_Row_ringref3_Row_L1_ex o) (G_slices_Equal_ringref3_Row_ringref3_Row_L1_st v_s291 v_s292 o) → RunE Try.prog 26 Fi (.l k (cP (cB (cR (cL (cR (cR (bodyOf Try.f95))))))) :: ks) .normal (G_slices_Equal_ringref3_Row_ringref3_Row_L1_hd v_s291 v_s292 v_x293)
  | 0, v_x293, o, h, q => by rw [G_slices_Equal_ringref3_Row_ringref3_Row_L1] at h; cases h
  | k + 1, v_x293, o, h, q => by
    rw [G_slices_Equal_ringref3_Row_ringref3_Row_L1] at h
    by_cases h310 : v_x293 < (v_s291.length : Int)
    · rw [if_pos h310] at h
      obtain ⟨v_y296, h314, h⟩ := bind_some h
      obtain ⟨v_y297, h315, h⟩ := bind_some h
      by_cases h316 : (eqRes .neq (eqS_ringref3_Row v_y296 v_y297)) = true
      · rw [if_pos h316] at h
        cases h
        exact pkk_sound TTok mix hF 19 (hs := [.t true, .y (eS_ringref3_Row v_y296), .y (eS_ringref3_Row v_y297), .q (eqS_ringref3_Row v_y296 v_y297), .t true]) (ts := []) (s := []) (l := [4]) (by kernel_rfl) (by kernel_rfl) (.cons (dt h310) (.cons (getI_ob (f := eS_ringref3_Row) h314) (.cons (getI_ob (f := eS_ringref3_Row) h315) (.cons (eqS_ringref3_Row_ok v_y296 v_y297) (.cons h316 .nil))))) q
      · rw [if_neg h316] at h
        exact pkk_sound TTok mix hF 16 (hs := [.t true, .y (eS_ringref3_Row v_y296), .y (eS_ringref3_Row v_y297), .q (eqS_ringref3_Row v_y296 v_y297), .t false]) (ts := []) (s := []) (l := [0, 1, 12, 13]) (by kernel_rfl) (by kernel_rfl) (.cons (dt h310) (.cons (getI_ob (f := eS_ringref3_Row) h314) (.cons (getI_ob (f := eS_ringref3_Row) h315) (.cons (eqS_ringref3_Row_ok v_y296 v_y297) (.cons (vf h316) .nil))))) (G_slices_Equal_ringref3_Row_ringref3_Row_L1_ok hF ks n v_s291 v_s292 k (wi .i64 (v_x293 + 1)) _ h q)
    · rw [if_neg h310] at h
      cases h
      exact pkk_sound TTok mix hF 8 (hs := [.t false]) (ts := []) (s := []) (l := []) (by kernel_rfl) (by kernel_rfl) (.cons (df h310) .nil) q
/- slices.Equal[[]ringhall/ringref3.Row,ringhall/ringref3.Row] -/
def G_slices_Equal_ringref3_Row_ringref3_Row (n : Nat) (v_s291 : (List S_ringref3_Row)) (v_s292 : (List S_ringref3_Row)) : Option (Bool) :=
  if (v_s291.length : Int) = (v_s292.length : Int) then
   (G_slices_Equal_ringref3_Row_ringref3_Row_L1 n v_s291 v_s292 n 0).bind fun v_o299 => match v_o299 with
   | .x0 v_z300 =>
     some v_z300
   | .x1  =>
     some true
  else
   some false
theorem G_slices_Equal_ringref3_Row_ringref3_Row_ok (n : Nat) (v_s291 : (List S_ringref3_Row)) (v_s292 : (List S_ringref3_Row)) (r : Bool) (h : G_slices_Equal_ringref3_Row_ringref3_Row n v_s291 v_s292 = some r) : Ret Try.prog 95 [(eL eS_ringref3_Row) v_s291, (eL eS_ringref3_Row) v_s292] (eB r) := by
  refine ret_run (n := 26) (fn := Try.f95) (c := bodyOf Try.f95) (by kernel_rfl) (by kernel_rfl) (by kernel_rfl) (by kernel_rfl) ?_
  have hF : KC 26 (FinR Try.prog Try.f95 (eB r)) := FinR.kc' (by kernel_rfl)
  unfold G_slices_Equal_ringref3_Row_ringref3_Row at h
  by_cases h309 : (v_s291.length : Int) = (v_s292.length : Int)
  · rw [if_pos h309] at h
    obtain ⟨v_o299, h317, h⟩ := bind_some h
    refine pkk_sound TTok mix hF 12 (hs := [.u (.d (.v (.int .i64 (v_s291.length : Int)))), .u (.d (.v (.int .i64 (v_s292.length : Int)))), .t false, .u (.d (.v (.int .i64 (v_s291.length : Int)))), .n n]) (ts := []) (s := []) (l := [0, 1, 12, 13]) (by kernel_rfl) (by kernel_rfl) (.cons (len_ob (f := eS_ringref3_Row) (l := v_s291)) (.cons (len_ob (f := eS_ringref3_Row) (l := v_s292)) (.cons (nf h309) (.cons (len_ob (f := eS_ringref3_Row) (l := v_s291)) .nil)))) (G_slices_Equal_ringref3_Row_ringref3_Row_L1_ok hF (.b 0 :: .s (cR (cR (cR (bodyOf Try.f95)))) :: []) n v_s291 v_s292 n 0 _ h317 ?_)
    cases v_o299 with
    | x0 v_z300 =>
      try dsimp only at h
      obtain rfl := Option.some.inj h
      exact pend_sound TTok mix 2 (hs := []) (by kernel_rfl) (by kernel_rfl) (by kernel_rfl) .nil
    | x1  =>
      try dsimp only at h
      obtain rfl := Option.some.inj h
      exact pend_sound TTok mix 4 (hs := []) (by kernel_rfl) (by kernel_rfl) (by kernel_rfl) .nil
  · rw [if_neg h309] at h
    obtain rfl := Option.some.inj h
    exact pend_sound TTok mix 10 (hs := [.u (.d (.v (.int .i64 (v_s291.length : Int)))), .u (.d (.v (.int .i64 (v_s292.length : Int)))), .t true]) (by kernel_rfl) (by kernel_rfl) (by kernel_rfl) (.cons (len_ob (f := eS_ringref3_Row) (l := v_s291)) (.cons (len_ob (f := eS_ringref3_Row) (l := v_s292)) (.cons (nt h309) .nil)))
inductive G_quota_May_C1_R where
  | x0 (v_x367 : Bool)
def G_quota_May_C1_ex : G_quota_May_C1_R → Ex
  | .x0 _ => .normal
def G_quota_May_C1_st (v_l363 : (List S_quota_Row)) (v_user364 : Int) (v_has365 : Int) (v_more366 : Int) : G_quota_May_C1_R → PS
  | .x0 v_x367 => ⟨[.d (.sl (v_l363.map eS_quota_Row)), .d (.v (.int .i64 v_user364)), .d (.v (.int .i64 v_has365)), .d (.v (.int .i64 v_more366)), dd, dd, dd, dd, dd, dd, dd, dd, dd, dd, dd, dd, dd, dd, dd, dd, dd, dd, dd, .d (.v (.bool v_x367)), dd, dd, dd, dd, dd, dd, dd, dd, dd, dd, dd, dd, dd, dd, dd, dd], []⟩
def G_quota_May_C1_hd (v_l363 : (List S_quota_Row)) (v_user364 : Int) (v_has365 : Int) (v_more366 : Int)  : PS := ⟨[.d (.sl (v_l363.map eS_quota_Row)), .d (.v (.int .i64 v_user364)), .d (.v (.int .i64 v_has365)), .d (.v (.int .i64 v_more366)), dd, dd, dd, dd, dd, dd, dd, dd, dd, dd, dd, dd, dd, dd, dd, dd, dd, dd, dd, dd, dd, dd, dd, dd, dd, dd, dd, dd, dd, dd, dd, dd, dd, dd, dd, dd], []⟩
def G_quota_May_C1 (n : Nat) (v_l363 : (List S_quota_Row)) (v_user364 : Int) (v_has365 : Int) (v_more366 : Int) : Option G_quota_May_C1_R :=
  if v_has365 < 0 then
   some (.x0 true)
  else
   if v_has365 > 256 then
    some (.x0 true)
   else
    if v_more366 < (-256) then
     some (.x0 true)
    else
     some (.x0 (decide (v_more366 > 256)))
theorem G_quota_May_C1_ok {Fi : Ex → PS → Prop} (hF : KC 40 Fi) (ks : List Fr) (n : Nat) (v_l363 : (List S_quota_Row)) (v_user364 : Int) (v_has365 : Int) (v_more366 : Int)  (o : G_quota_May_C1_R) (h : G_quota_May_C1 n v_l363 v_user364 v_has365 v_more366 = some o) (q : RunE Try.prog 40 Fi ks (G_quota_May_C1_ex o) (G_quota_May_C1_st v_l363 v_user364 v_has365 v_more366 o)) : RunE Try.prog 40 Fi (.s (cL (cL (cR (bodyOf Try.f96)))) :: ks) .normal (G_quota_May_C1_hd v_l363 v_user364 v_has365 v_more366) := by
  unfold G_quota_May_C1 at h
  by_cases h387 : v_has365 < 0
  · rw [if_pos h387] at h
    cases h
    exact pkk_sound TTok mix hF 1 (hs := [.t true, .c, .c, .c, .c, .c]) (ts := []) (s := []) (l := [0, 1, 2, 3, 23]) (by kernel_rfl) (by kernel_rfl) (.cons (dt h387) .nil) q
  · rw [if_neg h387] at h
    by_cases h388 : v_has365 > 256
    · rw [if_pos h388] at h
      cases h
      exact pkk_sound TTok mix hF 1 (hs := [.t false, .c, .t true, .c, .c, .c]) (ts := []) (s := []) (l := [0, 1, 2, 3, 23]) (by kernel_rfl) (by kernel_rfl) (.cons (df h387) (.cons (dt h388) .nil)) q
    · rw [if_neg h388] at h
      by_cases h389 : v_more366 < (-256)
      · rw [if_pos h389] at h
        cases h
        exact pkk_sound TTok mix hF 1 (hs := [.t false, .c, .t false, .c, .t true, .c]) (ts := []) (s := []) (l := [0, 1, 2, 3, 23]) (by kernel_rfl) (by kernel_rfl) (.cons (df h387) (.cons (df h388) (.cons (dt h389) .nil))) q
      · rw [if_neg h389] at h
        cases h
        exact pkk_sound TTok mix hF 1 (hs := [.t false, .c, .t false, .c, .t false, .c]) (ts := []) (s := []) (l := [0, 1, 2, 3, 23]) (by kernel_rfl) (by kernel_rfl) (.cons (df h387) (.cons (df h388) (.cons (df h389) .nil))) q
inductive G_quota_May_C2_R where
  | x0 (v_x374 : Bool)
def G_quota_May_C2_ex : G_quota_May_C2_R → Ex
  | .x0 _ => .normal
def G_quota_May_C2_st (v_has365 : Int) (v_more366 : Int) (v_r373 : (Int)) : G_quota_May_C2_R → PS
  | .x0 v_x374 => ⟨[dd, dd, dd, dd, dd, dd, dd, dd, dd, dd, dd, dd, dd, dd, dd, dd, dd, dd, dd, dd, dd, dd, dd, dd, dd, dd, dd, dd, dd, dd, dd, dd, dd, dd, dd, dd, dd, dd, dd, .d (.v (.bool v_x374))], []⟩
def G_quota_May_C2_hd (v_has365 : Int) (v_more366 : Int) (v_r373 : (Int))  : PS := ⟨[dd, dd, .d (.v (.int .i64 v_has365)), .d (.v (.int .i64 v_more366)), dd, dd, dd, dd, dd, .d (.v (.int .i64 v_r373)), dd, dd, dd, dd, dd, dd, dd, dd, dd, dd, dd, dd, dd, dd, dd, dd, dd, dd, dd, dd, dd, dd, dd, dd, dd, dd, dd, dd, dd, dd], []⟩
def G_quota_May_C2 (n : Nat) (v_has365 : Int) (v_more366 : Int) (v_r373 : (Int)) : Option G_quota_May_C2_R :=
  if v_more366 > 0 then
   if v_r373 = (-1) then
    some (.x0 false)
   else
    some (.x0 (decide ((wi .i64 (v_has365 + v_more366)) > v_r373)))
  else
   some (.x0 false)
theorem G_quota_May_C2_ok {Fi : Ex → PS → Prop} (hF : KC 40 Fi) (ks : List Fr) (n : Nat) (v_has365 : Int) (v_more366 : Int) (v_r373 : (Int))  (o : G_quota_May_C2_R) (h : G_quota_May_C2 n v_has365 v_more366 v_r373 = some o) (q : RunE Try.prog 40 Fi ks (G_quota_May_C2_ex o) (G_quota_May_C2_st v_has365 v_more366 v_r373 o)) : RunE Try.prog 40 Fi (.s (cL (cR (cL (cR (cR (bodyOf Try.f96)))))) :: ks) .normal (G_quota_May_C2_hd v_has365 v_more366 v_r373) := by
  unfold G_quota_May_C2 at h
  by_cases h395 : v_more366 > 0
  · rw [if_pos h395] at h
    by_cases h396 : v_r373 = (-1)
    · rw [if_pos h396] at h
      cases h
      exact pkk_sound TTok mix hF 1 (hs := [.t true, .c, .t false, .c, .c, .c, .c]) (ts := []) (s := []) (l := [39]) (by kernel_rfl) (by kernel_rfl) (.cons (dt h395) (.cons (nf h396) .nil)) q
    · rw [if_neg h396] at h
      cases h
      exact pkk_sound TTok mix hF 1 (hs := [.t true, .c, .t true, .c, .c, .c, .c]) (ts := []) (s := []) (l := [39]) (by kernel_rfl) (by kernel_rfl) (.cons (dt h395) (.cons (nt h396) .nil)) q
  · rw [if_neg h395] at h
    cases h
    exact pkk_sound TTok mix hF 1 (hs := [.t false, .c, .c, .c, .c, .c, .c]) (ts := []) (s := []) (l := [39]) (by kernel_rfl) (by kernel_rfl) (.cons (df h395) .nil) q
/- ringhall/quota.May -/
def G_quota_May (n : Nat) (v_l363 : (List S_quota_Row)) (v_user364 : Int) (v_has365 : Int) (v_more366 : Int) : Option (Int) :=
  (G_quota_May_C1 n v_l363 v_user364 v_has365 v_more366).bind fun v_o371 => match v_o371 with
  | .x0 v_z372 =>
    if v_z372 = true then
     some 1
    else
     (G_quota_Of n v_l363 v_user364).bind fun (v_r373 : (Int)) =>
     (G_quota_May_C2 n v_has365 v_more366 v_r373).bind fun v_o377 => match v_o377 with
     | .x0 v_z378 =>
       if v_z378 = true then
        some 16
       else
        some 0
theorem G_quota_May_ok (n : Nat) (v_l363 : (List S_quota_Row)) (v_user364 : Int) (v_has365 : Int) (v_more366 : Int) (r : Int) (h : G_quota_May n v_l363 v_user364 v_has365 v_more366 = some r) : Ret Try.prog 96 [(eL eS_quota_Row) v_l363, (eI .i64) v_user364, (eI .i64) v_has365, (eI .i64) v_more366] ((eI .i64) r) := by
  refine ret_run (n := 40) (fn := Try.f96) (c := bodyOf Try.f96) (by kernel_rfl) (by kernel_rfl) (by kernel_rfl) (by kernel_rfl) ?_
  have hF : KC 40 (FinR Try.prog Try.f96 ((eI .i64) r)) := FinR.kc' (by kernel_rfl)
  unfold G_quota_May at h
  obtain ⟨v_o371, h390, h⟩ := bind_some h
  refine pkk_sound TTok mix hF 4 (hs := []) (ts := []) (s := []) (l := [0, 1, 2, 3]) (by kernel_rfl) (by kernel_rfl) .nil (G_quota_May_C1_ok hF (.s (cR (cL (cR (bodyOf Try.f96)))) :: .s (cR (cR (bodyOf Try.f96))) :: []) n v_l363 v_user364 v_has365 v_more366 _ h390 ?_)
  cases v_o371 with
  | x0 v_z372 =>
    try dsimp only at h
    by_cases h391 : v_z372 = true
    · rw [if_pos h391] at h
      obtain rfl := Option.some.inj h
      exact pend_sound TTok mix 5 (hs := [.t true]) (by kernel_rfl) (by kernel_rfl) (by kernel_rfl) (.cons h391 .nil)
    · rw [if_neg h391] at h
      obtain ⟨v_r373, h392, h⟩ := bind_some h
      obtain ⟨v_o377, h397, h⟩ := bind_some h
      refine pkk_sound TTok mix hF 6 (hs := [.t false, .r ((eI .i64) v_r373)]) (ts := []) (s := []) (l := [2, 3, 9]) (by kernel_rfl) (by kernel_rfl) (.cons (vf h391) (.cons (G_quota_Of_ok n v_l363 v_user364 _ h392) .nil)) (G_quota_May_C2_ok hF (.s (cR (cR (cL (cR (cR (bodyOf Try.f96)))))) :: .s (cR (cR (cR (bodyOf Try.f96)))) :: []) n v_has365 v_more366 v_r373 _ h397 ?_)
      cases v_o377 with
      | x0 v_z378 =>
        try dsimp only at h
        by_cases h398 : v_z378 = true
        · rw [if_pos h398] at h
          obtain rfl := Option.some.inj h
          exact pend_sound TTok mix 5 (hs := [.t true]) (by kernel_rfl) (by kernel_rfl) (by kernel_rfl) (.cons h398 .nil)
        · rw [if_neg h398] at h
          obtain rfl := Option.some.inj h
          exact pend_sound TTok mix 5 (hs := [.t false]) (by kernel_rfl) (by kernel_rfl) (by kernel_rfl) (.cons (vf h398) .nil)
inductive G_ringlaw3_QuotaTurns_C1_R where
  | x0 (v_x305 : Bool)
def G_ringlaw3_QuotaTurns_C1_ex : G_ringlaw3_QuotaTurns_C1_R → Ex
  | .x0 _ => .normal
def G_ringlaw3_QuotaTurns_C1_st (v_l1 : (List S_quota_Row)) (v_user2 : Int) (v_has4 : Int) (v_more5 : Int) (v_r17 : ((List S_ringref3_Row))) (v_r38 : (Int)) (v_r136 : ((List S_quota_Row) × Int)) (v_r169 : ((List S_ringref3_Row) × Int)) (v_r187 : ((List Int) × Int)) (v_r222 : ((List S_quota_Row) × Int)) (v_r266 : ((List S_ringref3_Row) × Int)) : G_ringlaw3_QuotaTurns_C1_R → PS
  | .x0 v_x305 => ⟨[.d (.sl (v_l1.map eS_quota_Row)), .d (.v (.int .i64 v_user2)), dd, .d (.v (.int .i64 v_has4)), .d (.v (.int .i64 v_more5)), dd, dd, dd, dd, dd, dd, dd, dd, .d (.sl (v_r17.map eS_ringref3_Row)), .d (.v (.int .i64 v_r38)), dd, dd, dd, dd, .d (.sl (v_r187.1.map (eI .u8))), dd, dd, dd, dd, dd, dd, dd, dd, dd, dd, dd, dd, dd, dd, dd, dd, dd, dd, dd, dd, dd, dd, dd, dd, dd, dd, dd, dd, dd, dd, dd, dd, dd, dd, dd, dd, dd, dd, dd, dd, dd, dd, dd, dd, dd, dd, dd, dd, dd, dd, dd, dd, dd, dd, dd, dd, dd, dd, dd, dd, dd, dd, dd, dd, dd, dd, dd, dd, dd, dd, dd, dd, dd, dd, dd, dd, dd, dd, dd, dd, dd, dd, dd, dd, dd, dd, dd, dd, dd, dd, .d (.v (.bool v_x305)), dd, dd, dd, dd, dd, dd, dd, dd, dd, dd, dd, dd, dd, dd, dd, dd, dd, dd, dd, dd, dd, dd, dd, dd, dd, dd, dd, dd, dd, dd, dd, dd, dd, dd, dd, dd, dd, dd, dd, dd, dd, dd, dd, dd, dd, dd, dd, dd, dd, dd, dd, dd, dd, dd, dd, dd, dd], []⟩
def G_ringlaw3_QuotaTurns_C1_hd (v_l1 : (List S_quota_Row)) (v_user2 : Int) (v_has4 : Int) (v_more5 : Int) (v_r17 : ((List S_ringref3_Row))) (v_r38 : (Int)) (v_r136 : ((List S_quota_Row) × Int)) (v_r169 : ((List S_ringref3_Row) × Int)) (v_r187 : ((List Int) × Int)) (v_r222 : ((List S_quota_Row) × Int)) (v_r266 : ((List S_ringref3_Row) × Int))  : PS := ⟨[.d (.sl (v_l1.map eS_quota_Row)), .d (.v (.int .i64 v_user2)), dd, .d (.v (.int .i64 v_has4)), .d (.v (.int .i64 v_more5)), dd, dd, dd, dd, dd, dd, dd, dd, .d (.sl (v_r17.map eS_ringref3_Row)), .d (.v (.int .i64 v_r38)), .d (.sl (v_r136.1.map eS_quota_Row)), .d (.v (.int .i64 v_r136.2)), .d (.sl (v_r169.1.map eS_ringref3_Row)), .d (.v (.int .i64 v_r169.2)), .d (.sl (v_r187.1.map (eI .u8))), .d (.v (.int .i64 v_r187.2)), .d (.sl (v_r222.1.map eS_quota_Row)), .d (.v (.int .i64 v_r222.2)), .d (.sl (v_r266.1.map eS_ringref3_Row)), .d (.v (.int .i64 v_r266.2)), dd, dd, dd, dd, dd, dd, dd, dd, dd, dd, dd, dd, dd, dd, dd, dd, dd, dd, dd, dd, dd, dd, dd, dd, dd, dd, dd, dd, dd, dd, dd, dd, dd, dd, dd, dd, dd, dd, dd, dd, dd, dd, dd, dd, dd, dd, dd, dd, dd, dd, dd, dd, dd, dd, dd, dd, dd, dd, dd, dd, dd, dd, dd, dd, dd, dd, dd, dd, dd, dd, dd, dd, dd, dd, dd, dd, dd, dd, dd, dd, dd, dd, dd, dd, dd, dd, dd, dd, dd, dd, dd, dd, dd, dd, dd, dd, dd, dd, dd, dd, dd, dd, dd, dd, dd, dd, dd, dd, dd, dd, dd, dd, dd, dd, dd, dd, dd, dd, dd, dd, dd, dd, dd, dd, dd, dd, dd, dd, dd, dd, dd, dd, dd, dd, dd, dd, dd, dd, dd, dd, dd, dd, dd], []⟩
def G_ringlaw3_QuotaTurns_C1 (n : Nat) (v_l1 : (List S_quota_Row)) (v_user2 : Int) (v_has4 : Int) (v_more5 : Int) (v_r17 : ((List S_ringref3_Row))) (v_r38 : (Int)) (v_r136 : ((List S_quota_Row) × Int)) (v_r169 : ((List S_ringref3_Row) × Int)) (v_r187 : ((List Int) × Int)) (v_r222 : ((List S_quota_Row) × Int)) (v_r266 : ((List S_ringref3_Row) × Int)) : Option G_ringlaw3_QuotaTurns_C1_R :=
  (G_quota_Right n v_l1).bind fun (v_r304 : (Int)) =>
  if v_r304 = v_r38 then
   (G_quota_Of n v_l1 v_user2).bind fun (v_r306 : (Int)) =>
   (G_ringref3_Limit n v_r17 v_user2).bind fun (v_r307 : (Int)) =>
   if v_r306 = v_r307 then
    if v_r136.2 = v_r169.2 then
     (G_ringlaw3_rows n v_r136.1).bind fun (v_r310 : ((List S_ringref3_Row))) =>
     (G_slices_Equal_ringref3_Row_ringref3_Row n v_r310 v_r169.1).bind fun (v_r311 : (Bool)) =>
     if v_r311 = true then
      if v_r187.2 = v_r38 then
       if v_r222.2 = v_r266.2 then
        (G_ringlaw3_rows n v_r222.1).bind fun (v_r315 : ((List S_ringref3_Row))) =>
        (G_slices_Equal_ringref3_Row_ringref3_Row n v_r315 v_r266.1).bind fun (v_r316 : (Bool)) =>
        some (.x0 (!v_r316))
       else
        some (.x0 true)
      else
       some (.x0 true)
     else
      some (.x0 true)
    else
     some (.x0 true)
   else
    some (.x0 true)
  else
   some (.x0 true)
theorem G_ringlaw3_QuotaTurns_C1_ok {Fi : Ex → PS → Prop} (hF : KC 168 Fi) (ks : List Fr) (n : Nat) (v_l1 : (List S_quota_Row)) (v_user2 : Int) (v_has4 : Int) (v_more5 : Int) (v_r17 : ((List S_ringref3_Row))) (v_r38 : (Int)) (v_r136 : ((List S_quota_Row) × Int)) (v_r169 : ((List S_ringref3_Row) × Int)) (v_r187 : ((List Int) × Int)) (v_r222 : ((List S_quota_Row) × Int)) (v_r266 : ((List S_ringref3_Row) × Int))  (o : G_ringlaw3_QuotaTurns_C1_R) (h : G_ringlaw3_QuotaTurns_C1 n v_l1 v_user2 v_has4 v_more5 v_r17 v_r38 v_r136 v_r169 v_r187 v_r222 v_r266 = some o) (q : RunE Try.prog 168 Fi ks (G_ringlaw3_QuotaTurns_C1_ex o) (G_ringlaw3_QuotaTurns_C1_st v_l1 v_user2 v_has4 v_more5 v_r17 v_r38 v_r136 v_r169 v_r187 v_r222 v_r266 o)) : RunE Try.prog 168 Fi (.s (cL (cL (cR (cR (cR (cR (cR (cR (cR (cR (cR (bodyOf Try.f10)))))))))))) :: ks) .normal (G_ringlaw3_QuotaTurns_C1_hd v_l1 v_user2 v_has4 v_more5 v_r17 v_r38 v_r136 v_r169 v_r187 v_r222 v_r266) := by
  unfold G_ringlaw3_QuotaTurns_C1 at h
  obtain ⟨v_r304, h324, h⟩ := bind_some h
  by_cases h325 : v_r304 = v_r38
  · rw [if_pos h325] at h
    obtain ⟨v_r306, h326, h⟩ := bind_some h
    obtain ⟨v_r307, h327, h⟩ := bind_some h
    by_cases h328 : v_r306 = v_r307
    · rw [if_pos h328] at h
      by_cases h329 : v_r136.2 = v_r169.2
      · rw [if_pos h329] at h
        obtain ⟨v_r310, h330, h⟩ := bind_some h
        obtain ⟨v_r311, h331, h⟩ := bind_some h
        by_cases h332 : v_r311 = true
        · rw [if_pos h332] at h
          by_cases h333 : v_r187.2 = v_r38
          · rw [if_pos h333] at h
            by_cases h334 : v_r222.2 = v_r266.2
            · rw [if_pos h334] at h
              obtain ⟨v_r315, h335, h⟩ := bind_some h
              obtain ⟨v_r316, h336, h⟩ := bind_some h
              cases h
              exact pkk_sound TTok mix hF 1 (hs := [.r ((eI .i64) v_r304), .t false, .c, .c, .r ((eI .i64) v_r306), .c, .c, .c, .r ((eI .i64) v_r307), .c, .t false, .c, .c, .t false, .c, .r ((eL eS_ringref3_Row) v_r310), .c, .c, .r (eB v_r311), .c, .t false, .c, .c, .t false, .c, .c, .t false, .c, .r ((eL eS_ringref3_Row) v_r315), .c, .c, .r (eB v_r316), .c]) (ts := []) (s := []) (l := [0, 1, 3, 4, 13, 14, 19, 110]) (by kernel_rfl) (by kernel_rfl) (.cons (G_quota_Right_ok n v_l1 _ h324) (.cons (nf h325) (.cons (G_quota_Of_ok n v_l1 v_user2 _ h326) (.cons (G_ringref3_Limit_ok n v_r17 v_user2 _ h327) (.cons (nf h328) (.cons (nf h329) (.cons (G_ringlaw3_rows_ok n v_r136.1 _ h330) (.cons (G_slices_Equal_ringref3_Row_ringref3_Row_ok n v_r310 v_r169.1 _ h331) (.cons (bnf h332) (.cons (nf h333) (.cons (nf h334) (.cons (G_ringlaw3_rows_ok n v_r222.1 _ h335) (.cons (G_slices_Equal_ringref3_Row_ringref3_Row_ok n v_r315 v_r266.1 _ h336) .nil))))))))))))) q
            · rw [if_neg h334] at h
              cases h
              exact pkk_sound TTok mix hF 1 (hs := [.r ((eI .i64) v_r304), .t false, .c, .c, .r ((eI .i64) v_r306), .c, .c, .c, .r ((eI .i64) v_r307), .c, .t false, .c, .c, .t false, .c, .r ((eL eS_ringref3_Row) v_r310), .c, .c, .r (eB v_r311), .c, .t false, .c, .c, .t false, .c, .c, .t true, .c, .c, .c, .c]) (ts := []) (s := []) (l := [0, 1, 3, 4, 13, 14, 19, 110]) (by kernel_rfl) (by kernel_rfl) (.cons (G_quota_Right_ok n v_l1 _ h324) (.cons (nf h325) (.cons (G_quota_Of_ok n v_l1 v_user2 _ h326) (.cons (G_ringref3_Limit_ok n v_r17 v_user2 _ h327) (.cons (nf h328) (.cons (nf h329) (.cons (G_ringlaw3_rows_ok n v_r136.1 _ h330) (.cons (G_slices_Equal_ringref3_Row_ringref3_Row_ok n v_r310 v_r169.1 _ h331) (.cons (bnf h332) (.cons (nf h333) (.cons (nt h334) .nil))))))))))) q
          · rw [if_neg h333] at h
            cases h
            exact pkk_sound TTok mix hF 1 (hs := [.r ((eI .i64) v_r304), .t false, .c, .c, .r ((eI .i64) v_r306), .c, .c, .c, .r ((eI .i64) v_r307), .c, .t false, .c, .c, .t false, .c, .r ((eL eS_ringref3_Row) v_r310), .c, .c, .r (eB v_r311), .c, .t false, .c, .c, .t true, .c, .c, .c, .c, .c, .c, .c]) (ts := []) (s := []) (l := [0, 1, 3, 4, 13, 14, 19, 110]) (by kernel_rfl) (by kernel_rfl) (.cons (G_quota_Right_ok n v_l1 _ h324) (.cons (nf h325) (.cons (G_quota_Of_ok n v_l1 v_user2 _ h326) (.cons (G_ringref3_Limit_ok n v_r17 v_user2 _ h327) (.cons (nf h328) (.cons (nf h329) (.cons (G_ringlaw3_rows_ok n v_r136.1 _ h330) (.cons (G_slices_Equal_ringref3_Row_ringref3_Row_ok n v_r310 v_r169.1 _ h331) (.cons (bnf h332) (.cons (nt h333) .nil)))))))))) q
        · rw [if_neg h332] at h
          cases h
          exact pkk_sound TTok mix hF 1 (hs := [.r ((eI .i64) v_r304), .t false, .c, .c, .r ((eI .i64) v_r306), .c, .c, .c, .r ((eI .i64) v_r307), .c, .t false, .c, .c, .t false, .c, .r ((eL eS_ringref3_Row) v_r310), .c, .c, .r (eB v_r311), .c, .t true, .c, .c, .c, .c, .c, .c, .c, .c, .c, .c]) (ts := []) (s := []) (l := [0, 1, 3, 4, 13, 14, 19, 110]) (by kernel_rfl) (by kernel_rfl) (.cons (G_quota_Right_ok n v_l1 _ h324) (.cons (nf h325) (.cons (G_quota_Of_ok n v_l1 v_user2 _ h326) (.cons (G_ringref3_Limit_ok n v_r17 v_user2 _ h327) (.cons (nf h328) (.cons (nf h329) (.cons (G_ringlaw3_rows_ok n v_r136.1 _ h330) (.cons (G_slices_Equal_ringref3_Row_ringref3_Row_ok n v_r310 v_r169.1 _ h331) (.cons (bnt (vf h332)) .nil))))))))) q
      · rw [if_neg h329] at h
        cases h
        exact pkk_sound TTok mix hF 1 (hs := [.r ((eI .i64) v_r304), .t false, .c, .c, .r ((eI .i64) v_r306), .c, .c, .c, .r ((eI .i64) v_r307), .c, .t false, .c, .c, .t true, .c, .c, .c, .c, .c, .c, .c, .c, .c, .c, .c, .c, .c, .c, .c]) (ts := []) (s := []) (l := [0, 1, 3, 4, 13, 14, 19, 110]) (by kernel_rfl) (by kernel_rfl) (.cons (G_quota_Right_ok n v_l1 _ h324) (.cons (nf h325) (.cons (G_quota_Of_ok n v_l1 v_user2 _ h326) (.cons (G_ringref3_Limit_ok n v_r17 v_user2 _ h327) (.cons (nf h328) (.cons (nt h329) .nil)))))) q
    · rw [if_neg h328] at h
      cases h
      exact pkk_sound TTok mix hF 1 (hs := [.r ((eI .i64) v_r304), .t false, .c, .c, .r ((eI .i64) v_r306), .c, .c, .c, .r ((eI .i64) v_r307), .c, .t true, .c, .c, .c, .c, .c, .c, .c, .c, .c, .c, .c, .c, .c, .c, .c, .c, .c, .c]) (ts := []) (s := []) (l := [0, 1, 3, 4, 13, 14, 19, 110]) (by kernel_rfl) (by kernel_rfl) (.cons (G_quota_Right_ok n v_l1 _ h324) (.cons (nf h325) (.cons (G_quota_Of_ok n v_l1 v_user2 _ h326) (.cons (G_ringref3_Limit_ok n v_r17 v_user2 _ h327) (.cons (nt h328) .nil))))) q
  · rw [if_neg h325] at h
    cases h
    exact pkk_sound TTok mix hF 1 (hs := [.r ((eI .i64) v_r304), .t true, .c, .c, .c, .c, .c, .c, .c, .c, .c, .c, .c, .c, .c, .c, .c, .c, .c, .c, .c, .c, .c, .c, .c, .c, .c]) (ts := []) (s := []) (l := [0, 1, 3, 4, 13, 14, 19, 110]) (by kernel_rfl) (by kernel_rfl) (.cons (G_quota_Right_ok n v_l1 _ h324) (.cons (nt h325) .nil)) q
inductive G_ringlaw3_QuotaTurns_C2_R where
  | x0 (v_x342 : Bool)
def G_ringlaw3_QuotaTurns_C2_ex : G_ringlaw3_QuotaTurns_C2_R → Ex
  | .x0 _ => .normal
def G_ringlaw3_QuotaTurns_C2_st (v_l1 : (List S_quota_Row)) (v_user2 : Int) (v_has4 : Int) (v_more5 : Int) (v_r17 : ((List S_ringref3_Row))) (v_r38 : (Int)) (v_r187 : ((List Int) × Int)) (v_r320 : (Int)) : G_ringlaw3_QuotaTurns_C2_R → PS
  | .x0 v_x342 => ⟨[.d (.sl (v_l1.map eS_quota_Row)), .d (.v (.int .i64 v_user2)), dd, .d (.v (.int .i64 v_has4)), .d (.v (.int .i64 v_more5)), dd, dd, dd, dd, dd, dd, dd, dd, .d (.sl (v_r17.map eS_ringref3_Row)), .d (.v (.int .i64 v_r38)), dd, dd, dd, dd, .d (.sl (v_r187.1.map (eI .u8))), dd, dd, dd, dd, dd, .d (.v (.int .i64 0)), .d (.v (.int .i64 v_r320)), dd, dd, dd, dd, dd, dd, dd, dd, dd, dd, dd, dd, dd, dd, dd, dd, dd, dd, dd, dd, dd, dd, dd, dd, dd, dd, dd, dd, dd, dd, dd, dd, dd, dd, dd, dd, dd, dd, dd, dd, dd, dd, dd, dd, dd, dd, dd, dd, dd, dd, dd, dd, dd, dd, dd, dd, dd, dd, dd, dd, dd, dd, dd, dd, dd, dd, dd, dd, dd, dd, dd, dd, dd, dd, dd, dd, dd, dd, dd, dd, dd, dd, dd, dd, dd, dd, dd, .d (.v (.bool v_x342)), dd, dd, dd, dd, dd, dd, dd, dd, dd, dd, dd, dd, dd, dd, dd, dd, dd, dd, dd, dd, dd, dd, dd, dd, dd, dd, dd, dd, dd, dd, dd, dd, dd, dd, dd, dd, dd, dd, dd, dd, dd, dd, dd, dd, dd, dd, dd, dd, dd, dd, dd, dd, dd], []⟩
def G_ringlaw3_QuotaTurns_C2_hd (v_l1 : (List S_quota_Row)) (v_user2 : Int) (v_has4 : Int) (v_more5 : Int) (v_r17 : ((List S_ringref3_Row))) (v_r38 : (Int)) (v_r187 : ((List Int) × Int)) (v_r320 : (Int))  : PS := ⟨[.d (.sl (v_l1.map eS_quota_Row)), .d (.v (.int .i64 v_user2)), dd, .d (.v (.int .i64 v_has4)), .d (.v (.int .i64 v_more5)), dd, dd, dd, dd, dd, dd, dd, dd, .d (.sl (v_r17.map eS_ringref3_Row)), .d (.v (.int .i64 v_r38)), dd, dd, dd, dd, .d (.sl (v_r187.1.map (eI .u8))), dd, dd, dd, dd, dd, .d (.v (.int .i64 0)), .d (.v (.int .i64 v_r320)), dd, dd, dd, dd, dd, dd, dd, dd, dd, dd, dd, dd, dd, dd, dd, dd, dd, dd, dd, dd, dd, dd, dd, dd, dd, dd, dd, dd, dd, dd, dd, dd, dd, dd, dd, dd, dd, dd, dd, dd, dd, dd, dd, dd, dd, dd, dd, dd, dd, dd, dd, dd, dd, dd, dd, dd, dd, dd, dd, dd, dd, dd, dd, dd, dd, dd, dd, dd, dd, dd, dd, dd, dd, dd, dd, dd, dd, dd, dd, dd, dd, dd, dd, dd, dd, dd, dd, dd, dd, dd, dd, dd, dd, dd, dd, dd, dd, dd, dd, dd, dd, dd, dd, dd, dd, dd, dd, dd, dd, dd, dd, dd, dd, dd, dd, dd, dd, dd, dd, dd, dd, dd, dd, dd, dd, dd, dd, dd, dd, dd, dd, dd, dd, dd, dd, dd, dd, dd, dd, dd, dd], []⟩
def G_ringlaw3_QuotaTurns_C2 (n : Nat) (v_l1 : (List S_quota_Row)) (v_user2 : Int) (v_has4 : Int) (v_more5 : Int) (v_r17 : ((List S_ringref3_Row))) (v_r38 : (Int)) (v_r187 : ((List Int) × Int)) (v_r320 : (Int)) : Option G_ringlaw3_QuotaTurns_C2_R :=
  if v_has4 < 0 then
   some (.x0 true)
  else
   if v_has4 > 256 then
    some (.x0 true)
   else
    if v_more5 < (-256) then
     some (.x0 true)
    else
     some (.x0 (decide (v_more5 > 256)))
theorem G_ringlaw3_QuotaTurns_C2_ok {Fi : Ex → PS → Prop} (hF : KC 168 Fi) (ks : List Fr) (n : Nat) (v_l1 : (List S_quota_Row)) (v_user2 : Int) (v_has4 : Int) (v_more5 : Int) (v_r17 : ((List S_ringref3_Row))) (v_r38 : (Int)) (v_r187 : ((List Int) × Int)) (v_r320 : (Int))  (o : G_ringlaw3_QuotaTurns_C2_R) (h : G_ringlaw3_QuotaTurns_C2 n v_l1 v_user2 v_has4 v_more5 v_r17 v_r38 v_r187 v_r320 = some o) (q : RunE Try.prog 168 Fi ks (G_ringlaw3_QuotaTurns_C2_ex o) (G_ringlaw3_QuotaTurns_C2_st v_l1 v_user2 v_has4 v_more5 v_r17 v_r38 v_r187 v_r320 o)) : RunE Try.prog 168 Fi (.s (cL (cB (cR (cL (cR (cR (cR (cR (cR (cR (cR (cR (cR (cR (cR (bodyOf Try.f10)))))))))))))))) :: ks) .normal (G_ringlaw3_QuotaTurns_C2_hd v_l1 v_user2 v_has4 v_more5 v_r17 v_r38 v_r187 v_r320) := by
  unfold G_ringlaw3_QuotaTurns_C2 at h
  by_cases h365 : v_has4 < 0
  · rw [if_pos h365] at h
    cases h
    exact pkk_sound TTok mix hF 1 (hs := [.t true, .c, .c, .c, .c, .c]) (ts := []) (s := []) (l := [0, 1, 3, 4, 13, 14, 19, 25, 26, 114]) (by kernel_rfl) (by kernel_rfl) (.cons (dt h365) .nil) q
  · rw [if_neg h365] at h
    by_cases h366 : v_has4 > 256
    · rw [if_pos h366] at h
      cases h
      exact pkk_sound TTok mix hF 1 (hs := [.t false, .c, .t true, .c, .c, .c]) (ts := []) (s := []) (l := [0, 1, 3, 4, 13, 14, 19, 25, 26, 114]) (by kernel_rfl) (by kernel_rfl) (.cons (df h365) (.cons (dt h366) .nil)) q
    · rw [if_neg h366] at h
      by_cases h367 : v_more5 < (-256)
      · rw [if_pos h367] at h
        cases h
        exact pkk_sound TTok mix hF 1 (hs := [.t false, .c, .t false, .c, .t true, .c]) (ts := []) (s := []) (l := [0, 1, 3, 4, 13, 14, 19, 25, 26, 114]) (by kernel_rfl) (by kernel_rfl) (.cons (df h365) (.cons (df h366) (.cons (dt h367) .nil))) q
      · rw [if_neg h367] at h
        cases h
        exact pkk_sound TTok mix hF 1 (hs := [.t false, .c, .t false, .c, .t false, .c]) (ts := []) (s := []) (l := [0, 1, 3, 4, 13, 14, 19, 25, 26, 114]) (by kernel_rfl) (by kernel_rfl) (.cons (df h365) (.cons (df h366) (.cons (df h367) .nil))) q
inductive G_ringlaw3_QuotaTurns_C3_R where
  | x0 (v_x354 : Bool)
def G_ringlaw3_QuotaTurns_C3_ex : G_ringlaw3_QuotaTurns_C3_R → Ex
  | .x0 _ => .normal
def G_ringlaw3_QuotaTurns_C3_st (v_l1 : (List S_quota_Row)) (v_user2 : Int) (v_has4 : Int) (v_more5 : Int) (v_r17 : ((List S_ringref3_Row))) (v_r38 : (Int)) (v_r187 : ((List Int) × Int)) (v_r320 : (Int)) : G_ringlaw3_QuotaTurns_C3_R → PS
  | .x0 v_x354 => ⟨[.d (.sl (v_l1.map eS_quota_Row)), .d (.v (.int .i64 v_user2)), dd, .d (.v (.int .i64 v_has4)), .d (.v (.int .i64 v_more5)), dd, dd, dd, dd, dd, dd, dd, dd, .d (.sl (v_r17.map eS_ringref3_Row)), .d (.v (.int .i64 v_r38)), dd, dd, dd, dd, .d (.sl (v_r187.1.map (eI .u8))), dd, dd, dd, dd, dd, .d (.v (.int .i64 0)), dd, dd, dd, dd, dd, dd, dd, dd, dd, dd, dd, dd, dd, dd, dd, dd, dd, dd, dd, dd, dd, dd, dd, dd, dd, dd, dd, dd, dd, dd, dd, dd, dd, dd, dd, dd, dd, dd, dd, dd, dd, dd, dd, dd, dd, dd, dd, dd, dd, dd, dd, dd, dd, dd, dd, dd, dd, dd, dd, dd, dd, dd, dd, dd, dd, dd, dd, dd, dd, dd, dd, dd, dd, dd, dd, dd, dd, dd, dd, dd, dd, dd, dd, dd, dd, dd, dd, dd, dd, dd, dd, dd, dd, dd, dd, dd, dd, dd, dd, dd, dd, dd, dd, .d (.v (.bool v_x354)), dd, dd, dd, dd, dd, dd, dd, dd, dd, dd, dd, dd, dd, dd, dd, dd, dd, dd, dd, dd, dd, dd, dd, dd, dd, dd, dd, dd, dd, dd, dd, dd, dd, dd, dd, dd, dd, dd], []⟩
def G_ringlaw3_QuotaTurns_C3_hd (v_l1 : (List S_quota_Row)) (v_user2 : Int) (v_has4 : Int) (v_more5 : Int) (v_r17 : ((List S_ringref3_Row))) (v_r38 : (Int)) (v_r187 : ((List Int) × Int)) (v_r320 : (Int))  : PS := ⟨[.d (.sl (v_l1.map eS_quota_Row)), .d (.v (.int .i64 v_user2)), dd, .d (.v (.int .i64 v_has4)), .d (.v (.int .i64 v_more5)), dd, dd, dd, dd, dd, dd, dd, dd, .d (.sl (v_r17.map eS_ringref3_Row)), .d (.v (.int .i64 v_r38)), dd, dd, dd, dd, .d (.sl (v_r187.1.map (eI .u8))), dd, dd, dd, dd, dd, .d (.v (.int .i64 0)), .d (.v (.int .i64 v_r320)), dd, dd, dd, dd, dd, dd, dd, dd, dd, dd, dd, dd, dd, dd, dd, dd, dd, dd, dd, dd, dd, dd, dd, dd, dd, dd, dd, dd, dd, dd, dd, dd, dd, dd, dd, dd, dd, dd, dd, dd, dd, dd, dd, dd, dd, dd, dd, dd, dd, dd, dd, dd, dd, dd, dd, dd, dd, dd, dd, dd, dd, dd, dd, dd, dd, dd, dd, dd, dd, dd, dd, dd, dd, dd, dd, dd, dd, dd, dd, dd, dd, dd, dd, dd, dd, dd, dd, dd, dd, dd, dd, dd, dd, dd, dd, dd, dd, dd, dd, dd, dd, dd, dd, dd, dd, dd, dd, dd, dd, dd, dd, dd, dd, dd, dd, dd, dd, dd, dd, dd, dd, dd, dd, dd, dd, dd, dd, dd, dd, dd, dd, dd, dd, dd, dd, dd, dd, dd, dd, dd, dd], []⟩
def G_ringlaw3_QuotaTurns_C3 (n : Nat) (v_l1 : (List S_quota_Row)) (v_user2 : Int) (v_has4 : Int) (v_more5 : Int) (v_r17 : ((List S_ringref3_Row))) (v_r38 : (Int)) (v_r187 : ((List Int) × Int)) (v_r320 : (Int)) : Option G_ringlaw3_QuotaTurns_C3_R :=
  if v_more5 > 0 then
   if v_r320 = (-1) then
    some (.x0 false)
   else
    some (.x0 (decide ((wi .i64 (v_has4 + v_more5)) > v_r320)))
  else
   some (.x0 false)
theorem G_ringlaw3_QuotaTurns_C3_ok {Fi : Ex → PS → Prop} (hF : KC 168 Fi) (ks : List Fr) (n : Nat) (v_l1 : (List S_quota_Row)) (v_user2 : Int) (v_has4 : Int) (v_more5 : Int) (v_r17 : ((List S_ringref3_Row))) (v_r38 : (Int)) (v_r187 : ((List Int) × Int)) (v_r320 : (Int))  (o : G_ringlaw3_QuotaTurns_C3_R) (h : G_ringlaw3_QuotaTurns_C3 n v_l1 v_user2 v_has4 v_more5 v_r17 v_r38 v_r187 v_r320 = some o) (q : RunE Try.prog 168 Fi ks (G_ringlaw3_QuotaTurns_C3_ex o) (G_ringlaw3_QuotaTurns_C3_st v_l1 v_user2 v_has4 v_more5 v_r17 v_r38 v_r187 v_r320 o)) : RunE Try.prog 168 Fi (.s (cL (cF (cR (cB (cR (cL (cR (cR (cR (cR (cR (cR (cR (cR (cR (cR (cR (bodyOf Try.f10)))))))))))))))))) :: ks) .normal (G_ringlaw3_QuotaTurns_C3_hd v_l1 v_user2 v_has4 v_more5 v_r17 v_r38 v_r187 v_r320) := by
  unfold G_ringlaw3_QuotaTurns_C3 at h
  by_cases h379 : v_more5 > 0
  · rw [if_pos h379] at h
    by_cases h380 : v_r320 = (-1)
    · rw [if_pos h380] at h
      cases h
      exact pkk_sound TTok mix hF 1 (hs := [.t true, .c, .t false, .c, .c, .c, .c]) (ts := []) (s := []) (l := [0, 1, 3, 4, 13, 14, 19, 25, 129]) (by kernel_rfl) (by kernel_rfl) (.cons (dt h379) (.cons (nf h380) .nil)) q
    · rw [if_neg h380] at h
      cases h
      exact pkk_sound TTok mix hF 1 (hs := [.t true, .c, .t true, .c, .c, .c, .c]) (ts := []) (s := []) (l := [0, 1, 3, 4, 13, 14, 19, 25, 129]) (by kernel_rfl) (by kernel_rfl) (.cons (dt h379) (.cons (nt h380) .nil)) q
  · rw [if_neg h379] at h
    cases h
    exact pkk_sound TTok mix hF 1 (hs := [.t false, .c, .c, .c, .c, .c, .c]) (ts := []) (s := []) (l := [0, 1, 3, 4, 13, 14, 19, 25, 129]) (by kernel_rfl) (by kernel_rfl) (.cons (df h379) .nil) q
inductive G_ringlaw3_QuotaTurns_C4_R where
  | x0 (v_want353 : Int)
def G_ringlaw3_QuotaTurns_C4_ex : G_ringlaw3_QuotaTurns_C4_R → Ex
  | .x0 _ => .normal
def G_ringlaw3_QuotaTurns_C4_st (v_l1 : (List S_quota_Row)) (v_user2 : Int) (v_has4 : Int) (v_more5 : Int) (v_r17 : ((List S_ringref3_Row))) (v_r38 : (Int)) (v_r187 : ((List Int) × Int)) (v_r320 : (Int)) (v_z347 : Bool) : G_ringlaw3_QuotaTurns_C4_R → PS
  | .x0 v_want353 => ⟨[.d (.sl (v_l1.map eS_quota_Row)), .d (.v (.int .i64 v_user2)), dd, .d (.v (.int .i64 v_has4)), .d (.v (.int .i64 v_more5)), dd, dd, dd, dd, dd, dd, dd, dd, .d (.sl (v_r17.map eS_ringref3_Row)), .d (.v (.int .i64 v_r38)), dd, dd, dd, dd, .d (.sl (v_r187.1.map (eI .u8))), dd, dd, dd, dd, dd, .d (.v (.int .i64 v_want353)), dd, dd, dd, dd, dd, dd, dd, dd, dd, dd, dd, dd, dd, dd, dd, dd, dd, dd, dd, dd, dd, dd, dd, dd, dd, dd, dd, dd, dd, dd, dd, dd, dd, dd, dd, dd, dd, dd, dd, dd, dd, dd, dd, dd, dd, dd, dd, dd, dd, dd, dd, dd, dd, dd, dd, dd, dd, dd, dd, dd, dd, dd, dd, dd, dd, dd, dd, dd, dd, dd, dd, dd, dd, dd, dd, dd, dd, dd, dd, dd, dd, dd, dd, dd, dd, dd, dd, dd, dd, dd, dd, dd, dd, dd, dd, dd, dd, dd, dd, dd, dd, dd, dd, dd, dd, dd, dd, dd, dd, dd, dd, dd, dd, dd, dd, dd, dd, dd, dd, dd, dd, dd, dd, dd, dd, dd, dd, dd, dd, dd, dd, dd, dd, dd, dd, dd, dd, dd, dd, dd, dd, dd], []⟩
def G_ringlaw3_QuotaTurns_C4_hd (v_l1 : (List S_quota_Row)) (v_user2 : Int) (v_has4 : Int) (v_more5 : Int) (v_r17 : ((List S_ringref3_Row))) (v_r38 : (Int)) (v_r187 : ((List Int) × Int)) (v_r320 : (Int)) (v_z347 : Bool)  : PS := ⟨[.d (.sl (v_l1.map eS_quota_Row)), .d (.v (.int .i64 v_user2)), dd, .d (.v (.int .i64 v_has4)), .d (.v (.int .i64 v_more5)), dd, dd, dd, dd, dd, dd, dd, dd, .d (.sl (v_r17.map eS_ringref3_Row)), .d (.v (.int .i64 v_r38)), dd, dd, dd, dd, .d (.sl (v_r187.1.map (eI .u8))), dd, dd, dd, dd, dd, .d (.v (.int .i64 0)), .d (.v (.int .i64 v_r320)), dd, dd, dd, dd, dd, dd, dd, dd, dd, dd, dd, dd, dd, dd, dd, dd, dd, dd, dd, dd, dd, dd, dd, dd, dd, dd, dd, dd, dd, dd, dd, dd, dd, dd, dd, dd, dd, dd, dd, dd, dd, dd, dd, dd, dd, dd, dd, dd, dd, dd, dd, dd, dd, dd, dd, dd, dd, dd, dd, dd, dd, dd, dd, dd, dd, dd, dd, dd, dd, dd, dd, dd, dd, dd, dd, dd, dd, dd, dd, dd, dd, dd, dd, dd, dd, dd, dd, .d (.v (.bool v_z347)), dd, dd, dd, dd, dd, dd, dd, dd, dd, dd, dd, dd, dd, dd, dd, dd, dd, dd, dd, dd, dd, dd, dd, dd, dd, dd, dd, dd, dd, dd, dd, dd, dd, dd, dd, dd, dd, dd, dd, dd, dd, dd, dd, dd, dd, dd, dd, dd, dd, dd, dd, dd, dd], []⟩
def G_ringlaw3_QuotaTurns_C4 (n : Nat) (v_l1 : (List S_quota_Row)) (v_user2 : Int) (v_has4 : Int) (v_more5 : Int) (v_r17 : ((List S_ringref3_Row))) (v_r38 : (Int)) (v_r187 : ((List Int) × Int)) (v_r320 : (Int)) (v_z347 : Bool) : Option G_ringlaw3_QuotaTurns_C4_R :=
  if v_z347 = true then
   some (.x0 1)
  else
   (G_ringlaw3_QuotaTurns_C3 n v_l1 v_user2 v_has4 v_more5 v_r17 v_r38 v_r187 v_r320).bind fun v_o357 => match v_o357 with
   | .x0 v_z358 =>
     if v_z358 = true then
      some (.x0 16)
     else
      some (.x0 0)
theorem G_ringlaw3_QuotaTurns_C4_ok {Fi : Ex → PS → Prop} (hF : KC 168 Fi) (ks : List Fr) (n : Nat) (v_l1 : (List S_quota_Row)) (v_user2 : Int) (v_has4 : Int) (v_more5 : Int) (v_r17 : ((List S_ringref3_Row))) (v_r38 : (Int)) (v_r187 : ((List Int) × Int)) (v_r320 : (Int)) (v_z347 : Bool)  (o : G_ringlaw3_QuotaTurns_C4_R) (h : G_ringlaw3_QuotaTurns_C4 n v_l1 v_user2 v_has4 v_more5 v_r17 v_r38 v_r187 v_r320 v_z347 = some o) (q : RunE Try.prog 168 Fi ks (G_ringlaw3_QuotaTurns_C4_ex o) (G_ringlaw3_QuotaTurns_C4_st v_l1 v_user2 v_has4 v_more5 v_r17 v_r38 v_r187 v_r320 v_z347 o)) : RunE Try.prog 168 Fi (.s (cR (cB (cR (cL (cR (cR (cR (cR (cR (cR (cR (cR (cR (cR (cR (bodyOf Try.f10)))))))))))))))) :: ks) .normal (G_ringlaw3_QuotaTurns_C4_hd v_l1 v_user2 v_has4 v_more5 v_r17 v_r38 v_r187 v_r320 v_z347) := by
  unfold G_ringlaw3_QuotaTurns_C4 at h
  by_cases h376 : v_z347 = true
  · rw [if_pos h376] at h
    cases h
    exact pkk_sound TTok mix hF 2 (hs := [.t true]) (ts := []) (s := []) (l := [0, 1, 3, 4, 13, 14, 19, 25]) (by kernel_rfl) (by kernel_rfl) (.cons h376 .nil) q
  · rw [if_neg h376] at h
    obtain ⟨v_o357, h381, h⟩ := bind_some h
    refine pkk_sound TTok mix hF 2 (hs := [.t false]) (ts := []) (s := []) (l := [0, 1, 3, 4, 13, 14, 19, 25, 26]) (by kernel_rfl) (by kernel_rfl) (.cons (vf h376) .nil) (G_ringlaw3_QuotaTurns_C3_ok hF (.s (cR (cF (cR (cB (cR (cL (cR (cR (cR (cR (cR (cR (cR (cR (cR (cR (cR (bodyOf Try.f10)))))))))))))))))) :: ks) n v_l1 v_user2 v_has4 v_more5 v_r17 v_r38 v_r187 v_r320 _ h381 ?_)
    cases v_o357 with
    | x0 v_z358 =>
      try dsimp only at h
      by_cases h382 : v_z358 = true
      · rw [if_pos h382] at h
        cases h
        exact pkk_sound TTok mix hF 2 (hs := [.t true]) (ts := []) (s := []) (l := [0, 1, 3, 4, 13, 14, 19, 25]) (by kernel_rfl) (by kernel_rfl) (.cons h382 .nil) q
      · rw [if_neg h382] at h
        cases h
        exact pkk_sound TTok mix hF 2 (hs := [.t false]) (ts := []) (s := []) (l := [0, 1, 3, 4, 13, 14, 19, 25]) (by kernel_rfl) (by kernel_rfl) (.cons (vf h382) .nil) q
inductive G_ringlaw3_QuotaTurns_C5_R where
  | x0 (v_x381 : Bool)
def G_ringlaw3_QuotaTurns_C5_ex : G_ringlaw3_QuotaTurns_C5_R → Ex
  | .x0 _ => .normal
def G_ringlaw3_QuotaTurns_C5_st (v_r17 : ((List S_ringref3_Row))) (v_r38 : (Int)) (v_r187 : ((List Int) × Int)) : G_ringlaw3_QuotaTurns_C5_R → PS
  | .x0 v_x381 => ⟨[dd, dd, dd, dd, dd, dd, dd, dd, dd, dd, dd, dd, .d (.v (.bool v_x381)), dd, dd, dd, dd, dd, dd, dd, dd, dd, dd, dd, dd, dd, dd, dd, dd, dd, dd, dd, dd, dd, dd, dd, dd, dd, dd, dd, dd, dd, dd, dd, dd, dd, dd, dd, dd, dd, dd, dd, dd, dd, dd, dd, dd, dd, dd, dd, dd, dd, dd, dd, dd, dd, dd, dd, dd, dd, dd, dd, dd, dd, dd, dd, dd, dd, dd, dd, dd, dd, dd, dd, dd, dd, dd, dd, dd, dd, dd, dd, dd, dd, dd, dd, dd, dd, dd, dd, dd, dd, dd, dd, dd, dd, dd, dd, dd, dd, dd, dd, dd, dd, dd, dd, dd, dd, dd, dd, dd, dd, dd, dd, dd, dd, dd, dd, dd, dd, dd, dd, dd, dd, dd, dd, dd, dd, dd, dd, dd, dd, dd, dd, dd, dd, dd, dd, dd, dd, dd, dd, dd, dd, dd, dd, dd, dd, dd, dd, dd, dd, dd, dd, dd, dd, dd, dd], []⟩
def G_ringlaw3_QuotaTurns_C5_hd (v_r17 : ((List S_ringref3_Row))) (v_r38 : (Int)) (v_r187 : ((List Int) × Int))  : PS := ⟨[dd, dd, dd, dd, dd, dd, dd, dd, dd, dd, dd, dd, dd, .d (.sl (v_r17.map eS_ringref3_Row)), .d (.v (.int .i64 v_r38)), dd, dd, dd, dd, .d (.sl (v_r187.1.map (eI .u8))), dd, dd, dd, dd, dd, dd, dd, dd, dd, dd, dd, dd, dd, dd, dd, dd, dd, dd, dd, dd, dd, dd, dd, dd, dd, dd, dd, dd, dd, dd, dd, dd, dd, dd, dd, dd, dd, dd, dd, dd, dd, dd, dd, dd, dd, dd, dd, dd, dd, dd, dd, dd, dd, dd, dd, dd, dd, dd, dd, dd, dd, dd, dd, dd, dd, dd, dd, dd, dd, dd, dd, dd, dd, dd, dd, dd, dd, dd, dd, dd, dd, dd, dd, dd, dd, dd, dd, dd, dd, dd, dd, dd, dd, dd, dd, dd, dd, dd, dd, dd, dd, dd, dd, dd, dd, dd, dd, dd, dd, dd, dd, dd, dd, dd, dd, dd, dd, dd, dd, dd, dd, dd, dd, dd, dd, dd, dd, dd, dd, dd, dd, dd, dd, dd, dd, dd, dd, dd, dd, dd, dd, dd, dd, dd, dd, dd, dd, dd], []⟩
def G_ringlaw3_QuotaTurns_C5 (n : Nat) (v_r17 : ((List S_ringref3_Row))) (v_r38 : (Int)) (v_r187 : ((List Int) × Int)) : Option G_ringlaw3_QuotaTurns_C5_R :=
  if v_r38 = 0 then
   (G_ringref3_RowsPack n v_r17).bind fun (v_r383 : (ByteArray)) =>
   some (.x0 ((b2s v_r187.1).toList == v_r383.toList))
  else
   if (v_r187.1.length : Int) = 0 then
    some (.x0 true)
   else
    some (.x0 false)
theorem G_ringlaw3_QuotaTurns_C5_ok {Fi : Ex → PS → Prop} (hF : KC 168 Fi) (ks : List Fr) (n : Nat) (v_r17 : ((List S_ringref3_Row))) (v_r38 : (Int)) (v_r187 : ((List Int) × Int))  (o : G_ringlaw3_QuotaTurns_C5_R) (h : G_ringlaw3_QuotaTurns_C5 n v_r17 v_r38 v_r187 = some o) (q : RunE Try.prog 168 Fi ks (G_ringlaw3_QuotaTurns_C5_ex o) (G_ringlaw3_QuotaTurns_C5_st v_r17 v_r38 v_r187 o)) : RunE Try.prog 168 Fi (.s (cL (cR (cR (cR (cR (cR (cR (cR (cR (cR (cR (cR (cR (cR (bodyOf Try.f10))))))))))))))) :: ks) .normal (G_ringlaw3_QuotaTurns_C5_hd v_r17 v_r38 v_r187) := by
  unfold G_ringlaw3_QuotaTurns_C5 at h
  by_cases h404 : v_r38 = 0
  · rw [if_pos h404] at h
    obtain ⟨v_r383, h406, h⟩ := bind_some h
    cases h
    exact pkk_sound TTok mix hF 1 (hs := [.t false, .c, .c, .c, .c, .c, .t true, .c, .e 36 [] (.d (.v (.string (b2s v_r187.1)))) [], .c, .c, .r (eS v_r383), .c, .c]) (ts := []) (s := []) (l := [12]) (by kernel_rfl) (by kernel_rfl) (.cons (nf h404) (.cons (bt h404) (.cons (xb2sD (L := v_r187.1) (P := Try.prog) (T := TT) (src := 48) (dst := 9) (e := 5) (s := 1) (x := (.tmp 161)) (by kernel_rfl) (by kernel_rfl) (by kernel_rfl)) (.cons (G_ringref3_RowsPack_ok n v_r17 _ h406) .nil)))) q
  · rw [if_neg h404] at h
    by_cases h405 : (v_r187.1.length : Int) = 0
    · rw [if_pos h405] at h
      cases h
      exact pkk_sound TTok mix hF 1 (hs := [.t true, .c, .u (.d (.v (.int .i64 (v_r187.1.length : Int)))), .c, .t true, .c, .c, .c]) (ts := []) (s := []) (l := [12]) (by kernel_rfl) (by kernel_rfl) (.cons (nt h404) (.cons (len_ob (f := (eI .u8)) (l := v_r187.1)) (.cons (bt h405) .nil))) q
    · rw [if_neg h405] at h
      cases h
      exact pkk_sound TTok mix hF 1 (hs := [.t true, .c, .u (.d (.v (.int .i64 (v_r187.1.length : Int)))), .c, .t false, .c, .c, .t false, .c, .c, .c, .c, .c]) (ts := []) (s := []) (l := [12]) (by kernel_rfl) (by kernel_rfl) (.cons (nt h404) (.cons (len_ob (f := (eI .u8)) (l := v_r187.1)) (.cons (bf h405) (.cons (bf h404) .nil)))) q
/- ringhall/ringlaw3.QuotaTurns -/
def G_ringlaw3_QuotaTurns (n : Nat) (v_l1 : (List S_quota_Row)) (v_user2 : Int) (v_limit3 : Int) (v_has4 : Int) (v_more5 : Int) (v_b6 : (List Int)) : Option (Bool) :=
  if (v_l1.length : Int) > 40 then
   some true
  else
   if (v_b6.length : Int) > 100 then
    some true
   else
    (G_ringlaw3_rows n v_l1).bind fun (v_r17 : ((List S_ringref3_Row))) =>
    (G_ringref3_RowsRight n v_r17).bind fun (v_r38 : (Int)) =>
    (G_quota_Set n v_l1 v_user2 v_limit3).bind fun (v_r136 : ((List S_quota_Row) × Int)) =>
    (G_ringref3_SetRow n v_r17 v_user2 v_limit3).bind fun (v_r169 : ((List S_ringref3_Row) × Int)) =>
    (G_quota_Pack n v_l1).bind fun (v_r187 : ((List Int) × Int)) =>
    (G_quota_Unpack n v_b6).bind fun (v_r222 : ((List S_quota_Row) × Int)) =>
    (G_ringref3_RowsUnpack n (b2s v_b6)).bind fun (v_r266 : ((List S_ringref3_Row) × Int)) =>
    (G_ringlaw3_QuotaTurns_C1 n v_l1 v_user2 v_has4 v_more5 v_r17 v_r38 v_r136 v_r169 v_r187 v_r222 v_r266).bind fun v_o318 => match v_o318 with
    | .x0 v_z319 =>
      if v_z319 = true then
       some false
      else
       (G_ringref3_Limit n v_r17 v_user2).bind fun (v_r320 : (Int)) =>
       (G_ringlaw3_QuotaTurns_C2 n v_l1 v_user2 v_has4 v_more5 v_r17 v_r38 v_r187 v_r320).bind fun v_o346 => match v_o346 with
       | .x0 v_z347 =>
         (G_ringlaw3_QuotaTurns_C4 n v_l1 v_user2 v_has4 v_more5 v_r17 v_r38 v_r187 v_r320 v_z347).bind fun v_o361 => match v_o361 with
         | .x0 v_z362 =>
           (G_quota_May n v_l1 v_user2 v_has4 v_more5).bind fun (v_r379 : (Int)) =>
           if v_r379 = v_z362 then
            (G_ringlaw3_QuotaTurns_C5 n v_r17 v_r38 v_r187).bind fun v_o385 => match v_o385 with
            | .x0 v_z386 =>
              some v_z386
           else
            some false
theorem G_ringlaw3_QuotaTurns_ok (n : Nat) (v_l1 : (List S_quota_Row)) (v_user2 : Int) (v_limit3 : Int) (v_has4 : Int) (v_more5 : Int) (v_b6 : (List Int)) (r : Bool) (h : G_ringlaw3_QuotaTurns n v_l1 v_user2 v_limit3 v_has4 v_more5 v_b6 = some r) : Ret Try.prog 10 [(eL eS_quota_Row) v_l1, (eI .i64) v_user2, (eI .i64) v_limit3, (eI .i64) v_has4, (eI .i64) v_more5, (eL (eI .u8)) v_b6] (eB r) := by
  refine ret_run (n := 168) (fn := Try.f10) (c := bodyOf Try.f10) (by kernel_rfl) (by kernel_rfl) (by kernel_rfl) (by kernel_rfl) ?_
  have hF : KC 168 (FinR Try.prog Try.f10 (eB r)) := FinR.kc' (by kernel_rfl)
  unfold G_ringlaw3_QuotaTurns at h
  by_cases h1 : (v_l1.length : Int) > 40
  · rw [if_pos h1] at h
    obtain rfl := Option.some.inj h
    exact pend_sound TTok mix 10 (hs := [.u (.d (.v (.int .i64 (v_l1.length : Int)))), .t true, .c, .c, .c]) (by kernel_rfl) (by kernel_rfl) (by kernel_rfl) (.cons (len_ob (f := eS_quota_Row) (l := v_l1)) (.cons (dt h1) .nil))
  · rw [if_neg h1] at h
    by_cases h2 : (v_b6.length : Int) > 100
    · rw [if_pos h2] at h
      obtain rfl := Option.some.inj h
      exact pend_sound TTok mix 10 (hs := [.u (.d (.v (.int .i64 (v_l1.length : Int)))), .t false, .c, .u (.d (.v (.int .i64 (v_b6.length : Int)))), .c, .t true]) (by kernel_rfl) (by kernel_rfl) (by kernel_rfl) (.cons (len_ob (f := eS_quota_Row) (l := v_l1)) (.cons (df h1) (.cons (len_ob (f := (eI .u8)) (l := v_b6)) (.cons (dt h2) .nil))))
    · rw [if_neg h2] at h
      obtain ⟨v_r17, h9, h⟩ := bind_some h
      obtain ⟨v_r38, h30, h⟩ := bind_some h
      obtain ⟨v_r136, h155, h⟩ := bind_some h
      obtain ⟨v_r169, h181, h⟩ := bind_some h
      obtain ⟨v_r187, h206, h⟩ := bind_some h
      obtain ⟨v_r222, h241, h⟩ := bind_some h
      obtain ⟨v_r266, h281, h⟩ := bind_some h
      obtain ⟨v_o318, h337, h⟩ := bind_some h
      refine pkk_sound TTok mix hF 23 (hs := [.u (.d (.v (.int .i64 (v_l1.length : Int)))), .t false, .c, .u (.d (.v (.int .i64 (v_b6.length : Int)))), .c, .t false, .r ((eL eS_ringref3_Row) v_r17), .r ((eI .i64) v_r38), .r (.tup [(eL eS_quota_Row) v_r136.1, (eI .i64) v_r136.2]), .r (.tup [(eL eS_ringref3_Row) v_r169.1, (eI .i64) v_r169.2]), .r (.tup [(eL (eI .u8)) v_r187.1, (eI .i64) v_r187.2]), .r (.tup [(eL eS_quota_Row) v_r222.1, (eI .i64) v_r222.2]), .e 144 [] (.d (.v (.string (b2s v_b6)))) [], .r (.tup [(eL eS_ringref3_Row) v_r266.1, (eI .i64) v_r266.2])]) (ts := []) (s := []) (l := [0, 1, 3, 4, 13, 14, 15, 16, 17, 18, 19, 20, 21, 22, 23, 24]) (by kernel_rfl) (by kernel_rfl) (.cons (len_ob (f := eS_quota_Row) (l := v_l1)) (.cons (df h1) (.cons (len_ob (f := (eI .u8)) (l := v_b6)) (.cons (df h2) (.cons (G_ringlaw3_rows_ok n v_l1 _ h9) (.cons (G_ringref3_RowsRight_ok n v_r17 _ h30) (.cons (G_quota_Set_ok n v_l1 v_user2 v_limit3 _ h155) (.cons (G_ringref3_SetRow_ok n v_r17 v_user2 v_limit3 _ h181) (.cons (G_quota_Pack_ok n v_l1 _ h206) (.cons (G_quota_Unpack_ok n v_b6 _ h241) (.cons (xb2sD (L := v_b6) (P := Try.prog) (T := TT) (src := 48) (dst := 9) (e := 5) (s := 1) (x := (.tmp 64)) (by kernel_rfl) (by kernel_rfl) (by kernel_rfl)) (.cons (G_ringref3_RowsUnpack_ok n (b2s v_b6) _ h281) .nil)))))))))))) (G_ringlaw3_QuotaTurns_C1_ok hF (.s (cR (cL (cR (cR (cR (cR (cR (cR (cR (cR (cR (bodyOf Try.f10)))))))))))) :: .s (cR (cR (cR (cR (cR (cR (cR (cR (cR (cR (bodyOf Try.f10))))))))))) :: []) n v_l1 v_user2 v_has4 v_more5 v_r17 v_r38 v_r136 v_r169 v_r187 v_r222 v_r266 _ h337 ?_)
      cases v_o318 with
      | x0 v_z319 =>
        try dsimp only at h
        by_cases h338 : v_z319 = true
        · rw [if_pos h338] at h
          obtain rfl := Option.some.inj h
          exact pend_sound TTok mix 5 (hs := [.t true]) (by kernel_rfl) (by kernel_rfl) (by kernel_rfl) (.cons h338 .nil)
        · rw [if_neg h338] at h
          obtain ⟨v_r320, h339, h⟩ := bind_some h
          obtain ⟨v_o346, h368, h⟩ := bind_some h
          refine pkk_sound TTok mix hF 9 (hs := [.t false, .r ((eI .i64) v_r320)]) (ts := []) (s := []) (l := [0, 1, 3, 4, 13, 14, 19, 25, 26]) (by kernel_rfl) (by kernel_rfl) (.cons (vf h338) (.cons (G_ringref3_Limit_ok n v_r17 v_user2 _ h339) .nil)) (G_ringlaw3_QuotaTurns_C2_ok hF (.s (cR (cB (cR (cL (cR (cR (cR (cR (cR (cR (cR (cR (cR (cR (cR (bodyOf Try.f10)))))))))))))))) :: .b 0 :: .s (cR (cR (cR (cR (cR (cR (cR (cR (cR (cR (cR (cR (bodyOf Try.f10))))))))))))) :: []) n v_l1 v_user2 v_has4 v_more5 v_r17 v_r38 v_r187 v_r320 _ h368 ?_)
          cases v_o346 with
          | x0 v_z347 =>
            try dsimp only at h
            obtain ⟨v_o361, h383, h⟩ := bind_some h
            refine pkk_sound TTok mix hF 0 (hs := []) (ts := []) (s := []) (l := [0, 1, 3, 4, 13, 14, 19, 25, 26, 114]) (by kernel_rfl) (by kernel_rfl) .nil (G_ringlaw3_QuotaTurns_C4_ok hF (.b 0 :: .s (cR (cR (cR (cR (cR (cR (cR (cR (cR (cR (cR (cR (bodyOf Try.f10))))))))))))) :: []) n v_l1 v_user2 v_has4 v_more5 v_r17 v_r38 v_r187 v_r320 v_z347 _ h383 ?_)
            cases v_o361 with
            | x0 v_z362 =>
              try dsimp only at h
              obtain ⟨v_r379, h399, h⟩ := bind_some h
              by_cases h400 : v_r379 = v_z362
              · rw [if_pos h400] at h
                obtain ⟨v_o385, h407, h⟩ := bind_some h
                refine pkk_sound TTok mix hF 7 (hs := [.r ((eI .i64) v_r379), .t false]) (ts := []) (s := []) (l := [13, 14, 19]) (by kernel_rfl) (by kernel_rfl) (.cons (G_quota_May_ok n v_l1 v_user2 v_has4 v_more5 _ h399) (.cons (nf h400) .nil)) (G_ringlaw3_QuotaTurns_C5_ok hF (.s (cR (cR (cR (cR (cR (cR (cR (cR (cR (cR (cR (cR (cR (cR (bodyOf Try.f10))))))))))))))) :: []) n v_r17 v_r38 v_r187 _ h407 ?_)
                cases v_o385 with
                | x0 v_z386 =>
                  try dsimp only at h
                  obtain rfl := Option.some.inj h
                  exact pend_sound TTok mix 1 (hs := []) (by kernel_rfl) (by kernel_rfl) (by kernel_rfl) .nil
              · rw [if_neg h400] at h
                obtain rfl := Option.some.inj h
                exact pend_sound TTok mix 9 (hs := [.r ((eI .i64) v_r379), .t true]) (by kernel_rfl) (by kernel_rfl) (by kernel_rfl) (.cons (G_quota_May_ok n v_l1 v_user2 v_has4 v_more5 _ h399) (.cons (nt h400) .nil))
def okS_quota_Row (x : S_quota_Row) : Prop := (fun a => (Lit.int .i64 a).wf = true) x.fUser ∧ (fun a => (Lit.int .i64 a).wf = true) x.fLimit ∧ True
theorem brS_quota_Row : Br (.pair (.int .i64) (.pair (.int .i64) .unit)) (fun x : S_quota_Row => [.v (.int .i64 x.fUser), .v (.int .i64 x.fLimit)]) okS_quota_Row := br_map (br_pair (br_int .i64) (br_pair (br_int .i64) br_unit)) (fun p => S_quota_Row.mk p.1 p.2.1) (fun p h => ⟨rfl, h⟩)
theorem QuotaTurns_walk (H : ∀ (a0 : (List S_quota_Row)) (a1 : Int) (a2 : Int) (a3 : Int) (a4 : Int) (a5 : (List Int)), (okL 16 okS_quota_Row) a0 → (fun a => (Lit.int .i64 a).wf = true) a1 → (fun a => (Lit.int .i64 a).wf = true) a2 → (fun a => (Lit.int .i64 a).wf = true) a3 → (fun a => (Lit.int .i64 a).wf = true) a4 → (okL 1 (fun a => (Lit.int .u8 a).wf = true)) a5 → ∃ n, G_ringlaw3_QuotaTurns n a0 a1 a2 a3 a4 a5 = some true) (w : World) (v0 : Value) (v1 : Value) (v2 : Value) (v3 : Value) (v4 : Value) (v5 : Value) (h0 : rep.Arg w (.slice 16 (.pair (.int .i64) (.pair (.int .i64) .unit))) v0) (h1 : rep.Arg w (.int .i64) v1) (h2 : rep.Arg w (.int .i64) v2) (h3 : rep.Arg w (.int .i64) v3) (h4 : rep.Arg w (.int .i64) v4) (h5 : rep.Arg w (.slice 1 (.int .u8)) v5) : Calls Try.prog 10 #[v0, v1, v2, v3, v4, v5] w (help.Ret (.bool true) w) := by
  obtain ⟨a0, o0, r0⟩ := arg_one (br_slice (f := eS_quota_Row) (ok := okS_quota_Row) brS_quota_Row (fun _ => rfl) (by decide)) (by rfl) h0
  obtain ⟨a1, o1, r1⟩ := arg_one (br_int .i64) (by rfl) h1
  obtain ⟨a2, o2, r2⟩ := arg_one (br_int .i64) (by rfl) h2
  obtain ⟨a3, o3, r3⟩ := arg_one (br_int .i64) (by rfl) h3
  obtain ⟨a4, o4, r4⟩ := arg_one (br_int .i64) (by rfl) h4
  obtain ⟨a5, o5, r5⟩ := arg_one (br_slice (f := (eI .u8)) (ok := (fun a => (Lit.int .u8 a).wf = true)) (br_int .u8) (fun _ => rfl) (by decide)) (by rfl) h5
  obtain ⟨n, hn⟩ := H a0 a1 a2 a3 a4 a5 o0 o1 o2 o3 o4 o5
  exact walk_of (G_ringlaw3_QuotaTurns_ok n a0 a1 a2 a3 a4 a5 true hn) (RT_cons r0 (RT_cons r1 (RT_cons r2 (RT_cons r3 (RT_cons r4 (RT_cons r5 RT_nil))))))
/- FRAME QuotaTurns; ringhall/ringlaw3.QuotaTurns; (.slice 16 (.pair (.int .i64) (.pair (.int .i64) .unit))) | (.int .i64) | (.int .i64) | (.int .i64) | (.int .i64) | (.slice 1 (.int .u8)); .slice none 0 0 | .int .i64 0 | .int .i64 0 | .int .i64 0 | .int .i64 0 | .slice none 0 0 -/
end Go.Proofs.Ytiaebagjcbkkgaa.pv
