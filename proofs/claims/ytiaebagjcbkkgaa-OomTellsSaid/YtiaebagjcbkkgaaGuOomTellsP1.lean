/- What the functions compute, as functions over plain data, with their contracts: written by gen.py. -/
import Derived.Test.YtiaebagjcbkkgaaProg
import Derived.Test.YtiaebagjcbkkgaaQr
import Derived.Test.YtiaebagjcbkkgaaSh
set_option maxRecDepth 100000
set_option linter.all false
namespace Go.Proofs.Ytiaebagjcbkkgaa.pv
open Go.RowKit
def TT : List TI := [
⟨1, 0, .oth, []⟩,
⟨1, 8, .oth, [.nf]⟩,
⟨1, 8, .int .i64, [.i .i64]⟩,
⟨1, 8, .int .i64, [.i .i64]⟩,
⟨1, 1, .bool, [.b]⟩,
⟨1, 1, .int .u8, [.i .u8]⟩,
⟨1, 1, .int .u8, [.i .u8]⟩,
⟨4, 24, .st [(0, 2), (1, 3), (2, 4), (3, 6)], [.i .i64, .i .i64, .b, .i .u8]⟩,
⟨4, 24, .st [(0, 2), (1, 3), (2, 4), (3, 6)], [.i .i64, .i .i64, .b, .i .u8]⟩,
⟨1, 16, .str, [.s]⟩,
⟨1, 16, .str, [.s]⟩,
⟨1, 16, .str, [.s]⟩,
⟨1, 8, .int .u64, [.i .u64]⟩,
⟨2, 24, .st [(0, 9), (1, 12)], [.s, .i .u64]⟩,
⟨2, 24, .st [(0, 9), (1, 12)], [.s, .i .u64]⟩,
⟨1, 8, .ptr 450, [.np]⟩,
⟨1, 8, .ptr 453, [.np]⟩,
⟨1, 8, .ptr 460, [.np]⟩,
⟨1, 8, .st [(0, 17)], [.np]⟩,
⟨1, 8, .st [(0, 17)], [.np]⟩,
⟨1, 16, .oth, [.ni]⟩,
⟨1, 4, .int .i32, [.i .i32]⟩,
⟨1, 24, .sl 37, [.sl]⟩,
⟨1, 24, .sl 27, [.sl]⟩,
⟨1, 24, .sl 3, [.sl]⟩,
⟨1, 8, .oth, [.nf]⟩,
⟨1, 24, .sl 28, [.sl]⟩,
⟨1, 24, .sl 30, [.sl]⟩,
⟨1, 24, .sl 31, [.sl]⟩,
⟨3, 24, .st [(0, 3), (1, 3), (2, 3)], [.i .i64, .i .i64, .i .i64]⟩,
⟨3, 24, .st [(0, 3), (1, 3), (2, 3)], [.i .i64, .i .i64, .i .i64]⟩,
⟨3, 24, .st [(0, 3), (1, 3), (2, 3)], [.i .i64, .i .i64, .i .i64]⟩,
⟨1, 8, .int .i64, [.i .i64]⟩,
⟨1, 0, .oth, []⟩,
⟨1, 8, .oth, [.nf]⟩,
⟨1, 8, .oth, [.nf]⟩,
⟨1, 8, .oth, [.nf]⟩,
⟨1, 4, .int .u32, [.i .u32]⟩,
⟨1, 8, .oth, [.nf]⟩,
⟨1, 0, .oth, []⟩,
⟨1, 8, .oth, [.nf]⟩,
⟨1, 0, .oth, []⟩,
⟨1, 8, .oth, [.nf]⟩,
⟨1, 8, .oth, [.nf]⟩,
⟨1, 8, .oth, [.nf]⟩,
⟨1, 8, .oth, [.nf]⟩,
⟨1, 8, .oth, [.nf]⟩,
⟨1, 8, .oth, [.nf]⟩,
⟨1, 24, .sl 5, [.sl]⟩,
⟨1, 24, .sl 24, [.sl]⟩,
⟨2, 48, .st [(0, 48), (1, 49)], [.sl, .sl]⟩,
⟨2, 48, .st [(0, 48), (1, 49)], [.sl, .sl]⟩,
⟨1, 0, .oth, []⟩,
⟨1, 8, .oth, [.nf]⟩,
⟨1, 0, .oth, []⟩,
⟨1, 8, .oth, [.nf]⟩,
⟨1, 8, .oth, [.nf]⟩,
⟨1, 0, .oth, []⟩,
⟨1, 8, .oth, [.nf]⟩,
⟨1, 0, .oth, []⟩,
⟨1, 8, .oth, [.nf]⟩,
⟨1, 8, .oth, [.nf]⟩,
⟨1, 8, .oth, [.nf]⟩,
⟨1, 8, .oth, [.nf]⟩,
⟨1, 0, .oth, []⟩,
⟨1, 8, .oth, [.nf]⟩,
⟨1, 8, .oth, [.nf]⟩,
⟨1, 8, .oth, [.nf]⟩,
⟨1, 8, .oth, [.nf]⟩,
⟨1, 8, .oth, [.nf]⟩,
⟨1, 8, .oth, [.nf]⟩,
⟨1, 24, .sl 89, [.sl]⟩,
⟨2, 16, .st [(0, 3), (1, 3)], [.i .i64, .i .i64]⟩,
⟨2, 16, .st [(0, 3), (1, 3)], [.i .i64, .i .i64]⟩,
⟨1, 0, .oth, []⟩,
⟨1, 8, .oth, [.nf]⟩,
⟨1, 8, .oth, [.nf]⟩,
⟨1, 0, .oth, []⟩,
⟨1, 8, .oth, [.nf]⟩,
⟨1, 8, .oth, [.nf]⟩,
⟨1, 0, .oth, []⟩,
⟨1, 8, .oth, [.nf]⟩,
⟨1, 0, .oth, []⟩,
⟨1, 8, .oth, [.nf]⟩,
⟨1, 8, .oth, [.nf]⟩,
⟨1, 8, .oth, [.nf]⟩,
⟨1, 24, .sl 92, [.sl]⟩,
⟨1, 24, .sl 73, [.sl]⟩,
⟨2, 48, .st [(0, 86), (1, 87)], [.sl, .sl]⟩,
⟨2, 48, .st [(0, 86), (1, 87)], [.sl, .sl]⟩,
⟨1, 8, .oth, [.nf]⟩,
⟨3, 24, .st [(0, 3), (1, 3), (2, 37)], [.i .i64, .i .i64, .i .u32]⟩,
⟨3, 24, .st [(0, 3), (1, 3), (2, 37)], [.i .i64, .i .i64, .i .u32]⟩,
⟨1, 8, .oth, [.nf]⟩,
⟨1, 8, .oth, [.nf]⟩,
⟨1, 8, .oth, [.nf]⟩,
⟨1, 8, .oth, [.nf]⟩,
⟨1, 8, .oth, [.nf]⟩,
⟨1, 8, .oth, [.nf]⟩,
⟨1, 24, .sl 269, [.sl]⟩,
⟨2, 32, .st [(0, 3), (1, 99)], [.i .i64, .sl]⟩,
⟨2, 32, .st [(0, 3), (1, 99)], [.i .i64, .sl]⟩,
⟨2, 16, .st [(0, 3), (1, 3)], [.i .i64, .i .i64]⟩,
⟨2, 16, .st [(0, 3), (1, 3)], [.i .i64, .i .i64]⟩,
⟨1, 0, .oth, []⟩,
⟨1, 8, .oth, [.nf]⟩,
⟨1, 0, .oth, []⟩,
⟨1, 8, .oth, [.nf]⟩,
⟨1, 0, .oth, []⟩,
⟨1, 8, .oth, [.nf]⟩,
⟨1, 0, .oth, []⟩,
⟨1, 8, .oth, [.nf]⟩,
⟨1, 8, .oth, [.nf]⟩,
⟨1, 8, .oth, [.nf]⟩,
⟨16, 16, .arr 16 4, List.replicate 16 (.b)⟩,
⟨1024, 1024, .arr 64 114, List.replicate 1024 (.b)⟩,
⟨1, 8, .oth, [.nf]⟩,
⟨1, 8, .oth, [.nf]⟩,
⟨1, 24, .sl 4, [.sl]⟩,
⟨1, 8, .oth, [.nf]⟩,
⟨1, 0, .oth, []⟩,
⟨1, 8, .oth, [.nf]⟩,
⟨1, 8, .oth, [.nf]⟩,
⟨1, 24, .sl 134, [.sl]⟩,
⟨2, 32, .st [(0, 3), (1, 123)], [.i .i64, .sl]⟩,
⟨2, 32, .st [(0, 3), (1, 123)], [.i .i64, .sl]⟩,
⟨1, 0, .oth, []⟩,
⟨1, 8, .oth, [.nf]⟩,
⟨1, 0, .oth, []⟩,
⟨1, 8, .oth, [.nf]⟩,
⟨1, 8, .oth, [.nf]⟩,
⟨1, 8, .oth, [.nf]⟩,
⟨1, 8, .oth, [.nf]⟩,
⟨2, 16, .st [(0, 3), (1, 3)], [.i .i64, .i .i64]⟩,
⟨2, 16, .st [(0, 3), (1, 3)], [.i .i64, .i .i64]⟩,
⟨1, 8, .oth, [.nf]⟩,
⟨64, 64, .arr 64 4, List.replicate 64 (.b)⟩,
⟨1, 8, .oth, [.nf]⟩,
⟨1, 8, .oth, [.nf]⟩,
⟨1, 8, .oth, [.nf]⟩,
⟨1, 8, .oth, [.nf]⟩,
⟨1, 0, .oth, []⟩,
⟨1, 8, .oth, [.nf]⟩,
⟨1, 8, .oth, [.nf]⟩,
⟨1, 24, .sl 161, [.sl]⟩,
⟨1, 8, .ptr 292, [.np]⟩,
⟨1, 8, .oth, [.nf]⟩,
⟨1, 8, .oth, [.nf]⟩,
⟨5, 40, .st [(0, 3), (1, 3), (2, 3), (3, 4), (4, 3)], [.i .i64, .i .i64, .i .i64, .b, .i .i64]⟩,
⟨5, 40, .st [(0, 3), (1, 3), (2, 3), (3, 4), (4, 3)], [.i .i64, .i .i64, .i .i64, .b, .i .i64]⟩,
⟨1, 24, .sl 149, [.sl]⟩,
⟨1, 0, .oth, []⟩,
⟨1, 8, .oth, [.nf]⟩,
⟨1, 8, .ptr 158, [.np]⟩,
⟨1, 24, .sl 159, [.sl]⟩,
⟨8, 64, .arr 8 3, [.i .i64, .i .i64, .i .i64, .i .i64, .i .i64, .i .i64, .i .i64, .i .i64]⟩,
⟨136, 1088, .arr 17 155, List.replicate 136 (.i .i64)⟩,
⟨137, 1112, .st [(0, 154), (1, 156)], (List.replicate 1 (.sl) ++ List.replicate 136 (.i .i64))⟩,
⟨137, 1112, .st [(0, 154), (1, 156)], (List.replicate 1 (.sl) ++ List.replicate 136 (.i .i64))⟩,
⟨5, 40, .st [(0, 3), (1, 3), (2, 3), (3, 4), (4, 3)], [.i .i64, .i .i64, .i .i64, .b, .i .i64]⟩,
⟨9, 72, .st [(0, 3), (1, 3), (2, 3), (3, 3), (4, 159)], [.i .i64, .i .i64, .i .i64, .i .i64, .i .i64, .i .i64, .i .i64, .b, .i .i64]⟩,
⟨9, 72, .st [(0, 3), (1, 3), (2, 3), (3, 3), (4, 159)], [.i .i64, .i .i64, .i .i64, .i .i64, .i .i64, .i .i64, .i .i64, .b, .i .i64]⟩,
⟨1, 8, .oth, [.nf]⟩,
⟨1, 8, .oth, [.nf]⟩,
⟨1, 24, .sl 306, [.sl]⟩,
⟨1, 24, .sl 180, [.sl]⟩,
⟨1, 8, .oth, [.nf]⟩,
⟨1, 8, .oth, [.nf]⟩,
⟨1, 0, .oth, []⟩,
⟨1, 8, .oth, [.nf]⟩,
⟨1, 0, .oth, []⟩,
⟨1, 8, .oth, [.nf]⟩,
⟨1, 8, .oth, [.nf]⟩,
⟨1, 8, .oth, [.nf]⟩,
⟨1, 8, .oth, [.nf]⟩,
⟨1, 8, .oth, [.nf]⟩,
⟨1, 8, .oth, [.nf]⟩,
⟨1, 8, .oth, [.nf]⟩,
⟨1, 8, .oth, [.nf]⟩,
⟨2, 16, .st [(0, 3), (1, 3)], [.i .i64, .i .i64]⟩,
⟨2, 16, .st [(0, 3), (1, 3)], [.i .i64, .i .i64]⟩,
⟨1, 8, .oth, [.nf]⟩,
⟨1, 8, .oth, [.nf]⟩,
⟨1, 8, .oth, [.nf]⟩,
⟨1, 24, .sl 186, [.sl]⟩,
⟨3, 40, .st [(0, 3), (1, 48), (2, 4)], [.i .i64, .sl, .b]⟩,
⟨3, 40, .st [(0, 3), (1, 48), (2, 4)], [.i .i64, .sl, .b]⟩,
⟨1, 8, .oth, [.nf]⟩,
⟨1, 0, .oth, []⟩,
⟨1, 8, .oth, [.nf]⟩,
⟨1, 8, .oth, [.nf]⟩,
⟨1, 8, .oth, [.nf]⟩,
⟨1, 24, .sl 194, [.sl]⟩,
⟨2, 24, .st [(0, 3), (1, 9)], [.i .i64, .s]⟩,
⟨2, 24, .st [(0, 3), (1, 9)], [.i .i64, .s]⟩,
⟨1, 8, .oth, [.nf]⟩,
⟨1, 8, .oth, [.nf]⟩,
⟨1, 8, .oth, [.nf]⟩,
⟨1, 8, .oth, [.nf]⟩,
⟨1, 24, .sl 207, [.sl]⟩,
⟨1, 8, .oth, [.nf]⟩,
⟨1, 0, .oth, []⟩,
⟨1, 8, .oth, [.nf]⟩,
⟨1, 8, .oth, [.nf]⟩,
⟨1, 8, .oth, [.nf]⟩,
⟨1, 8, .oth, [.nf]⟩,
⟨4, 32, .st [(0, 3), (1, 3), (2, 3), (3, 4)], [.i .i64, .i .i64, .i .i64, .b]⟩,
⟨4, 32, .st [(0, 3), (1, 3), (2, 3), (3, 4)], [.i .i64, .i .i64, .i .i64, .b]⟩,
⟨1, 8, .oth, [.nf]⟩,
⟨1, 8, .oth, [.nf]⟩,
⟨1, 24, .sl 218, [.sl]⟩,
⟨1, 8, .ptr 328, [.np]⟩,
⟨1, 0, .oth, []⟩,
⟨1, 8, .oth, [.nf]⟩,
⟨1, 8, .oth, [.nf]⟩,
⟨1, 8, .ptr 226, [.np]⟩,
⟨1, 8, .oth, [.nf]⟩,
⟨4, 64, .st [(0, 3), (1, 3), (2, 48), (3, 118)], [.i .i64, .i .i64, .sl, .sl]⟩,
⟨4, 64, .st [(0, 3), (1, 3), (2, 48), (3, 118)], [.i .i64, .i .i64, .sl, .sl]⟩,
⟨1, 8, .oth, [.nf]⟩,
⟨1, 8, .oth, [.nf]⟩,
⟨1, 8, .oth, [.nf]⟩,
⟨1, 8, .oth, [.nf]⟩,
⟨1, 8, .oth, [.nf]⟩,
⟨1, 24, .sl 331, [.sl]⟩,
⟨4, 48, .st [(0, 3), (1, 3), (2, 3), (3, 224)], [.i .i64, .i .i64, .i .i64, .sl]⟩,
⟨4, 48, .st [(0, 3), (1, 3), (2, 3), (3, 224)], [.i .i64, .i .i64, .i .i64, .sl]⟩,
⟨1, 8, .oth, [.nf]⟩,
⟨1, 8, .oth, [.nf]⟩,
⟨1, 8, .oth, [.nf]⟩,
⟨1, 8, .oth, [.nf]⟩,
⟨1, 8, .oth, [.nf]⟩,
⟨8, 32, .arr 8 37, [.i .u32, .i .u32, .i .u32, .i .u32, .i .u32, .i .u32, .i .u32, .i .u32]⟩,
⟨10, 48, .st [(0, 232), (8, 37), (9, 3)], [.i .u32, .i .u32, .i .u32, .i .u32, .i .u32, .i .u32, .i .u32, .i .u32, .i .u32, .i .i64]⟩,
⟨10, 48, .st [(0, 232), (8, 37), (9, 3)], [.i .u32, .i .u32, .i .u32, .i .u32, .i .u32, .i .u32, .i .u32, .i .u32, .i .u32, .i .i64]⟩,
⟨3, 40, .st [(0, 37), (1, 48), (2, 3)], [.i .u32, .sl, .i .i64]⟩,
⟨3, 40, .st [(0, 37), (1, 48), (2, 3)], [.i .u32, .sl, .i .i64]⟩,
⟨1, 8, .oth, [.nf]⟩,
⟨1, 8, .oth, [.nf]⟩,
⟨2, 16, .st [(0, 3), (1, 37)], [.i .i64, .i .u32]⟩,
⟨2, 16, .st [(0, 3), (1, 37)], [.i .i64, .i .u32]⟩,
⟨1, 0, .oth, []⟩,
⟨1, 8, .oth, [.nf]⟩,
⟨1, 8, .ptr 236, [.np]⟩,
⟨1, 8, .oth, [.nf]⟩,
⟨1, 8, .oth, [.nf]⟩,
⟨1, 8, .oth, [.nf]⟩,
⟨1, 8, .oth, [.nf]⟩,
⟨1, 8, .ptr 37, [.np]⟩,
⟨1, 8, .oth, [.nf]⟩,
⟨1, 8, .oth, [.nf]⟩,
⟨1, 8, .oth, [.nf]⟩,
⟨4, 32, .arr 4 3, [.i .i64, .i .i64, .i .i64, .i .i64]⟩,
⟨1, 8, .oth, [.nf]⟩,
⟨1, 8, .oth, [.nf]⟩,
⟨1, 8, .oth, [.nf]⟩,
⟨1, 8, .oth, [.nf]⟩,
⟨1, 8, .oth, [.nf]⟩,
⟨1, 8, .oth, [.nf]⟩,
⟨1, 8, .oth, [.nf]⟩,
⟨1, 8, .oth, [.nf]⟩,
⟨1, 8, .oth, [.nf]⟩,
⟨1, 8, .ptr 89, [.np]⟩,
⟨1, 8, .oth, [.nf]⟩,
⟨1, 8, .oth, [.nf]⟩,
⟨1, 8, .oth, [.nf]⟩,
⟨1, 8, .oth, [.nf]⟩,
⟨1, 8, .oth, [.nf]⟩,
⟨2, 32, .st [(0, 3), (1, 24)], [.i .i64, .sl]⟩,
⟨2, 32, .st [(0, 3), (1, 24)], [.i .i64, .sl]⟩,
⟨1, 8, .oth, [.nf]⟩,
⟨1, 8, .oth, [.nf]⟩,
⟨1, 8, .oth, [.nf]⟩,
⟨1, 8, .oth, [.nf]⟩,
⟨1, 8, .oth, [.nf]⟩,
⟨1, 8, .oth, [.nf]⟩,
⟨1, 8, .oth, [.nf]⟩,
⟨1, 8, .oth, [.nf]⟩,
⟨1, 8, .oth, [.nf]⟩,
⟨1, 8, .oth, [.nf]⟩,
⟨1, 8, .oth, [.nf]⟩,
⟨1, 8, .oth, [.nf]⟩,
⟨1, 8, .oth, [.nf]⟩,
⟨1, 8, .oth, [.nf]⟩,
⟨1, 8, .oth, [.nf]⟩,
⟨1, 8, .oth, [.nf]⟩,
⟨1, 8, .oth, [.nf]⟩,
⟨1, 8, .oth, [.nf]⟩,
⟨6, 48, .st [(0, 149), (5, 3)], [.i .i64, .i .i64, .i .i64, .b, .i .i64, .i .i64]⟩,
⟨6, 48, .st [(0, 149), (5, 3)], [.i .i64, .i .i64, .i .i64, .b, .i .i64, .i .i64]⟩,
⟨192, 1536, .arr 32 289, (List.replicate 32 [.i .i64, .i .i64, .i .i64, .b, .i .i64, .i .i64]).flatten⟩,
⟨328, 2624, .st [(0, 290), (192, 156)], [.i .i64, .i .i64, .i .i64, .b, .i .i64, .i .i64, .i .i64, .i .i64, .i .i64, .b, .i .i64, .i .i64, .i .i64, .i .i64, .i .i64, .b, .i .i64, .i .i64, .i .i64, .i .i64, .i .i64, .b, .i .i64, .i .i64, .i .i64, .i .i64, .i .i64, .b, .i .i64, .i .i64, .i .i64, .i .i64, .i .i64, .b, .i .i64, .i .i64, .i .i64, .i .i64, .i .i64, .b, .i .i64, .i .i64, .i .i64, .i .i64, .i .i64, .b, .i .i64, .i .i64, .i .i64, .i .i64, .i .i64, .b, .i .i64, .i .i64, .i .i64, .i .i64, .i .i64, .b, .i .i64, .i .i64, .i .i64, .i .i64, .i .i64, .b, .i .i64, .i .i64, .i .i64, .i .i64, .i .i64, .b, .i .i64, .i .i64, .i .i64, .i .i64, .i .i64, .b, .i .i64, .i .i64, .i .i64, .i .i64, .i .i64, .b, .i .i64, .i .i64, .i .i64, .i .i64, .i .i64, .b, .i .i64, .i .i64, .i .i64, .i .i64, .i .i64, .b, .i .i64, .i .i64, .i .i64, .i .i64, .i .i64, .b, .i .i64, .i .i64, .i .i64, .i .i64, .i .i64, .b, .i .i64, .i .i64, .i .i64, .i .i64, .i .i64, .b, .i .i64, .i .i64, .i .i64, .i .i64, .i .i64, .b, .i .i64, .i .i64, .i .i64, .i .i64, .i .i64, .b, .i .i64, .i .i64, .i .i64, .i .i64, .i .i64, .b, .i .i64, .i .i64, .i .i64, .i .i64, .i .i64, .b, .i .i64, .i .i64, .i .i64, .i .i64, .i .i64, .b, .i .i64, .i .i64, .i .i64, .i .i64, .i .i64, .b, .i .i64, .i .i64, .i .i64, .i .i64, .i .i64, .b, .i .i64, .i .i64, .i .i64, .i .i64, .i .i64, .b, .i .i64, .i .i64, .i .i64, .i .i64, .i .i64, .b, .i .i64, .i .i64, .i .i64, .i .i64, .i .i64, .b, .i .i64, .i .i64, .i .i64, .i .i64, .i .i64, .b, .i .i64, .i .i64, .i .i64, .i .i64, .i .i64, .b, .i .i64, .i .i64, .i .i64, .i .i64, .i .i64, .b, .i .i64, .i .i64, .i .i64, .i .i64, .i .i64, .i .i64, .i .i64, .i .i64, .i .i64, .i .i64, .i .i64, .i .i64, .i .i64, .i .i64, .i .i64, .i .i64, .i .i64, .i .i64, .i .i64, .i .i64, .i .i64, .i .i64, .i .i64, .i .i64, .i .i64, .i .i64, .i .i64, .i .i64, .i .i64, .i .i64, .i .i64, .i .i64, .i .i64, .i .i64, .i .i64, .i .i64, .i .i64, .i .i64, .i .i64, .i .i64, .i .i64, .i .i64, .i .i64, .i .i64, .i .i64, .i .i64, .i .i64, .i .i64, .i .i64, .i .i64, .i .i64, .i .i64, .i .i64, .i .i64, .i .i64, .i .i64, .i .i64, .i .i64, .i .i64, .i .i64, .i .i64, .i .i64, .i .i64, .i .i64, .i .i64, .i .i64, .i .i64, .i .i64, .i .i64, .i .i64, .i .i64, .i .i64, .i .i64, .i .i64, .i .i64, .i .i64, .i .i64, .i .i64, .i .i64, .i .i64, .i .i64, .i .i64, .i .i64, .i .i64, .i .i64, .i .i64, .i .i64, .i .i64, .i .i64, .i .i64, .i .i64, .i .i64, .i .i64, .i .i64, .i .i64, .i .i64, .i .i64, .i .i64, .i .i64, .i .i64, .i .i64, .i .i64, .i .i64, .i .i64, .i .i64, .i .i64, .i .i64, .i .i64, .i .i64, .i .i64, .i .i64, .i .i64, .i .i64, .i .i64, .i .i64, .i .i64, .i .i64, .i .i64, .i .i64, .i .i64, .i .i64, .i .i64, .i .i64, .i .i64, .i .i64, .i .i64, .i .i64, .i .i64, .i .i64, .i .i64, .i .i64, .i .i64, .i .i64, .i .i64, .i .i64, .i .i64, .i .i64, .i .i64]⟩,
⟨328, 2624, .st [(0, 290), (192, 156)], [.i .i64, .i .i64, .i .i64, .b, .i .i64, .i .i64, .i .i64, .i .i64, .i .i64, .b, .i .i64, .i .i64, .i .i64, .i .i64, .i .i64, .b, .i .i64, .i .i64, .i .i64, .i .i64, .i .i64, .b, .i .i64, .i .i64, .i .i64, .i .i64, .i .i64, .b, .i .i64, .i .i64, .i .i64, .i .i64, .i .i64, .b, .i .i64, .i .i64, .i .i64, .i .i64, .i .i64, .b, .i .i64, .i .i64, .i .i64, .i .i64, .i .i64, .b, .i .i64, .i .i64, .i .i64, .i .i64, .i .i64, .b, .i .i64, .i .i64, .i .i64, .i .i64, .i .i64, .b, .i .i64, .i .i64, .i .i64, .i .i64, .i .i64, .b, .i .i64, .i .i64, .i .i64, .i .i64, .i .i64, .b, .i .i64, .i .i64, .i .i64, .i .i64, .i .i64, .b, .i .i64, .i .i64, .i .i64, .i .i64, .i .i64, .b, .i .i64, .i .i64, .i .i64, .i .i64, .i .i64, .b, .i .i64, .i .i64, .i .i64, .i .i64, .i .i64, .b, .i .i64, .i .i64, .i .i64, .i .i64, .i .i64, .b, .i .i64, .i .i64, .i .i64, .i .i64, .i .i64, .b, .i .i64, .i .i64, .i .i64, .i .i64, .i .i64, .b, .i .i64, .i .i64, .i .i64, .i .i64, .i .i64, .b, .i .i64, .i .i64, .i .i64, .i .i64, .i .i64, .b, .i .i64, .i .i64, .i .i64, .i .i64, .i .i64, .b, .i .i64, .i .i64, .i .i64, .i .i64, .i .i64, .b, .i .i64, .i .i64, .i .i64, .i .i64, .i .i64, .b, .i .i64, .i .i64, .i .i64, .i .i64, .i .i64, .b, .i .i64, .i .i64, .i .i64, .i .i64, .i .i64, .b, .i .i64, .i .i64, .i .i64, .i .i64, .i .i64, .b, .i .i64, .i .i64, .i .i64, .i .i64, .i .i64, .b, .i .i64, .i .i64, .i .i64, .i .i64, .i .i64, .b, .i .i64, .i .i64, .i .i64, .i .i64, .i .i64, .b, .i .i64, .i .i64, .i .i64, .i .i64, .i .i64, .b, .i .i64, .i .i64, .i .i64, .i .i64, .i .i64, .b, .i .i64, .i .i64, .i .i64, .i .i64, .i .i64, .i .i64, .i .i64, .i .i64, .i .i64, .i .i64, .i .i64, .i .i64, .i .i64, .i .i64, .i .i64, .i .i64, .i .i64, .i .i64, .i .i64, .i .i64, .i .i64, .i .i64, .i .i64, .i .i64, .i .i64, .i .i64, .i .i64, .i .i64, .i .i64, .i .i64, .i .i64, .i .i64, .i .i64, .i .i64, .i .i64, .i .i64, .i .i64, .i .i64, .i .i64, .i .i64, .i .i64, .i .i64, .i .i64, .i .i64, .i .i64, .i .i64, .i .i64, .i .i64, .i .i64, .i .i64, .i .i64, .i .i64, .i .i64, .i .i64, .i .i64, .i .i64, .i .i64, .i .i64, .i .i64, .i .i64, .i .i64, .i .i64, .i .i64, .i .i64, .i .i64, .i .i64, .i .i64, .i .i64, .i .i64, .i .i64, .i .i64, .i .i64, .i .i64, .i .i64, .i .i64, .i .i64, .i .i64, .i .i64, .i .i64, .i .i64, .i .i64, .i .i64, .i .i64, .i .i64, .i .i64, .i .i64, .i .i64, .i .i64, .i .i64, .i .i64, .i .i64, .i .i64, .i .i64, .i .i64, .i .i64, .i .i64, .i .i64, .i .i64, .i .i64, .i .i64, .i .i64, .i .i64, .i .i64, .i .i64, .i .i64, .i .i64, .i .i64, .i .i64, .i .i64, .i .i64, .i .i64, .i .i64, .i .i64, .i .i64, .i .i64, .i .i64, .i .i64, .i .i64, .i .i64, .i .i64, .i .i64, .i .i64, .i .i64, .i .i64, .i .i64, .i .i64, .i .i64, .i .i64, .i .i64, .i .i64, .i .i64, .i .i64, .i .i64, .i .i64, .i .i64, .i .i64, .i .i64, .i .i64]⟩,
⟨1, 0, .oth, []⟩,
⟨1, 8, .oth, [.nf]⟩,
⟨1, 8, .oth, [.nf]⟩,
⟨1, 8, .oth, [.nf]⟩,
⟨1, 8, .oth, [.nf]⟩,
⟨1, 0, .oth, []⟩,
⟨1, 8, .oth, [.nf]⟩,
⟨1, 8, .ptr 159, [.np]⟩,
⟨1, 8, .oth, [.nf]⟩,
⟨1, 8, .oth, [.nf]⟩,
⟨1, 0, .oth, []⟩,
⟨1, 8, .oth, [.nf]⟩,
⟨1, 8, .oth, [.nf]⟩,
⟨2, 16, .st [(0, 3), (1, 3)], [.i .i64, .i .i64]⟩,
⟨1, 8, .oth, [.nf]⟩,
⟨1, 8, .oth, [.nf]⟩,
⟨1, 8, .oth, [.nf]⟩,
⟨1, 8, .oth, [.nf]⟩,
⟨1, 8, .oth, [.nm]⟩,
⟨1, 0, .oth, []⟩,
⟨1, 8, .int .u64, [.i .u64]⟩,
⟨1, 8, .oth, [.nf]⟩,
⟨1, 8, .oth, [.nf]⟩,
⟨1, 8, .oth, [.nf]⟩,
⟨1, 0, .oth, []⟩,
⟨1, 8, .oth, [.nf]⟩,
⟨1, 8, .oth, [.nf]⟩,
⟨1, 8, .oth, [.nf]⟩,
⟨1, 8, .oth, [.nf]⟩,
⟨1, 8, .oth, [.nf]⟩,
⟨1, 8, .oth, [.nf]⟩,
⟨1, 8, .oth, [.nf]⟩,
⟨1, 8, .oth, [.nf]⟩,
⟨1, 24, .sl 330, [.sl]⟩,
⟨4, 80, .st [(0, 48), (1, 48), (2, 326), (3, 3)], [.sl, .sl, .sl, .i .i64]⟩,
⟨4, 80, .st [(0, 48), (1, 48), (2, 326), (3, 3)], [.sl, .sl, .sl, .i .i64]⟩,
⟨2, 32, .st [(0, 3), (1, 48)], [.i .i64, .sl]⟩,
⟨2, 32, .st [(0, 3), (1, 48)], [.i .i64, .sl]⟩,
⟨2, 24, .st [(0, 3), (1, 9)], [.i .i64, .s]⟩,
⟨1, 8, .oth, [.nf]⟩,
⟨1, 16, .oth, [.ni]⟩,
⟨1, 16, .oth, [.ni]⟩,
⟨1, 0, .oth, []⟩,
⟨1, 8, .oth, [.nf]⟩,
⟨4, 32, .st [(0, 3), (1, 3), (2, 3), (3, 3)], [.i .i64, .i .i64, .i .i64, .i .i64]⟩,
⟨4, 32, .st [(0, 3), (1, 3), (2, 3), (3, 3)], [.i .i64, .i .i64, .i .i64, .i .i64]⟩,
⟨1, 0, .oth, []⟩,
⟨1, 8, .oth, [.nf]⟩,
⟨1, 0, .oth, []⟩,
⟨1, 8, .oth, [.nf]⟩,
⟨1, 8, .oth, [.nf]⟩,
⟨1, 8, .ptr 234, [.np]⟩,
⟨1, 8, .oth, [.nf]⟩,
⟨1, 8, .oth, [.nf]⟩,
⟨1, 8, .oth, [.nf]⟩,
⟨1, 8, .oth, [.nf]⟩,
⟨1, 8, .oth, [.nf]⟩,
⟨1, 8, .oth, [.nf]⟩,
⟨1, 8, .oth, [.nm]⟩,
⟨1, 8, .oth, [.nf]⟩,
⟨1, 8, .oth, [.nf]⟩,
⟨1, 8, .oth, [.nf]⟩,
⟨1, 8, .oth, [.nf]⟩,
⟨1, 8, .oth, [.nf]⟩,
⟨1, 8, .oth, [.nf]⟩,
⟨1, 8, .oth, [.nf]⟩,
⟨1, 8, .oth, [.nf]⟩,
⟨1, 8, .oth, [.nf]⟩,
⟨1, 8, .oth, [.nf]⟩,
⟨1, 8, .oth, [.nf]⟩,
⟨1, 8, .oth, [.nf]⟩,
⟨1, 8, .oth, [.nf]⟩,
⟨1, 8, .oth, [.nf]⟩,
⟨1, 8, .ptr 289, [.np]⟩,
⟨1, 0, .oth, []⟩,
⟨1, 8, .oth, [.nf]⟩,
⟨1, 8, .oth, [.nf]⟩,
⟨1, 8, .oth, [.nf]⟩,
⟨1, 8, .oth, [.nf]⟩,
⟨1, 8, .oth, [.nf]⟩,
⟨1, 8, .oth, [.nf]⟩,
⟨1, 8, .oth, [.nf]⟩,
⟨1, 8, .oth, [.nf]⟩,
⟨1, 8, .oth, [.nf]⟩,
⟨1, 8, .oth, [.nm]⟩,
⟨1, 8, .oth, [.nf]⟩,
⟨1, 8, .oth, [.nf]⟩,
⟨1, 8, .oth, [.nf]⟩,
⟨1, 8, .oth, [.nf]⟩,
⟨1, 8, .oth, [.nf]⟩,
⟨1, 8, .oth, [.nf]⟩,
⟨1, 8, .oth, [.nf]⟩,
⟨1, 0, .oth, []⟩,
⟨1, 8, .oth, [.nf]⟩,
⟨1, 2, .int .i16, [.i .i16]⟩,
⟨1, 0, .oth, []⟩,
⟨1, 8, .oth, [.nf]⟩,
⟨1, 8, .oth, [.nf]⟩,
⟨1, 8, .oth, [.nf]⟩,
⟨1, 2, .int .u16, [.i .u16]⟩,
⟨1, 8, .oth, [.nf]⟩,
⟨1, 8, .int .u64, [.i .u64]⟩,
⟨1, 8, .ptr 134, [.np]⟩,
⟨1, 0, .oth, []⟩,
⟨1, 8, .oth, [.nf]⟩,
⟨1, 8, .oth, [.nf]⟩,
⟨1, 8, .ptr 401, [.np]⟩,
⟨2, 32, .st [(0, 399), (1, 48)], [.np, .sl]⟩,
⟨2, 32, .st [(0, 399), (1, 48)], [.np, .sl]⟩,
⟨1, 16, .oth, [.ni]⟩,
⟨1, 16, .oth, [.ni]⟩,
⟨1, 0, .oth, []⟩,
⟨1, 8, .oth, [.nf]⟩,
⟨1, 8, .oth, [.nf]⟩,
⟨1, 8, .oth, [.nf]⟩,
⟨1, 8, .int .i64, [.i .i64]⟩,
⟨1, 0, .oth, []⟩,
⟨1, 8, .oth, [.nf]⟩,
⟨1, 8, .oth, [.nf]⟩,
⟨1, 8, .oth, [.nf]⟩,
⟨1, 8, .oth, [.nf]⟩,
⟨1, 8, .oth, [.nf]⟩,
⟨1, 8, .oth, [.nf]⟩,
⟨1, 0, .oth, []⟩,
⟨1, 8, .oth, [.nf]⟩,
⟨1, 0, .oth, []⟩,
⟨1, 8, .oth, [.nf]⟩,
⟨1, 8, .oth, [.nf]⟩,
⟨1, 8, .oth, [.nf]⟩,
⟨1, 8, .oth, [.nf]⟩,
⟨1, 8, .oth, [.nf]⟩,
⟨1, 0, .oth, []⟩,
⟨1, 8, .oth, [.nf]⟩,
⟨1, 0, .oth, []⟩,
⟨1, 8, .oth, [.nf]⟩,
⟨1, 8, .ptr 5, [.np]⟩,
⟨1, 8, .oth, [.nf]⟩,
⟨1, 8, .oth, [.nf]⟩,
⟨1, 8, .oth, [.nf]⟩,
⟨1, 8, .oth, [.nf]⟩,
⟨1, 8, .oth, [.nf]⟩,
⟨1, 8, .int .u64, [.i .u64]⟩,
⟨1, 8, .oth, [.nf]⟩,
⟨1, 8, .oth, [.nf]⟩,
⟨1, 8, .oth, [.nf]⟩,
⟨1, 8, .ptr 3, [.np]⟩,
⟨1, 8, .oth, [.nf]⟩,
⟨1, 8, .oth, [.np]⟩,
⟨1, 8, .oth, [.nf]⟩,
⟨1, 8, .oth, [.nf]⟩,
⟨1, 8, .oth, [.nf]⟩,
⟨1, 8, .oth, [.nf]⟩,
⟨1, 8, .ptr 434, [.np]⟩,
⟨1, 0, .oth, []⟩,
⟨1, 8, .oth, [.nf]⟩,
⟨1, 8, .oth, [.nf]⟩,
⟨4, 40, .st [(0, 17), (1, 17), (2, 17), (3, 9)], [.np, .np, .np, .s]⟩,
⟨4, 40, .st [(0, 17), (1, 17), (2, 17), (3, 9)], [.np, .np, .np, .s]⟩,
⟨0, 0, .arr 0 16, []⟩,
⟨0, 0, .st [(0, 451)], []⟩,
⟨0, 0, .st [(0, 451)], []⟩,
⟨1, 1, .int .u8, [.i .u8]⟩,
⟨1, 1, .int .u8, [.i .u8]⟩,
⟨1, 8, .oth, [.nf]⟩,
⟨1, 4, .int .i32, [.i .i32]⟩,
⟨1, 4, .int .i32, [.i .i32]⟩,
⟨11, 48, .st [(0, 12), (1, 12), (2, 37), (3, 454), (4, 5), (5, 5), (6, 455), (7, 456), (8, 428), (9, 457), (10, 458)], [.i .u64, .i .u64, .i .u32, .i .u8, .i .u8, .i .u8, .i .u8, .nf, .np, .i .i32, .i .i32]⟩,
⟨11, 48, .st [(0, 12), (1, 12), (2, 37), (3, 454), (4, 5), (5, 5), (6, 455), (7, 456), (8, 428), (9, 457), (10, 458)], [.i .u64, .i .u64, .i .u32, .i .u8, .i .u8, .i .u8, .i .u8, .nf, .np, .i .i32, .i .i32]⟩]
theorem TTok : TOk Try.prog TT := by unfold TOk; kernel_rfl
theorem mix : Try.prog.follows .mixedOrders = true := by kernel_rfl
structure S_oom_Task where
  fId : Int
  fPages : Int
  fScore : Int
  fKept : Bool
def eS_oom_Task (x : S_oom_Task) : PV := .agg [.v (.int .i64 x.fId), .v (.int .i64 x.fPages), .v (.int .i64 x.fScore), .v (.bool x.fKept)]

inductive G_slices_IndexFunc_oom_Task_oom_Task_L1_R where
  | x0 (v_x25 : Int)
  | x1 
def G_slices_IndexFunc_oom_Task_oom_Task_L1_ex : G_slices_IndexFunc_oom_Task_oom_Task_L1_R → Ex
  | .x0 _ => .ret
  | .x1  => .exit 0
def G_slices_IndexFunc_oom_Task_oom_Task_L1_st (v_s18 : (List S_oom_Task)) (v_f19 : (S_oom_Task → Option (Bool))) (v_f19_g : FuncId) (v_f19_c : (List PV)) : G_slices_IndexFunc_oom_Task_oom_Task_L1_R → PS
  | .x0 v_x25 => ⟨[dd, dd, dd, dd, .d (.v (.int .i64 v_x25)), dd, dd, dd, dd, dd, dd, dd, dd, dd, dd, dd, dd, dd, dd], []⟩
  | .x1  => ⟨[dd, dd, dd, dd, dd, dd, dd, dd, dd, dd, dd, dd, dd, dd, dd, dd, dd, dd, dd], []⟩
def G_slices_IndexFunc_oom_Task_oom_Task_L1_hd (v_s18 : (List S_oom_Task)) (v_f19 : (S_oom_Task → Option (Bool))) (v_f19_g : FuncId) (v_f19_c : (List PV)) (v_x20 : Int) : PS := ⟨[.d (.sl (v_s18.map eS_oom_Task)), .d (.clo v_f19_g v_f19_c), dd, dd, dd, dd, dd, .d (.v (.int .i64 (v_s18.length : Int))), .d (.v (.int .i64 v_x20)), dd, dd, dd, dd, dd, dd, dd, dd, dd, dd], []⟩
def G_slices_IndexFunc_oom_Task_oom_Task_L1 (n : Nat) (v_s18 : (List S_oom_Task)) (v_f19 : (S_oom_Task → Option (Bool))) : Nat → Int → Option G_slices_IndexFunc_oom_Task_oom_Task_L1_R
  | 0, _ => none
  | k + 1, v_x20 =>
    if v_x20 < (v_s18.length : Int) then
     (getI v_s18 v_x20).bind fun (v_y23 : S_oom_Task) =>
     (v_f19 v_y23).bind fun (v_r24 : (Bool)) =>
     if v_r24 = true then
      some (.x0 v_x20)
     else
      G_slices_IndexFunc_oom_Task_oom_Task_L1 n v_s18 v_f19 k (wi .i64 (v_x20 + 1))
    else
     some (.x1 )
theorem G_slices_IndexFunc_oom_Task_oom_Task_L1_ok {Fi : Ex → PS → Prop} (hF : KC 19 Fi) (ks : List Fr) (n : Nat) (v_s18 : (List S_oom_Task)) (v_f19 : (S_oom_Task → Option (Bool))) (v_f19_g : FuncId) (v_f19_c : (List PV)) (v_f19_h : ∀ (x0 : S_oom_Task) (r : Bool), v_f19 x0 = some r → Ret Try.prog v_f19_g ([eS_oom_Task x0] ++ v_f19_c) (eB r)) : ∀ (k : Nat) (v_x20 : Int) (o : G_slices_IndexFunc_oom_Task_oom_Task_L1_R), G_slices_IndexFunc_oom_Task_oom_Task_L1 n v_s18 v_f19 k v_x20 = some o → RunE Try.prog 19 Fi ks (G_slices_IndexFunc_oom_Task_oom_Task_L1_ex o) (G_slices_IndexFunc_oom_Task_oom_Task_L1_st v_s18 v_f19 v_f19_g v_f19_c o) → RunE Try.prog 19 Fi (.l k (cP (cB (cR (cL (cR (bodyOf Try.f267)))))) :: ks) .normal (G_slices_IndexFunc_oom_Task_oom_Task_L1_hd v_s18 v_f19 v_f19_g v_f19_c v_x20)
  | 0, v_x20, o, h, q => by rw [G_slices_IndexFunc_oom_Task_oom_Task_L1] at h; cases h
  | k + 1, v_x20, o, h, q => by
    rw [G_slices_IndexFunc_oom_Task_oom_Task_L1] at h
    by_cases h17 : v_x20 < (v_s18.length : Int)
    · rw [if_pos h17] at h
      obtain ⟨v_y23, h21, h⟩ := bind_some h
      obtain ⟨v_r24, h22, h⟩ := bind_some h
      by_cases h23 : v_r24 = true
      · rw [if_pos h23] at h
        cases h
        exact pkk_sound TTok mix hF 19 (hs := [.t true, .y (eS_oom_Task v_y23), .r (eB v_r24), .t true]) (ts := []) (s := []) (l := [4]) (by kernel_rfl) (by kernel_rfl) (.cons (dt h17) (.cons (getI_ob (f := eS_oom_Task) h21) (.cons (v_f19_h v_y23 _ h22) (.cons h23 .nil)))) q
      · rw [if_neg h23] at h
        exact pkk_sound TTok mix hF 16 (hs := [.t true, .y (eS_oom_Task v_y23), .r (eB v_r24), .t false]) (ts := []) (s := []) (l := [0, 1, 7, 8]) (by kernel_rfl) (by kernel_rfl) (.cons (dt h17) (.cons (getI_ob (f := eS_oom_Task) h21) (.cons (v_f19_h v_y23 _ h22) (.cons (vf h23) .nil)))) (G_slices_IndexFunc_oom_Task_oom_Task_L1_ok hF ks n v_s18 v_f19 v_f19_g v_f19_c v_f19_h k (wi .i64 (v_x20 + 1)) _ h q)
    · rw [if_neg h17] at h
      cases h
      exact pkk_sound TTok mix hF 8 (hs := [.t false]) (ts := []) (s := []) (l := []) (by kernel_rfl) (by kernel_rfl) (.cons (df h17) .nil) q
/- slices.IndexFunc[[]ringhall/oom.Task,ringhall/oom.Task] -/
def G_slices_IndexFunc_oom_Task_oom_Task (n : Nat) (v_s18 : (List S_oom_Task)) (v_f19 : (S_oom_Task → Option (Bool))) : Option (Int) :=
  (G_slices_IndexFunc_oom_Task_oom_Task_L1 n v_s18 v_f19 n 0).bind fun v_o26 => match v_o26 with
  | .x0 v_z27 =>
    some v_z27
  | .x1  =>
    some (-1)
theorem G_slices_IndexFunc_oom_Task_oom_Task_ok (n : Nat) (v_s18 : (List S_oom_Task)) (v_f19 : (S_oom_Task → Option (Bool))) (v_f19_g : FuncId) (v_f19_c : List PV) (v_f19_h : ∀ (x0 : S_oom_Task) (r : Bool), v_f19 x0 = some r → Ret Try.prog v_f19_g ([eS_oom_Task x0] ++ v_f19_c) (eB r)) (r : Int) (h : G_slices_IndexFunc_oom_Task_oom_Task n v_s18 v_f19 = some r) : Ret Try.prog 267 [(eL eS_oom_Task) v_s18, (.clo v_f19_g v_f19_c)] ((eI .i64) r) := by
  refine ret_run (n := 19) (fn := Try.f267) (c := bodyOf Try.f267) (by kernel_rfl) (by kernel_rfl) (by kernel_rfl) (by kernel_rfl) ?_
  have hF : KC 19 (FinR Try.prog Try.f267 ((eI .i64) r)) := FinR.kc' (by kernel_rfl)
  unfold G_slices_IndexFunc_oom_Task_oom_Task at h
  obtain ⟨v_o26, h24, h⟩ := bind_some h
  refine pkk_sound TTok mix hF 7 (hs := [.u (.d (.v (.int .i64 (v_s18.length : Int)))), .n n]) (ts := []) (s := []) (l := [0, 1, 7, 8]) (by kernel_rfl) (by kernel_rfl) (.cons (len_ob (f := eS_oom_Task) (l := v_s18)) .nil) (G_slices_IndexFunc_oom_Task_oom_Task_L1_ok hF (.b 0 :: .s (cR (cR (bodyOf Try.f267))) :: []) n v_s18 v_f19 v_f19_g v_f19_c v_f19_h n 0 _ h24 ?_)
  cases v_o26 with
  | x0 v_z27 =>
    try dsimp only at h
    obtain rfl := Option.some.inj h
    exact pend_sound TTok mix 2 (hs := []) (by kernel_rfl) (by kernel_rfl) (by kernel_rfl) .nil
  | x1  =>
    try dsimp only at h
    obtain rfl := Option.some.inj h
    exact pend_sound TTok mix 4 (hs := []) (by kernel_rfl) (by kernel_rfl) (by kernel_rfl) .nil
/- slices.ContainsFunc[[]ringhall/oom.Task,ringhall/oom.Task] -/
def G_slices_ContainsFunc_oom_Task_oom_Task (n : Nat) (v_s16 : (List S_oom_Task)) (v_f17 : (S_oom_Task → Option (Bool))) : Option (Bool) :=
  (G_slices_IndexFunc_oom_Task_oom_Task n v_s16 v_f17).bind fun (v_r28 : (Int)) =>
  some (decide (v_r28 ≥ 0))
theorem G_slices_ContainsFunc_oom_Task_oom_Task_ok (n : Nat) (v_s16 : (List S_oom_Task)) (v_f17 : (S_oom_Task → Option (Bool))) (v_f17_g : FuncId) (v_f17_c : List PV) (v_f17_h : ∀ (x0 : S_oom_Task) (r : Bool), v_f17 x0 = some r → Ret Try.prog v_f17_g ([eS_oom_Task x0] ++ v_f17_c) (eB r)) (r : Bool) (h : G_slices_ContainsFunc_oom_Task_oom_Task n v_s16 v_f17 = some r) : Ret Try.prog 207 [(eL eS_oom_Task) v_s16, (.clo v_f17_g v_f17_c)] (eB r) := by
  refine ret_run (n := 9) (fn := Try.f207) (c := bodyOf Try.f207) (by kernel_rfl) (by kernel_rfl) (by kernel_rfl) (by kernel_rfl) ?_
  have hF : KC 9 (FinR Try.prog Try.f207 (eB r)) := FinR.kc' (by kernel_rfl)
  unfold G_slices_ContainsFunc_oom_Task_oom_Task at h
  obtain ⟨v_r28, h25, h⟩ := bind_some h
  obtain rfl := Option.some.inj h
  exact pend_sound TTok mix 5 (hs := [.r ((eI .i64) v_r28)]) (by kernel_rfl) (by kernel_rfl) (by kernel_rfl) (.cons (G_slices_IndexFunc_oom_Task_oom_Task_ok n v_s16 v_f17 v_f17_g v_f17_c v_f17_h _ h25) .nil)
/- ringhall/oom.Check$1 -/
def G_oom_Check_1 (n : Nat) (v_x29 : S_oom_Task) (v_c30 : S_oom_Task) : Option (Bool) :=
  some (v_x29.fId == v_c30.fId)
theorem G_oom_Check_1_ok (n : Nat) (v_x29 : S_oom_Task) (v_c30 : S_oom_Task) (r : Bool) (h : G_oom_Check_1 n v_x29 v_c30 = some r) : Ret Try.prog 208 [eS_oom_Task v_x29, .iptr [.v (.int .i64 v_c30.fId), .v (.int .i64 v_c30.fPages), .v (.int .i64 v_c30.fScore), .v (.bool v_c30.fKept)] 0] (eB r) := by
  refine ret_run (n := 9) (fn := Try.f208) (c := bodyOf Try.f208) (by kernel_rfl) (by kernel_rfl) (by kernel_rfl) (by kernel_rfl) ?_
  have hF : KC 9 (FinR Try.prog Try.f208 (eB r)) := FinR.kc' (by kernel_rfl)
  unfold G_oom_Check_1 at h
  obtain rfl := Option.some.inj h
  exact pend_sound TTok mix 5 (hs := [.c, .c]) (by kernel_rfl) (by kernel_rfl) (by kernel_rfl) .nil
inductive G_oom_Check_C1_R where
  | x0 (v_x59 : Bool)
def G_oom_Check_C1_ex : G_oom_Check_C1_R → Ex
  | .x0 _ => .normal
def G_oom_Check_C1_st (v_l4 : (List S_oom_Task)) (v_x5 : Int) (v_y46 : S_oom_Task) : G_oom_Check_C1_R → PS
  | .x0 v_x59 => ⟨[.d (.sl (v_l4.map eS_oom_Task)), dd, dd, .d (.v (.int .i64 v_x5)), .ref 0 0, dd, dd, dd, .d (.sl (v_l4.map eS_oom_Task)), .d (.v (.int .i64 (v_l4.length : Int))), .d (.v (.int .i64 v_x5)), dd, dd, dd, dd, .d (.v (.bool v_x59)), dd, dd, dd, dd, dd, dd, dd, dd, dd, dd, dd, dd, dd, dd, dd, dd, dd, dd, dd, dd, dd, dd, dd, dd, dd, dd, dd, dd, dd, dd, dd, dd, dd, dd, dd], [.box [.d (.v (.int .i64 v_y46.fId)), .d (.v (.int .i64 v_y46.fPages)), .d (.v (.int .i64 v_y46.fScore)), .d (.v (.bool v_y46.fKept))]]⟩
def G_oom_Check_C1_hd (v_l4 : (List S_oom_Task)) (v_x5 : Int) (v_y46 : S_oom_Task)  : PS := ⟨[.d (.sl (v_l4.map eS_oom_Task)), dd, dd, .d (.v (.int .i64 v_x5)), .ref 0 0, dd, dd, dd, .d (.sl (v_l4.map eS_oom_Task)), .d (.v (.int .i64 (v_l4.length : Int))), .d (.v (.int .i64 v_x5)), dd, dd, dd, dd, dd, dd, dd, dd, dd, dd, dd, dd, dd, dd, dd, dd, dd, dd, dd, dd, dd, dd, dd, dd, dd, dd, dd, dd, dd, dd, dd, dd, dd, dd, dd, dd, dd, dd, dd, dd], [.box [.d (.v (.int .i64 v_y46.fId)), .d (.v (.int .i64 v_y46.fPages)), .d (.v (.int .i64 v_y46.fScore)), .d (.v (.bool v_y46.fKept))]]⟩
def G_oom_Check_C1 (n : Nat) (v_l4 : (List S_oom_Task)) (v_x5 : Int) (v_y46 : S_oom_Task) : Option G_oom_Check_C1_R :=
  if v_y46.fId < 1 then
   some (.x0 true)
  else
   if v_y46.fId > 16 then
    some (.x0 true)
   else
    if v_y46.fPages < 0 then
     some (.x0 true)
    else
     if v_y46.fPages > 1048576 then
      some (.x0 true)
     else
      if v_y46.fScore < 0 then
       some (.x0 true)
      else
       some (.x0 (decide (v_y46.fScore > 1048576)))
theorem G_oom_Check_C1_ok {Fi : Ex → PS → Prop} (hF : KC 51 Fi) (ks : List Fr) (n : Nat) (v_l4 : (List S_oom_Task)) (v_x5 : Int) (v_y46 : S_oom_Task)  (o : G_oom_Check_C1_R) (h : G_oom_Check_C1 n v_l4 v_x5 v_y46 = some o) (q : RunE Try.prog 51 Fi ks (G_oom_Check_C1_ex o) (G_oom_Check_C1_st v_l4 v_x5 v_y46 o)) : RunE Try.prog 51 Fi (.s (cL (cB (cR (cB (cL (cR (cR (cP (cB (cR (cL (cR (cR (bodyOf Try.f109)))))))))))))) :: ks) .normal (G_oom_Check_C1_hd v_l4 v_x5 v_y46) := by
  unfold G_oom_Check_C1 at h
  by_cases h76 : v_y46.fId < 1
  · rw [if_pos h76] at h
    cases h
    exact pkk_sound TTok mix hF 1 (hs := [.c, .t true, .c, .c, .c, .c, .c, .c, .c, .c, .c, .c, .c, .c, .c, .c]) (ts := []) (s := [0]) (l := [0, 3, 4, 8, 9, 10, 15]) (by kernel_rfl) (by kernel_rfl) (.cons (dt h76) .nil) q
  · rw [if_neg h76] at h
    by_cases h77 : v_y46.fId > 16
    · rw [if_pos h77] at h
      cases h
      exact pkk_sound TTok mix hF 1 (hs := [.c, .t false, .c, .c, .c, .t true, .c, .c, .c, .c, .c, .c, .c, .c, .c, .c, .c]) (ts := []) (s := [0]) (l := [0, 3, 4, 8, 9, 10, 15]) (by kernel_rfl) (by kernel_rfl) (.cons (df h76) (.cons (dt h77) .nil)) q
    · rw [if_neg h77] at h
      by_cases h78 : v_y46.fPages < 0
      · rw [if_pos h78] at h
        cases h
        exact pkk_sound TTok mix hF 1 (hs := [.c, .t false, .c, .c, .c, .t false, .c, .c, .c, .t true, .c, .c, .c, .c, .c, .c, .c, .c]) (ts := []) (s := [0]) (l := [0, 3, 4, 8, 9, 10, 15]) (by kernel_rfl) (by kernel_rfl) (.cons (df h76) (.cons (df h77) (.cons (dt h78) .nil))) q
      · rw [if_neg h78] at h
        by_cases h79 : v_y46.fPages > 1048576
        · rw [if_pos h79] at h
          cases h
          exact pkk_sound TTok mix hF 1 (hs := [.c, .t false, .c, .c, .c, .t false, .c, .c, .c, .t false, .c, .c, .c, .t true, .c, .c, .c, .c, .c]) (ts := []) (s := [0]) (l := [0, 3, 4, 8, 9, 10, 15]) (by kernel_rfl) (by kernel_rfl) (.cons (df h76) (.cons (df h77) (.cons (df h78) (.cons (dt h79) .nil)))) q
        · rw [if_neg h79] at h
          by_cases h80 : v_y46.fScore < 0
          · rw [if_pos h80] at h
            cases h
            exact pkk_sound TTok mix hF 1 (hs := [.c, .t false, .c, .c, .c, .t false, .c, .c, .c, .t false, .c, .c, .c, .t false, .c, .c, .c, .t true, .c, .c]) (ts := []) (s := [0]) (l := [0, 3, 4, 8, 9, 10, 15]) (by kernel_rfl) (by kernel_rfl) (.cons (df h76) (.cons (df h77) (.cons (df h78) (.cons (df h79) (.cons (dt h80) .nil))))) q
          · rw [if_neg h80] at h
            cases h
            exact pkk_sound TTok mix hF 1 (hs := [.c, .t false, .c, .c, .c, .t false, .c, .c, .c, .t false, .c, .c, .c, .t false, .c, .c, .c, .t false, .c, .c, .c]) (ts := []) (s := [0]) (l := [0, 3, 4, 8, 9, 10, 15]) (by kernel_rfl) (by kernel_rfl) (.cons (df h76) (.cons (df h77) (.cons (df h78) (.cons (df h79) (.cons (df h80) .nil))))) q
inductive G_oom_Check_L2_R where
  | x0 (v_x69 : Int)
  | x1 
def G_oom_Check_L2_ex : G_oom_Check_L2_R → Ex
  | .x0 _ => .ret
  | .x1  => .exit 0
def G_oom_Check_L2_st (v_l4 : (List S_oom_Task)) : G_oom_Check_L2_R → PS
  | .x0 v_x69 => ⟨[dd, dd, .d (.v (.int .i64 v_x69)), dd, dd, dd, dd, dd, dd, dd, dd, dd, dd, dd, dd, dd, dd, dd, dd, dd, dd, dd, dd, dd, dd, dd, dd, dd, dd, dd, dd, dd, dd, dd, dd, dd, dd, dd, dd, dd, dd, dd, dd, dd, dd, dd, dd, dd, dd, dd, dd], []⟩
  | .x1  => ⟨[dd, dd, dd, dd, dd, dd, dd, dd, dd, dd, dd, dd, dd, dd, dd, dd, dd, dd, dd, dd, dd, dd, dd, dd, dd, dd, dd, dd, dd, dd, dd, dd, dd, dd, dd, dd, dd, dd, dd, dd, dd, dd, dd, dd, dd, dd, dd, dd, dd, dd, dd], []⟩
def G_oom_Check_L2_hd (v_l4 : (List S_oom_Task)) (v_x5 : Int) : PS := ⟨[.d (.sl (v_l4.map eS_oom_Task)), dd, dd, dd, dd, dd, dd, dd, .d (.sl (v_l4.map eS_oom_Task)), .d (.v (.int .i64 (v_l4.length : Int))), .d (.v (.int .i64 v_x5)), dd, dd, dd, dd, dd, dd, dd, dd, dd, dd, dd, dd, dd, dd, dd, dd, dd, dd, dd, dd, dd, dd, dd, dd, dd, dd, dd, dd, dd, dd, dd, dd, dd, dd, dd, dd, dd, dd, dd, dd], []⟩
def G_oom_Check_L2 (n : Nat) (v_l4 : (List S_oom_Task)) : Nat → Int → Option G_oom_Check_L2_R
  | 0, _ => none
  | k + 1, v_x5 =>
    if v_x5 < (v_l4.length : Int) then
     (getI v_l4 v_x5).bind fun (v_y46 : S_oom_Task) =>
     (G_oom_Check_C1 n v_l4 v_x5 v_y46).bind fun v_o65 => match v_o65 with
     | .x0 v_z66 =>
       if v_z66 = true then
        some (.x0 1)
       else
        (sub v_l4 0 v_x5).bind fun (v_s70 : (List S_oom_Task)) =>
        (G_slices_ContainsFunc_oom_Task_oom_Task n v_s70 (fun (y0 : S_oom_Task) => G_oom_Check_1 n y0 v_y46)).bind fun (v_r71 : (Bool)) =>
        if v_r71 = true then
         some (.x0 5)
        else
         G_oom_Check_L2 n v_l4 k (wi .i64 (v_x5 + 1))
    else
     some (.x1 )
theorem G_oom_Check_L2_ok {Fi : Ex → PS → Prop} (hF : KC 51 Fi) (ks : List Fr) (n : Nat) (v_l4 : (List S_oom_Task))  : ∀ (k : Nat) (v_x5 : Int) (o : G_oom_Check_L2_R), G_oom_Check_L2 n v_l4 k v_x5 = some o → RunE Try.prog 51 Fi ks (G_oom_Check_L2_ex o) (G_oom_Check_L2_st v_l4 o) → RunE Try.prog 51 Fi (.l k (cP (cB (cR (cL (cR (cR (bodyOf Try.f109))))))) :: ks) .normal (G_oom_Check_L2_hd v_l4 v_x5)
  | 0, v_x5, o, h, q => by rw [G_oom_Check_L2] at h; cases h
  | k + 1, v_x5, o, h, q => by
    rw [G_oom_Check_L2] at h
    by_cases h2 : v_x5 < (v_l4.length : Int)
    · rw [if_pos h2] at h
      obtain ⟨v_y46, h51, h⟩ := bind_some h
      obtain ⟨v_o65, h81, h⟩ := bind_some h
      refine pkk_sound TTok mix hF 12 (hs := [.t true, .y (eS_oom_Task v_y46), .c]) (ts := []) (s := [12]) (l := [0, 3, 4, 8, 9, 10]) (by kernel_rfl) (by kernel_rfl) (.cons (dt h2) (.cons (getI_ob (f := eS_oom_Task) h51) (.cons (show 0 + 4 ≤ 4 by decide) .nil))) (G_oom_Check_C1_ok hF (.s (cR (cB (cR (cB (cL (cR (cR (cP (cB (cR (cL (cR (cR (bodyOf Try.f109)))))))))))))) :: .b 2 :: .b 1 :: .s (cR (cR (cR (cP (cB (cR (cL (cR (cR (bodyOf Try.f109)))))))))) :: .l k (cP (cB (cR (cL (cR (cR (bodyOf Try.f109))))))) :: ks) n v_l4 v_x5 v_y46 _ h81 ?_)
      cases v_o65 with
      | x0 v_z66 =>
        try dsimp only at h
        by_cases h86 : v_z66 = true
        · rw [if_pos h86] at h
          cases h
          exact pkk_sound TTok mix hF 8 (hs := [.t true]) (ts := []) (s := []) (l := [2]) (by kernel_rfl) (by kernel_rfl) (.cons h86 .nil) q
        · rw [if_neg h86] at h
          obtain ⟨v_s70, h87, h⟩ := bind_some h
          obtain ⟨v_r71, h88, h⟩ := bind_some h
          by_cases h89 : v_r71 = true
          · rw [if_pos h89] at h
            cases h
            exact pkk_sound TTok mix hF 11 (hs := [.t false, .w (v_s70.map eS_oom_Task), .c, .r (eB v_r71), .t true]) (ts := []) (s := []) (l := [2]) (by kernel_rfl) (by kernel_rfl) (.cons (vf h86) (.cons (sub_ob (f := eS_oom_Task) (s := 4) h87 (fun _ => rfl)).1 (.cons (sub_ob (f := eS_oom_Task) (s := 4) h87 (fun _ => rfl)).2.1 (.cons (sub_ob (f := eS_oom_Task) (s := 4) h87 (fun _ => rfl)).2.2.1 (.cons (sub_ob (f := eS_oom_Task) (s := 4) h87 (fun _ => rfl)).2.2.2.1 (.cons (sub_ob (f := eS_oom_Task) (s := 4) h87 (fun _ => rfl)).2.2.2.2 (.cons (G_slices_ContainsFunc_oom_Task_oom_Task_ok n v_s70 (fun (y0 : S_oom_Task) => G_oom_Check_1 n y0 v_y46) 208 [.iptr [.v (.int .i64 v_y46.fId), .v (.int .i64 v_y46.fPages), .v (.int .i64 v_y46.fScore), .v (.bool v_y46.fKept)] 0] (fun y0 r h => G_oom_Check_1_ok n y0 v_y46 r h) _ h88) (.cons h89 .nil)))))))) q
          · rw [if_neg h89] at h
            exact pkk_sound TTok mix hF 8 (hs := [.t false, .w (v_s70.map eS_oom_Task), .c, .r (eB v_r71), .t false]) (ts := []) (s := []) (l := [0, 8, 9, 10]) (by kernel_rfl) (by kernel_rfl) (.cons (vf h86) (.cons (sub_ob (f := eS_oom_Task) (s := 4) h87 (fun _ => rfl)).1 (.cons (sub_ob (f := eS_oom_Task) (s := 4) h87 (fun _ => rfl)).2.1 (.cons (sub_ob (f := eS_oom_Task) (s := 4) h87 (fun _ => rfl)).2.2.1 (.cons (sub_ob (f := eS_oom_Task) (s := 4) h87 (fun _ => rfl)).2.2.2.1 (.cons (sub_ob (f := eS_oom_Task) (s := 4) h87 (fun _ => rfl)).2.2.2.2 (.cons (G_slices_ContainsFunc_oom_Task_oom_Task_ok n v_s70 (fun (y0 : S_oom_Task) => G_oom_Check_1 n y0 v_y46) 208 [.iptr [.v (.int .i64 v_y46.fId), .v (.int .i64 v_y46.fPages), .v (.int .i64 v_y46.fScore), .v (.bool v_y46.fKept)] 0] (fun y0 r h => G_oom_Check_1_ok n y0 v_y46 r h) _ h88) (.cons (vf h89) .nil)))))))) (G_oom_Check_L2_ok hF ks n v_l4 k (wi .i64 (v_x5 + 1)) _ h q)
    · rw [if_neg h2] at h
      cases h
      exact pkk_sound TTok mix hF 8 (hs := [.t false]) (ts := []) (s := []) (l := []) (by kernel_rfl) (by kernel_rfl) (.cons (df h2) .nil) q
/- ringhall/oom.Check -/
def G_oom_Check (n : Nat) (v_l4 : (List S_oom_Task)) : Option (Int) :=
  if (v_l4.length : Int) > 16 then
   some 2
  else
   (G_oom_Check_L2 n v_l4 n 0).bind fun v_o73 => match v_o73 with
   | .x0 v_z74 =>
     some v_z74
   | .x1  =>
     some 0
theorem G_oom_Check_ok (n : Nat) (v_l4 : (List S_oom_Task)) (r : Int) (h : G_oom_Check n v_l4 = some r) : Ret Try.prog 109 [(eL eS_oom_Task) v_l4] ((eI .i64) r) := by
  refine ret_run (n := 51) (fn := Try.f109) (c := bodyOf Try.f109) (by kernel_rfl) (by kernel_rfl) (by kernel_rfl) (by kernel_rfl) ?_
  have hF : KC 51 (FinR Try.prog Try.f109 ((eI .i64) r)) := FinR.kc' (by kernel_rfl)
  unfold G_oom_Check at h
  by_cases h1 : (v_l4.length : Int) > 16
  · rw [if_pos h1] at h
    obtain rfl := Option.some.inj h
    exact pend_sound TTok mix 10 (hs := [.u (.d (.v (.int .i64 (v_l4.length : Int)))), .t true]) (by kernel_rfl) (by kernel_rfl) (by kernel_rfl) (.cons (len_ob (f := eS_oom_Task) (l := v_l4)) (.cons (dt h1) .nil))
  · rw [if_neg h1] at h
    obtain ⟨v_o73, h90, h⟩ := bind_some h
    refine pkk_sound TTok mix hF 12 (hs := [.u (.d (.v (.int .i64 (v_l4.length : Int)))), .t false, .u (.d (.v (.int .i64 (v_l4.length : Int)))), .n n]) (ts := []) (s := []) (l := [0, 8, 9, 10]) (by kernel_rfl) (by kernel_rfl) (.cons (len_ob (f := eS_oom_Task) (l := v_l4)) (.cons (df h1) (.cons (len_ob (f := eS_oom_Task) (l := v_l4)) .nil))) (G_oom_Check_L2_ok hF (.b 0 :: .s (cR (cR (cR (bodyOf Try.f109)))) :: []) n v_l4 n 0 _ h90 ?_)
    cases v_o73 with
    | x0 v_z74 =>
      try dsimp only at h
      obtain rfl := Option.some.inj h
      exact pend_sound TTok mix 2 (hs := []) (by kernel_rfl) (by kernel_rfl) (by kernel_rfl) .nil
    | x1  =>
      try dsimp only at h
      obtain rfl := Option.some.inj h
      exact pend_sound TTok mix 4 (hs := []) (by kernel_rfl) (by kernel_rfl) (by kernel_rfl) .nil
/- slices.Clone[[]ringhall/oom.Task,ringhall/oom.Task] -/
def G_slices_Clone_oom_Task_oom_Task_A (n : Nat) (v_c77 : Nat) : Option ((List S_oom_Task)) :=
  some ([] : List S_oom_Task)
theorem G_slices_Clone_oom_Task_oom_Task_A_ok (n : Nat) (v_c77 : Nat) (r : (List S_oom_Task)) (h : G_slices_Clone_oom_Task_oom_Task_A n v_c77 = some r) : RetH Try.prog 260 [.d (.v (.slice none 0 v_c77))] [] (.srf 0) [.row 207 4 (r.map eS_oom_Task)] := by
  refine retH_run (n := 8) (fn := Try.f260) (c := bodyOf Try.f260) (by kernel_rfl) (by kernel_rfl) (by kernel_rfl) (by kernel_rfl) ?_
  have hF : KC 8 (FinH Try.prog Try.f260 [] (.srf 0) [.row 207 4 (r.map eS_oom_Task)]) := FinH.kc' (by kernel_rfl)
  unfold G_slices_Clone_oom_Task_oom_Task_A at h
  obtain rfl := Option.some.inj h
  exact pendH_sound TTok mix 11 (hs := [.c, .dl 4, .th 2 207 4]) [12] (by kernel_rfl) (by kernel_rfl) (by kernel_rfl) .nil
/- slices.Clone[[]ringhall/oom.Task,ringhall/oom.Task] -/
def G_slices_Clone_oom_Task_oom_Task_B (n : Nat) (v_a78 : Addr) (v_c79 : Nat) : Option ((List S_oom_Task)) :=
  (app 32 ([] : List S_oom_Task) ([] : (List S_oom_Task))).bind fun (v_a80 : (List S_oom_Task)) =>
  some v_a80
theorem G_slices_Clone_oom_Task_oom_Task_B_ok (n : Nat) (v_a78 : Addr) (v_c79 : Nat) (r : (List S_oom_Task)) (h : G_slices_Clone_oom_Task_oom_Task_B n v_a78 v_c79 = some r) : RetH Try.prog 260 [.d (.v (.slice (some v_a78) 0 v_c79))] [] (.srf 0) [.row 207 4 (r.map eS_oom_Task)] := by
  refine retH_run (n := 8) (fn := Try.f260) (c := bodyOf Try.f260) (by kernel_rfl) (by kernel_rfl) (by kernel_rfl) (by kernel_rfl) ?_
  have hF : KC 8 (FinH Try.prog Try.f260 [] (.srf 0) [.row 207 4 (r.map eS_oom_Task)]) := FinH.kc' (by kernel_rfl)
  unfold G_slices_Clone_oom_Task_oom_Task_B at h
  obtain ⟨v_a80, h94, h⟩ := bind_some h
  obtain rfl := Option.some.inj h
  exact pendH_sound TTok mix 10 (hs := [.c, .w (([] : List S_oom_Task).map eS_oom_Task), .w (v_a80.map eS_oom_Task)]) [15] (by kernel_rfl) (by kernel_rfl) (by kernel_rfl) (.cons (Eq.refl (([] : List S_oom_Task).map eS_oom_Task)) (.cons (app_ob (f := eS_oom_Task) (s := 4) h94 (fun _ => rfl)).1 (.cons (app_ob (f := eS_oom_Task) (s := 4) h94 (fun _ => rfl)).2.1 (.cons (app_ob (f := eS_oom_Task) (s := 4) h94 (fun _ => rfl)).2.2.1 (.cons (app_ob (f := eS_oom_Task) (s := 4) h94 (fun _ => rfl)).2.2.2 .nil)))))
/- slices.Clone[[]ringhall/oom.Task,ringhall/oom.Task] -/
def G_slices_Clone_oom_Task_oom_Task_C (n : Nat) (v_y81 : S_oom_Task) (v_ys82 : (List S_oom_Task)) : Option ((List S_oom_Task)) :=
  (app 32 ([] : List S_oom_Task) (v_y81 :: v_ys82)).bind fun (v_a83 : (List S_oom_Task)) =>
  some v_a83
theorem G_slices_Clone_oom_Task_oom_Task_C_ok (n : Nat) (v_y81 : S_oom_Task) (v_ys82 : (List S_oom_Task)) (r : (List S_oom_Task)) (h : G_slices_Clone_oom_Task_oom_Task_C n v_y81 v_ys82 = some r) : RetH Try.prog 260 [.d (.sl (eS_oom_Task v_y81 :: v_ys82.map eS_oom_Task))] [] (.srf 0) [.row 207 4 (r.map eS_oom_Task)] := by
  refine retH_run (n := 8) (fn := Try.f260) (c := bodyOf Try.f260) (by kernel_rfl) (by kernel_rfl) (by kernel_rfl) (by kernel_rfl) ?_
  have hF : KC 8 (FinH Try.prog Try.f260 [] (.srf 0) [.row 207 4 (r.map eS_oom_Task)]) := FinH.kc' (by kernel_rfl)
  unfold G_slices_Clone_oom_Task_oom_Task_C at h
  obtain ⟨v_a83, h95, h⟩ := bind_some h
  obtain rfl := Option.some.inj h
  exact pendH_sound TTok mix 10 (hs := [.c, .w (([] : List S_oom_Task).map eS_oom_Task), .w (v_a83.map eS_oom_Task)]) [15] (by kernel_rfl) (by kernel_rfl) (by kernel_rfl) (.cons (Eq.refl (([] : List S_oom_Task).map eS_oom_Task)) (.cons (app_ob (f := eS_oom_Task) (s := 4) h95 (fun _ => rfl)).1 (.cons (app_ob (f := eS_oom_Task) (s := 4) h95 (fun _ => rfl)).2.1 (.cons (app_ob (f := eS_oom_Task) (s := 4) h95 (fun _ => rfl)).2.2.1 (.cons (app_ob (f := eS_oom_Task) (s := 4) h95 (fun _ => rfl)).2.2.2 .nil)))))
def G_slices_Clone_oom_Task_oom_Task (n : Nat) (xs : (List S_oom_Task)) : Option (List S_oom_Task) := app 32 [] xs
theorem G_slices_Clone_oom_Task_oom_Task_ok (n : Nat) (xs : (List S_oom_Task)) (r : (List S_oom_Task)) (h : G_slices_Clone_oom_Task_oom_Task n xs = some r) : RetH Try.prog 260 [.d (.sl (xs.map eS_oom_Task))] [] (.srf 0) [.row 207 4 (r.map eS_oom_Task)] := by
  unfold G_slices_Clone_oom_Task_oom_Task at h
  have e : app 32 ([] : (List S_oom_Task)) [] = some [] := by simp [app]
  cases xs with
  | nil =>
    rw [e] at h; obtain rfl := Option.some.inj h
    exact clone_nil (fun c => G_slices_Clone_oom_Task_oom_Task_A_ok n c _ (by unfold G_slices_Clone_oom_Task_oom_Task_A; rfl)) (fun a c => G_slices_Clone_oom_Task_oom_Task_B_ok n a c _ (by unfold G_slices_Clone_oom_Task_oom_Task_B; rw [e]; rfl))
  | cons y ys => exact G_slices_Clone_oom_Task_oom_Task_C_ok n y ys _ (by unfold G_slices_Clone_oom_Task_oom_Task_C; rw [h]; rfl)
/- ringhall/oom.ordered$1 -/
def G_oom_ordered_1 (n : Nat) (v_t85 : S_oom_Task) : Option (Bool) :=
  if v_t85.fKept = true then
   some true
  else
   some (v_t85.fPages == 0)
theorem G_oom_ordered_1_ok (n : Nat) (v_t85 : S_oom_Task) (r : Bool) (h : G_oom_ordered_1 n v_t85 = some r) : Ret Try.prog 261 [eS_oom_Task v_t85] (eB r) := by
  refine ret_run (n := 10) (fn := Try.f261) (c := bodyOf Try.f261) (by kernel_rfl) (by kernel_rfl) (by kernel_rfl) (by kernel_rfl) ?_
  have hF : KC 10 (FinR Try.prog Try.f261 (eB r)) := FinR.kc' (by kernel_rfl)
  unfold G_oom_ordered_1 at h
  by_cases h97 : v_t85.fKept = true
  · rw [if_pos h97] at h
    obtain rfl := Option.some.inj h
    exact pend_sound TTok mix 5 (hs := [.c, .t true, .c, .c]) (by kernel_rfl) (by kernel_rfl) (by kernel_rfl) (.cons h97 .nil)
  · rw [if_neg h97] at h
    obtain rfl := Option.some.inj h
    exact pend_sound TTok mix 5 (hs := [.c, .t false, .c, .c, .c]) (by kernel_rfl) (by kernel_rfl) (by kernel_rfl) (.cons (vf h97) .nil)
inductive G_slices_DeleteFunc_oom_Task_oom_Task_h_L1_R where
  | x0 (v_i100 : Int) (v_w101 : (List S_oom_Task))
def G_slices_DeleteFunc_oom_Task_oom_Task_h_L1_ex : G_slices_DeleteFunc_oom_Task_oom_Task_h_L1_R → Ex
  | .x0 _ _ => .exit 0
def G_slices_DeleteFunc_oom_Task_oom_Task_h_L1_st (v_del87 : (S_oom_Task → Option (Bool))) (v_del87_g : FuncId) (v_del87_c : (List PV)) : G_slices_DeleteFunc_oom_Task_oom_Task_h_L1_R → PS
  | .x0 v_i100 v_w101 => ⟨[.srf 1, dd, dd, dd, dd, .d (.v (.int .i64 v_i100)), dd, dd, dd, dd, dd, dd, dd, dd, dd, dd, dd, dd, dd, dd, dd, dd, dd, dd, dd, dd, dd, dd, dd, dd, dd, dd, dd, dd, dd, dd, dd, dd, dd, dd, dd, dd], [.gh 0 (.srf 1), .row 207 4 (v_w101.map eS_oom_Task)]⟩
def G_slices_DeleteFunc_oom_Task_oom_Task_h_L1_hd (v_del87 : (S_oom_Task → Option (Bool))) (v_del87_g : FuncId) (v_del87_c : (List PV)) (v_i89 : Int) (v_j90 : Int) (v_w91 : (List S_oom_Task)) : PS := ⟨[.srf 1, .d (.clo v_del87_g v_del87_c), dd, dd, dd, .d (.v (.int .i64 v_i89)), .d (.v (.int .i64 v_j90)), dd, dd, dd, dd, dd, dd, dd, dd, dd, dd, dd, dd, dd, dd, dd, dd, dd, dd, dd, dd, dd, dd, dd, dd, dd, dd, dd, dd, dd, dd, dd, dd, dd, dd, dd], [.gh 0 (.srf 1), .row 207 4 (v_w91.map eS_oom_Task)]⟩
def G_slices_DeleteFunc_oom_Task_oom_Task_h_L1 (n : Nat) (v_del87 : (S_oom_Task → Option (Bool))) : Nat → Int → Int → (List S_oom_Task) → Option G_slices_DeleteFunc_oom_Task_oom_Task_h_L1_R
  | 0, _, _, _ => none
  | k + 1, v_i89, v_j90, v_w91 =>
    if v_j90 < (v_w91.length : Int) then
     if 0 ≤ v_j90 ∧ (v_j90).toNat < v_w91.length then
      (v_w91[(v_j90).toNat]?).bind fun (v_y96 : S_oom_Task) =>
      (v_del87 v_y96).bind fun (v_r97 : (Bool)) =>
      if v_r97 = true then
       G_slices_DeleteFunc_oom_Task_oom_Task_h_L1 n v_del87 k v_i89 (wi .i64 (v_j90 + 1)) v_w91
      else
       if 0 ≤ v_i89 ∧ (v_i89).toNat < v_w91.length then
        (v_w91[(v_i89).toNat]?).bind fun (v_y99 : S_oom_Task) =>
        G_slices_DeleteFunc_oom_Task_oom_Task_h_L1 n v_del87 k (wi .i64 (v_i89 + 1)) (wi .i64 (v_j90 + 1)) (v_w91.set (v_i89).toNat v_y96)
       else none
     else none
    else
     some (.x0 v_i89 v_w91)
theorem G_slices_DeleteFunc_oom_Task_oom_Task_h_L1_ok {Fi : Ex → PS → Prop} (hF : KC 42 Fi) (ks : List Fr) (n : Nat) (v_del87 : (S_oom_Task → Option (Bool))) (v_del87_g : FuncId) (v_del87_c : (List PV)) (v_del87_h : ∀ (x0 : S_oom_Task) (r : Bool), v_del87 x0 = some r → Ret Try.prog v_del87_g ([eS_oom_Task x0] ++ v_del87_c) (eB r)) : ∀ (k : Nat) (v_i89 : Int) (v_j90 : Int) (v_w91 : (List S_oom_Task)) (o : G_slices_DeleteFunc_oom_Task_oom_Task_h_L1_R), G_slices_DeleteFunc_oom_Task_oom_Task_h_L1 n v_del87 k v_i89 v_j90 v_w91 = some o → RunE Try.prog 42 Fi ks (G_slices_DeleteFunc_oom_Task_oom_Task_h_L1_ex o) (G_slices_DeleteFunc_oom_Task_oom_Task_h_L1_st v_del87 v_del87_g v_del87_c o) → RunE Try.prog 42 Fi (.l k (cP (cB (cR (cL (cR (cR (cR (bodyOf Try.f259)))))))) :: ks) .normal (G_slices_DeleteFunc_oom_Task_oom_Task_h_L1_hd v_del87 v_del87_g v_del87_c v_i89 v_j90 v_w91)
  | 0, v_i89, v_j90, v_w91, o, h, q => by rw [G_slices_DeleteFunc_oom_Task_oom_Task_h_L1] at h; cases h
  | k + 1, v_i89, v_j90, v_w91, o, h, q => by
    rw [G_slices_DeleteFunc_oom_Task_oom_Task_h_L1] at h
    by_cases h100 : v_j90 < (v_w91.length : Int)
    · rw [if_pos h100] at h
      by_cases h110 : 0 ≤ v_j90 ∧ (v_j90).toNat < v_w91.length
      · rw [if_pos h110] at h
        obtain ⟨v_y96, h111, h⟩ := bind_some h
        obtain ⟨v_r97, h112, h⟩ := bind_some h
        by_cases h116 : v_r97 = true
        · rw [if_pos h116] at h
          exact pkk_sound TTok mix hF 16 (hs := [.u (.d (.v (.int .i64 (v_w91.length : Int)))), .t true, .y (eS_oom_Task v_y96), .c, .c, .r (eB v_r97), .t false]) (ts := []) (s := [0, 1]) (l := [0, 1, 5, 6]) (by kernel_rfl) (by kernel_rfl) (.cons (len_ob (f := eS_oom_Task) (l := v_w91)) (.cons (dt h100) (.cons (idx_ob (f := eS_oom_Task) h110) (.cons (get_ob (f := eS_oom_Task) h111) (.cons (show 0 + 4 ≤ 4 by decide) (.cons (v_del87_h v_y96 _ h112) (.cons (bnf h116) .nil))))))) (G_slices_DeleteFunc_oom_Task_oom_Task_h_L1_ok hF ks n v_del87 v_del87_g v_del87_c v_del87_h k v_i89 (wi .i64 (v_j90 + 1)) v_w91 _ h q)
        · rw [if_neg h116] at h
          by_cases h117 : 0 ≤ v_i89 ∧ (v_i89).toNat < v_w91.length
          · rw [if_pos h117] at h
            obtain ⟨v_y99, h118, h⟩ := bind_some h
            exact pkk_sound TTok mix hF 18 (hs := [.u (.d (.v (.int .i64 (v_w91.length : Int)))), .t true, .y (eS_oom_Task v_y96), .c, .c, .r (eB v_r97), .t true, .c, .w ((v_w91.set (v_i89).toNat v_y96).map eS_oom_Task), .y (eS_oom_Task v_y99)]) (ts := []) (s := [0, 1]) (l := [0, 1, 5, 6]) (by kernel_rfl) (by kernel_rfl) (.cons (len_ob (f := eS_oom_Task) (l := v_w91)) (.cons (dt h100) (.cons (idx_ob (f := eS_oom_Task) h110) (.cons (get_ob (f := eS_oom_Task) h111) (.cons (show 0 + 4 ≤ 4 by decide) (.cons (v_del87_h v_y96 _ h112) (.cons (bnt (vf h116)) (.cons (idx_ob (f := eS_oom_Task) h117) (.cons (get_ob (f := eS_oom_Task) h118) (.cons (Eq.refl (pcells (.agg [.v (.int .i64 v_y96.fId), .v (.int .i64 v_y96.fPages), .v (.int .i64 v_y96.fScore), .v (.bool v_y96.fKept)]))) (.cons (set_ob (f := eS_oom_Task) (l := v_w91) (k := (v_i89).toNat) (z := v_y96) (p := .agg [.v (.int .i64 v_y96.fId), .v (.int .i64 v_y96.fPages), .v (.int .i64 v_y96.fScore), .v (.bool v_y96.fKept)]) rfl) .nil))))))))))) (G_slices_DeleteFunc_oom_Task_oom_Task_h_L1_ok hF ks n v_del87 v_del87_g v_del87_c v_del87_h k (wi .i64 (v_i89 + 1)) (wi .i64 (v_j90 + 1)) (v_w91.set (v_i89).toNat v_y96) _ h q)
          · rw [if_neg h117] at h; cases h
      · rw [if_neg h110] at h; cases h
    · rw [if_neg h100] at h
      cases h
      exact pkk_sound TTok mix hF 8 (hs := [.u (.d (.v (.int .i64 (v_w91.length : Int)))), .t false]) (ts := []) (s := [0, 1]) (l := [0, 5]) (by kernel_rfl) (by kernel_rfl) (.cons (len_ob (f := eS_oom_Task) (l := v_w91)) (.cons (df h100) .nil)) q
/- slices.DeleteFunc[[]ringhall/oom.Task,ringhall/oom.Task] -/
def G_slices_DeleteFunc_oom_Task_oom_Task_h (n : Nat) (v_s86 : (List S_oom_Task)) (v_del87 : (S_oom_Task → Option (Bool))) : Option ((List S_oom_Task)) :=
  (G_slices_IndexFunc_oom_Task_oom_Task n v_s86 v_del87).bind fun (v_r88 : (Int)) =>
  if v_r88 = (-1) then
   some v_s86
  else
   (G_slices_DeleteFunc_oom_Task_oom_Task_h_L1 n v_del87 n v_r88 (wi .i64 (v_r88 + 1)) v_s86).bind fun v_o102 => match v_o102 with
   | .x0 v_z103 v_z104 =>
     if ((0 : Int) ≤ v_z103 ∧ v_z103 ≤ (v_z104.length : Int)) then
      if v_z103.toNat ≤ v_z104.length ∧ v_z104.length ≤ v_z104.length then
       (sub (clrR v_z104 v_z103.toNat v_z104.length (S_oom_Task.mk 0 0 0 false)) 0 v_z103).bind fun (v_s105 : (List S_oom_Task)) =>
       some v_s105
      else none
     else none
theorem G_slices_DeleteFunc_oom_Task_oom_Task_h_ok (n : Nat) (v_s86 : (List S_oom_Task)) (v_del87 : (S_oom_Task → Option (Bool))) (v_del87_g : FuncId) (v_del87_c : List PV) (v_del87_h : ∀ (x0 : S_oom_Task) (r : Bool), v_del87 x0 = some r → Ret Try.prog v_del87_g ([eS_oom_Task x0] ++ v_del87_c) (eB r)) (r : (List S_oom_Task)) (h : G_slices_DeleteFunc_oom_Task_oom_Task_h n v_s86 v_del87 = some r) : RetH Try.prog 259 [.srf 0, .d ((.clo v_del87_g v_del87_c))] [.row 207 4 (v_s86.map eS_oom_Task)] (.srf 1) [.none, .row 207 4 (r.map eS_oom_Task)] := by
  refine retH_run (n := 42) (fn := Try.f259) (c := bodyOf Try.f259) (by kernel_rfl) (by kernel_rfl) (by kernel_rfl) (by kernel_rfl) ?_
  have hF : KC 42 (FinH Try.prog Try.f259 [.row 207 4 (v_s86.map eS_oom_Task)] (.srf 1) [.none, .row 207 4 (r.map eS_oom_Task)]) := FinH.kc' (by kernel_rfl)
  unfold G_slices_DeleteFunc_oom_Task_oom_Task_h at h
  obtain ⟨v_r88, h98, h⟩ := bind_some h
  by_cases h99 : v_r88 = (-1)
  · rw [if_pos h99] at h
    obtain rfl := Option.some.inj h
    exact pendH_sound TTok mix 13 (hs := [.c, .r ((eI .i64) v_r88), .t true, .dl 4, .mv 0]) [0, 29] (by kernel_rfl) (by kernel_rfl) (by kernel_rfl) (.cons (G_slices_IndexFunc_oom_Task_oom_Task_ok n v_s86 v_del87 v_del87_g v_del87_c v_del87_h _ h98) (.cons (bt h99) .nil))
  · rw [if_neg h99] at h
    obtain ⟨v_o102, h119, h⟩ := bind_some h
    refine pkk_sound TTok mix hF 14 (hs := [.c, .r ((eI .i64) v_r88), .t false, .n n]) (ts := []) (s := [1, 0]) (l := [0, 1, 5, 6]) (by kernel_rfl) (by kernel_rfl) (.cons (G_slices_IndexFunc_oom_Task_oom_Task_ok n v_s86 v_del87 v_del87_g v_del87_c v_del87_h _ h98) (.cons (bf h99) .nil)) (G_slices_DeleteFunc_oom_Task_oom_Task_h_L1_ok hF (.b 0 :: .s (cR (cR (cR (cR (bodyOf Try.f259))))) :: []) n v_del87 v_del87_g v_del87_c v_del87_h n v_r88 (wi .i64 (v_r88 + 1)) v_s86 _ h119 ?_)
    cases v_o102 with
    | x0 v_z103 v_z104 =>
      try dsimp only at h
      by_cases h120 : ((0 : Int) ≤ v_z103 ∧ v_z103 ≤ (v_z104.length : Int))
      · rw [if_pos h120] at h
        by_cases h121 : v_z103.toNat ≤ v_z104.length ∧ v_z104.length ≤ v_z104.length
        · rw [if_pos h121] at h
          obtain ⟨v_s105, h122, h⟩ := bind_some h
          obtain rfl := Option.some.inj h
          exact pendH_sound TTok mix 6 (hs := [.e 8 [1] (.ssl 1 v_z103.toNat v_z104.length 4) [], .e 11 [1] (dd) [(1, .row 207 4 ((clrR v_z104 v_z103.toNat v_z104.length (S_oom_Task.mk 0 0 0 false)).map eS_oom_Task))], .w (v_s105.map eS_oom_Task)]) [1, 20] (by kernel_rfl) (by kernel_rfl) (by kernel_rfl) (.cons (xs10 (P := Try.prog) (T := TT) (f := eS_oom_Task) (t := 199) (e := 207) (s := 4) (l := 1) (L := v_z104) (x := (.tmp 36)) (lo := (.tmp 37)) (a := v_z103) (ka := .i64) (by kernel_rfl) h120) (.cons (xclr (ti := ⟨4, 32, .st [(0, 3), (1, 3), (2, 3), (3, 4)], [.i .i64, .i .i64, .i .i64, .b]⟩) (P := Try.prog) (T := TT) (f := eS_oom_Task) (t := 199) (e := 207) (s := 4) (l := 1) (i := v_z103.toNat) (j := v_z104.length) (z := (S_oom_Task.mk 0 0 0 false)) (L := v_z104) (x := (.tmp 38)) (p := .agg [.v (.int .i64 0), .v (.int .i64 0), .v (.int .i64 0), .v (.bool false)]) (by kernel_rfl) (by kernel_rfl) (by kernel_rfl) (by kernel_rfl) (by decide) rfl h121) (.cons (Eq.refl (0 : Int)) (.cons (subR_ob (f := eS_oom_Task) h122).1 (.cons (subR_ob (f := eS_oom_Task) h122).2.1 (.cons (subR_ob (f := eS_oom_Task) h122).2.2 .nil))))))
        · rw [if_neg h121] at h; cases h
      · rw [if_neg h120] at h; cases h
/- cmp.isNaN[int] -/
def G_cmp_isNaN_int (n : Nat) (v_x111 : Int) : Option (Bool) :=
  some (v_x111 != v_x111)
theorem G_cmp_isNaN_int_ok (n : Nat) (v_x111 : Int) (r : Bool) (h : G_cmp_isNaN_int n v_x111 = some r) : Ret Try.prog 266 [(eI .i64) v_x111] (eB r) := by
  refine ret_run (n := 6) (fn := Try.f266) (c := bodyOf Try.f266) (by kernel_rfl) (by kernel_rfl) (by kernel_rfl) (by kernel_rfl) ?_
  have hF : KC 6 (FinR Try.prog Try.f266 (eB r)) := FinR.kc' (by kernel_rfl)
  unfold G_cmp_isNaN_int at h
  obtain rfl := Option.some.inj h
  exact pend_sound TTok mix 5 (hs := []) (by kernel_rfl) (by kernel_rfl) (by kernel_rfl) .nil
/- cmp.Compare[int] -/
def G_cmp_Compare_int (n : Nat) (v_x109 : Int) (v_y110 : Int) : Option (Int) :=
  (G_cmp_isNaN_int n v_x109).bind fun (v_r112 : (Bool)) =>
  (G_cmp_isNaN_int n v_y110).bind fun (v_r113 : (Bool)) =>
  if v_r112 = true then
   if v_r113 = true then
    some 0
   else
    some (-1)
  else
   if v_r113 = true then
    some 1
   else
    if v_x109 < v_y110 then
     some (-1)
    else
     if v_x109 > v_y110 then
      some 1
     else
      some 0
theorem G_cmp_Compare_int_ok (n : Nat) (v_x109 : Int) (v_y110 : Int) (r : Int) (h : G_cmp_Compare_int n v_x109 v_y110 = some r) : Ret Try.prog 206 [(eI .i64) v_x109, (eI .i64) v_y110] ((eI .i64) r) := by
  refine ret_run (n := 20) (fn := Try.f206) (c := bodyOf Try.f206) (by kernel_rfl) (by kernel_rfl) (by kernel_rfl) (by kernel_rfl) ?_
  have hF : KC 20 (FinR Try.prog Try.f206 ((eI .i64) r)) := FinR.kc' (by kernel_rfl)
  unfold G_cmp_Compare_int at h
  obtain ⟨v_r112, h124, h⟩ := bind_some h
  obtain ⟨v_r113, h125, h⟩ := bind_some h
  by_cases h128 : v_r112 = true
  · rw [if_pos h128] at h
    by_cases h129 : v_r113 = true
    · rw [if_pos h129] at h
      obtain rfl := Option.some.inj h
      exact pend_sound TTok mix 19 (hs := [.r (eB v_r112), .r (eB v_r113), .t true, .t true]) (by kernel_rfl) (by kernel_rfl) (by kernel_rfl) (.cons (G_cmp_isNaN_int_ok n v_x109 _ h124) (.cons (G_cmp_isNaN_int_ok n v_y110 _ h125) (.cons h128 (.cons h129 .nil))))
    · rw [if_neg h129] at h
      obtain rfl := Option.some.inj h
      exact pend_sound TTok mix 19 (hs := [.r (eB v_r112), .r (eB v_r113), .t true, .t false]) (by kernel_rfl) (by kernel_rfl) (by kernel_rfl) (.cons (G_cmp_isNaN_int_ok n v_x109 _ h124) (.cons (G_cmp_isNaN_int_ok n v_y110 _ h125) (.cons h128 (.cons (vf h129) .nil))))
  · rw [if_neg h128] at h
    by_cases h130 : v_r113 = true
    · rw [if_pos h130] at h
      obtain rfl := Option.some.inj h
      exact pend_sound TTok mix 19 (hs := [.r (eB v_r112), .r (eB v_r113), .t false, .t true]) (by kernel_rfl) (by kernel_rfl) (by kernel_rfl) (.cons (G_cmp_isNaN_int_ok n v_x109 _ h124) (.cons (G_cmp_isNaN_int_ok n v_y110 _ h125) (.cons (vf h128) (.cons h130 .nil))))
    · rw [if_neg h130] at h
      by_cases h131 : v_x109 < v_y110
      · rw [if_pos h131] at h
        obtain rfl := Option.some.inj h
        exact pend_sound TTok mix 24 (hs := [.r (eB v_r112), .r (eB v_r113), .t false, .t false, .t true]) (by kernel_rfl) (by kernel_rfl) (by kernel_rfl) (.cons (G_cmp_isNaN_int_ok n v_x109 _ h124) (.cons (G_cmp_isNaN_int_ok n v_y110 _ h125) (.cons (vf h128) (.cons (vf h130) (.cons (dt h131) .nil)))))
      · rw [if_neg h131] at h
        by_cases h132 : v_x109 > v_y110
        · rw [if_pos h132] at h
          obtain rfl := Option.some.inj h
          exact pend_sound TTok mix 29 (hs := [.r (eB v_r112), .r (eB v_r113), .t false, .t false, .t false, .t true]) (by kernel_rfl) (by kernel_rfl) (by kernel_rfl) (.cons (G_cmp_isNaN_int_ok n v_x109 _ h124) (.cons (G_cmp_isNaN_int_ok n v_y110 _ h125) (.cons (vf h128) (.cons (vf h130) (.cons (df h131) (.cons (dt h132) .nil))))))
        · rw [if_neg h132] at h
          obtain rfl := Option.some.inj h
          exact pend_sound TTok mix 29 (hs := [.r (eB v_r112), .r (eB v_r113), .t false, .t false, .t false, .t false]) (by kernel_rfl) (by kernel_rfl) (by kernel_rfl) (.cons (G_cmp_isNaN_int_ok n v_x109 _ h124) (.cons (G_cmp_isNaN_int_ok n v_y110 _ h125) (.cons (vf h128) (.cons (vf h130) (.cons (df h131) (.cons (df h132) .nil))))))
inductive G_cmp_Or_int_L1_R where
  | x0 (v_x121 : Int)
  | x1 
def G_cmp_Or_int_L1_ex : G_cmp_Or_int_L1_R → Ex
  | .x0 _ => .ret
  | .x1  => .exit 0
def G_cmp_Or_int_L1_st (v_vals117 : (List Int)) : G_cmp_Or_int_L1_R → PS
  | .x0 v_x121 => ⟨[dd, dd, .d (.v (.int .i64 v_x121)), dd, dd, dd, dd, dd, dd, dd, dd, dd, dd, dd, dd, dd, dd, dd], []⟩
  | .x1  => ⟨[dd, dd, dd, .d (.v (.int .i64 0)), dd, dd, dd, dd, dd, dd, dd, dd, dd, dd, dd, dd, dd, dd], []⟩
def G_cmp_Or_int_L1_hd (v_vals117 : (List Int)) (v_x118 : Int) : PS := ⟨[dd, dd, dd, .d (.v (.int .i64 0)), dd, dd, .d (.sl (v_vals117.map (eI .i64))), .d (.v (.int .i64 (v_vals117.length : Int))), .d (.v (.int .i64 v_x118)), dd, dd, dd, dd, dd, dd, dd, dd, dd], []⟩
def G_cmp_Or_int_L1 (n : Nat) (v_vals117 : (List Int)) : Nat → Int → Option G_cmp_Or_int_L1_R
  | 0, _ => none
  | k + 1, v_x118 =>
    if v_x118 < (v_vals117.length : Int) then
     (getI v_vals117 v_x118).bind fun (v_y120 : Int) =>
     if v_y120 = 0 then
      G_cmp_Or_int_L1 n v_vals117 k (wi .i64 (v_x118 + 1))
     else
      some (.x0 v_y120)
    else
     some (.x1 )
theorem G_cmp_Or_int_L1_ok {Fi : Ex → PS → Prop} (hF : KC 18 Fi) (ks : List Fr) (n : Nat) (v_vals117 : (List Int))  : ∀ (k : Nat) (v_x118 : Int) (o : G_cmp_Or_int_L1_R), G_cmp_Or_int_L1 n v_vals117 k v_x118 = some o → RunE Try.prog 18 Fi ks (G_cmp_Or_int_L1_ex o) (G_cmp_Or_int_L1_st v_vals117 o) → RunE Try.prog 18 Fi (.l k (cP (cB (cR (cL (cR (cR (bodyOf Try.f263))))))) :: ks) .normal (G_cmp_Or_int_L1_hd v_vals117 v_x118)
  | 0, v_x118, o, h, q => by rw [G_cmp_Or_int_L1] at h; cases h
  | k + 1, v_x118, o, h, q => by
    rw [G_cmp_Or_int_L1] at h
    by_cases h136 : v_x118 < (v_vals117.length : Int)
    · rw [if_pos h136] at h
      obtain ⟨v_y120, h139, h⟩ := bind_some h
      by_cases h140 : v_y120 = 0
      · rw [if_pos h140] at h
        exact pkk_sound TTok mix hF 16 (hs := [.t true, .y ((eI .i64) v_y120), .c, .t false]) (ts := []) (s := []) (l := [3, 6, 7, 8]) (by kernel_rfl) (by kernel_rfl) (.cons (dt h136) (.cons (getI_ob (f := (eI .i64)) h139) (.cons (nf h140) .nil))) (G_cmp_Or_int_L1_ok hF ks n v_vals117 k (wi .i64 (v_x118 + 1)) _ h q)
      · rw [if_neg h140] at h
        cases h
        exact pkk_sound TTok mix hF 19 (hs := [.t true, .y ((eI .i64) v_y120), .c, .t true]) (ts := []) (s := []) (l := [2]) (by kernel_rfl) (by kernel_rfl) (.cons (dt h136) (.cons (getI_ob (f := (eI .i64)) h139) (.cons (nt h140) .nil))) q
    · rw [if_neg h136] at h
      cases h
      exact pkk_sound TTok mix hF 8 (hs := [.t false]) (ts := []) (s := []) (l := [3]) (by kernel_rfl) (by kernel_rfl) (.cons (df h136) .nil) q
/- cmp.Or[int] -/
def G_cmp_Or_int (n : Nat) (v_vals117 : (List Int)) : Option (Int) :=
  (G_cmp_Or_int_L1 n v_vals117 n 0).bind fun v_o122 => match v_o122 with
  | .x0 v_z123 =>
    some v_z123
  | .x1  =>
    some 0
theorem G_cmp_Or_int_ok (n : Nat) (v_vals117 : (List Int)) (r : Int) (h : G_cmp_Or_int n v_vals117 = some r) : Ret Try.prog 263 [(eL (eI .i64)) v_vals117] ((eI .i64) r) := by
  refine ret_run (n := 18) (fn := Try.f263) (c := bodyOf Try.f263) (by kernel_rfl) (by kernel_rfl) (by kernel_rfl) (by kernel_rfl) ?_
  have hF : KC 18 (FinR Try.prog Try.f263 ((eI .i64) r)) := FinR.kc' (by kernel_rfl)
  unfold G_cmp_Or_int at h
  obtain ⟨v_o122, h141, h⟩ := bind_some h
  refine pkk_sound TTok mix hF 9 (hs := [.u (.d (.v (.int .i64 (v_vals117.length : Int)))), .n n]) (ts := []) (s := []) (l := [3, 6, 7, 8]) (by kernel_rfl) (by kernel_rfl) (.cons (len_ob (f := (eI .i64)) (l := v_vals117)) .nil) (G_cmp_Or_int_L1_ok hF (.b 0 :: .s (cR (cR (cR (bodyOf Try.f263)))) :: []) n v_vals117 n 0 _ h141 ?_)
  cases v_o122 with
  | x0 v_z123 =>
    try dsimp only at h
    obtain rfl := Option.some.inj h
    exact pend_sound TTok mix 2 (hs := []) (by kernel_rfl) (by kernel_rfl) (by kernel_rfl) .nil
  | x1  =>
    try dsimp only at h
    obtain rfl := Option.some.inj h
    exact pend_sound TTok mix 4 (hs := []) (by kernel_rfl) (by kernel_rfl) (by kernel_rfl) .nil
/- ringhall/oom.ordered$2 -/
def G_oom_ordered_2 (n : Nat) (v_a107 : S_oom_Task) (v_b108 : S_oom_Task) : Option (Int) :=
  (G_cmp_Compare_int n v_a107.fScore v_b108.fScore).bind fun (v_r114 : (Int)) =>
  (G_cmp_Compare_int n v_b108.fPages v_a107.fPages).bind fun (v_r115 : (Int)) =>
  (G_cmp_Compare_int n v_a107.fId v_b108.fId).bind fun (v_r116 : (Int)) =>
  (G_cmp_Or_int n ([v_r114, v_r115, v_r116])).bind fun (v_r124 : (Int)) =>
  some v_r124
theorem G_oom_ordered_2_ok (n : Nat) (v_a107 : S_oom_Task) (v_b108 : S_oom_Task) (r : Int) (h : G_oom_ordered_2 n v_a107 v_b108 = some r) : Ret Try.prog 262 [eS_oom_Task v_a107, eS_oom_Task v_b108] ((eI .i64) r) := by
  refine ret_run (n := 22) (fn := Try.f262) (c := bodyOf Try.f262) (by kernel_rfl) (by kernel_rfl) (by kernel_rfl) (by kernel_rfl) ?_
  have hF : KC 22 (FinR Try.prog Try.f262 ((eI .i64) r)) := FinR.kc' (by kernel_rfl)
  unfold G_oom_ordered_2 at h
  obtain ⟨v_r114, h133, h⟩ := bind_some h
  obtain ⟨v_r115, h134, h⟩ := bind_some h
  obtain ⟨v_r116, h135, h⟩ := bind_some h
  obtain ⟨v_r124, h142, h⟩ := bind_some h
  obtain rfl := Option.some.inj h
  exact pend_sound TTok mix 5 (hs := [.c, .c, .r ((eI .i64) v_r114), .c, .c, .r ((eI .i64) v_r115), .c, .c, .r ((eI .i64) v_r116), .bd, .r ((eI .i64) v_r124)]) (by kernel_rfl) (by kernel_rfl) (by kernel_rfl) (.cons (G_cmp_Compare_int_ok n v_a107.fScore v_b108.fScore _ h133) (.cons (G_cmp_Compare_int_ok n v_b108.fPages v_a107.fPages _ h134) (.cons (G_cmp_Compare_int_ok n v_a107.fId v_b108.fId _ h135) (.cons (G_cmp_Or_int_ok n ([v_r114, v_r115, v_r116]) _ h142) .nil))))
/- math/bits.Len64 -/
def G_math_bits_Len64 (n : Nat) (v_x128 : Int) : Option (Int) :=
  if v_x128 ≥ 4294967296 then
   if (shrI .u64 v_x128 32) ≥ 65536 then
    if (shrI .u64 (shrI .u64 v_x128 32) 16) ≥ 256 then
     (getS (ByteArray.mk #[0, 1, 2, 2, 3, 3, 3, 3, 4, 4, 4, 4, 4, 4, 4, 4, 5, 5, 5, 5, 5, 5, 5, 5, 5, 5, 5, 5, 5, 5, 5, 5, 6, 6, 6, 6, 6, 6, 6, 6, 6, 6, 6, 6, 6, 6, 6, 6, 6, 6, 6, 6, 6, 6, 6, 6, 6, 6, 6, 6, 6, 6, 6, 6, 7, 7, 7, 7, 7, 7, 7, 7, 7, 7, 7, 7, 7, 7, 7, 7, 7, 7, 7, 7, 7, 7, 7, 7, 7, 7, 7, 7, 7, 7, 7, 7, 7, 7, 7, 7, 7, 7, 7, 7, 7, 7, 7, 7, 7, 7, 7, 7, 7, 7, 7, 7, 7, 7, 7, 7, 7, 7, 7, 7, 7, 7, 7, 7, 8, 8, 8, 8, 8, 8, 8, 8, 8, 8, 8, 8, 8, 8, 8, 8, 8, 8, 8, 8, 8, 8, 8, 8, 8, 8, 8, 8, 8, 8, 8, 8, 8, 8, 8, 8, 8, 8, 8, 8, 8, 8, 8, 8, 8, 8, 8, 8, 8, 8, 8, 8, 8, 8, 8, 8, 8, 8, 8, 8, 8, 8, 8, 8, 8, 8, 8, 8, 8, 8, 8, 8, 8, 8, 8, 8, 8, 8, 8, 8, 8, 8, 8, 8, 8, 8, 8, 8, 8, 8, 8, 8, 8, 8, 8, 8, 8, 8, 8, 8, 8, 8, 8, 8, 8, 8, 8, 8, 8, 8, 8, 8, 8, 8, 8, 8, 8, 8, 8, 8, 8, 8, 8, 8, 8, 8, 8, 8]) (wi .u8 (shrI .u64 (shrI .u64 (shrI .u64 v_x128 32) 16) 8))).bind fun (v_y129 : Int) =>
     some (wi .i64 ((wi .i64 ((wi .i64 (32 + 16)) + 8)) + (wi .i64 v_y129)))
    else
     (getS (ByteArray.mk #[0, 1, 2, 2, 3, 3, 3, 3, 4, 4, 4, 4, 4, 4, 4, 4, 5, 5, 5, 5, 5, 5, 5, 5, 5, 5, 5, 5, 5, 5, 5, 5, 6, 6, 6, 6, 6, 6, 6, 6, 6, 6, 6, 6, 6, 6, 6, 6, 6, 6, 6, 6, 6, 6, 6, 6, 6, 6, 6, 6, 6, 6, 6, 6, 7, 7, 7, 7, 7, 7, 7, 7, 7, 7, 7, 7, 7, 7, 7, 7, 7, 7, 7, 7, 7, 7, 7, 7, 7, 7, 7, 7, 7, 7, 7, 7, 7, 7, 7, 7, 7, 7, 7, 7, 7, 7, 7, 7, 7, 7, 7, 7, 7, 7, 7, 7, 7, 7, 7, 7, 7, 7, 7, 7, 7, 7, 7, 7, 8, 8, 8, 8, 8, 8, 8, 8, 8, 8, 8, 8, 8, 8, 8, 8, 8, 8, 8, 8, 8, 8, 8, 8, 8, 8, 8, 8, 8, 8, 8, 8, 8, 8, 8, 8, 8, 8, 8, 8, 8, 8, 8, 8, 8, 8, 8, 8, 8, 8, 8, 8, 8, 8, 8, 8, 8, 8, 8, 8, 8, 8, 8, 8, 8, 8, 8, 8, 8, 8, 8, 8, 8, 8, 8, 8, 8, 8, 8, 8, 8, 8, 8, 8, 8, 8, 8, 8, 8, 8, 8, 8, 8, 8, 8, 8, 8, 8, 8, 8, 8, 8, 8, 8, 8, 8, 8, 8, 8, 8, 8, 8, 8, 8, 8, 8, 8, 8, 8, 8, 8, 8, 8, 8, 8, 8, 8, 8]) (wi .u8 (shrI .u64 (shrI .u64 v_x128 32) 16))).bind fun (v_y130 : Int) =>
     some (wi .i64 ((wi .i64 (32 + 16)) + (wi .i64 v_y130)))
   else
    if (shrI .u64 v_x128 32) ≥ 256 then
     (getS (ByteArray.mk #[0, 1, 2, 2, 3, 3, 3, 3, 4, 4, 4, 4, 4, 4, 4, 4, 5, 5, 5, 5, 5, 5, 5, 5, 5, 5, 5, 5, 5, 5, 5, 5, 6, 6, 6, 6, 6, 6, 6, 6, 6, 6, 6, 6, 6, 6, 6, 6, 6, 6, 6, 6, 6, 6, 6, 6, 6, 6, 6, 6, 6, 6, 6, 6, 7, 7, 7, 7, 7, 7, 7, 7, 7, 7, 7, 7, 7, 7, 7, 7, 7, 7, 7, 7, 7, 7, 7, 7, 7, 7, 7, 7, 7, 7, 7, 7, 7, 7, 7, 7, 7, 7, 7, 7, 7, 7, 7, 7, 7, 7, 7, 7, 7, 7, 7, 7, 7, 7, 7, 7, 7, 7, 7, 7, 7, 7, 7, 7, 8, 8, 8, 8, 8, 8, 8, 8, 8, 8, 8, 8, 8, 8, 8, 8, 8, 8, 8, 8, 8, 8, 8, 8, 8, 8, 8, 8, 8, 8, 8, 8, 8, 8, 8, 8, 8, 8, 8, 8, 8, 8, 8, 8, 8, 8, 8, 8, 8, 8, 8, 8, 8, 8, 8, 8, 8, 8, 8, 8, 8, 8, 8, 8, 8, 8, 8, 8, 8, 8, 8, 8, 8, 8, 8, 8, 8, 8, 8, 8, 8, 8, 8, 8, 8, 8, 8, 8, 8, 8, 8, 8, 8, 8, 8, 8, 8, 8, 8, 8, 8, 8, 8, 8, 8, 8, 8, 8, 8, 8, 8, 8, 8, 8, 8, 8, 8, 8, 8, 8, 8, 8, 8, 8, 8, 8, 8, 8]) (wi .u8 (shrI .u64 (shrI .u64 v_x128 32) 8))).bind fun (v_y131 : Int) =>
     some (wi .i64 ((wi .i64 (32 + 8)) + (wi .i64 v_y131)))
    else
     (getS (ByteArray.mk #[0, 1, 2, 2, 3, 3, 3, 3, 4, 4, 4, 4, 4, 4, 4, 4, 5, 5, 5, 5, 5, 5, 5, 5, 5, 5, 5, 5, 5, 5, 5, 5, 6, 6, 6, 6, 6, 6, 6, 6, 6, 6, 6, 6, 6, 6, 6, 6, 6, 6, 6, 6, 6, 6, 6, 6, 6, 6, 6, 6, 6, 6, 6, 6, 7, 7, 7, 7, 7, 7, 7, 7, 7, 7, 7, 7, 7, 7, 7, 7, 7, 7, 7, 7, 7, 7, 7, 7, 7, 7, 7, 7, 7, 7, 7, 7, 7, 7, 7, 7, 7, 7, 7, 7, 7, 7, 7, 7, 7, 7, 7, 7, 7, 7, 7, 7, 7, 7, 7, 7, 7, 7, 7, 7, 7, 7, 7, 7, 8, 8, 8, 8, 8, 8, 8, 8, 8, 8, 8, 8, 8, 8, 8, 8, 8, 8, 8, 8, 8, 8, 8, 8, 8, 8, 8, 8, 8, 8, 8, 8, 8, 8, 8, 8, 8, 8, 8, 8, 8, 8, 8, 8, 8, 8, 8, 8, 8, 8, 8, 8, 8, 8, 8, 8, 8, 8, 8, 8, 8, 8, 8, 8, 8, 8, 8, 8, 8, 8, 8, 8, 8, 8, 8, 8, 8, 8, 8, 8, 8, 8, 8, 8, 8, 8, 8, 8, 8, 8, 8, 8, 8, 8, 8, 8, 8, 8, 8, 8, 8, 8, 8, 8, 8, 8, 8, 8, 8, 8, 8, 8, 8, 8, 8, 8, 8, 8, 8, 8, 8, 8, 8, 8, 8, 8, 8, 8]) (wi .u8 (shrI .u64 v_x128 32))).bind fun (v_y132 : Int) =>
     some (wi .i64 (32 + (wi .i64 v_y132)))
  else
   if v_x128 ≥ 65536 then
    if (shrI .u64 v_x128 16) ≥ 256 then
     (getS (ByteArray.mk #[0, 1, 2, 2, 3, 3, 3, 3, 4, 4, 4, 4, 4, 4, 4, 4, 5, 5, 5, 5, 5, 5, 5, 5, 5, 5, 5, 5, 5, 5, 5, 5, 6, 6, 6, 6, 6, 6, 6, 6, 6, 6, 6, 6, 6, 6, 6, 6, 6, 6, 6, 6, 6, 6, 6, 6, 6, 6, 6, 6, 6, 6, 6, 6, 7, 7, 7, 7, 7, 7, 7, 7, 7, 7, 7, 7, 7, 7, 7, 7, 7, 7, 7, 7, 7, 7, 7, 7, 7, 7, 7, 7, 7, 7, 7, 7, 7, 7, 7, 7, 7, 7, 7, 7, 7, 7, 7, 7, 7, 7, 7, 7, 7, 7, 7, 7, 7, 7, 7, 7, 7, 7, 7, 7, 7, 7, 7, 7, 8, 8, 8, 8, 8, 8, 8, 8, 8, 8, 8, 8, 8, 8, 8, 8, 8, 8, 8, 8, 8, 8, 8, 8, 8, 8, 8, 8, 8, 8, 8, 8, 8, 8, 8, 8, 8, 8, 8, 8, 8, 8, 8, 8, 8, 8, 8, 8, 8, 8, 8, 8, 8, 8, 8, 8, 8, 8, 8, 8, 8, 8, 8, 8, 8, 8, 8, 8, 8, 8, 8, 8, 8, 8, 8, 8, 8, 8, 8, 8, 8, 8, 8, 8, 8, 8, 8, 8, 8, 8, 8, 8, 8, 8, 8, 8, 8, 8, 8, 8, 8, 8, 8, 8, 8, 8, 8, 8, 8, 8, 8, 8, 8, 8, 8, 8, 8, 8, 8, 8, 8, 8, 8, 8, 8, 8, 8, 8]) (wi .u8 (shrI .u64 (shrI .u64 v_x128 16) 8))).bind fun (v_y133 : Int) =>
     some (wi .i64 ((wi .i64 ((wi .i64 (0 + 16)) + 8)) + (wi .i64 v_y133)))
    else
     (getS (ByteArray.mk #[0, 1, 2, 2, 3, 3, 3, 3, 4, 4, 4, 4, 4, 4, 4, 4, 5, 5, 5, 5, 5, 5, 5, 5, 5, 5, 5, 5, 5, 5, 5, 5, 6, 6, 6, 6, 6, 6, 6, 6, 6, 6, 6, 6, 6, 6, 6, 6, 6, 6, 6, 6, 6, 6, 6, 6, 6, 6, 6, 6, 6, 6, 6, 6, 7, 7, 7, 7, 7, 7, 7, 7, 7, 7, 7, 7, 7, 7, 7, 7, 7, 7, 7, 7, 7, 7, 7, 7, 7, 7, 7, 7, 7, 7, 7, 7, 7, 7, 7, 7, 7, 7, 7, 7, 7, 7, 7, 7, 7, 7, 7, 7, 7, 7, 7, 7, 7, 7, 7, 7, 7, 7, 7, 7, 7, 7, 7, 7, 8, 8, 8, 8, 8, 8, 8, 8, 8, 8, 8, 8, 8, 8, 8, 8, 8, 8, 8, 8, 8, 8, 8, 8, 8, 8, 8, 8, 8, 8, 8, 8, 8, 8, 8, 8, 8, 8, 8, 8, 8, 8, 8, 8, 8, 8, 8, 8, 8, 8, 8, 8, 8, 8, 8, 8, 8, 8, 8, 8, 8, 8, 8, 8, 8, 8, 8, 8, 8, 8, 8, 8, 8, 8, 8, 8, 8, 8, 8, 8, 8, 8, 8, 8, 8, 8, 8, 8, 8, 8, 8, 8, 8, 8, 8, 8, 8, 8, 8, 8, 8, 8, 8, 8, 8, 8, 8, 8, 8, 8, 8, 8, 8, 8, 8, 8, 8, 8, 8, 8, 8, 8, 8, 8, 8, 8, 8, 8]) (wi .u8 (shrI .u64 v_x128 16))).bind fun (v_y134 : Int) =>
     some (wi .i64 ((wi .i64 (0 + 16)) + (wi .i64 v_y134)))
   else
    if v_x128 ≥ 256 then
     (getS (ByteArray.mk #[0, 1, 2, 2, 3, 3, 3, 3, 4, 4, 4, 4, 4, 4, 4, 4, 5, 5, 5, 5, 5, 5, 5, 5, 5, 5, 5, 5, 5, 5, 5, 5, 6, 6, 6, 6, 6, 6, 6, 6, 6, 6, 6, 6, 6, 6, 6, 6, 6, 6, 6, 6, 6, 6, 6, 6, 6, 6, 6, 6, 6, 6, 6, 6, 7, 7, 7, 7, 7, 7, 7, 7, 7, 7, 7, 7, 7, 7, 7, 7, 7, 7, 7, 7, 7, 7, 7, 7, 7, 7, 7, 7, 7, 7, 7, 7, 7, 7, 7, 7, 7, 7, 7, 7, 7, 7, 7, 7, 7, 7, 7, 7, 7, 7, 7, 7, 7, 7, 7, 7, 7, 7, 7, 7, 7, 7, 7, 7, 8, 8, 8, 8, 8, 8, 8, 8, 8, 8, 8, 8, 8, 8, 8, 8, 8, 8, 8, 8, 8, 8, 8, 8, 8, 8, 8, 8, 8, 8, 8, 8, 8, 8, 8, 8, 8, 8, 8, 8, 8, 8, 8, 8, 8, 8, 8, 8, 8, 8, 8, 8, 8, 8, 8, 8, 8, 8, 8, 8, 8, 8, 8, 8, 8, 8, 8, 8, 8, 8, 8, 8, 8, 8, 8, 8, 8, 8, 8, 8, 8, 8, 8, 8, 8, 8, 8, 8, 8, 8, 8, 8, 8, 8, 8, 8, 8, 8, 8, 8, 8, 8, 8, 8, 8, 8, 8, 8, 8, 8, 8, 8, 8, 8, 8, 8, 8, 8, 8, 8, 8, 8, 8, 8, 8, 8, 8, 8]) (wi .u8 (shrI .u64 v_x128 8))).bind fun (v_y135 : Int) =>
     some (wi .i64 ((wi .i64 (0 + 8)) + (wi .i64 v_y135)))
    else
     (getS (ByteArray.mk #[0, 1, 2, 2, 3, 3, 3, 3, 4, 4, 4, 4, 4, 4, 4, 4, 5, 5, 5, 5, 5, 5, 5, 5, 5, 5, 5, 5, 5, 5, 5, 5, 6, 6, 6, 6, 6, 6, 6, 6, 6, 6, 6, 6, 6, 6, 6, 6, 6, 6, 6, 6, 6, 6, 6, 6, 6, 6, 6, 6, 6, 6, 6, 6, 7, 7, 7, 7, 7, 7, 7, 7, 7, 7, 7, 7, 7, 7, 7, 7, 7, 7, 7, 7, 7, 7, 7, 7, 7, 7, 7, 7, 7, 7, 7, 7, 7, 7, 7, 7, 7, 7, 7, 7, 7, 7, 7, 7, 7, 7, 7, 7, 7, 7, 7, 7, 7, 7, 7, 7, 7, 7, 7, 7, 7, 7, 7, 7, 8, 8, 8, 8, 8, 8, 8, 8, 8, 8, 8, 8, 8, 8, 8, 8, 8, 8, 8, 8, 8, 8, 8, 8, 8, 8, 8, 8, 8, 8, 8, 8, 8, 8, 8, 8, 8, 8, 8, 8, 8, 8, 8, 8, 8, 8, 8, 8, 8, 8, 8, 8, 8, 8, 8, 8, 8, 8, 8, 8, 8, 8, 8, 8, 8, 8, 8, 8, 8, 8, 8, 8, 8, 8, 8, 8, 8, 8, 8, 8, 8, 8, 8, 8, 8, 8, 8, 8, 8, 8, 8, 8, 8, 8, 8, 8, 8, 8, 8, 8, 8, 8, 8, 8, 8, 8, 8, 8, 8, 8, 8, 8, 8, 8, 8, 8, 8, 8, 8, 8, 8, 8, 8, 8, 8, 8, 8, 8]) (wi .u8 v_x128)).bind fun (v_y136 : Int) =>
     some (wi .i64 (0 + (wi .i64 v_y136)))
theorem G_math_bits_Len64_ok (n : Nat) (v_x128 : Int) (r : Int) (h : G_math_bits_Len64 n v_x128 = some r) : Ret Try.prog 294 [(eI .u64) v_x128] ((eI .i64) r) := by
  refine ret_run (n := 25) (fn := Try.f294) (c := bodyOf Try.f294) (by kernel_rfl) (by kernel_rfl) (by kernel_rfl) (by kernel_rfl) ?_
  have hF : KC 25 (FinR Try.prog Try.f294 ((eI .i64) r)) := FinR.kc' (by kernel_rfl)
  unfold G_math_bits_Len64 at h
  by_cases h145 : v_x128 ≥ 4294967296
  · rw [if_pos h145] at h
    by_cases h149 : (shrI .u64 v_x128 32) ≥ 65536
    · rw [if_pos h149] at h
      by_cases h153 : (shrI .u64 (shrI .u64 v_x128 32) 16) ≥ 256
      · rw [if_pos h153] at h
        obtain ⟨v_y129, h155, h⟩ := bind_some h
        obtain rfl := Option.some.inj h
        exact pend_sound TTok mix 26 (hs := [.t true, .t true, .t true, .l (.d (.v (.int .u8 v_y129)))]) (by kernel_rfl) (by kernel_rfl) (by kernel_rfl) (.cons (dt h145) (.cons (show (0 : Int) ≤ 32 by decide) (.cons (dt h149) (.cons (show (0 : Int) ≤ 16 by decide) (.cons (dt h153) (.cons (show (0 : Int) ≤ 8 by decide) (.cons (getS_ob h155) .nil)))))))
      · rw [if_neg h153] at h
        obtain ⟨v_y130, h156, h⟩ := bind_some h
        obtain rfl := Option.some.inj h
        exact pend_sound TTok mix 24 (hs := [.t true, .t true, .t false, .l (.d (.v (.int .u8 v_y130)))]) (by kernel_rfl) (by kernel_rfl) (by kernel_rfl) (.cons (dt h145) (.cons (show (0 : Int) ≤ 32 by decide) (.cons (dt h149) (.cons (show (0 : Int) ≤ 16 by decide) (.cons (df h153) (.cons (getS_ob h156) .nil))))))
    · rw [if_neg h149] at h
      by_cases h159 : (shrI .u64 v_x128 32) ≥ 256
      · rw [if_pos h159] at h
        obtain ⟨v_y131, h161, h⟩ := bind_some h
        obtain rfl := Option.some.inj h
        exact pend_sound TTok mix 24 (hs := [.t true, .t false, .t true, .l (.d (.v (.int .u8 v_y131)))]) (by kernel_rfl) (by kernel_rfl) (by kernel_rfl) (.cons (dt h145) (.cons (show (0 : Int) ≤ 32 by decide) (.cons (df h149) (.cons (dt h159) (.cons (show (0 : Int) ≤ 8 by decide) (.cons (getS_ob h161) .nil))))))
      · rw [if_neg h159] at h
        obtain ⟨v_y132, h162, h⟩ := bind_some h
        obtain rfl := Option.some.inj h
        exact pend_sound TTok mix 22 (hs := [.t true, .t false, .t false, .l (.d (.v (.int .u8 v_y132)))]) (by kernel_rfl) (by kernel_rfl) (by kernel_rfl) (.cons (dt h145) (.cons (show (0 : Int) ≤ 32 by decide) (.cons (df h149) (.cons (df h159) (.cons (getS_ob h162) .nil)))))
  · rw [if_neg h145] at h
    by_cases h165 : v_x128 ≥ 65536
    · rw [if_pos h165] at h
      by_cases h169 : (shrI .u64 v_x128 16) ≥ 256
      · rw [if_pos h169] at h
        obtain ⟨v_y133, h171, h⟩ := bind_some h
        obtain rfl := Option.some.inj h
        exact pend_sound TTok mix 24 (hs := [.t false, .t true, .t true, .l (.d (.v (.int .u8 v_y133)))]) (by kernel_rfl) (by kernel_rfl) (by kernel_rfl) (.cons (df h145) (.cons (dt h165) (.cons (show (0 : Int) ≤ 16 by decide) (.cons (dt h169) (.cons (show (0 : Int) ≤ 8 by decide) (.cons (getS_ob h171) .nil))))))
      · rw [if_neg h169] at h
        obtain ⟨v_y134, h172, h⟩ := bind_some h
        obtain rfl := Option.some.inj h
        exact pend_sound TTok mix 22 (hs := [.t false, .t true, .t false, .l (.d (.v (.int .u8 v_y134)))]) (by kernel_rfl) (by kernel_rfl) (by kernel_rfl) (.cons (df h145) (.cons (dt h165) (.cons (show (0 : Int) ≤ 16 by decide) (.cons (df h169) (.cons (getS_ob h172) .nil)))))
    · rw [if_neg h165] at h
      by_cases h175 : v_x128 ≥ 256
      · rw [if_pos h175] at h
        obtain ⟨v_y135, h177, h⟩ := bind_some h
        obtain rfl := Option.some.inj h
        exact pend_sound TTok mix 22 (hs := [.t false, .t false, .t true, .l (.d (.v (.int .u8 v_y135)))]) (by kernel_rfl) (by kernel_rfl) (by kernel_rfl) (.cons (df h145) (.cons (df h165) (.cons (dt h175) (.cons (show (0 : Int) ≤ 8 by decide) (.cons (getS_ob h177) .nil)))))
      · rw [if_neg h175] at h
        obtain ⟨v_y136, h178, h⟩ := bind_some h
        obtain rfl := Option.some.inj h
        exact pend_sound TTok mix 20 (hs := [.t false, .t false, .t false, .l (.d (.v (.int .u8 v_y136)))]) (by kernel_rfl) (by kernel_rfl) (by kernel_rfl) (.cons (df h145) (.cons (df h165) (.cons (df h175) (.cons (getS_ob h178) .nil))))
/- math/bits.Len -/
def G_math_bits_Len (n : Nat) (v_x127 : Int) : Option (Int) :=
  (G_math_bits_Len64 n v_x127).bind fun (v_r137 : (Int)) =>
  some v_r137
theorem G_math_bits_Len_ok (n : Nat) (v_x127 : Int) (r : Int) (h : G_math_bits_Len n v_x127 = some r) : Ret Try.prog 265 [(eI .u64) v_x127] ((eI .i64) r) := by
  refine ret_run (n := 8) (fn := Try.f265) (c := bodyOf Try.f265) (by kernel_rfl) (by kernel_rfl) (by kernel_rfl) (by kernel_rfl) ?_
  have hF : KC 8 (FinR Try.prog Try.f265 ((eI .i64) r)) := FinR.kc' (by kernel_rfl)
  unfold G_math_bits_Len at h
  obtain ⟨v_r137, h179, h⟩ := bind_some h
  obtain rfl := Option.some.inj h
  exact pend_sound TTok mix 8 (hs := [.c, .r ((eI .i64) v_r137)]) (by kernel_rfl) (by kernel_rfl) (by kernel_rfl) (.cons (G_math_bits_Len64_ok n v_x127 _ h179) .nil)
inductive G_slices_insertionSortCmpFunc_oom_Task_h_L1_R where
  | x0 (v_w172 : (List S_oom_Task))
def G_slices_insertionSortCmpFunc_oom_Task_h_L1_ex : G_slices_insertionSortCmpFunc_oom_Task_h_L1_R → Ex
  | .x0 _ => .exit 2
def G_slices_insertionSortCmpFunc_oom_Task_h_L1_st (v_a151 : Int) (v_b152 : Int) (v_cmp153 : (S_oom_Task → S_oom_Task → Option (Int))) (v_i154 : Int) (v_cmp153_g : FuncId) (v_cmp153_c : (List PV)) : G_slices_insertionSortCmpFunc_oom_Task_h_L1_R → PS
  | .x0 v_w172 => ⟨[.srf 1, .d (.v (.int .i64 v_a151)), .d (.v (.int .i64 v_b152)), .d (.clo v_cmp153_g v_cmp153_c), dd, dd, dd, dd, .d (.v (.int .i64 v_i154)), dd, dd, dd, dd, dd, dd, dd, dd, dd, dd, dd, dd, dd, dd, dd, dd, dd, dd, dd, dd, dd, dd, dd, dd, dd, dd, dd, dd, dd, dd, dd, dd, dd, dd, dd, dd, dd, dd, dd, dd, dd, dd, dd, dd], [.gh 0 (.srf 1), .row 207 4 (v_w172.map eS_oom_Task)]⟩
def G_slices_insertionSortCmpFunc_oom_Task_h_L1_hd (v_a151 : Int) (v_b152 : Int) (v_cmp153 : (S_oom_Task → S_oom_Task → Option (Int))) (v_i154 : Int) (v_cmp153_g : FuncId) (v_cmp153_c : (List PV)) (v_j156 : Int) (v_w157 : (List S_oom_Task)) : PS := ⟨[.srf 1, .d (.v (.int .i64 v_a151)), .d (.v (.int .i64 v_b152)), .d (.clo v_cmp153_g v_cmp153_c), dd, dd, dd, dd, .d (.v (.int .i64 v_i154)), .d (.v (.int .i64 v_j156)), dd, dd, dd, dd, dd, dd, dd, dd, dd, dd, dd, dd, dd, dd, dd, dd, dd, dd, dd, dd, dd, dd, dd, dd, dd, dd, dd, dd, dd, dd, dd, dd, dd, dd, dd, dd, dd, dd, dd, dd, dd, dd, dd], [.gh 0 (.srf 1), .row 207 4 (v_w157.map eS_oom_Task)]⟩
def G_slices_insertionSortCmpFunc_oom_Task_h_L1 (n : Nat) (v_a151 : Int) (v_b152 : Int) (v_cmp153 : (S_oom_Task → S_oom_Task → Option (Int))) (v_i154 : Int) : Nat → Int → (List S_oom_Task) → Option G_slices_insertionSortCmpFunc_oom_Task_h_L1_R
  | 0, _, _ => none
  | k + 1, v_j156, v_w157 =>
    if v_j156 > v_a151 then
     if 0 ≤ v_j156 ∧ (v_j156).toNat < v_w157.length then
      (v_w157[(v_j156).toNat]?).bind fun (v_y161 : S_oom_Task) =>
      if 0 ≤ (wi .i64 (v_j156 - 1)) ∧ ((wi .i64 (v_j156 - 1))).toNat < v_w157.length then
       (v_w157[((wi .i64 (v_j156 - 1))).toNat]?).bind fun (v_y162 : S_oom_Task) =>
       (v_cmp153 v_y161 v_y162).bind fun (v_r163 : (Int)) =>
       if v_r163 < 0 then
        if 0 ≤ (wi .i64 (v_j156 - 1)) ∧ ((wi .i64 (v_j156 - 1))).toNat < v_w157.length then
         (v_w157[((wi .i64 (v_j156 - 1))).toNat]?).bind fun (v_y168 : S_oom_Task) =>
         if 0 ≤ v_j156 ∧ (v_j156).toNat < v_w157.length then
          (v_w157[(v_j156).toNat]?).bind fun (v_y169 : S_oom_Task) =>
          if 0 ≤ v_j156 ∧ (v_j156).toNat < v_w157.length then
           (v_w157[(v_j156).toNat]?).bind fun (v_y170 : S_oom_Task) =>
           if 0 ≤ (wi .i64 (v_j156 - 1)) ∧ ((wi .i64 (v_j156 - 1))).toNat < (v_w157.set (v_j156).toNat v_y168).length then
            ((v_w157.set (v_j156).toNat v_y168)[((wi .i64 (v_j156 - 1))).toNat]?).bind fun (v_y171 : S_oom_Task) =>
            G_slices_insertionSortCmpFunc_oom_Task_h_L1 n v_a151 v_b152 v_cmp153 v_i154 k (wi .i64 (v_j156 - 1)) ((v_w157.set (v_j156).toNat v_y168).set ((wi .i64 (v_j156 - 1))).toNat v_y169)
           else none
          else none
         else none
        else none
       else
        some (.x0 v_w157)
      else none
     else none
    else
     some (.x0 v_w157)
theorem G_slices_insertionSortCmpFunc_oom_Task_h_L1_ok {Fi : Ex → PS → Prop} (hF : KC 53 Fi) (ks : List Fr) (n : Nat) (v_a151 : Int) (v_b152 : Int) (v_cmp153 : (S_oom_Task → S_oom_Task → Option (Int))) (v_i154 : Int) (v_cmp153_g : FuncId) (v_cmp153_c : (List PV)) (v_cmp153_h : ∀ (x0 : S_oom_Task) (x1 : S_oom_Task) (r : Int), v_cmp153 x0 x1 = some r → Ret Try.prog v_cmp153_g ([eS_oom_Task x0, eS_oom_Task x1] ++ v_cmp153_c) ((eI .i64) r)) : ∀ (k : Nat) (v_j156 : Int) (v_w157 : (List S_oom_Task)) (o : G_slices_insertionSortCmpFunc_oom_Task_h_L1_R), G_slices_insertionSortCmpFunc_oom_Task_h_L1 n v_a151 v_b152 v_cmp153 v_i154 k v_j156 v_w157 = some o → RunE Try.prog 53 Fi ks (G_slices_insertionSortCmpFunc_oom_Task_h_L1_ex o) (G_slices_insertionSortCmpFunc_oom_Task_h_L1_st v_a151 v_b152 v_cmp153 v_i154 v_cmp153_g v_cmp153_c o) → RunE Try.prog 53 Fi (.l k (cP (cB (cR (cB (cL (cR (cP (cB (cR (bodyOf Try.f285)))))))))) :: ks) .normal (G_slices_insertionSortCmpFunc_oom_Task_h_L1_hd v_a151 v_b152 v_cmp153 v_i154 v_cmp153_g v_cmp153_c v_j156 v_w157)
  | 0, v_j156, v_w157, o, h, q => by rw [G_slices_insertionSortCmpFunc_oom_Task_h_L1] at h; cases h
  | k + 1, v_j156, v_w157, o, h, q => by
    rw [G_slices_insertionSortCmpFunc_oom_Task_h_L1] at h
    by_cases h189 : v_j156 > v_a151
    · rw [if_pos h189] at h
      by_cases h190 : 0 ≤ v_j156 ∧ (v_j156).toNat < v_w157.length
      · rw [if_pos h190] at h
        obtain ⟨v_y161, h191, h⟩ := bind_some h
        by_cases h192 : 0 ≤ (wi .i64 (v_j156 - 1)) ∧ ((wi .i64 (v_j156 - 1))).toNat < v_w157.length
        · rw [if_pos h192] at h
          obtain ⟨v_y162, h193, h⟩ := bind_some h
          obtain ⟨v_r163, h194, h⟩ := bind_some h
          by_cases h195 : v_r163 < 0
          · rw [if_pos h195] at h
            by_cases h204 : 0 ≤ (wi .i64 (v_j156 - 1)) ∧ ((wi .i64 (v_j156 - 1))).toNat < v_w157.length
            · rw [if_pos h204] at h
              obtain ⟨v_y168, h205, h⟩ := bind_some h
              by_cases h206 : 0 ≤ v_j156 ∧ (v_j156).toNat < v_w157.length
              · rw [if_pos h206] at h
                obtain ⟨v_y169, h207, h⟩ := bind_some h
                by_cases h208 : 0 ≤ v_j156 ∧ (v_j156).toNat < v_w157.length
                · rw [if_pos h208] at h
                  obtain ⟨v_y170, h209, h⟩ := bind_some h
                  by_cases h210 : 0 ≤ (wi .i64 (v_j156 - 1)) ∧ ((wi .i64 (v_j156 - 1))).toNat < (v_w157.set (v_j156).toNat v_y168).length
                  · rw [if_pos h210] at h
                    obtain ⟨v_y171, h211, h⟩ := bind_some h
                    exact pkk_sound TTok mix hF 11 (hs := [.t true, .c, .c, .c, .c, .y (eS_oom_Task v_y161), .c, .c, .c, .c, .c, .y (eS_oom_Task v_y162), .c, .r ((eI .i64) v_r163), .c, .t true, .y (eS_oom_Task v_y168), .y (eS_oom_Task v_y169), .w ((v_w157.set (v_j156).toNat v_y168).map eS_oom_Task), .y (eS_oom_Task v_y170), .w (((v_w157.set (v_j156).toNat v_y168).set ((wi .i64 (v_j156 - 1))).toNat v_y169).map eS_oom_Task), .y (eS_oom_Task v_y171)]) (ts := []) (s := [0, 1]) (l := [0, 1, 2, 3, 8, 9]) (by kernel_rfl) (by kernel_rfl) (.cons (dt h189) (.cons (idx_ob (f := eS_oom_Task) h190) (.cons (get_ob (f := eS_oom_Task) h191) (.cons (idx_ob (f := eS_oom_Task) h192) (.cons (get_ob (f := eS_oom_Task) h193) (.cons (v_cmp153_h v_y161 v_y162 _ h194) (.cons (dt h195) (.cons (idx_ob (f := eS_oom_Task) h204) (.cons (get_ob (f := eS_oom_Task) h205) (.cons (idx_ob (f := eS_oom_Task) h206) (.cons (get_ob (f := eS_oom_Task) h207) (.cons (idx_ob (f := eS_oom_Task) h208) (.cons (get_ob (f := eS_oom_Task) h209) (.cons (Eq.refl (pcells (.agg [.v (.int .i64 v_y168.fId), .v (.int .i64 v_y168.fPages), .v (.int .i64 v_y168.fScore), .v (.bool v_y168.fKept)]))) (.cons (set_ob (f := eS_oom_Task) (l := v_w157) (k := (v_j156).toNat) (z := v_y168) (p := .agg [.v (.int .i64 v_y168.fId), .v (.int .i64 v_y168.fPages), .v (.int .i64 v_y168.fScore), .v (.bool v_y168.fKept)]) rfl) (.cons (idx_ob (f := eS_oom_Task) h210) (.cons (get_ob (f := eS_oom_Task) h211) (.cons (Eq.refl (pcells (.agg [.v (.int .i64 v_y169.fId), .v (.int .i64 v_y169.fPages), .v (.int .i64 v_y169.fScore), .v (.bool v_y169.fKept)]))) (.cons (set_ob (f := eS_oom_Task) (l := (v_w157.set (v_j156).toNat v_y168)) (k := ((wi .i64 (v_j156 - 1))).toNat) (z := v_y169) (p := .agg [.v (.int .i64 v_y169.fId), .v (.int .i64 v_y169.fPages), .v (.int .i64 v_y169.fScore), .v (.bool v_y169.fKept)]) rfl) .nil))))))))))))))))))) (G_slices_insertionSortCmpFunc_oom_Task_h_L1_ok hF ks n v_a151 v_b152 v_cmp153 v_i154 v_cmp153_g v_cmp153_c v_cmp153_h k (wi .i64 (v_j156 - 1)) ((v_w157.set (v_j156).toNat v_y168).set ((wi .i64 (v_j156 - 1))).toNat v_y169) _ h q)
                  · rw [if_neg h210] at h; cases h
                · rw [if_neg h208] at h; cases h
              · rw [if_neg h206] at h; cases h
            · rw [if_neg h204] at h; cases h
          · rw [if_neg h195] at h
            cases h
            exact pkk_sound TTok mix hF 8 (hs := [.t true, .c, .c, .c, .c, .y (eS_oom_Task v_y161), .c, .c, .c, .c, .c, .y (eS_oom_Task v_y162), .c, .r ((eI .i64) v_r163), .c, .t false]) (ts := []) (s := [0, 1]) (l := [0, 1, 2, 3, 8]) (by kernel_rfl) (by kernel_rfl) (.cons (dt h189) (.cons (idx_ob (f := eS_oom_Task) h190) (.cons (get_ob (f := eS_oom_Task) h191) (.cons (idx_ob (f := eS_oom_Task) h192) (.cons (get_ob (f := eS_oom_Task) h193) (.cons (v_cmp153_h v_y161 v_y162 _ h194) (.cons (df h195) .nil))))))) q
        · rw [if_neg h192] at h; cases h
      · rw [if_neg h190] at h; cases h
    · rw [if_neg h189] at h
      cases h
      exact pkk_sound TTok mix hF 8 (hs := [.t false, .c, .c, .c, .c, .c, .c, .c, .c, .c, .c, .c, .c]) (ts := []) (s := [0, 1]) (l := [0, 1, 2, 3, 8]) (by kernel_rfl) (by kernel_rfl) (.cons (df h189) .nil) q
inductive G_slices_insertionSortCmpFunc_oom_Task_h_L2_R where
  | x0 (v_w176 : (List S_oom_Task))
def G_slices_insertionSortCmpFunc_oom_Task_h_L2_ex : G_slices_insertionSortCmpFunc_oom_Task_h_L2_R → Ex
  | .x0 _ => .exit 0
def G_slices_insertionSortCmpFunc_oom_Task_h_L2_st (v_a151 : Int) (v_b152 : Int) (v_cmp153 : (S_oom_Task → S_oom_Task → Option (Int))) (v_cmp153_g : FuncId) (v_cmp153_c : (List PV)) : G_slices_insertionSortCmpFunc_oom_Task_h_L2_R → PS
  | .x0 v_w176 => ⟨[dd, dd, dd, dd, dd, dd, dd, dd, dd, dd, dd, dd, dd, dd, dd, dd, dd, dd, dd, dd, dd, dd, dd, dd, dd, dd, dd, dd, dd, dd, dd, dd, dd, dd, dd, dd, dd, dd, dd, dd, dd, dd, dd, dd, dd, dd, dd, dd, dd, dd, dd, dd, dd], [.gh 0 (.srf 1), .row 207 4 (v_w176.map eS_oom_Task)]⟩
def G_slices_insertionSortCmpFunc_oom_Task_h_L2_hd (v_a151 : Int) (v_b152 : Int) (v_cmp153 : (S_oom_Task → S_oom_Task → Option (Int))) (v_cmp153_g : FuncId) (v_cmp153_c : (List PV)) (v_i154 : Int) (v_w155 : (List S_oom_Task)) : PS := ⟨[.srf 1, .d (.v (.int .i64 v_a151)), .d (.v (.int .i64 v_b152)), .d (.clo v_cmp153_g v_cmp153_c), dd, dd, dd, dd, .d (.v (.int .i64 v_i154)), dd, dd, dd, dd, dd, dd, dd, dd, dd, dd, dd, dd, dd, dd, dd, dd, dd, dd, dd, dd, dd, dd, dd, dd, dd, dd, dd, dd, dd, dd, dd, dd, dd, dd, dd, dd, dd, dd, dd, dd, dd, dd, dd, dd], [.gh 0 (.srf 1), .row 207 4 (v_w155.map eS_oom_Task)]⟩
def G_slices_insertionSortCmpFunc_oom_Task_h_L2 (n : Nat) (v_a151 : Int) (v_b152 : Int) (v_cmp153 : (S_oom_Task → S_oom_Task → Option (Int))) : Nat → Int → (List S_oom_Task) → Option G_slices_insertionSortCmpFunc_oom_Task_h_L2_R
  | 0, _, _ => none
  | k + 1, v_i154, v_w155 =>
    if v_i154 < v_b152 then
     (G_slices_insertionSortCmpFunc_oom_Task_h_L1 n v_a151 v_b152 v_cmp153 v_i154 n v_i154 v_w155).bind fun v_o174 => match v_o174 with
     | .x0 v_z175 =>
       G_slices_insertionSortCmpFunc_oom_Task_h_L2 n v_a151 v_b152 v_cmp153 k (wi .i64 (v_i154 + 1)) v_z175
    else
     some (.x0 v_w155)
theorem G_slices_insertionSortCmpFunc_oom_Task_h_L2_ok {Fi : Ex → PS → Prop} (hF : KC 53 Fi) (ks : List Fr) (n : Nat) (v_a151 : Int) (v_b152 : Int) (v_cmp153 : (S_oom_Task → S_oom_Task → Option (Int))) (v_cmp153_g : FuncId) (v_cmp153_c : (List PV)) (v_cmp153_h : ∀ (x0 : S_oom_Task) (x1 : S_oom_Task) (r : Int), v_cmp153 x0 x1 = some r → Ret Try.prog v_cmp153_g ([eS_oom_Task x0, eS_oom_Task x1] ++ v_cmp153_c) ((eI .i64) r)) : ∀ (k : Nat) (v_i154 : Int) (v_w155 : (List S_oom_Task)) (o : G_slices_insertionSortCmpFunc_oom_Task_h_L2_R), G_slices_insertionSortCmpFunc_oom_Task_h_L2 n v_a151 v_b152 v_cmp153 k v_i154 v_w155 = some o → RunE Try.prog 53 Fi ks (G_slices_insertionSortCmpFunc_oom_Task_h_L2_ex o) (G_slices_insertionSortCmpFunc_oom_Task_h_L2_st v_a151 v_b152 v_cmp153 v_cmp153_g v_cmp153_c o) → RunE Try.prog 53 Fi (.l k (cP (cB (cR (bodyOf Try.f285)))) :: ks) .normal (G_slices_insertionSortCmpFunc_oom_Task_h_L2_hd v_a151 v_b152 v_cmp153 v_cmp153_g v_cmp153_c v_i154 v_w155)
  | 0, v_i154, v_w155, o, h, q => by rw [G_slices_insertionSortCmpFunc_oom_Task_h_L2] at h; cases h
  | k + 1, v_i154, v_w155, o, h, q => by
    rw [G_slices_insertionSortCmpFunc_oom_Task_h_L2] at h
    by_cases h182 : v_i154 < v_b152
    · rw [if_pos h182] at h
      obtain ⟨v_o174, h212, h⟩ := bind_some h
      refine pkk_sound TTok mix hF 12 (hs := [.t true, .n n]) (ts := []) (s := [0, 1]) (l := [0, 1, 2, 3, 8, 9]) (by kernel_rfl) (by kernel_rfl) (.cons (dt h182) .nil) (G_slices_insertionSortCmpFunc_oom_Task_h_L1_ok hF (.b 2 :: .b 1 :: .s (cR (cR (cP (cB (cR (bodyOf Try.f285)))))) :: .l k (cP (cB (cR (bodyOf Try.f285)))) :: ks) n v_a151 v_b152 v_cmp153 v_i154 v_cmp153_g v_cmp153_c v_cmp153_h n v_i154 v_w155 _ h212 ?_)
      cases v_o174 with
      | x0 v_z175 =>
        try dsimp only at h
        exact pkk_sound TTok mix hF 3 (hs := []) (ts := []) (s := [0, 1]) (l := [0, 1, 2, 3, 8]) (by kernel_rfl) (by kernel_rfl) .nil (G_slices_insertionSortCmpFunc_oom_Task_h_L2_ok hF ks n v_a151 v_b152 v_cmp153 v_cmp153_g v_cmp153_c v_cmp153_h k (wi .i64 (v_i154 + 1)) v_z175 _ h q)
    · rw [if_neg h182] at h
      cases h
      exact pkk_sound TTok mix hF 8 (hs := [.t false]) (ts := []) (s := [0, 1]) (l := []) (by kernel_rfl) (by kernel_rfl) (.cons (df h182) .nil) q
/- slices.insertionSortCmpFunc[ringhall/oom.Task] -/
def G_slices_insertionSortCmpFunc_oom_Task_h (n : Nat) (v_data150 : (List S_oom_Task)) (v_a151 : Int) (v_b152 : Int) (v_cmp153 : (S_oom_Task → S_oom_Task → Option (Int))) : Option ((List S_oom_Task)) :=
  (G_slices_insertionSortCmpFunc_oom_Task_h_L2 n v_a151 v_b152 v_cmp153 n (wi .i64 (v_a151 + 1)) v_data150).bind fun v_o177 => match v_o177 with
  | .x0 v_z178 =>
    some v_z178
theorem G_slices_insertionSortCmpFunc_oom_Task_h_ok (n : Nat) (v_data150 : (List S_oom_Task)) (v_a151 : Int) (v_b152 : Int) (v_cmp153 : (S_oom_Task → S_oom_Task → Option (Int))) (v_cmp153_g : FuncId) (v_cmp153_c : List PV) (v_cmp153_h : ∀ (x0 : S_oom_Task) (x1 : S_oom_Task) (r : Int), v_cmp153 x0 x1 = some r → Ret Try.prog v_cmp153_g ([eS_oom_Task x0, eS_oom_Task x1] ++ v_cmp153_c) ((eI .i64) r)) (r : (List S_oom_Task)) (h : G_slices_insertionSortCmpFunc_oom_Task_h n v_data150 v_a151 v_b152 v_cmp153 = some r) : RetH Try.prog 285 [.srf 0, .d ((eI .i64) v_a151), .d ((eI .i64) v_b152), .d ((.clo v_cmp153_g v_cmp153_c))] [.row 207 4 (v_data150.map eS_oom_Task)] (.tup []) [.row 207 4 (r.map eS_oom_Task)] := by
  refine retH_run (n := 53) (fn := Try.f285) (c := bodyOf Try.f285) (by kernel_rfl) (by kernel_rfl) (by kernel_rfl) (by kernel_rfl) ?_
  have hF : KC 53 (FinH Try.prog Try.f285 [.row 207 4 (v_data150.map eS_oom_Task)] (.tup []) [.row 207 4 (r.map eS_oom_Task)]) := FinH.kc' (by kernel_rfl)
  unfold G_slices_insertionSortCmpFunc_oom_Task_h at h
  obtain ⟨v_o177, h213, h⟩ := bind_some h
  refine pkk_sound TTok mix hF 4 (hs := [.n n]) (ts := []) (s := [1, 0]) (l := [0, 1, 2, 3, 8]) (by kernel_rfl) (by kernel_rfl) .nil (G_slices_insertionSortCmpFunc_oom_Task_h_L2_ok hF (.b 0 :: []) n v_a151 v_b152 v_cmp153 v_cmp153_g v_cmp153_c v_cmp153_h n (wi .i64 (v_a151 + 1)) v_data150 _ h213 ?_)
  cases v_o177 with
  | x0 v_z178 =>
    try dsimp only at h
    obtain rfl := Option.some.inj h
    exact pendH_sound TTok mix 1 (hs := []) [1] (by kernel_rfl) (by kernel_rfl) (by kernel_rfl) .nil
inductive G_slices_siftDownCmpFunc_oom_Task_h_C1_R where
  | x0 (v_x228 : Bool) (v_w229 : (List S_oom_Task))
def G_slices_siftDownCmpFunc_oom_Task_h_C1_ex : G_slices_siftDownCmpFunc_oom_Task_h_C1_R → Ex
  | .x0 _ _ => .normal
def G_slices_siftDownCmpFunc_oom_Task_h_C1_st (v_hi189 : Int) (v_first190 : Int) (v_cmp191 : (S_oom_Task → S_oom_Task → Option (Int))) (v_root192 : Int) (v_w193 : (List S_oom_Task)) (v_cmp191_g : FuncId) (v_cmp191_c : (List PV)) : G_slices_siftDownCmpFunc_oom_Task_h_C1_R → PS
  | .x0 v_x228 v_w229 => ⟨[.srf 1, dd, .d (.v (.int .i64 v_hi189)), .d (.v (.int .i64 v_first190)), .d (.clo v_cmp191_g v_cmp191_c), dd, dd, dd, dd, dd, .d (.v (.int .i64 v_root192)), .d (.v (.int .i64 (wi .i64 ((wi .i64 (2 * v_root192)) + 1)))), dd, dd, dd, dd, dd, dd, dd, dd, dd, dd, dd, dd, dd, dd, dd, dd, dd, dd, dd, dd, dd, dd, dd, dd, dd, dd, dd, dd, .d (.v (.bool v_x228)), dd, dd, dd, dd, dd, dd, dd, dd, dd, dd, dd, dd, dd, dd, dd, dd, dd, dd, dd, dd, dd, dd, dd, dd, dd, dd, dd, dd, dd, dd, dd, dd, dd, dd, dd, dd, dd, dd, dd, dd, dd], [.gh 0 (.srf 1), .row 207 4 (v_w229.map eS_oom_Task)]⟩
def G_slices_siftDownCmpFunc_oom_Task_h_C1_hd (v_hi189 : Int) (v_first190 : Int) (v_cmp191 : (S_oom_Task → S_oom_Task → Option (Int))) (v_root192 : Int) (v_w193 : (List S_oom_Task)) (v_cmp191_g : FuncId) (v_cmp191_c : (List PV))  : PS := ⟨[.srf 1, dd, .d (.v (.int .i64 v_hi189)), .d (.v (.int .i64 v_first190)), .d (.clo v_cmp191_g v_cmp191_c), dd, dd, dd, dd, dd, .d (.v (.int .i64 v_root192)), .d (.v (.int .i64 (wi .i64 ((wi .i64 (2 * v_root192)) + 1)))), dd, dd, dd, dd, dd, dd, dd, dd, dd, dd, dd, dd, dd, dd, dd, dd, dd, dd, dd, dd, dd, dd, dd, dd, dd, dd, dd, dd, dd, dd, dd, dd, dd, dd, dd, dd, dd, dd, dd, dd, dd, dd, dd, dd, dd, dd, dd, dd, dd, dd, dd, dd, dd, dd, dd, dd, dd, dd, dd, dd, dd, dd, dd, dd, dd, dd, dd, dd, dd, dd], [.gh 0 (.srf 1), .row 207 4 (v_w193.map eS_oom_Task)]⟩
def G_slices_siftDownCmpFunc_oom_Task_h_C1 (n : Nat) (v_hi189 : Int) (v_first190 : Int) (v_cmp191 : (S_oom_Task → S_oom_Task → Option (Int))) (v_root192 : Int) (v_w193 : (List S_oom_Task)) : Option G_slices_siftDownCmpFunc_oom_Task_h_C1_R :=
  if (wi .i64 ((wi .i64 ((wi .i64 (2 * v_root192)) + 1)) + 1)) < v_hi189 then
   if 0 ≤ (wi .i64 (v_first190 + (wi .i64 ((wi .i64 (2 * v_root192)) + 1)))) ∧ ((wi .i64 (v_first190 + (wi .i64 ((wi .i64 (2 * v_root192)) + 1))))).toNat < v_w193.length then
    (v_w193[((wi .i64 (v_first190 + (wi .i64 ((wi .i64 (2 * v_root192)) + 1))))).toNat]?).bind fun (v_y225 : S_oom_Task) =>
    if 0 ≤ (wi .i64 ((wi .i64 (v_first190 + (wi .i64 ((wi .i64 (2 * v_root192)) + 1)))) + 1)) ∧ ((wi .i64 ((wi .i64 (v_first190 + (wi .i64 ((wi .i64 (2 * v_root192)) + 1)))) + 1))).toNat < v_w193.length then
     (v_w193[((wi .i64 ((wi .i64 (v_first190 + (wi .i64 ((wi .i64 (2 * v_root192)) + 1)))) + 1))).toNat]?).bind fun (v_y226 : S_oom_Task) =>
     (v_cmp191 v_y225 v_y226).bind fun (v_r227 : (Int)) =>
     some (.x0 (decide (v_r227 < 0)) v_w193)
    else none
   else none
  else
   some (.x0 false v_w193)
theorem G_slices_siftDownCmpFunc_oom_Task_h_C1_ok {Fi : Ex → PS → Prop} (hF : KC 82 Fi) (ks : List Fr) (n : Nat) (v_hi189 : Int) (v_first190 : Int) (v_cmp191 : (S_oom_Task → S_oom_Task → Option (Int))) (v_root192 : Int) (v_w193 : (List S_oom_Task)) (v_cmp191_g : FuncId) (v_cmp191_c : (List PV)) (v_cmp191_h : ∀ (x0 : S_oom_Task) (x1 : S_oom_Task) (r : Int), v_cmp191 x0 x1 = some r → Ret Try.prog v_cmp191_g ([eS_oom_Task x0, eS_oom_Task x1] ++ v_cmp191_c) ((eI .i64) r)) (o : G_slices_siftDownCmpFunc_oom_Task_h_C1_R) (h : G_slices_siftDownCmpFunc_oom_Task_h_C1 n v_hi189 v_first190 v_cmp191 v_root192 v_w193 = some o) (q : RunE Try.prog 82 Fi ks (G_slices_siftDownCmpFunc_oom_Task_h_C1_ex o) (G_slices_siftDownCmpFunc_oom_Task_h_C1_st v_hi189 v_first190 v_cmp191 v_root192 v_w193 v_cmp191_g v_cmp191_c o)) : RunE Try.prog 82 Fi (.s (cL (cL (cR (cR (cB (cP (cB (cR (bodyOf Try.f314))))))))) :: ks) .normal (G_slices_siftDownCmpFunc_oom_Task_h_C1_hd v_hi189 v_first190 v_cmp191 v_root192 v_w193 v_cmp191_g v_cmp191_c) := by
  unfold G_slices_siftDownCmpFunc_oom_Task_h_C1 at h
  by_cases h258 : (wi .i64 ((wi .i64 ((wi .i64 (2 * v_root192)) + 1)) + 1)) < v_hi189
  · rw [if_pos h258] at h
    by_cases h259 : 0 ≤ (wi .i64 (v_first190 + (wi .i64 ((wi .i64 (2 * v_root192)) + 1)))) ∧ ((wi .i64 (v_first190 + (wi .i64 ((wi .i64 (2 * v_root192)) + 1))))).toNat < v_w193.length
    · rw [if_pos h259] at h
      obtain ⟨v_y225, h260, h⟩ := bind_some h
      by_cases h261 : 0 ≤ (wi .i64 ((wi .i64 (v_first190 + (wi .i64 ((wi .i64 (2 * v_root192)) + 1)))) + 1)) ∧ ((wi .i64 ((wi .i64 (v_first190 + (wi .i64 ((wi .i64 (2 * v_root192)) + 1)))) + 1))).toNat < v_w193.length
      · rw [if_pos h261] at h
        obtain ⟨v_y226, h262, h⟩ := bind_some h
        obtain ⟨v_r227, h263, h⟩ := bind_some h
        cases h
        exact pkk_sound TTok mix hF 1 (hs := [.t true, .c, .c, .c, .c, .c, .c, .y (eS_oom_Task v_y225), .c, .c, .c, .c, .c, .c, .c, .y (eS_oom_Task v_y226), .c, .r ((eI .i64) v_r227), .c]) (ts := []) (s := [0, 1]) (l := [0, 2, 3, 4, 10, 11, 40]) (by kernel_rfl) (by kernel_rfl) (.cons (dt h258) (.cons (idx_ob (f := eS_oom_Task) h259) (.cons (get_ob (f := eS_oom_Task) h260) (.cons (idx_ob (f := eS_oom_Task) h261) (.cons (get_ob (f := eS_oom_Task) h262) (.cons (v_cmp191_h v_y225 v_y226 _ h263) .nil)))))) q
      · rw [if_neg h261] at h; cases h
    · rw [if_neg h259] at h; cases h
  · rw [if_neg h258] at h
    cases h
    exact pkk_sound TTok mix hF 1 (hs := [.t false, .c, .c, .c, .c, .c, .c, .c, .c, .c, .c, .c, .c, .c, .c, .c]) (ts := []) (s := [0, 1]) (l := [0, 2, 3, 4, 10, 11, 40]) (by kernel_rfl) (by kernel_rfl) (.cons (df h258) .nil) q
inductive G_slices_siftDownCmpFunc_oom_Task_h_C2_R where
  | x0 (v_child235 : Int) (v_w236 : (List S_oom_Task))
def G_slices_siftDownCmpFunc_oom_Task_h_C2_ex : G_slices_siftDownCmpFunc_oom_Task_h_C2_R → Ex
  | .x0 _ _ => .normal
def G_slices_siftDownCmpFunc_oom_Task_h_C2_st (v_hi189 : Int) (v_first190 : Int) (v_cmp191 : (S_oom_Task → S_oom_Task → Option (Int))) (v_root192 : Int) (v_z233 : Bool) (v_z234 : (List S_oom_Task)) (v_cmp191_g : FuncId) (v_cmp191_c : (List PV)) : G_slices_siftDownCmpFunc_oom_Task_h_C2_R → PS
  | .x0 v_child235 v_w236 => ⟨[.srf 1, dd, .d (.v (.int .i64 v_hi189)), .d (.v (.int .i64 v_first190)), .d (.clo v_cmp191_g v_cmp191_c), dd, dd, dd, dd, dd, .d (.v (.int .i64 v_root192)), .d (.v (.int .i64 v_child235)), dd, dd, dd, dd, dd, dd, dd, dd, dd, dd, dd, dd, dd, dd, dd, dd, dd, dd, dd, dd, dd, dd, dd, dd, dd, dd, dd, dd, dd, dd, dd, dd, dd, dd, dd, dd, dd, dd, dd, dd, dd, dd, dd, dd, dd, dd, dd, dd, dd, dd, dd, dd, dd, dd, dd, dd, dd, dd, dd, dd, dd, dd, dd, dd, dd, dd, dd, dd, dd, dd], [.gh 0 (.srf 1), .row 207 4 (v_w236.map eS_oom_Task)]⟩
def G_slices_siftDownCmpFunc_oom_Task_h_C2_hd (v_hi189 : Int) (v_first190 : Int) (v_cmp191 : (S_oom_Task → S_oom_Task → Option (Int))) (v_root192 : Int) (v_z233 : Bool) (v_z234 : (List S_oom_Task)) (v_cmp191_g : FuncId) (v_cmp191_c : (List PV))  : PS := ⟨[.srf 1, dd, .d (.v (.int .i64 v_hi189)), .d (.v (.int .i64 v_first190)), .d (.clo v_cmp191_g v_cmp191_c), dd, dd, dd, dd, dd, .d (.v (.int .i64 v_root192)), .d (.v (.int .i64 (wi .i64 ((wi .i64 (2 * v_root192)) + 1)))), dd, dd, dd, dd, dd, dd, dd, dd, dd, dd, dd, dd, dd, dd, dd, dd, dd, dd, dd, dd, dd, dd, dd, dd, dd, dd, dd, dd, .d (.v (.bool v_z233)), dd, dd, dd, dd, dd, dd, dd, dd, dd, dd, dd, dd, dd, dd, dd, dd, dd, dd, dd, dd, dd, dd, dd, dd, dd, dd, dd, dd, dd, dd, dd, dd, dd, dd, dd, dd, dd, dd, dd, dd, dd], [.gh 0 (.srf 1), .row 207 4 (v_z234.map eS_oom_Task)]⟩
def G_slices_siftDownCmpFunc_oom_Task_h_C2 (n : Nat) (v_hi189 : Int) (v_first190 : Int) (v_cmp191 : (S_oom_Task → S_oom_Task → Option (Int))) (v_root192 : Int) (v_z233 : Bool) (v_z234 : (List S_oom_Task)) : Option G_slices_siftDownCmpFunc_oom_Task_h_C2_R :=
  if v_z233 = true then
   some (.x0 (wi .i64 ((wi .i64 ((wi .i64 (2 * v_root192)) + 1)) + 1)) v_z234)
  else
   some (.x0 (wi .i64 ((wi .i64 (2 * v_root192)) + 1)) v_z234)
theorem G_slices_siftDownCmpFunc_oom_Task_h_C2_ok {Fi : Ex → PS → Prop} (hF : KC 82 Fi) (ks : List Fr) (n : Nat) (v_hi189 : Int) (v_first190 : Int) (v_cmp191 : (S_oom_Task → S_oom_Task → Option (Int))) (v_root192 : Int) (v_z233 : Bool) (v_z234 : (List S_oom_Task)) (v_cmp191_g : FuncId) (v_cmp191_c : (List PV)) (v_cmp191_h : ∀ (x0 : S_oom_Task) (x1 : S_oom_Task) (r : Int), v_cmp191 x0 x1 = some r → Ret Try.prog v_cmp191_g ([eS_oom_Task x0, eS_oom_Task x1] ++ v_cmp191_c) ((eI .i64) r)) (o : G_slices_siftDownCmpFunc_oom_Task_h_C2_R) (h : G_slices_siftDownCmpFunc_oom_Task_h_C2 n v_hi189 v_first190 v_cmp191 v_root192 v_z233 v_z234 = some o) (q : RunE Try.prog 82 Fi ks (G_slices_siftDownCmpFunc_oom_Task_h_C2_ex o) (G_slices_siftDownCmpFunc_oom_Task_h_C2_st v_hi189 v_first190 v_cmp191 v_root192 v_z233 v_z234 v_cmp191_g v_cmp191_c o)) : RunE Try.prog 82 Fi (.s (cR (cL (cR (cR (cB (cP (cB (cR (bodyOf Try.f314))))))))) :: ks) .normal (G_slices_siftDownCmpFunc_oom_Task_h_C2_hd v_hi189 v_first190 v_cmp191 v_root192 v_z233 v_z234 v_cmp191_g v_cmp191_c) := by
  unfold G_slices_siftDownCmpFunc_oom_Task_h_C2 at h
  by_cases h266 : v_z233 = true
  · rw [if_pos h266] at h
    cases h
    exact pkk_sound TTok mix hF 2 (hs := [.t true]) (ts := []) (s := [0, 1]) (l := [0, 2, 3, 4, 10, 11]) (by kernel_rfl) (by kernel_rfl) (.cons h266 .nil) q
  · rw [if_neg h266] at h
    cases h
    exact pkk_sound TTok mix hF 2 (hs := [.t false]) (ts := []) (s := [0, 1]) (l := [0, 2, 3, 4, 10, 11]) (by kernel_rfl) (by kernel_rfl) (.cons (vf h266) .nil) q
inductive G_slices_siftDownCmpFunc_oom_Task_h_L3_R where
  | x0 (v_w221 : (List S_oom_Task))
  | x1 (v_w245 : (List S_oom_Task))
def G_slices_siftDownCmpFunc_oom_Task_h_L3_ex : G_slices_siftDownCmpFunc_oom_Task_h_L3_R → Ex
  | .x0 _ => .exit 0
  | .x1 _ => .ret
def G_slices_siftDownCmpFunc_oom_Task_h_L3_st (v_hi189 : Int) (v_first190 : Int) (v_cmp191 : (S_oom_Task → S_oom_Task → Option (Int))) (v_cmp191_g : FuncId) (v_cmp191_c : (List PV)) : G_slices_siftDownCmpFunc_oom_Task_h_L3_R → PS
  | .x0 v_w221 => ⟨[dd, dd, dd, dd, dd, dd, dd, dd, dd, dd, dd, dd, dd, dd, dd, dd, dd, dd, dd, dd, dd, dd, dd, dd, dd, dd, dd, dd, dd, dd, dd, dd, dd, dd, dd, dd, dd, dd, dd, dd, dd, dd, dd, dd, dd, dd, dd, dd, dd, dd, dd, dd, dd, dd, dd, dd, dd, dd, dd, dd, dd, dd, dd, dd, dd, dd, dd, dd, dd, dd, dd, dd, dd, dd, dd, dd, dd, dd, dd, dd, dd, dd], [.gh 0 (.srf 1), .row 207 4 (v_w221.map eS_oom_Task)]⟩
  | .x1 v_w245 => ⟨[dd, dd, dd, dd, dd, dd, dd, dd, dd, dd, dd, dd, dd, dd, dd, dd, dd, dd, dd, dd, dd, dd, dd, dd, dd, dd, dd, dd, dd, dd, dd, dd, dd, dd, dd, dd, dd, dd, dd, dd, dd, dd, dd, dd, dd, dd, dd, dd, dd, dd, dd, dd, dd, dd, dd, dd, dd, dd, dd, dd, dd, dd, dd, dd, dd, dd, dd, dd, dd, dd, dd, dd, dd, dd, dd, dd, dd, dd, dd, dd, dd, dd], [.gh 0 (.srf 1), .row 207 4 (v_w245.map eS_oom_Task)]⟩
def G_slices_siftDownCmpFunc_oom_Task_h_L3_hd (v_hi189 : Int) (v_first190 : Int) (v_cmp191 : (S_oom_Task → S_oom_Task → Option (Int))) (v_cmp191_g : FuncId) (v_cmp191_c : (List PV)) (v_root192 : Int) (v_w193 : (List S_oom_Task)) : PS := ⟨[.srf 1, dd, .d (.v (.int .i64 v_hi189)), .d (.v (.int .i64 v_first190)), .d (.clo v_cmp191_g v_cmp191_c), dd, dd, dd, dd, dd, .d (.v (.int .i64 v_root192)), dd, dd, dd, dd, dd, dd, dd, dd, dd, dd, dd, dd, dd, dd, dd, dd, dd, dd, dd, dd, dd, dd, dd, dd, dd, dd, dd, dd, dd, dd, dd, dd, dd, dd, dd, dd, dd, dd, dd, dd, dd, dd, dd, dd, dd, dd, dd, dd, dd, dd, dd, dd, dd, dd, dd, dd, dd, dd, dd, dd, dd, dd, dd, dd, dd, dd, dd, dd, dd, dd, dd], [.gh 0 (.srf 1), .row 207 4 (v_w193.map eS_oom_Task)]⟩
def G_slices_siftDownCmpFunc_oom_Task_h_L3 (n : Nat) (v_hi189 : Int) (v_first190 : Int) (v_cmp191 : (S_oom_Task → S_oom_Task → Option (Int))) : Nat → Int → (List S_oom_Task) → Option G_slices_siftDownCmpFunc_oom_Task_h_L3_R
  | 0, _, _ => none
  | k + 1, v_root192, v_w193 =>
    if (wi .i64 ((wi .i64 (2 * v_root192)) + 1)) ≥ v_hi189 then
     some (.x0 v_w193)
    else
     (G_slices_siftDownCmpFunc_oom_Task_h_C1 n v_hi189 v_first190 v_cmp191 v_root192 v_w193).bind fun v_o232 => match v_o232 with
     | .x0 v_z233 v_z234 =>
       (G_slices_siftDownCmpFunc_oom_Task_h_C2 n v_hi189 v_first190 v_cmp191 v_root192 v_z233 v_z234).bind fun v_o239 => match v_o239 with
       | .x0 v_z240 v_z241 =>
         if 0 ≤ (wi .i64 (v_first190 + v_root192)) ∧ ((wi .i64 (v_first190 + v_root192))).toNat < v_z241.length then
          (v_z241[((wi .i64 (v_first190 + v_root192))).toNat]?).bind fun (v_y242 : S_oom_Task) =>
          if 0 ≤ (wi .i64 (v_first190 + v_z240)) ∧ ((wi .i64 (v_first190 + v_z240))).toNat < v_z241.length then
           (v_z241[((wi .i64 (v_first190 + v_z240))).toNat]?).bind fun (v_y243 : S_oom_Task) =>
           (v_cmp191 v_y242 v_y243).bind fun (v_r244 : (Int)) =>
           if v_r244 < 0 then
            if 0 ≤ (wi .i64 (v_first190 + v_z240)) ∧ ((wi .i64 (v_first190 + v_z240))).toNat < v_z241.length then
             (v_z241[((wi .i64 (v_first190 + v_z240))).toNat]?).bind fun (v_y246 : S_oom_Task) =>
             if 0 ≤ (wi .i64 (v_first190 + v_root192)) ∧ ((wi .i64 (v_first190 + v_root192))).toNat < v_z241.length then
              (v_z241[((wi .i64 (v_first190 + v_root192))).toNat]?).bind fun (v_y247 : S_oom_Task) =>
              if 0 ≤ (wi .i64 (v_first190 + v_root192)) ∧ ((wi .i64 (v_first190 + v_root192))).toNat < v_z241.length then
               (v_z241[((wi .i64 (v_first190 + v_root192))).toNat]?).bind fun (v_y248 : S_oom_Task) =>
               if 0 ≤ (wi .i64 (v_first190 + v_z240)) ∧ ((wi .i64 (v_first190 + v_z240))).toNat < (v_z241.set ((wi .i64 (v_first190 + v_root192))).toNat v_y246).length then
                ((v_z241.set ((wi .i64 (v_first190 + v_root192))).toNat v_y246)[((wi .i64 (v_first190 + v_z240))).toNat]?).bind fun (v_y249 : S_oom_Task) =>
                G_slices_siftDownCmpFunc_oom_Task_h_L3 n v_hi189 v_first190 v_cmp191 k v_z240 ((v_z241.set ((wi .i64 (v_first190 + v_root192))).toNat v_y246).set ((wi .i64 (v_first190 + v_z240))).toNat v_y247)
               else none
              else none
             else none
            else none
           else
            some (.x1 v_z241)
          else none
         else none
theorem G_slices_siftDownCmpFunc_oom_Task_h_L3_ok {Fi : Ex → PS → Prop} (hF : KC 82 Fi) (ks : List Fr) (n : Nat) (v_hi189 : Int) (v_first190 : Int) (v_cmp191 : (S_oom_Task → S_oom_Task → Option (Int))) (v_cmp191_g : FuncId) (v_cmp191_c : (List PV)) (v_cmp191_h : ∀ (x0 : S_oom_Task) (x1 : S_oom_Task) (r : Int), v_cmp191 x0 x1 = some r → Ret Try.prog v_cmp191_g ([eS_oom_Task x0, eS_oom_Task x1] ++ v_cmp191_c) ((eI .i64) r)) : ∀ (k : Nat) (v_root192 : Int) (v_w193 : (List S_oom_Task)) (o : G_slices_siftDownCmpFunc_oom_Task_h_L3_R), G_slices_siftDownCmpFunc_oom_Task_h_L3 n v_hi189 v_first190 v_cmp191 k v_root192 v_w193 = some o → RunE Try.prog 82 Fi ks (G_slices_siftDownCmpFunc_oom_Task_h_L3_ex o) (G_slices_siftDownCmpFunc_oom_Task_h_L3_st v_hi189 v_first190 v_cmp191 v_cmp191_g v_cmp191_c o) → RunE Try.prog 82 Fi (.l k (cP (cB (cR (bodyOf Try.f314)))) :: ks) .normal (G_slices_siftDownCmpFunc_oom_Task_h_L3_hd v_hi189 v_first190 v_cmp191 v_cmp191_g v_cmp191_c v_root192 v_w193)
  | 0, v_root192, v_w193, o, h, q => by rw [G_slices_siftDownCmpFunc_oom_Task_h_L3] at h; cases h
  | k + 1, v_root192, v_w193, o, h, q => by
    rw [G_slices_siftDownCmpFunc_oom_Task_h_L3] at h
    by_cases h251 : (wi .i64 ((wi .i64 (2 * v_root192)) + 1)) ≥ v_hi189
    · rw [if_pos h251] at h
      cases h
      exact pkk_sound TTok mix hF 12 (hs := [.t true]) (ts := []) (s := [0, 1]) (l := []) (by kernel_rfl) (by kernel_rfl) (.cons (dt h251) .nil) q
    · rw [if_neg h251] at h
      obtain ⟨v_o232, h264, h⟩ := bind_some h
      refine pkk_sound TTok mix hF 11 (hs := [.t false]) (ts := []) (s := [0, 1]) (l := [0, 2, 3, 4, 10, 11]) (by kernel_rfl) (by kernel_rfl) (.cons (df h251) .nil) (G_slices_siftDownCmpFunc_oom_Task_h_C1_ok hF (.s (cR (cL (cR (cR (cB (cP (cB (cR (bodyOf Try.f314))))))))) :: .s (cR (cR (cR (cB (cP (cB (cR (bodyOf Try.f314)))))))) :: .b 1 :: .l k (cP (cB (cR (bodyOf Try.f314)))) :: ks) n v_hi189 v_first190 v_cmp191 v_root192 v_w193 v_cmp191_g v_cmp191_c v_cmp191_h _ h264 ?_)
      cases v_o232 with
      | x0 v_z233 v_z234 =>
        try dsimp only at h
        obtain ⟨v_o239, h267, h⟩ := bind_some h
        refine pkk_sound TTok mix hF 0 (hs := []) (ts := []) (s := [0, 1]) (l := [0, 2, 3, 4, 10, 11, 40]) (by kernel_rfl) (by kernel_rfl) .nil (G_slices_siftDownCmpFunc_oom_Task_h_C2_ok hF (.s (cR (cR (cR (cB (cP (cB (cR (bodyOf Try.f314)))))))) :: .b 1 :: .l k (cP (cB (cR (bodyOf Try.f314)))) :: ks) n v_hi189 v_first190 v_cmp191 v_root192 v_z233 v_z234 v_cmp191_g v_cmp191_c v_cmp191_h _ h267 ?_)
        cases v_o239 with
        | x0 v_z240 v_z241 =>
          try dsimp only at h
          by_cases h268 : 0 ≤ (wi .i64 (v_first190 + v_root192)) ∧ ((wi .i64 (v_first190 + v_root192))).toNat < v_z241.length
          · rw [if_pos h268] at h
            obtain ⟨v_y242, h269, h⟩ := bind_some h
            by_cases h270 : 0 ≤ (wi .i64 (v_first190 + v_z240)) ∧ ((wi .i64 (v_first190 + v_z240))).toNat < v_z241.length
            · rw [if_pos h270] at h
              obtain ⟨v_y243, h271, h⟩ := bind_some h
              obtain ⟨v_r244, h272, h⟩ := bind_some h
              by_cases h273 : v_r244 < 0
              · rw [if_pos h273] at h
                by_cases h274 : 0 ≤ (wi .i64 (v_first190 + v_z240)) ∧ ((wi .i64 (v_first190 + v_z240))).toNat < v_z241.length
                · rw [if_pos h274] at h
                  obtain ⟨v_y246, h275, h⟩ := bind_some h
                  by_cases h276 : 0 ≤ (wi .i64 (v_first190 + v_root192)) ∧ ((wi .i64 (v_first190 + v_root192))).toNat < v_z241.length
                  · rw [if_pos h276] at h
                    obtain ⟨v_y247, h277, h⟩ := bind_some h
                    by_cases h278 : 0 ≤ (wi .i64 (v_first190 + v_root192)) ∧ ((wi .i64 (v_first190 + v_root192))).toNat < v_z241.length
                    · rw [if_pos h278] at h
                      obtain ⟨v_y248, h279, h⟩ := bind_some h
                      by_cases h280 : 0 ≤ (wi .i64 (v_first190 + v_z240)) ∧ ((wi .i64 (v_first190 + v_z240))).toNat < (v_z241.set ((wi .i64 (v_first190 + v_root192))).toNat v_y246).length
                      · rw [if_pos h280] at h
                        obtain ⟨v_y249, h281, h⟩ := bind_some h
                        exact pkk_sound TTok mix hF 9 (hs := [.y (eS_oom_Task v_y242), .y (eS_oom_Task v_y243), .r ((eI .i64) v_r244), .t false, .y (eS_oom_Task v_y246), .y (eS_oom_Task v_y247), .w ((v_z241.set ((wi .i64 (v_first190 + v_root192))).toNat v_y246).map eS_oom_Task), .y (eS_oom_Task v_y248), .w (((v_z241.set ((wi .i64 (v_first190 + v_root192))).toNat v_y246).set ((wi .i64 (v_first190 + v_z240))).toNat v_y247).map eS_oom_Task), .y (eS_oom_Task v_y249)]) (ts := []) (s := [0, 1]) (l := [0, 2, 3, 4, 10]) (by kernel_rfl) (by kernel_rfl) (.cons (idx_ob (f := eS_oom_Task) h268) (.cons (get_ob (f := eS_oom_Task) h269) (.cons (idx_ob (f := eS_oom_Task) h270) (.cons (get_ob (f := eS_oom_Task) h271) (.cons (v_cmp191_h v_y242 v_y243 _ h272) (.cons (bnf (dt h273)) (.cons (idx_ob (f := eS_oom_Task) h274) (.cons (get_ob (f := eS_oom_Task) h275) (.cons (idx_ob (f := eS_oom_Task) h276) (.cons (get_ob (f := eS_oom_Task) h277) (.cons (idx_ob (f := eS_oom_Task) h278) (.cons (get_ob (f := eS_oom_Task) h279) (.cons (Eq.refl (pcells (.agg [.v (.int .i64 v_y246.fId), .v (.int .i64 v_y246.fPages), .v (.int .i64 v_y246.fScore), .v (.bool v_y246.fKept)]))) (.cons (set_ob (f := eS_oom_Task) (l := v_z241) (k := ((wi .i64 (v_first190 + v_root192))).toNat) (z := v_y246) (p := .agg [.v (.int .i64 v_y246.fId), .v (.int .i64 v_y246.fPages), .v (.int .i64 v_y246.fScore), .v (.bool v_y246.fKept)]) rfl) (.cons (idx_ob (f := eS_oom_Task) h280) (.cons (get_ob (f := eS_oom_Task) h281) (.cons (Eq.refl (pcells (.agg [.v (.int .i64 v_y247.fId), .v (.int .i64 v_y247.fPages), .v (.int .i64 v_y247.fScore), .v (.bool v_y247.fKept)]))) (.cons (set_ob (f := eS_oom_Task) (l := (v_z241.set ((wi .i64 (v_first190 + v_root192))).toNat v_y246)) (k := ((wi .i64 (v_first190 + v_z240))).toNat) (z := v_y247) (p := .agg [.v (.int .i64 v_y247.fId), .v (.int .i64 v_y247.fPages), .v (.int .i64 v_y247.fScore), .v (.bool v_y247.fKept)]) rfl) .nil)))))))))))))))))) (G_slices_siftDownCmpFunc_oom_Task_h_L3_ok hF ks n v_hi189 v_first190 v_cmp191 v_cmp191_g v_cmp191_c v_cmp191_h k v_z240 ((v_z241.set ((wi .i64 (v_first190 + v_root192))).toNat v_y246).set ((wi .i64 (v_first190 + v_z240))).toNat v_y247) _ h q)
                      · rw [if_neg h280] at h; cases h
                    · rw [if_neg h278] at h; cases h
                  · rw [if_neg h276] at h; cases h
                · rw [if_neg h274] at h; cases h
              · rw [if_neg h273] at h
                cases h
                exact pkk_sound TTok mix hF 8 (hs := [.y (eS_oom_Task v_y242), .y (eS_oom_Task v_y243), .r ((eI .i64) v_r244), .t true]) (ts := []) (s := [0, 1]) (l := []) (by kernel_rfl) (by kernel_rfl) (.cons (idx_ob (f := eS_oom_Task) h268) (.cons (get_ob (f := eS_oom_Task) h269) (.cons (idx_ob (f := eS_oom_Task) h270) (.cons (get_ob (f := eS_oom_Task) h271) (.cons (v_cmp191_h v_y242 v_y243 _ h272) (.cons (bnt (df h273)) .nil)))))) q
            · rw [if_neg h270] at h; cases h
          · rw [if_neg h268] at h; cases h
/- slices.siftDownCmpFunc[ringhall/oom.Task] -/
def G_slices_siftDownCmpFunc_oom_Task_h (n : Nat) (v_data187 : (List S_oom_Task)) (v_lo188 : Int) (v_hi189 : Int) (v_first190 : Int) (v_cmp191 : (S_oom_Task → S_oom_Task → Option (Int))) : Option ((List S_oom_Task)) :=
  (G_slices_siftDownCmpFunc_oom_Task_h_L3 n v_hi189 v_first190 v_cmp191 n v_lo188 v_data187).bind fun v_o250 => match v_o250 with
  | .x0 v_z251 =>
    some v_z251
  | .x1 v_z252 =>
    some v_z252
theorem G_slices_siftDownCmpFunc_oom_Task_h_ok (n : Nat) (v_data187 : (List S_oom_Task)) (v_lo188 : Int) (v_hi189 : Int) (v_first190 : Int) (v_cmp191 : (S_oom_Task → S_oom_Task → Option (Int))) (v_cmp191_g : FuncId) (v_cmp191_c : List PV) (v_cmp191_h : ∀ (x0 : S_oom_Task) (x1 : S_oom_Task) (r : Int), v_cmp191 x0 x1 = some r → Ret Try.prog v_cmp191_g ([eS_oom_Task x0, eS_oom_Task x1] ++ v_cmp191_c) ((eI .i64) r)) (r : (List S_oom_Task)) (h : G_slices_siftDownCmpFunc_oom_Task_h n v_data187 v_lo188 v_hi189 v_first190 v_cmp191 = some r) : RetH Try.prog 314 [.srf 0, .d ((eI .i64) v_lo188), .d ((eI .i64) v_hi189), .d ((eI .i64) v_first190), .d ((.clo v_cmp191_g v_cmp191_c))] [.row 207 4 (v_data187.map eS_oom_Task)] (.tup []) [.row 207 4 (r.map eS_oom_Task)] := by
  refine retH_run (n := 82) (fn := Try.f314) (c := bodyOf Try.f314) (by kernel_rfl) (by kernel_rfl) (by kernel_rfl) (by kernel_rfl) ?_
  have hF : KC 82 (FinH Try.prog Try.f314 [.row 207 4 (v_data187.map eS_oom_Task)] (.tup []) [.row 207 4 (r.map eS_oom_Task)]) := FinH.kc' (by kernel_rfl)
  unfold G_slices_siftDownCmpFunc_oom_Task_h at h
  obtain ⟨v_o250, h282, h⟩ := bind_some h
  refine pkk_sound TTok mix hF 4 (hs := [.n n]) (ts := []) (s := [1, 0]) (l := [0, 2, 3, 4, 10]) (by kernel_rfl) (by kernel_rfl) .nil (G_slices_siftDownCmpFunc_oom_Task_h_L3_ok hF (.b 0 :: []) n v_hi189 v_first190 v_cmp191 v_cmp191_g v_cmp191_c v_cmp191_h n v_lo188 v_data187 _ h282 ?_)
  cases v_o250 with
  | x0 v_z251 =>
    try dsimp only at h
    obtain rfl := Option.some.inj h
    exact pendH_sound TTok mix 1 (hs := []) [1] (by kernel_rfl) (by kernel_rfl) (by kernel_rfl) .nil
  | x1 v_z252 =>
    try dsimp only at h
    obtain rfl := Option.some.inj h
    exact pendH_sound TTok mix 1 (hs := []) [1] (by kernel_rfl) (by kernel_rfl) (by kernel_rfl) .nil
inductive G_slices_heapSortCmpFunc_oom_Task_h_L1_R where
  | x0 (v_w255 : (List S_oom_Task))
def G_slices_heapSortCmpFunc_oom_Task_h_L1_ex : G_slices_heapSortCmpFunc_oom_Task_h_L1_R → Ex
  | .x0 _ => .exit 0
def G_slices_heapSortCmpFunc_oom_Task_h_L1_st (v_cmp184 : (S_oom_Task → S_oom_Task → Option (Int))) (v_a182 : Int) (v_b183 : Int) (v_cmp184_g : FuncId) (v_cmp184_c : (List PV)) : G_slices_heapSortCmpFunc_oom_Task_h_L1_R → PS
  | .x0 v_w255 => ⟨[.srf 1, dd, dd, .d (.clo v_cmp184_g v_cmp184_c), dd, dd, dd, dd, .d (.v (.int .i64 v_a182)), .d (.v (.int .i64 0)), .d (.v (.int .i64 (wi .i64 (v_b183 - v_a182)))), dd, dd, dd, dd, dd, dd, dd, dd, dd, dd, dd, dd, dd, dd, dd, dd, dd, dd, dd, dd, dd, dd, dd, dd, dd, dd, dd, dd, dd, dd, dd, dd, dd, dd, dd, dd, dd, dd, dd, dd, dd, dd, dd, dd, dd, dd, dd, dd, dd], [.gh 0 (.srf 1), .row 207 4 (v_w255.map eS_oom_Task)]⟩
def G_slices_heapSortCmpFunc_oom_Task_h_L1_hd (v_cmp184 : (S_oom_Task → S_oom_Task → Option (Int))) (v_a182 : Int) (v_b183 : Int) (v_cmp184_g : FuncId) (v_cmp184_c : (List PV)) (v_i185 : Int) (v_w186 : (List S_oom_Task)) : PS := ⟨[.srf 1, dd, dd, .d (.clo v_cmp184_g v_cmp184_c), dd, dd, dd, dd, .d (.v (.int .i64 v_a182)), .d (.v (.int .i64 0)), .d (.v (.int .i64 (wi .i64 (v_b183 - v_a182)))), .d (.v (.int .i64 v_i185)), dd, dd, dd, dd, dd, dd, dd, dd, dd, dd, dd, dd, dd, dd, dd, dd, dd, dd, dd, dd, dd, dd, dd, dd, dd, dd, dd, dd, dd, dd, dd, dd, dd, dd, dd, dd, dd, dd, dd, dd, dd, dd, dd, dd, dd, dd, dd, dd], [.gh 0 (.srf 1), .row 207 4 (v_w186.map eS_oom_Task)]⟩
def G_slices_heapSortCmpFunc_oom_Task_h_L1 (n : Nat) (v_cmp184 : (S_oom_Task → S_oom_Task → Option (Int))) (v_a182 : Int) (v_b183 : Int) : Nat → Int → (List S_oom_Task) → Option G_slices_heapSortCmpFunc_oom_Task_h_L1_R
  | 0, _, _ => none
  | k + 1, v_i185, v_w186 =>
    if v_i185 ≥ 0 then
     (G_slices_siftDownCmpFunc_oom_Task_h n v_w186 v_i185 (wi .i64 (v_b183 - v_a182)) v_a182 v_cmp184).bind fun (v_r254 : ((List S_oom_Task))) =>
     G_slices_heapSortCmpFunc_oom_Task_h_L1 n v_cmp184 v_a182 v_b183 k (wi .i64 (v_i185 - 1)) v_r254
    else
     some (.x0 v_w186)
theorem G_slices_heapSortCmpFunc_oom_Task_h_L1_ok {Fi : Ex → PS → Prop} (hF : KC 60 Fi) (ks : List Fr) (n : Nat) (v_cmp184 : (S_oom_Task → S_oom_Task → Option (Int))) (v_a182 : Int) (v_b183 : Int) (v_cmp184_g : FuncId) (v_cmp184_c : (List PV)) (v_cmp184_h : ∀ (x0 : S_oom_Task) (x1 : S_oom_Task) (r : Int), v_cmp184 x0 x1 = some r → Ret Try.prog v_cmp184_g ([eS_oom_Task x0, eS_oom_Task x1] ++ v_cmp184_c) ((eI .i64) r)) : ∀ (k : Nat) (v_i185 : Int) (v_w186 : (List S_oom_Task)) (o : G_slices_heapSortCmpFunc_oom_Task_h_L1_R), G_slices_heapSortCmpFunc_oom_Task_h_L1 n v_cmp184 v_a182 v_b183 k v_i185 v_w186 = some o → RunE Try.prog 60 Fi ks (G_slices_heapSortCmpFunc_oom_Task_h_L1_ex o) (G_slices_heapSortCmpFunc_oom_Task_h_L1_st v_cmp184 v_a182 v_b183 v_cmp184_g v_cmp184_c o) → RunE Try.prog 60 Fi (.l k (cP (cB (cR (cL (cR (cR (cR (bodyOf Try.f286)))))))) :: ks) .normal (G_slices_heapSortCmpFunc_oom_Task_h_L1_hd v_cmp184 v_a182 v_b183 v_cmp184_g v_cmp184_c v_i185 v_w186)
  | 0, v_i185, v_w186, o, h, q => by rw [G_slices_heapSortCmpFunc_oom_Task_h_L1] at h; cases h
  | k + 1, v_i185, v_w186, o, h, q => by
    rw [G_slices_heapSortCmpFunc_oom_Task_h_L1] at h
    by_cases h219 : v_i185 ≥ 0
    · rw [if_pos h219] at h
      obtain ⟨v_r254, h284, h⟩ := bind_some h
      exact pkk_sound TTok mix hF 11 (hs := [.t true, .h [1] [] [.row 207 4 (v_r254.map eS_oom_Task)] (.tup [])]) (ts := []) (s := [0, 1]) (l := [0, 3, 8, 9, 10, 11]) (by kernel_rfl) (by kernel_rfl) (.cons (dt h219) (.cons (G_slices_siftDownCmpFunc_oom_Task_h_ok n v_w186 v_i185 (wi .i64 (v_b183 - v_a182)) v_a182 v_cmp184 v_cmp184_g v_cmp184_c v_cmp184_h _ h284) .nil)) (G_slices_heapSortCmpFunc_oom_Task_h_L1_ok hF ks n v_cmp184 v_a182 v_b183 v_cmp184_g v_cmp184_c v_cmp184_h k (wi .i64 (v_i185 - 1)) v_r254 _ h q)
    · rw [if_neg h219] at h
      cases h
      exact pkk_sound TTok mix hF 8 (hs := [.t false]) (ts := []) (s := [0, 1]) (l := [0, 3, 8, 9, 10]) (by kernel_rfl) (by kernel_rfl) (.cons (df h219) .nil) q
inductive G_slices_heapSortCmpFunc_oom_Task_h_L2_R where
  | x0 (v_w270 : (List S_oom_Task))
def G_slices_heapSortCmpFunc_oom_Task_h_L2_ex : G_slices_heapSortCmpFunc_oom_Task_h_L2_R → Ex
  | .x0 _ => .exit 2
def G_slices_heapSortCmpFunc_oom_Task_h_L2_st (v_cmp184 : (S_oom_Task → S_oom_Task → Option (Int))) (v_a182 : Int) (v_cmp184_g : FuncId) (v_cmp184_c : (List PV)) : G_slices_heapSortCmpFunc_oom_Task_h_L2_R → PS
  | .x0 v_w270 => ⟨[dd, dd, dd, dd, dd, dd, dd, dd, dd, dd, dd, dd, dd, dd, dd, dd, dd, dd, dd, dd, dd, dd, dd, dd, dd, dd, dd, dd, dd, dd, dd, dd, dd, dd, dd, dd, dd, dd, dd, dd, dd, dd, dd, dd, dd, dd, dd, dd, dd, dd, dd, dd, dd, dd, dd, dd, dd, dd, dd, dd], [.gh 0 (.srf 1), .row 207 4 (v_w270.map eS_oom_Task)]⟩
def G_slices_heapSortCmpFunc_oom_Task_h_L2_hd (v_cmp184 : (S_oom_Task → S_oom_Task → Option (Int))) (v_a182 : Int) (v_cmp184_g : FuncId) (v_cmp184_c : (List PV)) (v_i258 : Int) (v_w259 : (List S_oom_Task)) : PS := ⟨[.srf 1, dd, dd, .d (.clo v_cmp184_g v_cmp184_c), dd, dd, dd, dd, .d (.v (.int .i64 v_a182)), .d (.v (.int .i64 0)), dd, dd, .d (.v (.int .i64 v_i258)), dd, dd, dd, dd, dd, dd, dd, dd, dd, dd, dd, dd, dd, dd, dd, dd, dd, dd, dd, dd, dd, dd, dd, dd, dd, dd, dd, dd, dd, dd, dd, dd, dd, dd, dd, dd, dd, dd, dd, dd, dd, dd, dd, dd, dd, dd, dd], [.gh 0 (.srf 1), .row 207 4 (v_w259.map eS_oom_Task)]⟩
def G_slices_heapSortCmpFunc_oom_Task_h_L2 (n : Nat) (v_cmp184 : (S_oom_Task → S_oom_Task → Option (Int))) (v_a182 : Int) : Nat → Int → (List S_oom_Task) → Option G_slices_heapSortCmpFunc_oom_Task_h_L2_R
  | 0, _, _ => none
  | k + 1, v_i258, v_w259 =>
    if v_i258 ≥ 0 then
     if 0 ≤ (wi .i64 (v_a182 + v_i258)) ∧ ((wi .i64 (v_a182 + v_i258))).toNat < v_w259.length then
      (v_w259[((wi .i64 (v_a182 + v_i258))).toNat]?).bind fun (v_y265 : S_oom_Task) =>
      if 0 ≤ v_a182 ∧ (v_a182).toNat < v_w259.length then
       (v_w259[(v_a182).toNat]?).bind fun (v_y266 : S_oom_Task) =>
       if 0 ≤ v_a182 ∧ (v_a182).toNat < v_w259.length then
        (v_w259[(v_a182).toNat]?).bind fun (v_y267 : S_oom_Task) =>
        if 0 ≤ (wi .i64 (v_a182 + v_i258)) ∧ ((wi .i64 (v_a182 + v_i258))).toNat < (v_w259.set (v_a182).toNat v_y265).length then
         ((v_w259.set (v_a182).toNat v_y265)[((wi .i64 (v_a182 + v_i258))).toNat]?).bind fun (v_y268 : S_oom_Task) =>
         (G_slices_siftDownCmpFunc_oom_Task_h n ((v_w259.set (v_a182).toNat v_y265).set ((wi .i64 (v_a182 + v_i258))).toNat v_y266) 0 v_i258 v_a182 v_cmp184).bind fun (v_r269 : ((List S_oom_Task))) =>
         G_slices_heapSortCmpFunc_oom_Task_h_L2 n v_cmp184 v_a182 k (wi .i64 (v_i258 - 1)) v_r269
        else none
       else none
      else none
     else none
    else
     some (.x0 v_w259)
theorem G_slices_heapSortCmpFunc_oom_Task_h_L2_ok {Fi : Ex → PS → Prop} (hF : KC 60 Fi) (ks : List Fr) (n : Nat) (v_cmp184 : (S_oom_Task → S_oom_Task → Option (Int))) (v_a182 : Int) (v_cmp184_g : FuncId) (v_cmp184_c : (List PV)) (v_cmp184_h : ∀ (x0 : S_oom_Task) (x1 : S_oom_Task) (r : Int), v_cmp184 x0 x1 = some r → Ret Try.prog v_cmp184_g ([eS_oom_Task x0, eS_oom_Task x1] ++ v_cmp184_c) ((eI .i64) r)) : ∀ (k : Nat) (v_i258 : Int) (v_w259 : (List S_oom_Task)) (o : G_slices_heapSortCmpFunc_oom_Task_h_L2_R), G_slices_heapSortCmpFunc_oom_Task_h_L2 n v_cmp184 v_a182 k v_i258 v_w259 = some o → RunE Try.prog 60 Fi ks (G_slices_heapSortCmpFunc_oom_Task_h_L2_ex o) (G_slices_heapSortCmpFunc_oom_Task_h_L2_st v_cmp184 v_a182 v_cmp184_g v_cmp184_c o) → RunE Try.prog 60 Fi (.l k (cP (cB (cR (cR (cR (cR (cR (bodyOf Try.f286)))))))) :: ks) .normal (G_slices_heapSortCmpFunc_oom_Task_h_L2_hd v_cmp184 v_a182 v_cmp184_g v_cmp184_c v_i258 v_w259)
  | 0, v_i258, v_w259, o, h, q => by rw [G_slices_heapSortCmpFunc_oom_Task_h_L2] at h; cases h
  | k + 1, v_i258, v_w259, o, h, q => by
    rw [G_slices_heapSortCmpFunc_oom_Task_h_L2] at h
    by_cases h286 : v_i258 ≥ 0
    · rw [if_pos h286] at h
      by_cases h296 : 0 ≤ (wi .i64 (v_a182 + v_i258)) ∧ ((wi .i64 (v_a182 + v_i258))).toNat < v_w259.length
      · rw [if_pos h296] at h
        obtain ⟨v_y265, h297, h⟩ := bind_some h
        by_cases h298 : 0 ≤ v_a182 ∧ (v_a182).toNat < v_w259.length
        · rw [if_pos h298] at h
          obtain ⟨v_y266, h299, h⟩ := bind_some h
          by_cases h300 : 0 ≤ v_a182 ∧ (v_a182).toNat < v_w259.length
          · rw [if_pos h300] at h
            obtain ⟨v_y267, h301, h⟩ := bind_some h
            by_cases h302 : 0 ≤ (wi .i64 (v_a182 + v_i258)) ∧ ((wi .i64 (v_a182 + v_i258))).toNat < (v_w259.set (v_a182).toNat v_y265).length
            · rw [if_pos h302] at h
              obtain ⟨v_y268, h303, h⟩ := bind_some h
              obtain ⟨v_r269, h304, h⟩ := bind_some h
              exact pkk_sound TTok mix hF 13 (hs := [.t true, .y (eS_oom_Task v_y265), .y (eS_oom_Task v_y266), .w ((v_w259.set (v_a182).toNat v_y265).map eS_oom_Task), .y (eS_oom_Task v_y267), .w (((v_w259.set (v_a182).toNat v_y265).set ((wi .i64 (v_a182 + v_i258))).toNat v_y266).map eS_oom_Task), .y (eS_oom_Task v_y268), .h [1] [] [.row 207 4 (v_r269.map eS_oom_Task)] (.tup [])]) (ts := []) (s := [0, 1]) (l := [0, 3, 8, 9, 12]) (by kernel_rfl) (by kernel_rfl) (.cons (dt h286) (.cons (idx_ob (f := eS_oom_Task) h296) (.cons (get_ob (f := eS_oom_Task) h297) (.cons (idx_ob (f := eS_oom_Task) h298) (.cons (get_ob (f := eS_oom_Task) h299) (.cons (idx_ob (f := eS_oom_Task) h300) (.cons (get_ob (f := eS_oom_Task) h301) (.cons (Eq.refl (pcells (.agg [.v (.int .i64 v_y265.fId), .v (.int .i64 v_y265.fPages), .v (.int .i64 v_y265.fScore), .v (.bool v_y265.fKept)]))) (.cons (set_ob (f := eS_oom_Task) (l := v_w259) (k := (v_a182).toNat) (z := v_y265) (p := .agg [.v (.int .i64 v_y265.fId), .v (.int .i64 v_y265.fPages), .v (.int .i64 v_y265.fScore), .v (.bool v_y265.fKept)]) rfl) (.cons (idx_ob (f := eS_oom_Task) h302) (.cons (get_ob (f := eS_oom_Task) h303) (.cons (Eq.refl (pcells (.agg [.v (.int .i64 v_y266.fId), .v (.int .i64 v_y266.fPages), .v (.int .i64 v_y266.fScore), .v (.bool v_y266.fKept)]))) (.cons (set_ob (f := eS_oom_Task) (l := (v_w259.set (v_a182).toNat v_y265)) (k := ((wi .i64 (v_a182 + v_i258))).toNat) (z := v_y266) (p := .agg [.v (.int .i64 v_y266.fId), .v (.int .i64 v_y266.fPages), .v (.int .i64 v_y266.fScore), .v (.bool v_y266.fKept)]) rfl) (.cons (G_slices_siftDownCmpFunc_oom_Task_h_ok n ((v_w259.set (v_a182).toNat v_y265).set ((wi .i64 (v_a182 + v_i258))).toNat v_y266) 0 v_i258 v_a182 v_cmp184 v_cmp184_g v_cmp184_c v_cmp184_h _ h304) .nil)))))))))))))) (G_slices_heapSortCmpFunc_oom_Task_h_L2_ok hF ks n v_cmp184 v_a182 v_cmp184_g v_cmp184_c v_cmp184_h k (wi .i64 (v_i258 - 1)) v_r269 _ h q)
            · rw [if_neg h302] at h; cases h
          · rw [if_neg h300] at h; cases h
        · rw [if_neg h298] at h; cases h
      · rw [if_neg h296] at h; cases h
    · rw [if_neg h286] at h
      cases h
      exact pkk_sound TTok mix hF 8 (hs := [.t false]) (ts := []) (s := [0, 1]) (l := []) (by kernel_rfl) (by kernel_rfl) (.cons (df h286) .nil) q
/- slices.heapSortCmpFunc[ringhall/oom.Task] -/
def G_slices_heapSortCmpFunc_oom_Task_h (n : Nat) (v_data181 : (List S_oom_Task)) (v_a182 : Int) (v_b183 : Int) (v_cmp184 : (S_oom_Task → S_oom_Task → Option (Int))) : Option ((List S_oom_Task)) :=
  (G_slices_heapSortCmpFunc_oom_Task_h_L1 n v_cmp184 v_a182 v_b183 n (quoI .i64 (wi .i64 ((wi .i64 (v_b183 - v_a182)) - 1)) 2) v_data181).bind fun v_o256 => match v_o256 with
  | .x0 v_z257 =>
    (G_slices_heapSortCmpFunc_oom_Task_h_L2 n v_cmp184 v_a182 n (wi .i64 ((wi .i64 (v_b183 - v_a182)) - 1)) v_z257).bind fun v_o271 => match v_o271 with
    | .x0 v_z272 =>
      some v_z272
theorem G_slices_heapSortCmpFunc_oom_Task_h_ok (n : Nat) (v_data181 : (List S_oom_Task)) (v_a182 : Int) (v_b183 : Int) (v_cmp184 : (S_oom_Task → S_oom_Task → Option (Int))) (v_cmp184_g : FuncId) (v_cmp184_c : List PV) (v_cmp184_h : ∀ (x0 : S_oom_Task) (x1 : S_oom_Task) (r : Int), v_cmp184 x0 x1 = some r → Ret Try.prog v_cmp184_g ([eS_oom_Task x0, eS_oom_Task x1] ++ v_cmp184_c) ((eI .i64) r)) (r : (List S_oom_Task)) (h : G_slices_heapSortCmpFunc_oom_Task_h n v_data181 v_a182 v_b183 v_cmp184 = some r) : RetH Try.prog 286 [.srf 0, .d ((eI .i64) v_a182), .d ((eI .i64) v_b183), .d ((.clo v_cmp184_g v_cmp184_c))] [.row 207 4 (v_data181.map eS_oom_Task)] (.tup []) [.row 207 4 (r.map eS_oom_Task)] := by
  refine retH_run (n := 60) (fn := Try.f286) (c := bodyOf Try.f286) (by kernel_rfl) (by kernel_rfl) (by kernel_rfl) (by kernel_rfl) ?_
  have hF : KC 60 (FinH Try.prog Try.f286 [.row 207 4 (v_data181.map eS_oom_Task)] (.tup []) [.row 207 4 (r.map eS_oom_Task)]) := FinH.kc' (by kernel_rfl)
  unfold G_slices_heapSortCmpFunc_oom_Task_h at h
  obtain ⟨v_o256, h285, h⟩ := bind_some h
  refine pkk_sound TTok mix hF 11 (hs := [.n n]) (ts := []) (s := [1, 0]) (l := [0, 3, 8, 9, 10, 11]) (by kernel_rfl) (by kernel_rfl) (.cons (show (2 : Int) ≠ 0 by decide) .nil) (G_slices_heapSortCmpFunc_oom_Task_h_L1_ok hF (.b 0 :: .s (cR (cR (cR (cR (bodyOf Try.f286))))) :: []) n v_cmp184 v_a182 v_b183 v_cmp184_g v_cmp184_c v_cmp184_h n (quoI .i64 (wi .i64 ((wi .i64 (v_b183 - v_a182)) - 1)) 2) v_data181 _ h285 ?_)
  cases v_o256 with
  | x0 v_z257 =>
    try dsimp only at h
    obtain ⟨v_o271, h305, h⟩ := bind_some h
    refine pkk_sound TTok mix hF 5 (hs := [.n n]) (ts := []) (s := [0, 1]) (l := [0, 3, 8, 9, 12]) (by kernel_rfl) (by kernel_rfl) .nil (G_slices_heapSortCmpFunc_oom_Task_h_L2_ok hF (.b 2 :: []) n v_cmp184 v_a182 v_cmp184_g v_cmp184_c v_cmp184_h n (wi .i64 ((wi .i64 (v_b183 - v_a182)) - 1)) v_z257 _ h305 ?_)
    cases v_o271 with
    | x0 v_z272 =>
      try dsimp only at h
      obtain rfl := Option.some.inj h
      exact pendH_sound TTok mix 1 (hs := []) [1] (by kernel_rfl) (by kernel_rfl) (by kernel_rfl) .nil
/- slices.nextPowerOfTwo -/
def G_slices_nextPowerOfTwo (n : Nat) (v_length279 : Int) : Option (Int) :=
  (G_math_bits_Len n (wi .u64 v_length279)).bind fun (v_r280 : (Int)) =>
  if 0 ≤ v_r280 then
   some (shlI .u64 1 v_r280)
  else none
theorem G_slices_nextPowerOfTwo_ok (n : Nat) (v_length279 : Int) (r : Int) (h : G_slices_nextPowerOfTwo n v_length279 = some r) : Ret Try.prog 315 [(eI .i64) v_length279] ((eI .u64) r) := by
  refine ret_run (n := 7) (fn := Try.f315) (c := bodyOf Try.f315) (by kernel_rfl) (by kernel_rfl) (by kernel_rfl) (by kernel_rfl) ?_
  have hF : KC 7 (FinR Try.prog Try.f315 ((eI .u64) r)) := FinR.kc' (by kernel_rfl)
  unfold G_slices_nextPowerOfTwo at h
  obtain ⟨v_r280, h311, h⟩ := bind_some h
  by_cases h312 : 0 ≤ v_r280
  · rw [if_pos h312] at h
    obtain rfl := Option.some.inj h
    exact pend_sound TTok mix 5 (hs := [.r ((eI .i64) v_r280)]) (by kernel_rfl) (by kernel_rfl) (by kernel_rfl) (.cons (G_math_bits_Len_ok n (wi .u64 v_length279) _ h311) (.cons h312 .nil))
  · rw [if_neg h312] at h; cases h
/- (*slices.xorshift).Next -/
def G_slices_xorshift_Next_h (n : Nat) (v_r284 : Int) : Option (Int × Int) :=
  some ((bits .xor .u64 (bits .xor .u64 (bits .xor .u64 v_r284 (shlI .u64 v_r284 13)) (shrI .u64 (bits .xor .u64 v_r284 (shlI .u64 v_r284 13)) 7)) (shlI .u64 (bits .xor .u64 (bits .xor .u64 v_r284 (shlI .u64 v_r284 13)) (shrI .u64 (bits .xor .u64 v_r284 (shlI .u64 v_r284 13)) 7)) 17)), (bits .xor .u64 (bits .xor .u64 (bits .xor .u64 v_r284 (shlI .u64 v_r284 13)) (shrI .u64 (bits .xor .u64 v_r284 (shlI .u64 v_r284 13)) 7)) (shlI .u64 (bits .xor .u64 (bits .xor .u64 v_r284 (shlI .u64 v_r284 13)) (shrI .u64 (bits .xor .u64 v_r284 (shlI .u64 v_r284 13)) 7)) 17)))
theorem G_slices_xorshift_Next_h_ok (n : Nat) (v_r284 : Int) (r : Int × Int) (h : G_slices_xorshift_Next_h n v_r284 = some r) : RetH Try.prog 316 [.ref 0 0] [.box [.d (.v (.int .u64 v_r284))]] (.d ((eI .u64) r.1)) [.box [.d (.v (.int .u64 r.2))]] := by
  refine retH_run (n := 33) (fn := Try.f316) (c := bodyOf Try.f316) (by kernel_rfl) (by kernel_rfl) (by kernel_rfl) (by kernel_rfl) ?_
  have hF : KC 33 (FinH Try.prog Try.f316 [.box [.d (.v (.int .u64 v_r284))]] (.d ((eI .u64) r.1)) [.box [.d (.v (.int .u64 r.2))]]) := FinH.kc' (by kernel_rfl)
  unfold G_slices_xorshift_Next_h at h
  obtain rfl := Option.some.inj h
  exact pendH_sound TTok mix 11 (hs := [.c, .c, .c, .c, .c, .c, .c, .c, .c, .c]) [0] (by kernel_rfl) (by kernel_rfl) (by kernel_rfl) (.cons (show (0 : Int) ≤ 13 by decide) (.cons (show 0 + 1 ≤ 1 by decide) (.cons (show (0 : Int) ≤ 7 by decide) (.cons (show 0 + 1 ≤ 1 by decide) (.cons (show (0 : Int) ≤ 17 by decide) (.cons (show 0 + 1 ≤ 1 by decide) .nil))))))
inductive G_slices_breakPatternsCmpFunc_oom_Task_h_L1_R where
  | x0 (v_w320 : (List S_oom_Task))
def G_slices_breakPatternsCmpFunc_oom_Task_h_L1_ex : G_slices_breakPatternsCmpFunc_oom_Task_h_L1_R → Ex
  | .x0 _ => .exit 0
def G_slices_breakPatternsCmpFunc_oom_Task_h_L1_st (v_a276 : Int) (v_b277 : Int) (v_r281 : (Int)) : G_slices_breakPatternsCmpFunc_oom_Task_h_L1_R → PS
  | .x0 v_w320 => ⟨[dd, dd, dd, dd, dd, dd, dd, dd, dd, dd, dd, dd, dd, dd, dd, dd, dd, dd, dd, dd, dd, dd, dd, dd, dd, dd, dd, dd, dd, dd, dd, dd, dd, dd, dd, dd, dd, dd, dd, dd, dd, dd, dd, dd, dd, dd, dd, dd, dd, dd, dd, dd, dd, dd, dd, dd, dd, dd, dd, dd, dd, dd, dd, dd, dd, dd, dd], [.gh 0 (.srf 1), .row 207 4 (v_w320.map eS_oom_Task)]⟩
def G_slices_breakPatternsCmpFunc_oom_Task_h_L1_hd (v_a276 : Int) (v_b277 : Int) (v_r281 : (Int)) (v_idx299 : Int) (v_w300 : (List S_oom_Task)) (v_b301 : Int) : PS := ⟨[.srf 1, .d (.v (.int .i64 v_a276)), dd, dd, dd, dd, dd, dd, .d (.v (.int .i64 (wi .i64 (v_b277 - v_a276)))), .ref 2 0, .d (.v (.int .u64 v_r281)), .d (.v (.int .i64 v_idx299)), dd, dd, dd, dd, dd, dd, dd, dd, dd, dd, dd, dd, dd, dd, dd, dd, dd, dd, dd, dd, dd, dd, dd, dd, dd, dd, dd, dd, dd, dd, dd, dd, dd, dd, dd, dd, dd, dd, dd, dd, dd, dd, dd, dd, dd, dd, dd, dd, dd, dd, dd, dd, dd, dd, dd], [.gh 0 (.srf 1), .row 207 4 (v_w300.map eS_oom_Task), .box [.d (.v (.int .u64 v_b301))]]⟩
def G_slices_breakPatternsCmpFunc_oom_Task_h_L1 (n : Nat) (v_a276 : Int) (v_b277 : Int) (v_r281 : (Int)) : Nat → Int → (List S_oom_Task) → Int → Option G_slices_breakPatternsCmpFunc_oom_Task_h_L1_R
  | 0, _, _, _ => none
  | k + 1, v_idx299, v_w300, v_b301 =>
    if v_idx299 ≤ (wi .i64 ((wi .i64 (v_a276 + (wi .i64 ((quoI .i64 (wi .i64 (v_b277 - v_a276)) 4) * 2)))) + 1)) then
     (G_slices_xorshift_Next_h n v_b301).bind fun (v_r311 : (Int × Int)) =>
     if (wi .i64 (bits .and .u64 v_r311.1 (wi .u64 (v_r281 - 1)))) ≥ (wi .i64 (v_b277 - v_a276)) then
      if 0 ≤ (wi .i64 (v_a276 + (wi .i64 ((wi .i64 (bits .and .u64 v_r311.1 (wi .u64 (v_r281 - 1)))) - (wi .i64 (v_b277 - v_a276)))))) ∧ ((wi .i64 (v_a276 + (wi .i64 ((wi .i64 (bits .and .u64 v_r311.1 (wi .u64 (v_r281 - 1)))) - (wi .i64 (v_b277 - v_a276))))))).toNat < v_w300.length then
       (v_w300[((wi .i64 (v_a276 + (wi .i64 ((wi .i64 (bits .and .u64 v_r311.1 (wi .u64 (v_r281 - 1)))) - (wi .i64 (v_b277 - v_a276))))))).toNat]?).bind fun (v_y312 : S_oom_Task) =>
       if 0 ≤ v_idx299 ∧ (v_idx299).toNat < v_w300.length then
        (v_w300[(v_idx299).toNat]?).bind fun (v_y313 : S_oom_Task) =>
        if 0 ≤ v_idx299 ∧ (v_idx299).toNat < v_w300.length then
         (v_w300[(v_idx299).toNat]?).bind fun (v_y314 : S_oom_Task) =>
         if 0 ≤ (wi .i64 (v_a276 + (wi .i64 ((wi .i64 (bits .and .u64 v_r311.1 (wi .u64 (v_r281 - 1)))) - (wi .i64 (v_b277 - v_a276)))))) ∧ ((wi .i64 (v_a276 + (wi .i64 ((wi .i64 (bits .and .u64 v_r311.1 (wi .u64 (v_r281 - 1)))) - (wi .i64 (v_b277 - v_a276))))))).toNat < (v_w300.set (v_idx299).toNat v_y312).length then
          ((v_w300.set (v_idx299).toNat v_y312)[((wi .i64 (v_a276 + (wi .i64 ((wi .i64 (bits .and .u64 v_r311.1 (wi .u64 (v_r281 - 1)))) - (wi .i64 (v_b277 - v_a276))))))).toNat]?).bind fun (v_y315 : S_oom_Task) =>
          G_slices_breakPatternsCmpFunc_oom_Task_h_L1 n v_a276 v_b277 v_r281 k (wi .i64 (v_idx299 + 1)) ((v_w300.set (v_idx299).toNat v_y312).set ((wi .i64 (v_a276 + (wi .i64 ((wi .i64 (bits .and .u64 v_r311.1 (wi .u64 (v_r281 - 1)))) - (wi .i64 (v_b277 - v_a276))))))).toNat v_y313) v_r311.2
         else none
        else none
       else none
      else none
     else
      if 0 ≤ (wi .i64 (v_a276 + (wi .i64 (bits .and .u64 v_r311.1 (wi .u64 (v_r281 - 1)))))) ∧ ((wi .i64 (v_a276 + (wi .i64 (bits .and .u64 v_r311.1 (wi .u64 (v_r281 - 1))))))).toNat < v_w300.length then
       (v_w300[((wi .i64 (v_a276 + (wi .i64 (bits .and .u64 v_r311.1 (wi .u64 (v_r281 - 1))))))).toNat]?).bind fun (v_y316 : S_oom_Task) =>
       if 0 ≤ v_idx299 ∧ (v_idx299).toNat < v_w300.length then
        (v_w300[(v_idx299).toNat]?).bind fun (v_y317 : S_oom_Task) =>
        if 0 ≤ v_idx299 ∧ (v_idx299).toNat < v_w300.length then
         (v_w300[(v_idx299).toNat]?).bind fun (v_y318 : S_oom_Task) =>
         if 0 ≤ (wi .i64 (v_a276 + (wi .i64 (bits .and .u64 v_r311.1 (wi .u64 (v_r281 - 1)))))) ∧ ((wi .i64 (v_a276 + (wi .i64 (bits .and .u64 v_r311.1 (wi .u64 (v_r281 - 1))))))).toNat < (v_w300.set (v_idx299).toNat v_y316).length then
          ((v_w300.set (v_idx299).toNat v_y316)[((wi .i64 (v_a276 + (wi .i64 (bits .and .u64 v_r311.1 (wi .u64 (v_r281 - 1))))))).toNat]?).bind fun (v_y319 : S_oom_Task) =>
          G_slices_breakPatternsCmpFunc_oom_Task_h_L1 n v_a276 v_b277 v_r281 k (wi .i64 (v_idx299 + 1)) ((v_w300.set (v_idx299).toNat v_y316).set ((wi .i64 (v_a276 + (wi .i64 (bits .and .u64 v_r311.1 (wi .u64 (v_r281 - 1))))))).toNat v_y317) v_r311.2
         else none
        else none
       else none
      else none
    else
     some (.x0 v_w300)
theorem G_slices_breakPatternsCmpFunc_oom_Task_h_L1_ok {Fi : Ex → PS → Prop} (hF : KC 67 Fi) (ks : List Fr) (n : Nat) (v_a276 : Int) (v_b277 : Int) (v_r281 : (Int))  : ∀ (k : Nat) (v_idx299 : Int) (v_w300 : (List S_oom_Task)) (v_b301 : Int) (o : G_slices_breakPatternsCmpFunc_oom_Task_h_L1_R), G_slices_breakPatternsCmpFunc_oom_Task_h_L1 n v_a276 v_b277 v_r281 k v_idx299 v_w300 v_b301 = some o → RunE Try.prog 67 Fi ks (G_slices_breakPatternsCmpFunc_oom_Task_h_L1_ex o) (G_slices_breakPatternsCmpFunc_oom_Task_h_L1_st v_a276 v_b277 v_r281 o) → RunE Try.prog 67 Fi (.l k (cP (cB (cR (cR (cR (cT (cR (cR (bodyOf Try.f287))))))))) :: ks) .normal (G_slices_breakPatternsCmpFunc_oom_Task_h_L1_hd v_a276 v_b277 v_r281 v_idx299 v_w300 v_b301)
  | 0, v_idx299, v_w300, v_b301, o, h, q => by rw [G_slices_breakPatternsCmpFunc_oom_Task_h_L1] at h; cases h
  | k + 1, v_idx299, v_w300, v_b301, o, h, q => by
    rw [G_slices_breakPatternsCmpFunc_oom_Task_h_L1] at h
    by_cases h351 : v_idx299 ≤ (wi .i64 ((wi .i64 (v_a276 + (wi .i64 ((quoI .i64 (wi .i64 (v_b277 - v_a276)) 4) * 2)))) + 1))
    · rw [if_pos h351] at h
      obtain ⟨v_r311, h371, h⟩ := bind_some h
      by_cases h373 : (wi .i64 (bits .and .u64 v_r311.1 (wi .u64 (v_r281 - 1)))) ≥ (wi .i64 (v_b277 - v_a276))
      · rw [if_pos h373] at h
        by_cases h374 : 0 ≤ (wi .i64 (v_a276 + (wi .i64 ((wi .i64 (bits .and .u64 v_r311.1 (wi .u64 (v_r281 - 1)))) - (wi .i64 (v_b277 - v_a276)))))) ∧ ((wi .i64 (v_a276 + (wi .i64 ((wi .i64 (bits .and .u64 v_r311.1 (wi .u64 (v_r281 - 1)))) - (wi .i64 (v_b277 - v_a276))))))).toNat < v_w300.length
        · rw [if_pos h374] at h
          obtain ⟨v_y312, h375, h⟩ := bind_some h
          by_cases h376 : 0 ≤ v_idx299 ∧ (v_idx299).toNat < v_w300.length
          · rw [if_pos h376] at h
            obtain ⟨v_y313, h377, h⟩ := bind_some h
            by_cases h378 : 0 ≤ v_idx299 ∧ (v_idx299).toNat < v_w300.length
            · rw [if_pos h378] at h
              obtain ⟨v_y314, h379, h⟩ := bind_some h
              by_cases h380 : 0 ≤ (wi .i64 (v_a276 + (wi .i64 ((wi .i64 (bits .and .u64 v_r311.1 (wi .u64 (v_r281 - 1)))) - (wi .i64 (v_b277 - v_a276)))))) ∧ ((wi .i64 (v_a276 + (wi .i64 ((wi .i64 (bits .and .u64 v_r311.1 (wi .u64 (v_r281 - 1)))) - (wi .i64 (v_b277 - v_a276))))))).toNat < (v_w300.set (v_idx299).toNat v_y312).length
              · rw [if_pos h380] at h
                obtain ⟨v_y315, h381, h⟩ := bind_some h
                exact pkk_sound TTok mix hF 18 (hs := [.t true, .h [2] [] [.box [.d (.v (.int .u64 v_r311.2))]] (.d (.v (.int .u64 v_r311.1))), .t true, .y (eS_oom_Task v_y312), .y (eS_oom_Task v_y313), .w ((v_w300.set (v_idx299).toNat v_y312).map eS_oom_Task), .y (eS_oom_Task v_y314), .w (((v_w300.set (v_idx299).toNat v_y312).set ((wi .i64 (v_a276 + (wi .i64 ((wi .i64 (bits .and .u64 v_r311.1 (wi .u64 (v_r281 - 1)))) - (wi .i64 (v_b277 - v_a276))))))).toNat v_y313).map eS_oom_Task), .y (eS_oom_Task v_y315)]) (ts := []) (s := [0, 1, 2]) (l := [0, 1, 8, 9, 10, 11]) (by kernel_rfl) (by kernel_rfl) (.cons (show (4 : Int) ≠ 0 by decide) (.cons (dt h351) (.cons (G_slices_xorshift_Next_h_ok n v_b301 _ h371) (.cons (dt h373) (.cons (idx_ob (f := eS_oom_Task) h374) (.cons (get_ob (f := eS_oom_Task) h375) (.cons (idx_ob (f := eS_oom_Task) h376) (.cons (get_ob (f := eS_oom_Task) h377) (.cons (idx_ob (f := eS_oom_Task) h378) (.cons (get_ob (f := eS_oom_Task) h379) (.cons (Eq.refl (pcells (.agg [.v (.int .i64 v_y312.fId), .v (.int .i64 v_y312.fPages), .v (.int .i64 v_y312.fScore), .v (.bool v_y312.fKept)]))) (.cons (set_ob (f := eS_oom_Task) (l := v_w300) (k := (v_idx299).toNat) (z := v_y312) (p := .agg [.v (.int .i64 v_y312.fId), .v (.int .i64 v_y312.fPages), .v (.int .i64 v_y312.fScore), .v (.bool v_y312.fKept)]) rfl) (.cons (idx_ob (f := eS_oom_Task) h380) (.cons (get_ob (f := eS_oom_Task) h381) (.cons (Eq.refl (pcells (.agg [.v (.int .i64 v_y313.fId), .v (.int .i64 v_y313.fPages), .v (.int .i64 v_y313.fScore), .v (.bool v_y313.fKept)]))) (.cons (set_ob (f := eS_oom_Task) (l := (v_w300.set (v_idx299).toNat v_y312)) (k := ((wi .i64 (v_a276 + (wi .i64 ((wi .i64 (bits .and .u64 v_r311.1 (wi .u64 (v_r281 - 1)))) - (wi .i64 (v_b277 - v_a276))))))).toNat) (z := v_y313) (p := .agg [.v (.int .i64 v_y313.fId), .v (.int .i64 v_y313.fPages), .v (.int .i64 v_y313.fScore), .v (.bool v_y313.fKept)]) rfl) .nil)))))))))))))))) (G_slices_breakPatternsCmpFunc_oom_Task_h_L1_ok hF ks n v_a276 v_b277 v_r281 k (wi .i64 (v_idx299 + 1)) ((v_w300.set (v_idx299).toNat v_y312).set ((wi .i64 (v_a276 + (wi .i64 ((wi .i64 (bits .and .u64 v_r311.1 (wi .u64 (v_r281 - 1)))) - (wi .i64 (v_b277 - v_a276))))))).toNat v_y313) v_r311.2 _ h q)
              · rw [if_neg h380] at h; cases h
            · rw [if_neg h378] at h; cases h
          · rw [if_neg h376] at h; cases h
        · rw [if_neg h374] at h; cases h
      · rw [if_neg h373] at h
        by_cases h382 : 0 ≤ (wi .i64 (v_a276 + (wi .i64 (bits .and .u64 v_r311.1 (wi .u64 (v_r281 - 1)))))) ∧ ((wi .i64 (v_a276 + (wi .i64 (bits .and .u64 v_r311.1 (wi .u64 (v_r281 - 1))))))).toNat < v_w300.length
        · rw [if_pos h382] at h
          obtain ⟨v_y316, h383, h⟩ := bind_some h
          by_cases h384 : 0 ≤ v_idx299 ∧ (v_idx299).toNat < v_w300.length
          · rw [if_pos h384] at h
            obtain ⟨v_y317, h385, h⟩ := bind_some h
            by_cases h386 : 0 ≤ v_idx299 ∧ (v_idx299).toNat < v_w300.length
            · rw [if_pos h386] at h
              obtain ⟨v_y318, h387, h⟩ := bind_some h
              by_cases h388 : 0 ≤ (wi .i64 (v_a276 + (wi .i64 (bits .and .u64 v_r311.1 (wi .u64 (v_r281 - 1)))))) ∧ ((wi .i64 (v_a276 + (wi .i64 (bits .and .u64 v_r311.1 (wi .u64 (v_r281 - 1))))))).toNat < (v_w300.set (v_idx299).toNat v_y316).length
              · rw [if_pos h388] at h
                obtain ⟨v_y319, h389, h⟩ := bind_some h
                exact pkk_sound TTok mix hF 18 (hs := [.t true, .h [2] [] [.box [.d (.v (.int .u64 v_r311.2))]] (.d (.v (.int .u64 v_r311.1))), .t false, .y (eS_oom_Task v_y316), .y (eS_oom_Task v_y317), .w ((v_w300.set (v_idx299).toNat v_y316).map eS_oom_Task), .y (eS_oom_Task v_y318), .w (((v_w300.set (v_idx299).toNat v_y316).set ((wi .i64 (v_a276 + (wi .i64 (bits .and .u64 v_r311.1 (wi .u64 (v_r281 - 1))))))).toNat v_y317).map eS_oom_Task), .y (eS_oom_Task v_y319)]) (ts := []) (s := [0, 1, 2]) (l := [0, 1, 8, 9, 10, 11]) (by kernel_rfl) (by kernel_rfl) (.cons (show (4 : Int) ≠ 0 by decide) (.cons (dt h351) (.cons (G_slices_xorshift_Next_h_ok n v_b301 _ h371) (.cons (df h373) (.cons (idx_ob (f := eS_oom_Task) h382) (.cons (get_ob (f := eS_oom_Task) h383) (.cons (idx_ob (f := eS_oom_Task) h384) (.cons (get_ob (f := eS_oom_Task) h385) (.cons (idx_ob (f := eS_oom_Task) h386) (.cons (get_ob (f := eS_oom_Task) h387) (.cons (Eq.refl (pcells (.agg [.v (.int .i64 v_y316.fId), .v (.int .i64 v_y316.fPages), .v (.int .i64 v_y316.fScore), .v (.bool v_y316.fKept)]))) (.cons (set_ob (f := eS_oom_Task) (l := v_w300) (k := (v_idx299).toNat) (z := v_y316) (p := .agg [.v (.int .i64 v_y316.fId), .v (.int .i64 v_y316.fPages), .v (.int .i64 v_y316.fScore), .v (.bool v_y316.fKept)]) rfl) (.cons (idx_ob (f := eS_oom_Task) h388) (.cons (get_ob (f := eS_oom_Task) h389) (.cons (Eq.refl (pcells (.agg [.v (.int .i64 v_y317.fId), .v (.int .i64 v_y317.fPages), .v (.int .i64 v_y317.fScore), .v (.bool v_y317.fKept)]))) (.cons (set_ob (f := eS_oom_Task) (l := (v_w300.set (v_idx299).toNat v_y316)) (k := ((wi .i64 (v_a276 + (wi .i64 (bits .and .u64 v_r311.1 (wi .u64 (v_r281 - 1))))))).toNat) (z := v_y317) (p := .agg [.v (.int .i64 v_y317.fId), .v (.int .i64 v_y317.fPages), .v (.int .i64 v_y317.fScore), .v (.bool v_y317.fKept)]) rfl) .nil)))))))))))))))) (G_slices_breakPatternsCmpFunc_oom_Task_h_L1_ok hF ks n v_a276 v_b277 v_r281 k (wi .i64 (v_idx299 + 1)) ((v_w300.set (v_idx299).toNat v_y316).set ((wi .i64 (v_a276 + (wi .i64 (bits .and .u64 v_r311.1 (wi .u64 (v_r281 - 1))))))).toNat v_y317) v_r311.2 _ h q)
              · rw [if_neg h388] at h; cases h
            · rw [if_neg h386] at h; cases h
          · rw [if_neg h384] at h; cases h
        · rw [if_neg h382] at h; cases h
    · rw [if_neg h351] at h
      cases h
      exact pkk_sound TTok mix hF 8 (hs := [.t false]) (ts := []) (s := [0, 1]) (l := []) (by kernel_rfl) (by kernel_rfl) (.cons (show (4 : Int) ≠ 0 by decide) (.cons (df h351) .nil)) q
/- slices.breakPatternsCmpFunc[ringhall/oom.Task] -/
def G_slices_breakPatternsCmpFunc_oom_Task_h (n : Nat) (v_data275 : (List S_oom_Task)) (v_a276 : Int) (v_b277 : Int) (v_cmp278 : (S_oom_Task → S_oom_Task → Option (Int))) : Option ((List S_oom_Task)) :=
  if (wi .i64 (v_b277 - v_a276)) ≥ 8 then
   (G_slices_nextPowerOfTwo n (wi .i64 (v_b277 - v_a276))).bind fun (v_r281 : (Int)) =>
   (G_slices_breakPatternsCmpFunc_oom_Task_h_L1 n v_a276 v_b277 v_r281 n (wi .i64 ((wi .i64 (v_a276 + (wi .i64 ((quoI .i64 (wi .i64 (v_b277 - v_a276)) 4) * 2)))) - 1)) v_data275 (wi .u64 (wi .i64 (v_b277 - v_a276)))).bind fun v_o321 => match v_o321 with
   | .x0 v_z322 =>
     some v_z322
  else
   some v_data275
theorem G_slices_breakPatternsCmpFunc_oom_Task_h_ok (n : Nat) (v_data275 : (List S_oom_Task)) (v_a276 : Int) (v_b277 : Int) (v_cmp278 : (S_oom_Task → S_oom_Task → Option (Int))) (v_cmp278_g : FuncId) (v_cmp278_c : List PV) (v_cmp278_h : ∀ (x0 : S_oom_Task) (x1 : S_oom_Task) (r : Int), v_cmp278 x0 x1 = some r → Ret Try.prog v_cmp278_g ([eS_oom_Task x0, eS_oom_Task x1] ++ v_cmp278_c) ((eI .i64) r)) (r : (List S_oom_Task)) (h : G_slices_breakPatternsCmpFunc_oom_Task_h n v_data275 v_a276 v_b277 v_cmp278 = some r) : RetH Try.prog 287 [.srf 0, .d ((eI .i64) v_a276), .d ((eI .i64) v_b277), .d ((.clo v_cmp278_g v_cmp278_c))] [.row 207 4 (v_data275.map eS_oom_Task)] (.tup []) [.row 207 4 (r.map eS_oom_Task)] := by
  refine retH_run (n := 67) (fn := Try.f287) (c := bodyOf Try.f287) (by kernel_rfl) (by kernel_rfl) (by kernel_rfl) (by kernel_rfl) ?_
  have hF : KC 67 (FinH Try.prog Try.f287 [.row 207 4 (v_data275.map eS_oom_Task)] (.tup []) [.row 207 4 (r.map eS_oom_Task)]) := FinH.kc' (by kernel_rfl)
  unfold G_slices_breakPatternsCmpFunc_oom_Task_h at h
  by_cases h310 : (wi .i64 (v_b277 - v_a276)) ≥ 8
  · rw [if_pos h310] at h
    obtain ⟨v_r281, h313, h⟩ := bind_some h
    obtain ⟨v_o321, h390, h⟩ := bind_some h
    refine pkk_sound TTok mix hF 13 (hs := [.t true, .c, .r ((eI .u64) v_r281), .n n]) (ts := []) (s := [1, 0, 26]) (l := [0, 1, 8, 9, 10, 11]) (by kernel_rfl) (by kernel_rfl) (.cons (dt h310) (.cons (show 0 + 1 ≤ 1 by decide) (.cons (G_slices_nextPowerOfTwo_ok n (wi .i64 (v_b277 - v_a276)) _ h313) (.cons (show (4 : Int) ≠ 0 by decide) .nil)))) (G_slices_breakPatternsCmpFunc_oom_Task_h_L1_ok hF (.b 0 :: []) n v_a276 v_b277 v_r281 n (wi .i64 ((wi .i64 (v_a276 + (wi .i64 ((quoI .i64 (wi .i64 (v_b277 - v_a276)) 4) * 2)))) - 1)) v_data275 (wi .u64 (wi .i64 (v_b277 - v_a276))) _ h390 ?_)
    cases v_o321 with
    | x0 v_z322 =>
      try dsimp only at h
      obtain rfl := Option.some.inj h
      exact pendH_sound TTok mix 1 (hs := []) [1] (by kernel_rfl) (by kernel_rfl) (by kernel_rfl) .nil
  · rw [if_neg h310] at h
    obtain rfl := Option.some.inj h
    exact pendH_sound TTok mix 6 (hs := [.t false]) [0] (by kernel_rfl) (by kernel_rfl) (by kernel_rfl) (.cons (df h310) .nil)
/- slices.order2CmpFunc[ringhall/oom.Task] -/
def G_slices_order2CmpFunc_oom_Task_h (n : Nat) (v_data346 : (List S_oom_Task)) (v_a347 : Int) (v_b348 : Int) (v_swaps349 : Int) (v_cmp350 : (S_oom_Task → S_oom_Task → Option (Int))) : Option (Int × Int × Int) :=
  (getI v_data346 v_b348).bind fun (v_y351 : S_oom_Task) =>
  (getI v_data346 v_a347).bind fun (v_y352 : S_oom_Task) =>
  (v_cmp350 v_y351 v_y352).bind fun (v_r353 : (Int)) =>
  if v_r353 < 0 then
   some (v_b348, v_a347, (wi .i64 (v_swaps349 + 1)))
  else
   some (v_a347, v_b348, v_swaps349)
theorem G_slices_order2CmpFunc_oom_Task_h_ok (n : Nat) (v_data346 : (List S_oom_Task)) (v_a347 : Int) (v_b348 : Int) (v_swaps349 : Int) (v_cmp350 : (S_oom_Task → S_oom_Task → Option (Int))) (v_cmp350_g : FuncId) (v_cmp350_c : List PV) (v_cmp350_h : ∀ (x0 : S_oom_Task) (x1 : S_oom_Task) (r : Int), v_cmp350 x0 x1 = some r → Ret Try.prog v_cmp350_g ([eS_oom_Task x0, eS_oom_Task x1] ++ v_cmp350_c) ((eI .i64) r)) (r : Int × Int × Int) (h : G_slices_order2CmpFunc_oom_Task_h n v_data346 v_a347 v_b348 v_swaps349 v_cmp350 = some r) : RetH Try.prog 325 [.d ((eL eS_oom_Task) v_data346), .d ((eI .i64) v_a347), .d ((eI .i64) v_b348), .ref 0 0, .d ((.clo v_cmp350_g v_cmp350_c))] [.box [.d (.v (.int .i64 v_swaps349))]] (.tup [.d ((eI .i64) r.1), .d ((eI .i64) r.2.1)]) [.box [.d (.v (.int .i64 r.2.2))]] := by
  refine retH_run (n := 32) (fn := Try.f325) (c := bodyOf Try.f325) (by kernel_rfl) (by kernel_rfl) (by kernel_rfl) (by kernel_rfl) ?_
  have hF : KC 32 (FinH Try.prog Try.f325 [.box [.d (.v (.int .i64 v_swaps349))]] (.tup [.d ((eI .i64) r.1), .d ((eI .i64) r.2.1)]) [.box [.d (.v (.int .i64 r.2.2))]]) := FinH.kc' (by kernel_rfl)
  unfold G_slices_order2CmpFunc_oom_Task_h at h
  obtain ⟨v_y351, h400, h⟩ := bind_some h
  obtain ⟨v_y352, h401, h⟩ := bind_some h
  obtain ⟨v_r353, h402, h⟩ := bind_some h
  by_cases h404 : v_r353 < 0
  · rw [if_pos h404] at h
    obtain rfl := Option.some.inj h
    exact pendH_sound TTok mix 12 (hs := [.y (eS_oom_Task v_y351), .y (eS_oom_Task v_y352), .r ((eI .i64) v_r353), .t true, .c, .c]) [0] (by kernel_rfl) (by kernel_rfl) (by kernel_rfl) (.cons (getI_ob (f := eS_oom_Task) h400) (.cons (getI_ob (f := eS_oom_Task) h401) (.cons (v_cmp350_h v_y351 v_y352 _ h402) (.cons (dt h404) (.cons (show 0 + 1 ≤ 1 by decide) .nil)))))
  · rw [if_neg h404] at h
    obtain rfl := Option.some.inj h
    exact pendH_sound TTok mix 10 (hs := [.y (eS_oom_Task v_y351), .y (eS_oom_Task v_y352), .r ((eI .i64) v_r353), .t false]) [0] (by kernel_rfl) (by kernel_rfl) (by kernel_rfl) (.cons (getI_ob (f := eS_oom_Task) h400) (.cons (getI_ob (f := eS_oom_Task) h401) (.cons (v_cmp350_h v_y351 v_y352 _ h402) (.cons (df h404) .nil))))
/- slices.medianCmpFunc[ringhall/oom.Task] -/
def G_slices_medianCmpFunc_oom_Task_h (n : Nat) (v_data340 : (List S_oom_Task)) (v_a341 : Int) (v_b342 : Int) (v_c343 : Int) (v_swaps344 : Int) (v_cmp345 : (S_oom_Task → S_oom_Task → Option (Int))) : Option (Int × Int) :=
  (G_slices_order2CmpFunc_oom_Task_h n v_data340 v_a341 v_b342 v_swaps344 v_cmp345).bind fun (v_r354 : (Int × Int × Int)) =>
  (G_slices_order2CmpFunc_oom_Task_h n v_data340 v_r354.2.1 v_c343 v_r354.2.2 v_cmp345).bind fun (v_r355 : (Int × Int × Int)) =>
  (G_slices_order2CmpFunc_oom_Task_h n v_data340 v_r354.1 v_r355.1 v_r355.2.2 v_cmp345).bind fun (v_r356 : (Int × Int × Int)) =>
  some (v_r356.2.1, v_r356.2.2)
theorem G_slices_medianCmpFunc_oom_Task_h_ok (n : Nat) (v_data340 : (List S_oom_Task)) (v_a341 : Int) (v_b342 : Int) (v_c343 : Int) (v_swaps344 : Int) (v_cmp345 : (S_oom_Task → S_oom_Task → Option (Int))) (v_cmp345_g : FuncId) (v_cmp345_c : List PV) (v_cmp345_h : ∀ (x0 : S_oom_Task) (x1 : S_oom_Task) (r : Int), v_cmp345 x0 x1 = some r → Ret Try.prog v_cmp345_g ([eS_oom_Task x0, eS_oom_Task x1] ++ v_cmp345_c) ((eI .i64) r)) (r : Int × Int) (h : G_slices_medianCmpFunc_oom_Task_h n v_data340 v_a341 v_b342 v_c343 v_swaps344 v_cmp345 = some r) : RetH Try.prog 318 [.d ((eL eS_oom_Task) v_data340), .d ((eI .i64) v_a341), .d ((eI .i64) v_b342), .d ((eI .i64) v_c343), .ref 0 0, .d ((.clo v_cmp345_g v_cmp345_c))] [.box [.d (.v (.int .i64 v_swaps344))]] (.d ((eI .i64) r.1)) [.box [.d (.v (.int .i64 r.2))]] := by
  refine retH_run (n := 41) (fn := Try.f318) (c := bodyOf Try.f318) (by kernel_rfl) (by kernel_rfl) (by kernel_rfl) (by kernel_rfl) ?_
  have hF : KC 41 (FinH Try.prog Try.f318 [.box [.d (.v (.int .i64 v_swaps344))]] (.d ((eI .i64) r.1)) [.box [.d (.v (.int .i64 r.2))]]) := FinH.kc' (by kernel_rfl)
  unfold G_slices_medianCmpFunc_oom_Task_h at h
  obtain ⟨v_r354, h405, h⟩ := bind_some h
  obtain ⟨v_r355, h406, h⟩ := bind_some h
  obtain ⟨v_r356, h407, h⟩ := bind_some h
  obtain rfl := Option.some.inj h
  exact pendH_sound TTok mix 11 (hs := [.h [0] [] [.box [.d (.v (.int .i64 v_r354.2.2))]] (.tup [.d (.v (.int .i64 v_r354.1)), .d (.v (.int .i64 v_r354.2.1))]), .h [0] [] [.box [.d (.v (.int .i64 v_r355.2.2))]] (.tup [.d (.v (.int .i64 v_r355.1)), .d (.v (.int .i64 v_r355.2.1))]), .h [0] [] [.box [.d (.v (.int .i64 v_r356.2.2))]] (.tup [.d (.v (.int .i64 v_r356.1)), .d (.v (.int .i64 v_r356.2.1))])]) [0] (by kernel_rfl) (by kernel_rfl) (by kernel_rfl) (.cons (G_slices_order2CmpFunc_oom_Task_h_ok n v_data340 v_a341 v_b342 v_swaps344 v_cmp345 v_cmp345_g v_cmp345_c v_cmp345_h _ h405) (.cons (G_slices_order2CmpFunc_oom_Task_h_ok n v_data340 v_r354.2.1 v_c343 v_r354.2.2 v_cmp345 v_cmp345_g v_cmp345_c v_cmp345_h _ h406) (.cons (G_slices_order2CmpFunc_oom_Task_h_ok n v_data340 v_r354.1 v_r355.1 v_r355.2.2 v_cmp345 v_cmp345_g v_cmp345_c v_cmp345_h _ h407) .nil)))
/- slices.medianAdjacentCmpFunc[ringhall/oom.Task] -/
def G_slices_medianAdjacentCmpFunc_oom_Task_h (n : Nat) (v_data336 : (List S_oom_Task)) (v_a337 : Int) (v_swaps338 : Int) (v_cmp339 : (S_oom_Task → S_oom_Task → Option (Int))) : Option (Int × Int) :=
  (G_slices_medianCmpFunc_oom_Task_h n v_data336 (wi .i64 (v_a337 - 1)) v_a337 (wi .i64 (v_a337 + 1)) v_swaps338 v_cmp339).bind fun (v_r357 : (Int × Int)) =>
  some (v_r357.1, v_r357.2)
theorem G_slices_medianAdjacentCmpFunc_oom_Task_h_ok (n : Nat) (v_data336 : (List S_oom_Task)) (v_a337 : Int) (v_swaps338 : Int) (v_cmp339 : (S_oom_Task → S_oom_Task → Option (Int))) (v_cmp339_g : FuncId) (v_cmp339_c : List PV) (v_cmp339_h : ∀ (x0 : S_oom_Task) (x1 : S_oom_Task) (r : Int), v_cmp339 x0 x1 = some r → Ret Try.prog v_cmp339_g ([eS_oom_Task x0, eS_oom_Task x1] ++ v_cmp339_c) ((eI .i64) r)) (r : Int × Int) (h : G_slices_medianAdjacentCmpFunc_oom_Task_h n v_data336 v_a337 v_swaps338 v_cmp339 = some r) : RetH Try.prog 317 [.d ((eL eS_oom_Task) v_data336), .d ((eI .i64) v_a337), .ref 0 0, .d ((.clo v_cmp339_g v_cmp339_c))] [.box [.d (.v (.int .i64 v_swaps338))]] (.d ((eI .i64) r.1)) [.box [.d (.v (.int .i64 r.2))]] := by
  refine retH_run (n := 18) (fn := Try.f317) (c := bodyOf Try.f317) (by kernel_rfl) (by kernel_rfl) (by kernel_rfl) (by kernel_rfl) ?_
  have hF : KC 18 (FinH Try.prog Try.f317 [.box [.d (.v (.int .i64 v_swaps338))]] (.d ((eI .i64) r.1)) [.box [.d (.v (.int .i64 r.2))]]) := FinH.kc' (by kernel_rfl)
  unfold G_slices_medianAdjacentCmpFunc_oom_Task_h at h
  obtain ⟨v_r357, h408, h⟩ := bind_some h
  obtain rfl := Option.some.inj h
  exact pendH_sound TTok mix 5 (hs := [.h [0] [] [.box [.d (.v (.int .i64 v_r357.2))]] (.d (.v (.int .i64 v_r357.1)))]) [0] (by kernel_rfl) (by kernel_rfl) (by kernel_rfl) (.cons (G_slices_medianCmpFunc_oom_Task_h_ok n v_data336 (wi .i64 (v_a337 - 1)) v_a337 (wi .i64 (v_a337 + 1)) v_swaps338 v_cmp339 v_cmp339_g v_cmp339_c v_cmp339_h _ h408) .nil)
inductive G_slices_choosePivotCmpFunc_oom_Task_C1_R where
  | x0 (v_j373 : Int) (v_b374 : Int)
  | x1 (v_j378 : Int)
def G_slices_choosePivotCmpFunc_oom_Task_C1_ex : G_slices_choosePivotCmpFunc_oom_Task_C1_R → Ex
  | .x0 _ _ => .normal
  | .x1 _ => .normal
def G_slices_choosePivotCmpFunc_oom_Task_C1_st (v_data332 : (List S_oom_Task)) (v_cmp335 : (S_oom_Task → S_oom_Task → Option (Int))) (v_b334 : Int) (v_a333 : Int) (v_cmp335_g : FuncId) (v_cmp335_c : (List PV)) : G_slices_choosePivotCmpFunc_oom_Task_C1_R → PS
  | .x0 v_j373 v_b374 => ⟨[dd, dd, dd, dd, dd, dd, dd, dd, dd, dd, dd, .ref 0 0, dd, .d (.v (.int .i64 v_j373)), dd, dd, dd, dd, dd, dd, dd, dd, dd, dd, dd, dd, dd, dd, dd, dd, dd, dd, dd, dd, dd, dd, dd, dd, dd, dd, dd, dd, dd, dd, dd, dd, dd, dd, dd, dd, dd, dd, dd, dd, dd, dd, dd, dd, dd, dd, dd, dd, dd], [.box [.d (.v (.int .i64 v_b374))]]⟩
  | .x1 v_j378 => ⟨[dd, dd, dd, dd, dd, dd, dd, dd, dd, dd, dd, .ref 0 0, dd, .d (.v (.int .i64 v_j378)), dd, dd, dd, dd, dd, dd, dd, dd, dd, dd, dd, dd, dd, dd, dd, dd, dd, dd, dd, dd, dd, dd, dd, dd, dd, dd, dd, dd, dd, dd, dd, dd, dd, dd, dd, dd, dd, dd, dd, dd, dd, dd, dd, dd, dd, dd, dd, dd, dd], [.box [.d (.v (.int .i64 0))]]⟩
def G_slices_choosePivotCmpFunc_oom_Task_C1_hd (v_data332 : (List S_oom_Task)) (v_cmp335 : (S_oom_Task → S_oom_Task → Option (Int))) (v_b334 : Int) (v_a333 : Int) (v_cmp335_g : FuncId) (v_cmp335_c : (List PV))  : PS := ⟨[.d (.sl (v_data332.map eS_oom_Task)), dd, dd, .d (.clo v_cmp335_g v_cmp335_c), dd, dd, dd, dd, dd, dd, .d (.v (.int .i64 (wi .i64 (v_b334 - v_a333)))), .ref 0 0, .d (.v (.int .i64 (wi .i64 (v_a333 + (wi .i64 ((quoI .i64 (wi .i64 (v_b334 - v_a333)) 4) * 1)))))), .d (.v (.int .i64 (wi .i64 (v_a333 + (wi .i64 ((quoI .i64 (wi .i64 (v_b334 - v_a333)) 4) * 2)))))), .d (.v (.int .i64 (wi .i64 (v_a333 + (wi .i64 ((quoI .i64 (wi .i64 (v_b334 - v_a333)) 4) * 3)))))), dd, dd, dd, dd, dd, dd, dd, dd, dd, dd, dd, dd, dd, dd, dd, dd, dd, dd, dd, .d (.v (.bool (decide ((wi .i64 (v_b334 - v_a333)) ≥ 8)))), dd, dd, dd, dd, dd, dd, dd, dd, dd, dd, dd, dd, dd, dd, dd, dd, dd, dd, dd, dd, dd, dd, dd, dd, dd, dd, dd, dd], [.box [.d (.v (.int .i64 0))]]⟩
def G_slices_choosePivotCmpFunc_oom_Task_C1 (n : Nat) (v_data332 : (List S_oom_Task)) (v_cmp335 : (S_oom_Task → S_oom_Task → Option (Int))) (v_b334 : Int) (v_a333 : Int) : Option G_slices_choosePivotCmpFunc_oom_Task_C1_R :=
  if (wi .i64 (v_b334 - v_a333)) ≥ 8 then
   if (wi .i64 (v_b334 - v_a333)) ≥ 50 then
    (G_slices_medianAdjacentCmpFunc_oom_Task_h n v_data332 (wi .i64 (v_a333 + (wi .i64 ((quoI .i64 (wi .i64 (v_b334 - v_a333)) 4) * 1)))) 0 v_cmp335).bind fun (v_r369 : (Int × Int)) =>
    (G_slices_medianAdjacentCmpFunc_oom_Task_h n v_data332 (wi .i64 (v_a333 + (wi .i64 ((quoI .i64 (wi .i64 (v_b334 - v_a333)) 4) * 2)))) v_r369.2 v_cmp335).bind fun (v_r370 : (Int × Int)) =>
    (G_slices_medianAdjacentCmpFunc_oom_Task_h n v_data332 (wi .i64 (v_a333 + (wi .i64 ((quoI .i64 (wi .i64 (v_b334 - v_a333)) 4) * 3)))) v_r370.2 v_cmp335).bind fun (v_r371 : (Int × Int)) =>
    (G_slices_medianCmpFunc_oom_Task_h n v_data332 v_r369.1 v_r370.1 v_r371.1 v_r371.2 v_cmp335).bind fun (v_r372 : (Int × Int)) =>
    some (.x0 v_r372.1 v_r372.2)
   else
    (G_slices_medianCmpFunc_oom_Task_h n v_data332 (wi .i64 (v_a333 + (wi .i64 ((quoI .i64 (wi .i64 (v_b334 - v_a333)) 4) * 1)))) (wi .i64 (v_a333 + (wi .i64 ((quoI .i64 (wi .i64 (v_b334 - v_a333)) 4) * 2)))) (wi .i64 (v_a333 + (wi .i64 ((quoI .i64 (wi .i64 (v_b334 - v_a333)) 4) * 3)))) 0 v_cmp335).bind fun (v_r375 : (Int × Int)) =>
    some (.x0 v_r375.1 v_r375.2)
  else
   some (.x1 (wi .i64 (v_a333 + (wi .i64 ((quoI .i64 (wi .i64 (v_b334 - v_a333)) 4) * 2)))))
theorem G_slices_choosePivotCmpFunc_oom_Task_C1_ok {Fi : Ex → PS → Prop} (hF : KC 63 Fi) (ks : List Fr) (n : Nat) (v_data332 : (List S_oom_Task)) (v_cmp335 : (S_oom_Task → S_oom_Task → Option (Int))) (v_b334 : Int) (v_a333 : Int) (v_cmp335_g : FuncId) (v_cmp335_c : (List PV)) (v_cmp335_h : ∀ (x0 : S_oom_Task) (x1 : S_oom_Task) (r : Int), v_cmp335 x0 x1 = some r → Ret Try.prog v_cmp335_g ([eS_oom_Task x0, eS_oom_Task x1] ++ v_cmp335_c) ((eI .i64) r)) (o : G_slices_choosePivotCmpFunc_oom_Task_C1_R) (h : G_slices_choosePivotCmpFunc_oom_Task_C1 n v_data332 v_cmp335 v_b334 v_a333 = some o) (q : RunE Try.prog 63 Fi ks (G_slices_choosePivotCmpFunc_oom_Task_C1_ex o) (G_slices_choosePivotCmpFunc_oom_Task_C1_st v_data332 v_cmp335 v_b334 v_a333 v_cmp335_g v_cmp335_c o)) : RunE Try.prog 63 Fi (.s (cR (cL (cR (cR (cR (cR (cR (cR (bodyOf Try.f288))))))))) :: ks) .normal (G_slices_choosePivotCmpFunc_oom_Task_C1_hd v_data332 v_cmp335 v_b334 v_a333 v_cmp335_g v_cmp335_c) := by
  unfold G_slices_choosePivotCmpFunc_oom_Task_C1 at h
  by_cases h418 : (wi .i64 (v_b334 - v_a333)) ≥ 8
  · rw [if_pos h418] at h
    by_cases h423 : (wi .i64 (v_b334 - v_a333)) ≥ 50
    · rw [if_pos h423] at h
      obtain ⟨v_r369, h424, h⟩ := bind_some h
      obtain ⟨v_r370, h425, h⟩ := bind_some h
      obtain ⟨v_r371, h426, h⟩ := bind_some h
      obtain ⟨v_r372, h427, h⟩ := bind_some h
      cases h
      exact pkk_sound TTok mix hF 11 (hs := [.t true, .t true, .h [0] [] [.box [.d (.v (.int .i64 v_r369.2))]] (.d (.v (.int .i64 v_r369.1))), .h [0] [] [.box [.d (.v (.int .i64 v_r370.2))]] (.d (.v (.int .i64 v_r370.1))), .h [0] [] [.box [.d (.v (.int .i64 v_r371.2))]] (.d (.v (.int .i64 v_r371.1))), .h [0] [] [.box [.d (.v (.int .i64 v_r372.2))]] (.d (.v (.int .i64 v_r372.1)))]) (ts := []) (s := [0]) (l := [11, 13]) (by kernel_rfl) (by kernel_rfl) (.cons (dt h418) (.cons (dt h423) (.cons (G_slices_medianAdjacentCmpFunc_oom_Task_h_ok n v_data332 (wi .i64 (v_a333 + (wi .i64 ((quoI .i64 (wi .i64 (v_b334 - v_a333)) 4) * 1)))) 0 v_cmp335 v_cmp335_g v_cmp335_c v_cmp335_h _ h424) (.cons (G_slices_medianAdjacentCmpFunc_oom_Task_h_ok n v_data332 (wi .i64 (v_a333 + (wi .i64 ((quoI .i64 (wi .i64 (v_b334 - v_a333)) 4) * 2)))) v_r369.2 v_cmp335 v_cmp335_g v_cmp335_c v_cmp335_h _ h425) (.cons (G_slices_medianAdjacentCmpFunc_oom_Task_h_ok n v_data332 (wi .i64 (v_a333 + (wi .i64 ((quoI .i64 (wi .i64 (v_b334 - v_a333)) 4) * 3)))) v_r370.2 v_cmp335 v_cmp335_g v_cmp335_c v_cmp335_h _ h426) (.cons (G_slices_medianCmpFunc_oom_Task_h_ok n v_data332 v_r369.1 v_r370.1 v_r371.1 v_r371.2 v_cmp335 v_cmp335_g v_cmp335_c v_cmp335_h _ h427) .nil)))))) q
    · rw [if_neg h423] at h
      obtain ⟨v_r375, h428, h⟩ := bind_some h
      cases h
      exact pkk_sound TTok mix hF 7 (hs := [.t true, .t false, .h [0] [] [.box [.d (.v (.int .i64 v_r375.2))]] (.d (.v (.int .i64 v_r375.1)))]) (ts := []) (s := [0]) (l := [11, 13]) (by kernel_rfl) (by kernel_rfl) (.cons (dt h418) (.cons (df h423) (.cons (G_slices_medianCmpFunc_oom_Task_h_ok n v_data332 (wi .i64 (v_a333 + (wi .i64 ((quoI .i64 (wi .i64 (v_b334 - v_a333)) 4) * 1)))) (wi .i64 (v_a333 + (wi .i64 ((quoI .i64 (wi .i64 (v_b334 - v_a333)) 4) * 2)))) (wi .i64 (v_a333 + (wi .i64 ((quoI .i64 (wi .i64 (v_b334 - v_a333)) 4) * 3)))) 0 v_cmp335 v_cmp335_g v_cmp335_c v_cmp335_h _ h428) .nil))) q
  · rw [if_neg h418] at h
    cases h
    exact pkk_sound TTok mix hF 2 (hs := [.t false]) (ts := []) (s := [0]) (l := [11, 13]) (by kernel_rfl) (by kernel_rfl) (.cons (df h418) .nil) q
/- slices.choosePivotCmpFunc[ringhall/oom.Task] -/
def G_slices_choosePivotCmpFunc_oom_Task (n : Nat) (v_data332 : (List S_oom_Task)) (v_a333 : Int) (v_b334 : Int) (v_cmp335 : (S_oom_Task → S_oom_Task → Option (Int))) : Option (Int × Int) :=
  (G_slices_choosePivotCmpFunc_oom_Task_C1 n v_data332 v_cmp335 v_b334 v_a333).bind fun v_o379 => match v_o379 with
  | .x0 v_z380 v_z381 =>
    if v_z381 = 0 then
     some (v_z380, 1)
    else
     if v_z381 = 12 then
      some (v_z380, 2)
     else
      some (v_z380, 0)
  | .x1 v_z382 =>
    some (v_z382, 1)
theorem G_slices_choosePivotCmpFunc_oom_Task_ok (n : Nat) (v_data332 : (List S_oom_Task)) (v_a333 : Int) (v_b334 : Int) (v_cmp335 : (S_oom_Task → S_oom_Task → Option (Int))) (v_cmp335_g : FuncId) (v_cmp335_c : List PV) (v_cmp335_h : ∀ (x0 : S_oom_Task) (x1 : S_oom_Task) (r : Int), v_cmp335 x0 x1 = some r → Ret Try.prog v_cmp335_g ([eS_oom_Task x0, eS_oom_Task x1] ++ v_cmp335_c) ((eI .i64) r)) (r : Int × Int) (h : G_slices_choosePivotCmpFunc_oom_Task n v_data332 v_a333 v_b334 v_cmp335 = some r) : Ret Try.prog 288 [(eL eS_oom_Task) v_data332, (eI .i64) v_a333, (eI .i64) v_b334, (.clo v_cmp335_g v_cmp335_c)] (.tup [(eI .i64) r.1, (eI .i64) r.2]) := by
  refine ret_run (n := 63) (fn := Try.f288) (c := bodyOf Try.f288) (by kernel_rfl) (by kernel_rfl) (by kernel_rfl) (by kernel_rfl) ?_
  have hF : KC 63 (FinR Try.prog Try.f288 (.tup [(eI .i64) r.1, (eI .i64) r.2])) := FinR.kc' (by kernel_rfl)
  unfold G_slices_choosePivotCmpFunc_oom_Task at h
  obtain ⟨v_o379, h429, h⟩ := bind_some h
  refine pkk_sound TTok mix hF 15 (hs := []) (ts := []) (s := [18]) (l := [0, 3, 10, 11, 12, 13, 14, 34]) (by kernel_rfl) (by kernel_rfl) (.cons (show (4 : Int) ≠ 0 by decide) (.cons (show (4 : Int) ≠ 0 by decide) (.cons (show (4 : Int) ≠ 0 by decide) .nil))) (G_slices_choosePivotCmpFunc_oom_Task_C1_ok hF (.s (cR (cR (cR (cR (cR (cR (cR (bodyOf Try.f288)))))))) :: []) n v_data332 v_cmp335 v_b334 v_a333 v_cmp335_g v_cmp335_c v_cmp335_h _ h429 ?_)
  cases v_o379 with
  | x0 v_z380 v_z381 =>
    try dsimp only at h
    by_cases h432 : v_z381 = 0
    · rw [if_pos h432] at h
      obtain rfl := Option.some.inj h
      exact pend_sound TTok mix 10 (hs := [.c, .t true]) (by kernel_rfl) (by kernel_rfl) (by kernel_rfl) (.cons (bt h432) .nil)
    · rw [if_neg h432] at h
      by_cases h434 : v_z381 = 12
      · rw [if_pos h434] at h
        obtain rfl := Option.some.inj h
        exact pend_sound TTok mix 13 (hs := [.c, .t false, .t true]) (by kernel_rfl) (by kernel_rfl) (by kernel_rfl) (.cons (bf h432) (.cons (bt h434) .nil))
      · rw [if_neg h434] at h
        obtain rfl := Option.some.inj h
        exact pend_sound TTok mix 13 (hs := [.c, .t false, .t false]) (by kernel_rfl) (by kernel_rfl) (by kernel_rfl) (.cons (bf h432) (.cons (bf h434) .nil))
  | x1 v_z382 =>
    try dsimp only at h
    obtain rfl := Option.some.inj h
    exact pend_sound TTok mix 10 (hs := [.c, .c]) (by kernel_rfl) (by kernel_rfl) (by kernel_rfl) .nil
inductive G_slices_reverseRangeCmpFunc_oom_Task_h_L1_R where
  | x0 (v_w399 : (List S_oom_Task))
def G_slices_reverseRangeCmpFunc_oom_Task_h_L1_ex : G_slices_reverseRangeCmpFunc_oom_Task_h_L1_R → Ex
  | .x0 _ => .exit 0
def G_slices_reverseRangeCmpFunc_oom_Task_h_L1_st  : G_slices_reverseRangeCmpFunc_oom_Task_h_L1_R → PS
  | .x0 v_w399 => ⟨[dd, dd, dd, dd, dd, dd, dd, dd, dd, dd, dd, dd, dd, dd, dd, dd, dd, dd, dd, dd, dd, dd, dd, dd, dd, dd, dd, dd, dd, dd, dd, dd, dd, dd], [.gh 0 (.srf 1), .row 207 4 (v_w399.map eS_oom_Task)]⟩
def G_slices_reverseRangeCmpFunc_oom_Task_h_L1_hd  (v_i388 : Int) (v_j389 : Int) (v_w390 : (List S_oom_Task)) : PS := ⟨[.srf 1, dd, dd, dd, dd, dd, dd, dd, .d (.v (.int .i64 v_i388)), .d (.v (.int .i64 v_j389)), dd, dd, dd, dd, dd, dd, dd, dd, dd, dd, dd, dd, dd, dd, dd, dd, dd, dd, dd, dd, dd, dd, dd, dd], [.gh 0 (.srf 1), .row 207 4 (v_w390.map eS_oom_Task)]⟩
def G_slices_reverseRangeCmpFunc_oom_Task_h_L1 (n : Nat)  : Nat → Int → Int → (List S_oom_Task) → Option G_slices_reverseRangeCmpFunc_oom_Task_h_L1_R
  | 0, _, _, _ => none
  | k + 1, v_i388, v_j389, v_w390 =>
    if v_i388 < v_j389 then
     if 0 ≤ v_j389 ∧ (v_j389).toNat < v_w390.length then
      (v_w390[(v_j389).toNat]?).bind fun (v_y395 : S_oom_Task) =>
      if 0 ≤ v_i388 ∧ (v_i388).toNat < v_w390.length then
       (v_w390[(v_i388).toNat]?).bind fun (v_y396 : S_oom_Task) =>
       if 0 ≤ v_i388 ∧ (v_i388).toNat < v_w390.length then
        (v_w390[(v_i388).toNat]?).bind fun (v_y397 : S_oom_Task) =>
        if 0 ≤ v_j389 ∧ (v_j389).toNat < (v_w390.set (v_i388).toNat v_y395).length then
         ((v_w390.set (v_i388).toNat v_y395)[(v_j389).toNat]?).bind fun (v_y398 : S_oom_Task) =>
         G_slices_reverseRangeCmpFunc_oom_Task_h_L1 n  k (wi .i64 (v_i388 + 1)) (wi .i64 (v_j389 - 1)) ((v_w390.set (v_i388).toNat v_y395).set (v_j389).toNat v_y396)
        else none
       else none
      else none
     else none
    else
     some (.x0 v_w390)
theorem G_slices_reverseRangeCmpFunc_oom_Task_h_L1_ok {Fi : Ex → PS → Prop} (hF : KC 34 Fi) (ks : List Fr) (n : Nat)   : ∀ (k : Nat) (v_i388 : Int) (v_j389 : Int) (v_w390 : (List S_oom_Task)) (o : G_slices_reverseRangeCmpFunc_oom_Task_h_L1_R), G_slices_reverseRangeCmpFunc_oom_Task_h_L1 n  k v_i388 v_j389 v_w390 = some o → RunE Try.prog 34 Fi ks (G_slices_reverseRangeCmpFunc_oom_Task_h_L1_ex o) (G_slices_reverseRangeCmpFunc_oom_Task_h_L1_st  o) → RunE Try.prog 34 Fi (.l k (cP (cB (cR (cR (bodyOf Try.f289))))) :: ks) .normal (G_slices_reverseRangeCmpFunc_oom_Task_h_L1_hd  v_i388 v_j389 v_w390)
  | 0, v_i388, v_j389, v_w390, o, h, q => by rw [G_slices_reverseRangeCmpFunc_oom_Task_h_L1] at h; cases h
  | k + 1, v_i388, v_j389, v_w390, o, h, q => by
    rw [G_slices_reverseRangeCmpFunc_oom_Task_h_L1] at h
    by_cases h437 : v_i388 < v_j389
    · rw [if_pos h437] at h
      by_cases h446 : 0 ≤ v_j389 ∧ (v_j389).toNat < v_w390.length
      · rw [if_pos h446] at h
        obtain ⟨v_y395, h447, h⟩ := bind_some h
        by_cases h448 : 0 ≤ v_i388 ∧ (v_i388).toNat < v_w390.length
        · rw [if_pos h448] at h
          obtain ⟨v_y396, h449, h⟩ := bind_some h
          by_cases h450 : 0 ≤ v_i388 ∧ (v_i388).toNat < v_w390.length
          · rw [if_pos h450] at h
            obtain ⟨v_y397, h451, h⟩ := bind_some h
            by_cases h452 : 0 ≤ v_j389 ∧ (v_j389).toNat < (v_w390.set (v_i388).toNat v_y395).length
            · rw [if_pos h452] at h
              obtain ⟨v_y398, h453, h⟩ := bind_some h
              exact pkk_sound TTok mix hF 13 (hs := [.t true, .y (eS_oom_Task v_y395), .y (eS_oom_Task v_y396), .w ((v_w390.set (v_i388).toNat v_y395).map eS_oom_Task), .y (eS_oom_Task v_y397), .w (((v_w390.set (v_i388).toNat v_y395).set (v_j389).toNat v_y396).map eS_oom_Task), .y (eS_oom_Task v_y398)]) (ts := []) (s := [0, 1]) (l := [0, 8, 9]) (by kernel_rfl) (by kernel_rfl) (.cons (dt h437) (.cons (idx_ob (f := eS_oom_Task) h446) (.cons (get_ob (f := eS_oom_Task) h447) (.cons (idx_ob (f := eS_oom_Task) h448) (.cons (get_ob (f := eS_oom_Task) h449) (.cons (idx_ob (f := eS_oom_Task) h450) (.cons (get_ob (f := eS_oom_Task) h451) (.cons (Eq.refl (pcells (.agg [.v (.int .i64 v_y395.fId), .v (.int .i64 v_y395.fPages), .v (.int .i64 v_y395.fScore), .v (.bool v_y395.fKept)]))) (.cons (set_ob (f := eS_oom_Task) (l := v_w390) (k := (v_i388).toNat) (z := v_y395) (p := .agg [.v (.int .i64 v_y395.fId), .v (.int .i64 v_y395.fPages), .v (.int .i64 v_y395.fScore), .v (.bool v_y395.fKept)]) rfl) (.cons (idx_ob (f := eS_oom_Task) h452) (.cons (get_ob (f := eS_oom_Task) h453) (.cons (Eq.refl (pcells (.agg [.v (.int .i64 v_y396.fId), .v (.int .i64 v_y396.fPages), .v (.int .i64 v_y396.fScore), .v (.bool v_y396.fKept)]))) (.cons (set_ob (f := eS_oom_Task) (l := (v_w390.set (v_i388).toNat v_y395)) (k := (v_j389).toNat) (z := v_y396) (p := .agg [.v (.int .i64 v_y396.fId), .v (.int .i64 v_y396.fPages), .v (.int .i64 v_y396.fScore), .v (.bool v_y396.fKept)]) rfl) .nil))))))))))))) (G_slices_reverseRangeCmpFunc_oom_Task_h_L1_ok hF ks n  k (wi .i64 (v_i388 + 1)) (wi .i64 (v_j389 - 1)) ((v_w390.set (v_i388).toNat v_y395).set (v_j389).toNat v_y396) _ h q)
            · rw [if_neg h452] at h; cases h
          · rw [if_neg h450] at h; cases h
        · rw [if_neg h448] at h; cases h
      · rw [if_neg h446] at h; cases h
    · rw [if_neg h437] at h
      cases h
      exact pkk_sound TTok mix hF 8 (hs := [.t false]) (ts := []) (s := [0, 1]) (l := []) (by kernel_rfl) (by kernel_rfl) (.cons (df h437) .nil) q
/- slices.reverseRangeCmpFunc[ringhall/oom.Task] -/
def G_slices_reverseRangeCmpFunc_oom_Task_h (n : Nat) (v_data384 : (List S_oom_Task)) (v_a385 : Int) (v_b386 : Int) (v_cmp387 : (S_oom_Task → S_oom_Task → Option (Int))) : Option ((List S_oom_Task)) :=
  (G_slices_reverseRangeCmpFunc_oom_Task_h_L1 n  n v_a385 (wi .i64 (v_b386 - 1)) v_data384).bind fun v_o400 => match v_o400 with
  | .x0 v_z401 =>
    some v_z401
theorem G_slices_reverseRangeCmpFunc_oom_Task_h_ok (n : Nat) (v_data384 : (List S_oom_Task)) (v_a385 : Int) (v_b386 : Int) (v_cmp387 : (S_oom_Task → S_oom_Task → Option (Int))) (v_cmp387_g : FuncId) (v_cmp387_c : List PV) (v_cmp387_h : ∀ (x0 : S_oom_Task) (x1 : S_oom_Task) (r : Int), v_cmp387 x0 x1 = some r → Ret Try.prog v_cmp387_g ([eS_oom_Task x0, eS_oom_Task x1] ++ v_cmp387_c) ((eI .i64) r)) (r : (List S_oom_Task)) (h : G_slices_reverseRangeCmpFunc_oom_Task_h n v_data384 v_a385 v_b386 v_cmp387 = some r) : RetH Try.prog 289 [.srf 0, .d ((eI .i64) v_a385), .d ((eI .i64) v_b386), .d ((.clo v_cmp387_g v_cmp387_c))] [.row 207 4 (v_data384.map eS_oom_Task)] (.tup []) [.row 207 4 (r.map eS_oom_Task)] := by
  refine retH_run (n := 34) (fn := Try.f289) (c := bodyOf Try.f289) (by kernel_rfl) (by kernel_rfl) (by kernel_rfl) (by kernel_rfl) ?_
  have hF : KC 34 (FinH Try.prog Try.f289 [.row 207 4 (v_data384.map eS_oom_Task)] (.tup []) [.row 207 4 (r.map eS_oom_Task)]) := FinH.kc' (by kernel_rfl)
  unfold G_slices_reverseRangeCmpFunc_oom_Task_h at h
  obtain ⟨v_o400, h454, h⟩ := bind_some h
  refine pkk_sound TTok mix hF 6 (hs := [.n n]) (ts := []) (s := [1, 0]) (l := [0, 8, 9]) (by kernel_rfl) (by kernel_rfl) .nil (G_slices_reverseRangeCmpFunc_oom_Task_h_L1_ok hF (.b 0 :: []) n  n v_a385 (wi .i64 (v_b386 - 1)) v_data384 _ h454 ?_)
  cases v_o400 with
  | x0 v_z401 =>
    try dsimp only at h
    obtain rfl := Option.some.inj h
    exact pendH_sound TTok mix 1 (hs := []) [1] (by kernel_rfl) (by kernel_rfl) (by kernel_rfl) .nil
inductive G_slices_partialInsertionSortCmpFunc_oom_Task_h_L1_R where
  | x0 (v_i429 : Int) (v_w430 : (List S_oom_Task))
def G_slices_partialInsertionSortCmpFunc_oom_Task_h_L1_ex : G_slices_partialInsertionSortCmpFunc_oom_Task_h_L1_R → Ex
  | .x0 _ _ => .exit 2
def G_slices_partialInsertionSortCmpFunc_oom_Task_h_L1_st (v_a415 : Int) (v_b416 : Int) (v_cmp417 : (S_oom_Task → S_oom_Task → Option (Int))) (v_j419 : Int) (v_cmp417_g : FuncId) (v_cmp417_c : (List PV)) : G_slices_partialInsertionSortCmpFunc_oom_Task_h_L1_R → PS
  | .x0 v_i429 v_w430 => ⟨[.srf 1, .d (.v (.int .i64 v_a415)), .d (.v (.int .i64 v_b416)), .d (.clo v_cmp417_g v_cmp417_c), dd, dd, dd, dd, dd, .d (.v (.int .i64 v_i429)), .d (.v (.int .i64 v_j419)), dd, dd, dd, dd, dd, dd, dd, dd, dd, dd, dd, dd, dd, dd, dd, dd, dd, dd, dd, dd, dd, dd, dd, dd, dd, dd, dd, dd, dd, dd, dd, dd, dd, dd, dd, dd, dd, dd, dd, dd, dd, dd, dd, dd, dd, dd, dd, dd, dd, dd, dd, dd, dd, dd, dd, dd, dd, dd, dd, dd, dd, dd, dd, dd, dd, dd, dd, dd, dd, dd, dd, dd, dd, dd, dd, dd, dd, dd, dd, dd, dd, dd, dd, dd, dd, dd, dd, dd, dd, dd, dd, dd, dd, dd, dd, dd, dd, dd, dd, dd, dd, dd, dd, dd, dd, dd, dd, dd, dd, dd, dd, dd, dd, dd, dd, dd, dd, dd, dd, dd, dd, dd, dd, dd, dd, dd, dd, dd, dd, dd], [.gh 0 (.srf 1), .row 207 4 (v_w430.map eS_oom_Task)]⟩
def G_slices_partialInsertionSortCmpFunc_oom_Task_h_L1_hd (v_a415 : Int) (v_b416 : Int) (v_cmp417 : (S_oom_Task → S_oom_Task → Option (Int))) (v_j419 : Int) (v_cmp417_g : FuncId) (v_cmp417_c : (List PV)) (v_i421 : Int) (v_w422 : (List S_oom_Task)) : PS := ⟨[.srf 1, .d (.v (.int .i64 v_a415)), .d (.v (.int .i64 v_b416)), .d (.clo v_cmp417_g v_cmp417_c), dd, dd, dd, dd, dd, .d (.v (.int .i64 v_i421)), .d (.v (.int .i64 v_j419)), dd, dd, dd, dd, dd, dd, dd, dd, dd, dd, dd, dd, dd, dd, dd, dd, dd, dd, dd, dd, dd, dd, dd, dd, dd, dd, dd, dd, dd, dd, dd, dd, dd, dd, dd, dd, dd, dd, dd, dd, dd, dd, dd, dd, dd, dd, dd, dd, dd, dd, dd, dd, dd, dd, dd, dd, dd, dd, dd, dd, dd, dd, dd, dd, dd, dd, dd, dd, dd, dd, dd, dd, dd, dd, dd, dd, dd, dd, dd, dd, dd, dd, dd, dd, dd, dd, dd, dd, dd, dd, dd, dd, dd, dd, dd, dd, dd, dd, dd, dd, dd, dd, dd, dd, dd, dd, dd, dd, dd, dd, dd, dd, dd, dd, dd, dd, dd, dd, dd, dd, dd, dd, dd, dd, dd, dd, dd, dd, dd, dd], [.gh 0 (.srf 1), .row 207 4 (v_w422.map eS_oom_Task)]⟩
def G_slices_partialInsertionSortCmpFunc_oom_Task_h_L1 (n : Nat) (v_a415 : Int) (v_b416 : Int) (v_cmp417 : (S_oom_Task → S_oom_Task → Option (Int))) (v_j419 : Int) : Nat → Int → (List S_oom_Task) → Option G_slices_partialInsertionSortCmpFunc_oom_Task_h_L1_R
  | 0, _, _ => none
  | k + 1, v_i421, v_w422 =>
    if v_i421 < v_b416 then
     if 0 ≤ v_i421 ∧ (v_i421).toNat < v_w422.length then
      (v_w422[(v_i421).toNat]?).bind fun (v_y426 : S_oom_Task) =>
      if 0 ≤ (wi .i64 (v_i421 - 1)) ∧ ((wi .i64 (v_i421 - 1))).toNat < v_w422.length then
       (v_w422[((wi .i64 (v_i421 - 1))).toNat]?).bind fun (v_y427 : S_oom_Task) =>
       (v_cmp417 v_y426 v_y427).bind fun (v_r428 : (Int)) =>
       if v_r428 < 0 then
        some (.x0 v_i421 v_w422)
       else
        G_slices_partialInsertionSortCmpFunc_oom_Task_h_L1 n v_a415 v_b416 v_cmp417 v_j419 k (wi .i64 (v_i421 + 1)) v_w422
      else none
     else none
    else
     some (.x0 v_i421 v_w422)
theorem G_slices_partialInsertionSortCmpFunc_oom_Task_h_L1_ok {Fi : Ex → PS → Prop} (hF : KC 141 Fi) (ks : List Fr) (n : Nat) (v_a415 : Int) (v_b416 : Int) (v_cmp417 : (S_oom_Task → S_oom_Task → Option (Int))) (v_j419 : Int) (v_cmp417_g : FuncId) (v_cmp417_c : (List PV)) (v_cmp417_h : ∀ (x0 : S_oom_Task) (x1 : S_oom_Task) (r : Int), v_cmp417 x0 x1 = some r → Ret Try.prog v_cmp417_g ([eS_oom_Task x0, eS_oom_Task x1] ++ v_cmp417_c) ((eI .i64) r)) : ∀ (k : Nat) (v_i421 : Int) (v_w422 : (List S_oom_Task)) (o : G_slices_partialInsertionSortCmpFunc_oom_Task_h_L1_R), G_slices_partialInsertionSortCmpFunc_oom_Task_h_L1 n v_a415 v_b416 v_cmp417 v_j419 k v_i421 v_w422 = some o → RunE Try.prog 141 Fi ks (G_slices_partialInsertionSortCmpFunc_oom_Task_h_L1_ex o) (G_slices_partialInsertionSortCmpFunc_oom_Task_h_L1_st v_a415 v_b416 v_cmp417 v_j419 v_cmp417_g v_cmp417_c o) → RunE Try.prog 141 Fi (.l k (cP (cB (cL (cB (cL (cR (cP (cB (cR (cL (cR (cR (bodyOf Try.f290))))))))))))) :: ks) .normal (G_slices_partialInsertionSortCmpFunc_oom_Task_h_L1_hd v_a415 v_b416 v_cmp417 v_j419 v_cmp417_g v_cmp417_c v_i421 v_w422)
  | 0, v_i421, v_w422, o, h, q => by rw [G_slices_partialInsertionSortCmpFunc_oom_Task_h_L1] at h; cases h
  | k + 1, v_i421, v_w422, o, h, q => by
    rw [G_slices_partialInsertionSortCmpFunc_oom_Task_h_L1] at h
    by_cases h469 : v_i421 < v_b416
    · rw [if_pos h469] at h
      by_cases h470 : 0 ≤ v_i421 ∧ (v_i421).toNat < v_w422.length
      · rw [if_pos h470] at h
        obtain ⟨v_y426, h471, h⟩ := bind_some h
        by_cases h472 : 0 ≤ (wi .i64 (v_i421 - 1)) ∧ ((wi .i64 (v_i421 - 1))).toNat < v_w422.length
        · rw [if_pos h472] at h
          obtain ⟨v_y427, h473, h⟩ := bind_some h
          obtain ⟨v_r428, h474, h⟩ := bind_some h
          by_cases h475 : v_r428 < 0
          · rw [if_pos h475] at h
            cases h
            exact pkk_sound TTok mix hF 8 (hs := [.t true, .c, .c, .c, .c, .y (eS_oom_Task v_y426), .c, .c, .c, .c, .c, .y (eS_oom_Task v_y427), .c, .r ((eI .i64) v_r428), .c, .c, .t false]) (ts := []) (s := [0, 1]) (l := [0, 1, 2, 3, 9, 10]) (by kernel_rfl) (by kernel_rfl) (.cons (dt h469) (.cons (idx_ob (f := eS_oom_Task) h470) (.cons (get_ob (f := eS_oom_Task) h471) (.cons (idx_ob (f := eS_oom_Task) h472) (.cons (get_ob (f := eS_oom_Task) h473) (.cons (v_cmp417_h v_y426 v_y427 _ h474) (.cons (bnf (dt h475)) .nil))))))) q
          · rw [if_neg h475] at h
            exact pkk_sound TTok mix hF 9 (hs := [.t true, .c, .c, .c, .c, .y (eS_oom_Task v_y426), .c, .c, .c, .c, .c, .y (eS_oom_Task v_y427), .c, .r ((eI .i64) v_r428), .c, .c, .t true]) (ts := []) (s := [0, 1]) (l := [0, 1, 2, 3, 9, 10]) (by kernel_rfl) (by kernel_rfl) (.cons (dt h469) (.cons (idx_ob (f := eS_oom_Task) h470) (.cons (get_ob (f := eS_oom_Task) h471) (.cons (idx_ob (f := eS_oom_Task) h472) (.cons (get_ob (f := eS_oom_Task) h473) (.cons (v_cmp417_h v_y426 v_y427 _ h474) (.cons (bnt (df h475)) .nil))))))) (G_slices_partialInsertionSortCmpFunc_oom_Task_h_L1_ok hF ks n v_a415 v_b416 v_cmp417 v_j419 v_cmp417_g v_cmp417_c v_cmp417_h k (wi .i64 (v_i421 + 1)) v_w422 _ h q)
        · rw [if_neg h472] at h; cases h
      · rw [if_neg h470] at h; cases h
    · rw [if_neg h469] at h
      cases h
      exact pkk_sound TTok mix hF 8 (hs := [.t false, .c, .c, .c, .c, .c, .c, .c, .c, .c, .c, .c, .c, .c]) (ts := []) (s := [0, 1]) (l := [0, 1, 2, 3, 9, 10]) (by kernel_rfl) (by kernel_rfl) (.cons (df h469) .nil) q
inductive G_slices_partialInsertionSortCmpFunc_oom_Task_h_L2_R where
  | x0 (v_w456 : (List S_oom_Task))
def G_slices_partialInsertionSortCmpFunc_oom_Task_h_L2_ex : G_slices_partialInsertionSortCmpFunc_oom_Task_h_L2_R → Ex
  | .x0 _ => .exit 4
def G_slices_partialInsertionSortCmpFunc_oom_Task_h_L2_st (v_a415 : Int) (v_b416 : Int) (v_cmp417 : (S_oom_Task → S_oom_Task → Option (Int))) (v_z434 : Int) (v_j419 : Int) (v_cmp417_g : FuncId) (v_cmp417_c : (List PV)) : G_slices_partialInsertionSortCmpFunc_oom_Task_h_L2_R → PS
  | .x0 v_w456 => ⟨[.srf 1, .d (.v (.int .i64 v_a415)), .d (.v (.int .i64 v_b416)), .d (.clo v_cmp417_g v_cmp417_c), dd, dd, dd, dd, dd, .d (.v (.int .i64 v_z434)), .d (.v (.int .i64 v_j419)), dd, dd, dd, dd, dd, dd, dd, dd, dd, dd, dd, dd, dd, dd, dd, dd, dd, dd, dd, dd, dd, dd, dd, dd, dd, dd, dd, dd, dd, dd, dd, dd, dd, dd, dd, dd, dd, dd, dd, dd, dd, dd, dd, dd, dd, dd, dd, dd, dd, dd, dd, dd, dd, dd, dd, dd, dd, dd, dd, dd, dd, dd, dd, dd, dd, dd, dd, dd, dd, dd, dd, dd, dd, dd, dd, dd, dd, dd, dd, dd, dd, dd, dd, dd, dd, dd, dd, dd, dd, dd, dd, dd, dd, dd, dd, dd, dd, dd, dd, dd, dd, dd, dd, dd, dd, dd, dd, dd, dd, dd, dd, dd, dd, dd, dd, dd, dd, dd, dd, dd, dd, dd, dd, dd, dd, dd, dd, dd, dd, dd], [.gh 0 (.srf 1), .row 207 4 (v_w456.map eS_oom_Task)]⟩
def G_slices_partialInsertionSortCmpFunc_oom_Task_h_L2_hd (v_a415 : Int) (v_b416 : Int) (v_cmp417 : (S_oom_Task → S_oom_Task → Option (Int))) (v_z434 : Int) (v_j419 : Int) (v_cmp417_g : FuncId) (v_cmp417_c : (List PV)) (v_j444 : Int) (v_w445 : (List S_oom_Task)) : PS := ⟨[.srf 1, .d (.v (.int .i64 v_a415)), .d (.v (.int .i64 v_b416)), .d (.clo v_cmp417_g v_cmp417_c), dd, dd, dd, dd, dd, .d (.v (.int .i64 v_z434)), .d (.v (.int .i64 v_j419)), .d (.v (.int .i64 v_j444)), dd, dd, dd, dd, dd, dd, dd, dd, dd, dd, dd, dd, dd, dd, dd, dd, dd, dd, dd, dd, dd, dd, dd, dd, dd, dd, dd, dd, dd, dd, dd, dd, dd, dd, dd, dd, dd, dd, dd, dd, dd, dd, dd, dd, dd, dd, dd, dd, dd, dd, dd, dd, dd, dd, dd, dd, dd, dd, dd, dd, dd, dd, dd, dd, dd, dd, dd, dd, dd, dd, dd, dd, dd, dd, dd, dd, dd, dd, dd, dd, dd, dd, dd, dd, dd, dd, dd, dd, dd, dd, dd, dd, dd, dd, dd, dd, dd, dd, dd, dd, dd, dd, dd, dd, dd, dd, dd, dd, dd, dd, dd, dd, dd, dd, dd, dd, dd, dd, dd, dd, dd, dd, dd, dd, dd, dd, dd, dd, dd], [.gh 0 (.srf 1), .row 207 4 (v_w445.map eS_oom_Task)]⟩
def G_slices_partialInsertionSortCmpFunc_oom_Task_h_L2 (n : Nat) (v_a415 : Int) (v_b416 : Int) (v_cmp417 : (S_oom_Task → S_oom_Task → Option (Int))) (v_z434 : Int) (v_j419 : Int) : Nat → Int → (List S_oom_Task) → Option G_slices_partialInsertionSortCmpFunc_oom_Task_h_L2_R
  | 0, _, _ => none
  | k + 1, v_j444, v_w445 =>
    if v_j444 ≥ 1 then
     if 0 ≤ v_j444 ∧ (v_j444).toNat < v_w445.length then
      (v_w445[(v_j444).toNat]?).bind fun (v_y453 : S_oom_Task) =>
      if 0 ≤ (wi .i64 (v_j444 - 1)) ∧ ((wi .i64 (v_j444 - 1))).toNat < v_w445.length then
       (v_w445[((wi .i64 (v_j444 - 1))).toNat]?).bind fun (v_y454 : S_oom_Task) =>
       (v_cmp417 v_y453 v_y454).bind fun (v_r455 : (Int)) =>
       if v_r455 < 0 then
        if 0 ≤ (wi .i64 (v_j444 - 1)) ∧ ((wi .i64 (v_j444 - 1))).toNat < v_w445.length then
         (v_w445[((wi .i64 (v_j444 - 1))).toNat]?).bind fun (v_y457 : S_oom_Task) =>
         if 0 ≤ v_j444 ∧ (v_j444).toNat < v_w445.length then
          (v_w445[(v_j444).toNat]?).bind fun (v_y458 : S_oom_Task) =>
          if 0 ≤ v_j444 ∧ (v_j444).toNat < v_w445.length then
           (v_w445[(v_j444).toNat]?).bind fun (v_y459 : S_oom_Task) =>
           if 0 ≤ (wi .i64 (v_j444 - 1)) ∧ ((wi .i64 (v_j444 - 1))).toNat < (v_w445.set (v_j444).toNat v_y457).length then
            ((v_w445.set (v_j444).toNat v_y457)[((wi .i64 (v_j444 - 1))).toNat]?).bind fun (v_y460 : S_oom_Task) =>
            G_slices_partialInsertionSortCmpFunc_oom_Task_h_L2 n v_a415 v_b416 v_cmp417 v_z434 v_j419 k (wi .i64 (v_j444 - 1)) ((v_w445.set (v_j444).toNat v_y457).set ((wi .i64 (v_j444 - 1))).toNat v_y458)
           else none
          else none
         else none
        else none
       else
        some (.x0 v_w445)
      else none
     else none
    else
     some (.x0 v_w445)
theorem G_slices_partialInsertionSortCmpFunc_oom_Task_h_L2_ok {Fi : Ex → PS → Prop} (hF : KC 141 Fi) (ks : List Fr) (n : Nat) (v_a415 : Int) (v_b416 : Int) (v_cmp417 : (S_oom_Task → S_oom_Task → Option (Int))) (v_z434 : Int) (v_j419 : Int) (v_cmp417_g : FuncId) (v_cmp417_c : (List PV)) (v_cmp417_h : ∀ (x0 : S_oom_Task) (x1 : S_oom_Task) (r : Int), v_cmp417 x0 x1 = some r → Ret Try.prog v_cmp417_g ([eS_oom_Task x0, eS_oom_Task x1] ++ v_cmp417_c) ((eI .i64) r)) : ∀ (k : Nat) (v_j444 : Int) (v_w445 : (List S_oom_Task)) (o : G_slices_partialInsertionSortCmpFunc_oom_Task_h_L2_R), G_slices_partialInsertionSortCmpFunc_oom_Task_h_L2 n v_a415 v_b416 v_cmp417 v_z434 v_j419 k v_j444 v_w445 = some o → RunE Try.prog 141 Fi ks (G_slices_partialInsertionSortCmpFunc_oom_Task_h_L2_ex o) (G_slices_partialInsertionSortCmpFunc_oom_Task_h_L2_st v_a415 v_b416 v_cmp417 v_z434 v_j419 v_cmp417_g v_cmp417_c o) → RunE Try.prog 141 Fi (.l k (cP (cB (cR (cT (cR (cL (cR (cR (cR (cR (cB (cL (cR (cP (cB (cR (cL (cR (cR (bodyOf Try.f290)))))))))))))))))))) :: ks) .normal (G_slices_partialInsertionSortCmpFunc_oom_Task_h_L2_hd v_a415 v_b416 v_cmp417 v_z434 v_j419 v_cmp417_g v_cmp417_c v_j444 v_w445)
  | 0, v_j444, v_w445, o, h, q => by rw [G_slices_partialInsertionSortCmpFunc_oom_Task_h_L2] at h; cases h
  | k + 1, v_j444, v_w445, o, h, q => by
    rw [G_slices_partialInsertionSortCmpFunc_oom_Task_h_L2] at h
    by_cases h488 : v_j444 ≥ 1
    · rw [if_pos h488] at h
      by_cases h503 : 0 ≤ v_j444 ∧ (v_j444).toNat < v_w445.length
      · rw [if_pos h503] at h
        obtain ⟨v_y453, h504, h⟩ := bind_some h
        by_cases h505 : 0 ≤ (wi .i64 (v_j444 - 1)) ∧ ((wi .i64 (v_j444 - 1))).toNat < v_w445.length
        · rw [if_pos h505] at h
          obtain ⟨v_y454, h506, h⟩ := bind_some h
          obtain ⟨v_r455, h507, h⟩ := bind_some h
          by_cases h508 : v_r455 < 0
          · rw [if_pos h508] at h
            by_cases h509 : 0 ≤ (wi .i64 (v_j444 - 1)) ∧ ((wi .i64 (v_j444 - 1))).toNat < v_w445.length
            · rw [if_pos h509] at h
              obtain ⟨v_y457, h510, h⟩ := bind_some h
              by_cases h511 : 0 ≤ v_j444 ∧ (v_j444).toNat < v_w445.length
              · rw [if_pos h511] at h
                obtain ⟨v_y458, h512, h⟩ := bind_some h
                by_cases h513 : 0 ≤ v_j444 ∧ (v_j444).toNat < v_w445.length
                · rw [if_pos h513] at h
                  obtain ⟨v_y459, h514, h⟩ := bind_some h
                  by_cases h515 : 0 ≤ (wi .i64 (v_j444 - 1)) ∧ ((wi .i64 (v_j444 - 1))).toNat < (v_w445.set (v_j444).toNat v_y457).length
                  · rw [if_pos h515] at h
                    obtain ⟨v_y460, h516, h⟩ := bind_some h
                    exact pkk_sound TTok mix hF 16 (hs := [.t true, .y (eS_oom_Task v_y453), .y (eS_oom_Task v_y454), .r ((eI .i64) v_r455), .t false, .y (eS_oom_Task v_y457), .y (eS_oom_Task v_y458), .w ((v_w445.set (v_j444).toNat v_y457).map eS_oom_Task), .y (eS_oom_Task v_y459), .w (((v_w445.set (v_j444).toNat v_y457).set ((wi .i64 (v_j444 - 1))).toNat v_y458).map eS_oom_Task), .y (eS_oom_Task v_y460)]) (ts := []) (s := [0, 1]) (l := [0, 1, 2, 3, 9, 10, 11]) (by kernel_rfl) (by kernel_rfl) (.cons (dt h488) (.cons (idx_ob (f := eS_oom_Task) h503) (.cons (get_ob (f := eS_oom_Task) h504) (.cons (idx_ob (f := eS_oom_Task) h505) (.cons (get_ob (f := eS_oom_Task) h506) (.cons (v_cmp417_h v_y453 v_y454 _ h507) (.cons (bnf (dt h508)) (.cons (idx_ob (f := eS_oom_Task) h509) (.cons (get_ob (f := eS_oom_Task) h510) (.cons (idx_ob (f := eS_oom_Task) h511) (.cons (get_ob (f := eS_oom_Task) h512) (.cons (idx_ob (f := eS_oom_Task) h513) (.cons (get_ob (f := eS_oom_Task) h514) (.cons (Eq.refl (pcells (.agg [.v (.int .i64 v_y457.fId), .v (.int .i64 v_y457.fPages), .v (.int .i64 v_y457.fScore), .v (.bool v_y457.fKept)]))) (.cons (set_ob (f := eS_oom_Task) (l := v_w445) (k := (v_j444).toNat) (z := v_y457) (p := .agg [.v (.int .i64 v_y457.fId), .v (.int .i64 v_y457.fPages), .v (.int .i64 v_y457.fScore), .v (.bool v_y457.fKept)]) rfl) (.cons (idx_ob (f := eS_oom_Task) h515) (.cons (get_ob (f := eS_oom_Task) h516) (.cons (Eq.refl (pcells (.agg [.v (.int .i64 v_y458.fId), .v (.int .i64 v_y458.fPages), .v (.int .i64 v_y458.fScore), .v (.bool v_y458.fKept)]))) (.cons (set_ob (f := eS_oom_Task) (l := (v_w445.set (v_j444).toNat v_y457)) (k := ((wi .i64 (v_j444 - 1))).toNat) (z := v_y458) (p := .agg [.v (.int .i64 v_y458.fId), .v (.int .i64 v_y458.fPages), .v (.int .i64 v_y458.fScore), .v (.bool v_y458.fKept)]) rfl) .nil))))))))))))))))))) (G_slices_partialInsertionSortCmpFunc_oom_Task_h_L2_ok hF ks n v_a415 v_b416 v_cmp417 v_z434 v_j419 v_cmp417_g v_cmp417_c v_cmp417_h k (wi .i64 (v_j444 - 1)) ((v_w445.set (v_j444).toNat v_y457).set ((wi .i64 (v_j444 - 1))).toNat v_y458) _ h q)
                  · rw [if_neg h515] at h; cases h
                · rw [if_neg h513] at h; cases h
              · rw [if_neg h511] at h; cases h
            · rw [if_neg h509] at h; cases h
          · rw [if_neg h508] at h
            cases h
            exact pkk_sound TTok mix hF 17 (hs := [.t true, .y (eS_oom_Task v_y453), .y (eS_oom_Task v_y454), .r ((eI .i64) v_r455), .t true]) (ts := []) (s := [0, 1]) (l := [0, 1, 2, 3, 9, 10]) (by kernel_rfl) (by kernel_rfl) (.cons (dt h488) (.cons (idx_ob (f := eS_oom_Task) h503) (.cons (get_ob (f := eS_oom_Task) h504) (.cons (idx_ob (f := eS_oom_Task) h505) (.cons (get_ob (f := eS_oom_Task) h506) (.cons (v_cmp417_h v_y453 v_y454 _ h507) (.cons (bnt (df h508)) .nil))))))) q
        · rw [if_neg h505] at h; cases h
      · rw [if_neg h503] at h; cases h
    · rw [if_neg h488] at h
      cases h
      exact pkk_sound TTok mix hF 8 (hs := [.t false]) (ts := []) (s := [0, 1]) (l := [0, 1, 2, 3, 9, 10]) (by kernel_rfl) (by kernel_rfl) (.cons (df h488) .nil) q
inductive G_slices_partialInsertionSortCmpFunc_oom_Task_h_L3_R where
  | x0 (v_w476 : (List S_oom_Task))
def G_slices_partialInsertionSortCmpFunc_oom_Task_h_L3_ex : G_slices_partialInsertionSortCmpFunc_oom_Task_h_L3_R → Ex
  | .x0 _ => .exit 6
def G_slices_partialInsertionSortCmpFunc_oom_Task_h_L3_st (v_a415 : Int) (v_b416 : Int) (v_cmp417 : (S_oom_Task → S_oom_Task → Option (Int))) (v_z434 : Int) (v_j419 : Int) (v_cmp417_g : FuncId) (v_cmp417_c : (List PV)) : G_slices_partialInsertionSortCmpFunc_oom_Task_h_L3_R → PS
  | .x0 v_w476 => ⟨[.srf 1, .d (.v (.int .i64 v_a415)), .d (.v (.int .i64 v_b416)), .d (.clo v_cmp417_g v_cmp417_c), dd, dd, dd, dd, dd, .d (.v (.int .i64 v_z434)), .d (.v (.int .i64 v_j419)), dd, dd, dd, dd, dd, dd, dd, dd, dd, dd, dd, dd, dd, dd, dd, dd, dd, dd, dd, dd, dd, dd, dd, dd, dd, dd, dd, dd, dd, dd, dd, dd, dd, dd, dd, dd, dd, dd, dd, dd, dd, dd, dd, dd, dd, dd, dd, dd, dd, dd, dd, dd, dd, dd, dd, dd, dd, dd, dd, dd, dd, dd, dd, dd, dd, dd, dd, dd, dd, dd, dd, dd, dd, dd, dd, dd, dd, dd, dd, dd, dd, dd, dd, dd, dd, dd, dd, dd, dd, dd, dd, dd, dd, dd, dd, dd, dd, dd, dd, dd, dd, dd, dd, dd, dd, dd, dd, dd, dd, dd, dd, dd, dd, dd, dd, dd, dd, dd, dd, dd, dd, dd, dd, dd, dd, dd, dd, dd, dd, dd], [.gh 0 (.srf 1), .row 207 4 (v_w476.map eS_oom_Task)]⟩
def G_slices_partialInsertionSortCmpFunc_oom_Task_h_L3_hd (v_a415 : Int) (v_b416 : Int) (v_cmp417 : (S_oom_Task → S_oom_Task → Option (Int))) (v_z434 : Int) (v_j419 : Int) (v_cmp417_g : FuncId) (v_cmp417_c : (List PV)) (v_j464 : Int) (v_w465 : (List S_oom_Task)) : PS := ⟨[.srf 1, .d (.v (.int .i64 v_a415)), .d (.v (.int .i64 v_b416)), .d (.clo v_cmp417_g v_cmp417_c), dd, dd, dd, dd, dd, .d (.v (.int .i64 v_z434)), .d (.v (.int .i64 v_j419)), dd, .d (.v (.int .i64 v_j464)), dd, dd, dd, dd, dd, dd, dd, dd, dd, dd, dd, dd, dd, dd, dd, dd, dd, dd, dd, dd, dd, dd, dd, dd, dd, dd, dd, dd, dd, dd, dd, dd, dd, dd, dd, dd, dd, dd, dd, dd, dd, dd, dd, dd, dd, dd, dd, dd, dd, dd, dd, dd, dd, dd, dd, dd, dd, dd, dd, dd, dd, dd, dd, dd, dd, dd, dd, dd, dd, dd, dd, dd, dd, dd, dd, dd, dd, dd, dd, dd, dd, dd, dd, dd, dd, dd, dd, dd, dd, dd, dd, dd, dd, dd, dd, dd, dd, dd, dd, dd, dd, dd, dd, dd, dd, dd, dd, dd, dd, dd, dd, dd, dd, dd, dd, dd, dd, dd, dd, dd, dd, dd, dd, dd, dd, dd, dd, dd], [.gh 0 (.srf 1), .row 207 4 (v_w465.map eS_oom_Task)]⟩
def G_slices_partialInsertionSortCmpFunc_oom_Task_h_L3 (n : Nat) (v_a415 : Int) (v_b416 : Int) (v_cmp417 : (S_oom_Task → S_oom_Task → Option (Int))) (v_z434 : Int) (v_j419 : Int) : Nat → Int → (List S_oom_Task) → Option G_slices_partialInsertionSortCmpFunc_oom_Task_h_L3_R
  | 0, _, _ => none
  | k + 1, v_j464, v_w465 =>
    if v_j464 < v_b416 then
     if 0 ≤ v_j464 ∧ (v_j464).toNat < v_w465.length then
      (v_w465[(v_j464).toNat]?).bind fun (v_y473 : S_oom_Task) =>
      if 0 ≤ (wi .i64 (v_j464 - 1)) ∧ ((wi .i64 (v_j464 - 1))).toNat < v_w465.length then
       (v_w465[((wi .i64 (v_j464 - 1))).toNat]?).bind fun (v_y474 : S_oom_Task) =>
       (v_cmp417 v_y473 v_y474).bind fun (v_r475 : (Int)) =>
       if v_r475 < 0 then
        if 0 ≤ (wi .i64 (v_j464 - 1)) ∧ ((wi .i64 (v_j464 - 1))).toNat < v_w465.length then
         (v_w465[((wi .i64 (v_j464 - 1))).toNat]?).bind fun (v_y477 : S_oom_Task) =>
         if 0 ≤ v_j464 ∧ (v_j464).toNat < v_w465.length then
          (v_w465[(v_j464).toNat]?).bind fun (v_y478 : S_oom_Task) =>
          if 0 ≤ v_j464 ∧ (v_j464).toNat < v_w465.length then
           (v_w465[(v_j464).toNat]?).bind fun (v_y479 : S_oom_Task) =>
           if 0 ≤ (wi .i64 (v_j464 - 1)) ∧ ((wi .i64 (v_j464 - 1))).toNat < (v_w465.set (v_j464).toNat v_y477).length then
            ((v_w465.set (v_j464).toNat v_y477)[((wi .i64 (v_j464 - 1))).toNat]?).bind fun (v_y480 : S_oom_Task) =>
            G_slices_partialInsertionSortCmpFunc_oom_Task_h_L3 n v_a415 v_b416 v_cmp417 v_z434 v_j419 k (wi .i64 (v_j464 + 1)) ((v_w465.set (v_j464).toNat v_y477).set ((wi .i64 (v_j464 - 1))).toNat v_y478)
           else none
          else none
         else none
        else none
       else
        some (.x0 v_w465)
      else none
     else none
    else
     some (.x0 v_w465)
theorem G_slices_partialInsertionSortCmpFunc_oom_Task_h_L3_ok {Fi : Ex → PS → Prop} (hF : KC 141 Fi) (ks : List Fr) (n : Nat) (v_a415 : Int) (v_b416 : Int) (v_cmp417 : (S_oom_Task → S_oom_Task → Option (Int))) (v_z434 : Int) (v_j419 : Int) (v_cmp417_g : FuncId) (v_cmp417_c : (List PV)) (v_cmp417_h : ∀ (x0 : S_oom_Task) (x1 : S_oom_Task) (r : Int), v_cmp417 x0 x1 = some r → Ret Try.prog v_cmp417_g ([eS_oom_Task x0, eS_oom_Task x1] ++ v_cmp417_c) ((eI .i64) r)) : ∀ (k : Nat) (v_j464 : Int) (v_w465 : (List S_oom_Task)) (o : G_slices_partialInsertionSortCmpFunc_oom_Task_h_L3_R), G_slices_partialInsertionSortCmpFunc_oom_Task_h_L3 n v_a415 v_b416 v_cmp417 v_z434 v_j419 k v_j464 v_w465 = some o → RunE Try.prog 141 Fi ks (G_slices_partialInsertionSortCmpFunc_oom_Task_h_L3_ex o) (G_slices_partialInsertionSortCmpFunc_oom_Task_h_L3_st v_a415 v_b416 v_cmp417 v_z434 v_j419 v_cmp417_g v_cmp417_c o) → RunE Try.prog 141 Fi (.l k (cP (cB (cR (cT (cR (cR (cR (cR (cR (cR (cB (cL (cR (cP (cB (cR (cL (cR (cR (bodyOf Try.f290)))))))))))))))))))) :: ks) .normal (G_slices_partialInsertionSortCmpFunc_oom_Task_h_L3_hd v_a415 v_b416 v_cmp417 v_z434 v_j419 v_cmp417_g v_cmp417_c v_j464 v_w465)
  | 0, v_j464, v_w465, o, h, q => by rw [G_slices_partialInsertionSortCmpFunc_oom_Task_h_L3] at h; cases h
  | k + 1, v_j464, v_w465, o, h, q => by
    rw [G_slices_partialInsertionSortCmpFunc_oom_Task_h_L3] at h
    by_cases h519 : v_j464 < v_b416
    · rw [if_pos h519] at h
      by_cases h534 : 0 ≤ v_j464 ∧ (v_j464).toNat < v_w465.length
      · rw [if_pos h534] at h
        obtain ⟨v_y473, h535, h⟩ := bind_some h
        by_cases h536 : 0 ≤ (wi .i64 (v_j464 - 1)) ∧ ((wi .i64 (v_j464 - 1))).toNat < v_w465.length
        · rw [if_pos h536] at h
          obtain ⟨v_y474, h537, h⟩ := bind_some h
          obtain ⟨v_r475, h538, h⟩ := bind_some h
          by_cases h539 : v_r475 < 0
          · rw [if_pos h539] at h
            by_cases h540 : 0 ≤ (wi .i64 (v_j464 - 1)) ∧ ((wi .i64 (v_j464 - 1))).toNat < v_w465.length
            · rw [if_pos h540] at h
              obtain ⟨v_y477, h541, h⟩ := bind_some h
              by_cases h542 : 0 ≤ v_j464 ∧ (v_j464).toNat < v_w465.length
              · rw [if_pos h542] at h
                obtain ⟨v_y478, h543, h⟩ := bind_some h
                by_cases h544 : 0 ≤ v_j464 ∧ (v_j464).toNat < v_w465.length
                · rw [if_pos h544] at h
                  obtain ⟨v_y479, h545, h⟩ := bind_some h
                  by_cases h546 : 0 ≤ (wi .i64 (v_j464 - 1)) ∧ ((wi .i64 (v_j464 - 1))).toNat < (v_w465.set (v_j464).toNat v_y477).length
                  · rw [if_pos h546] at h
                    obtain ⟨v_y480, h547, h⟩ := bind_some h
                    exact pkk_sound TTok mix hF 16 (hs := [.t true, .y (eS_oom_Task v_y473), .y (eS_oom_Task v_y474), .r ((eI .i64) v_r475), .t false, .y (eS_oom_Task v_y477), .y (eS_oom_Task v_y478), .w ((v_w465.set (v_j464).toNat v_y477).map eS_oom_Task), .y (eS_oom_Task v_y479), .w (((v_w465.set (v_j464).toNat v_y477).set ((wi .i64 (v_j464 - 1))).toNat v_y478).map eS_oom_Task), .y (eS_oom_Task v_y480)]) (ts := []) (s := [0, 1]) (l := [0, 1, 2, 3, 9, 10, 12]) (by kernel_rfl) (by kernel_rfl) (.cons (dt h519) (.cons (idx_ob (f := eS_oom_Task) h534) (.cons (get_ob (f := eS_oom_Task) h535) (.cons (idx_ob (f := eS_oom_Task) h536) (.cons (get_ob (f := eS_oom_Task) h537) (.cons (v_cmp417_h v_y473 v_y474 _ h538) (.cons (bnf (dt h539)) (.cons (idx_ob (f := eS_oom_Task) h540) (.cons (get_ob (f := eS_oom_Task) h541) (.cons (idx_ob (f := eS_oom_Task) h542) (.cons (get_ob (f := eS_oom_Task) h543) (.cons (idx_ob (f := eS_oom_Task) h544) (.cons (get_ob (f := eS_oom_Task) h545) (.cons (Eq.refl (pcells (.agg [.v (.int .i64 v_y477.fId), .v (.int .i64 v_y477.fPages), .v (.int .i64 v_y477.fScore), .v (.bool v_y477.fKept)]))) (.cons (set_ob (f := eS_oom_Task) (l := v_w465) (k := (v_j464).toNat) (z := v_y477) (p := .agg [.v (.int .i64 v_y477.fId), .v (.int .i64 v_y477.fPages), .v (.int .i64 v_y477.fScore), .v (.bool v_y477.fKept)]) rfl) (.cons (idx_ob (f := eS_oom_Task) h546) (.cons (get_ob (f := eS_oom_Task) h547) (.cons (Eq.refl (pcells (.agg [.v (.int .i64 v_y478.fId), .v (.int .i64 v_y478.fPages), .v (.int .i64 v_y478.fScore), .v (.bool v_y478.fKept)]))) (.cons (set_ob (f := eS_oom_Task) (l := (v_w465.set (v_j464).toNat v_y477)) (k := ((wi .i64 (v_j464 - 1))).toNat) (z := v_y478) (p := .agg [.v (.int .i64 v_y478.fId), .v (.int .i64 v_y478.fPages), .v (.int .i64 v_y478.fScore), .v (.bool v_y478.fKept)]) rfl) .nil))))))))))))))))))) (G_slices_partialInsertionSortCmpFunc_oom_Task_h_L3_ok hF ks n v_a415 v_b416 v_cmp417 v_z434 v_j419 v_cmp417_g v_cmp417_c v_cmp417_h k (wi .i64 (v_j464 + 1)) ((v_w465.set (v_j464).toNat v_y477).set ((wi .i64 (v_j464 - 1))).toNat v_y478) _ h q)
                  · rw [if_neg h546] at h; cases h
                · rw [if_neg h544] at h; cases h
              · rw [if_neg h542] at h; cases h
            · rw [if_neg h540] at h; cases h
          · rw [if_neg h539] at h
            cases h
            exact pkk_sound TTok mix hF 17 (hs := [.t true, .y (eS_oom_Task v_y473), .y (eS_oom_Task v_y474), .r ((eI .i64) v_r475), .t true]) (ts := []) (s := [0, 1]) (l := [0, 1, 2, 3, 9, 10]) (by kernel_rfl) (by kernel_rfl) (.cons (dt h519) (.cons (idx_ob (f := eS_oom_Task) h534) (.cons (get_ob (f := eS_oom_Task) h535) (.cons (idx_ob (f := eS_oom_Task) h536) (.cons (get_ob (f := eS_oom_Task) h537) (.cons (v_cmp417_h v_y473 v_y474 _ h538) (.cons (bnt (df h539)) .nil))))))) q
        · rw [if_neg h536] at h; cases h
      · rw [if_neg h534] at h; cases h
    · rw [if_neg h519] at h
      cases h
      exact pkk_sound TTok mix hF 8 (hs := [.t false]) (ts := []) (s := [0, 1]) (l := [0, 1, 2, 3, 9, 10]) (by kernel_rfl) (by kernel_rfl) (.cons (df h519) .nil) q
inductive G_slices_partialInsertionSortCmpFunc_oom_Task_h_L4_R where
  | x0 (v_w496 : (List S_oom_Task))
def G_slices_partialInsertionSortCmpFunc_oom_Task_h_L4_ex : G_slices_partialInsertionSortCmpFunc_oom_Task_h_L4_R → Ex
  | .x0 _ => .exit 6
def G_slices_partialInsertionSortCmpFunc_oom_Task_h_L4_st (v_a415 : Int) (v_b416 : Int) (v_cmp417 : (S_oom_Task → S_oom_Task → Option (Int))) (v_z434 : Int) (v_j419 : Int) (v_cmp417_g : FuncId) (v_cmp417_c : (List PV)) : G_slices_partialInsertionSortCmpFunc_oom_Task_h_L4_R → PS
  | .x0 v_w496 => ⟨[.srf 1, .d (.v (.int .i64 v_a415)), .d (.v (.int .i64 v_b416)), .d (.clo v_cmp417_g v_cmp417_c), dd, dd, dd, dd, dd, .d (.v (.int .i64 v_z434)), .d (.v (.int .i64 v_j419)), dd, dd, dd, dd, dd, dd, dd, dd, dd, dd, dd, dd, dd, dd, dd, dd, dd, dd, dd, dd, dd, dd, dd, dd, dd, dd, dd, dd, dd, dd, dd, dd, dd, dd, dd, dd, dd, dd, dd, dd, dd, dd, dd, dd, dd, dd, dd, dd, dd, dd, dd, dd, dd, dd, dd, dd, dd, dd, dd, dd, dd, dd, dd, dd, dd, dd, dd, dd, dd, dd, dd, dd, dd, dd, dd, dd, dd, dd, dd, dd, dd, dd, dd, dd, dd, dd, dd, dd, dd, dd, dd, dd, dd, dd, dd, dd, dd, dd, dd, dd, dd, dd, dd, dd, dd, dd, dd, dd, dd, dd, dd, dd, dd, dd, dd, dd, dd, dd, dd, dd, dd, dd, dd, dd, dd, dd, dd, dd, dd, dd], [.gh 0 (.srf 1), .row 207 4 (v_w496.map eS_oom_Task)]⟩
def G_slices_partialInsertionSortCmpFunc_oom_Task_h_L4_hd (v_a415 : Int) (v_b416 : Int) (v_cmp417 : (S_oom_Task → S_oom_Task → Option (Int))) (v_z434 : Int) (v_j419 : Int) (v_cmp417_g : FuncId) (v_cmp417_c : (List PV)) (v_j484 : Int) (v_w485 : (List S_oom_Task)) : PS := ⟨[.srf 1, .d (.v (.int .i64 v_a415)), .d (.v (.int .i64 v_b416)), .d (.clo v_cmp417_g v_cmp417_c), dd, dd, dd, dd, dd, .d (.v (.int .i64 v_z434)), .d (.v (.int .i64 v_j419)), dd, .d (.v (.int .i64 v_j484)), dd, dd, dd, dd, dd, dd, dd, dd, dd, dd, dd, dd, dd, dd, dd, dd, dd, dd, dd, dd, dd, dd, dd, dd, dd, dd, dd, dd, dd, dd, dd, dd, dd, dd, dd, dd, dd, dd, dd, dd, dd, dd, dd, dd, dd, dd, dd, dd, dd, dd, dd, dd, dd, dd, dd, dd, dd, dd, dd, dd, dd, dd, dd, dd, dd, dd, dd, dd, dd, dd, dd, dd, dd, dd, dd, dd, dd, dd, dd, dd, dd, dd, dd, dd, dd, dd, dd, dd, dd, dd, dd, dd, dd, dd, dd, dd, dd, dd, dd, dd, dd, dd, dd, dd, dd, dd, dd, dd, dd, dd, dd, dd, dd, dd, dd, dd, dd, dd, dd, dd, dd, dd, dd, dd, dd, dd, dd, dd], [.gh 0 (.srf 1), .row 207 4 (v_w485.map eS_oom_Task)]⟩
def G_slices_partialInsertionSortCmpFunc_oom_Task_h_L4 (n : Nat) (v_a415 : Int) (v_b416 : Int) (v_cmp417 : (S_oom_Task → S_oom_Task → Option (Int))) (v_z434 : Int) (v_j419 : Int) : Nat → Int → (List S_oom_Task) → Option G_slices_partialInsertionSortCmpFunc_oom_Task_h_L4_R
  | 0, _, _ => none
  | k + 1, v_j484, v_w485 =>
    if v_j484 < v_b416 then
     if 0 ≤ v_j484 ∧ (v_j484).toNat < v_w485.length then
      (v_w485[(v_j484).toNat]?).bind fun (v_y493 : S_oom_Task) =>
      if 0 ≤ (wi .i64 (v_j484 - 1)) ∧ ((wi .i64 (v_j484 - 1))).toNat < v_w485.length then
       (v_w485[((wi .i64 (v_j484 - 1))).toNat]?).bind fun (v_y494 : S_oom_Task) =>
       (v_cmp417 v_y493 v_y494).bind fun (v_r495 : (Int)) =>
       if v_r495 < 0 then
        if 0 ≤ (wi .i64 (v_j484 - 1)) ∧ ((wi .i64 (v_j484 - 1))).toNat < v_w485.length then
         (v_w485[((wi .i64 (v_j484 - 1))).toNat]?).bind fun (v_y497 : S_oom_Task) =>
         if 0 ≤ v_j484 ∧ (v_j484).toNat < v_w485.length then
          (v_w485[(v_j484).toNat]?).bind fun (v_y498 : S_oom_Task) =>
          if 0 ≤ v_j484 ∧ (v_j484).toNat < v_w485.length then
           (v_w485[(v_j484).toNat]?).bind fun (v_y499 : S_oom_Task) =>
           if 0 ≤ (wi .i64 (v_j484 - 1)) ∧ ((wi .i64 (v_j484 - 1))).toNat < (v_w485.set (v_j484).toNat v_y497).length then
            ((v_w485.set (v_j484).toNat v_y497)[((wi .i64 (v_j484 - 1))).toNat]?).bind fun (v_y500 : S_oom_Task) =>
            G_slices_partialInsertionSortCmpFunc_oom_Task_h_L4 n v_a415 v_b416 v_cmp417 v_z434 v_j419 k (wi .i64 (v_j484 + 1)) ((v_w485.set (v_j484).toNat v_y497).set ((wi .i64 (v_j484 - 1))).toNat v_y498)
           else none
          else none
         else none
        else none
       else
        some (.x0 v_w485)
      else none
     else none
    else
     some (.x0 v_w485)
theorem G_slices_partialInsertionSortCmpFunc_oom_Task_h_L4_ok {Fi : Ex → PS → Prop} (hF : KC 141 Fi) (ks : List Fr) (n : Nat) (v_a415 : Int) (v_b416 : Int) (v_cmp417 : (S_oom_Task → S_oom_Task → Option (Int))) (v_z434 : Int) (v_j419 : Int) (v_cmp417_g : FuncId) (v_cmp417_c : (List PV)) (v_cmp417_h : ∀ (x0 : S_oom_Task) (x1 : S_oom_Task) (r : Int), v_cmp417 x0 x1 = some r → Ret Try.prog v_cmp417_g ([eS_oom_Task x0, eS_oom_Task x1] ++ v_cmp417_c) ((eI .i64) r)) : ∀ (k : Nat) (v_j484 : Int) (v_w485 : (List S_oom_Task)) (o : G_slices_partialInsertionSortCmpFunc_oom_Task_h_L4_R), G_slices_partialInsertionSortCmpFunc_oom_Task_h_L4 n v_a415 v_b416 v_cmp417 v_z434 v_j419 k v_j484 v_w485 = some o → RunE Try.prog 141 Fi ks (G_slices_partialInsertionSortCmpFunc_oom_Task_h_L4_ex o) (G_slices_partialInsertionSortCmpFunc_oom_Task_h_L4_st v_a415 v_b416 v_cmp417 v_z434 v_j419 v_cmp417_g v_cmp417_c o) → RunE Try.prog 141 Fi (.l k (cP (cB (cR (cT (cR (cR (cR (cR (cR (cR (cB (cL (cR (cP (cB (cR (cL (cR (cR (bodyOf Try.f290)))))))))))))))))))) :: ks) .normal (G_slices_partialInsertionSortCmpFunc_oom_Task_h_L4_hd v_a415 v_b416 v_cmp417 v_z434 v_j419 v_cmp417_g v_cmp417_c v_j484 v_w485)
  | 0, v_j484, v_w485, o, h, q => by rw [G_slices_partialInsertionSortCmpFunc_oom_Task_h_L4] at h; cases h
  | k + 1, v_j484, v_w485, o, h, q => by
    rw [G_slices_partialInsertionSortCmpFunc_oom_Task_h_L4] at h
    by_cases h550 : v_j484 < v_b416
    · rw [if_pos h550] at h
      by_cases h565 : 0 ≤ v_j484 ∧ (v_j484).toNat < v_w485.length
      · rw [if_pos h565] at h
        obtain ⟨v_y493, h566, h⟩ := bind_some h
        by_cases h567 : 0 ≤ (wi .i64 (v_j484 - 1)) ∧ ((wi .i64 (v_j484 - 1))).toNat < v_w485.length
        · rw [if_pos h567] at h
          obtain ⟨v_y494, h568, h⟩ := bind_some h
          obtain ⟨v_r495, h569, h⟩ := bind_some h
          by_cases h570 : v_r495 < 0
          · rw [if_pos h570] at h
            by_cases h571 : 0 ≤ (wi .i64 (v_j484 - 1)) ∧ ((wi .i64 (v_j484 - 1))).toNat < v_w485.length
            · rw [if_pos h571] at h
              obtain ⟨v_y497, h572, h⟩ := bind_some h
              by_cases h573 : 0 ≤ v_j484 ∧ (v_j484).toNat < v_w485.length
              · rw [if_pos h573] at h
                obtain ⟨v_y498, h574, h⟩ := bind_some h
                by_cases h575 : 0 ≤ v_j484 ∧ (v_j484).toNat < v_w485.length
                · rw [if_pos h575] at h
                  obtain ⟨v_y499, h576, h⟩ := bind_some h
                  by_cases h577 : 0 ≤ (wi .i64 (v_j484 - 1)) ∧ ((wi .i64 (v_j484 - 1))).toNat < (v_w485.set (v_j484).toNat v_y497).length
                  · rw [if_pos h577] at h
                    obtain ⟨v_y500, h578, h⟩ := bind_some h
                    exact pkk_sound TTok mix hF 16 (hs := [.t true, .y (eS_oom_Task v_y493), .y (eS_oom_Task v_y494), .r ((eI .i64) v_r495), .t false, .y (eS_oom_Task v_y497), .y (eS_oom_Task v_y498), .w ((v_w485.set (v_j484).toNat v_y497).map eS_oom_Task), .y (eS_oom_Task v_y499), .w (((v_w485.set (v_j484).toNat v_y497).set ((wi .i64 (v_j484 - 1))).toNat v_y498).map eS_oom_Task), .y (eS_oom_Task v_y500)]) (ts := []) (s := [0, 1]) (l := [0, 1, 2, 3, 9, 10, 12]) (by kernel_rfl) (by kernel_rfl) (.cons (dt h550) (.cons (idx_ob (f := eS_oom_Task) h565) (.cons (get_ob (f := eS_oom_Task) h566) (.cons (idx_ob (f := eS_oom_Task) h567) (.cons (get_ob (f := eS_oom_Task) h568) (.cons (v_cmp417_h v_y493 v_y494 _ h569) (.cons (bnf (dt h570)) (.cons (idx_ob (f := eS_oom_Task) h571) (.cons (get_ob (f := eS_oom_Task) h572) (.cons (idx_ob (f := eS_oom_Task) h573) (.cons (get_ob (f := eS_oom_Task) h574) (.cons (idx_ob (f := eS_oom_Task) h575) (.cons (get_ob (f := eS_oom_Task) h576) (.cons (Eq.refl (pcells (.agg [.v (.int .i64 v_y497.fId), .v (.int .i64 v_y497.fPages), .v (.int .i64 v_y497.fScore), .v (.bool v_y497.fKept)]))) (.cons (set_ob (f := eS_oom_Task) (l := v_w485) (k := (v_j484).toNat) (z := v_y497) (p := .agg [.v (.int .i64 v_y497.fId), .v (.int .i64 v_y497.fPages), .v (.int .i64 v_y497.fScore), .v (.bool v_y497.fKept)]) rfl) (.cons (idx_ob (f := eS_oom_Task) h577) (.cons (get_ob (f := eS_oom_Task) h578) (.cons (Eq.refl (pcells (.agg [.v (.int .i64 v_y498.fId), .v (.int .i64 v_y498.fPages), .v (.int .i64 v_y498.fScore), .v (.bool v_y498.fKept)]))) (.cons (set_ob (f := eS_oom_Task) (l := (v_w485.set (v_j484).toNat v_y497)) (k := ((wi .i64 (v_j484 - 1))).toNat) (z := v_y498) (p := .agg [.v (.int .i64 v_y498.fId), .v (.int .i64 v_y498.fPages), .v (.int .i64 v_y498.fScore), .v (.bool v_y498.fKept)]) rfl) .nil))))))))))))))))))) (G_slices_partialInsertionSortCmpFunc_oom_Task_h_L4_ok hF ks n v_a415 v_b416 v_cmp417 v_z434 v_j419 v_cmp417_g v_cmp417_c v_cmp417_h k (wi .i64 (v_j484 + 1)) ((v_w485.set (v_j484).toNat v_y497).set ((wi .i64 (v_j484 - 1))).toNat v_y498) _ h q)
                  · rw [if_neg h577] at h; cases h
                · rw [if_neg h575] at h; cases h
              · rw [if_neg h573] at h; cases h
            · rw [if_neg h571] at h; cases h
          · rw [if_neg h570] at h
            cases h
            exact pkk_sound TTok mix hF 17 (hs := [.t true, .y (eS_oom_Task v_y493), .y (eS_oom_Task v_y494), .r ((eI .i64) v_r495), .t true]) (ts := []) (s := [0, 1]) (l := [0, 1, 2, 3, 9, 10]) (by kernel_rfl) (by kernel_rfl) (.cons (dt h550) (.cons (idx_ob (f := eS_oom_Task) h565) (.cons (get_ob (f := eS_oom_Task) h566) (.cons (idx_ob (f := eS_oom_Task) h567) (.cons (get_ob (f := eS_oom_Task) h568) (.cons (v_cmp417_h v_y493 v_y494 _ h569) (.cons (bnt (df h570)) .nil))))))) q
        · rw [if_neg h567] at h; cases h
      · rw [if_neg h565] at h; cases h
    · rw [if_neg h550] at h
      cases h
      exact pkk_sound TTok mix hF 8 (hs := [.t false]) (ts := []) (s := [0, 1]) (l := [0, 1, 2, 3, 9, 10]) (by kernel_rfl) (by kernel_rfl) (.cons (df h550) .nil) q
inductive G_slices_partialInsertionSortCmpFunc_oom_Task_h_L5_R where
  | x0 (v_x436 : Bool) (v_w437 : (List S_oom_Task))
  | x1 (v_w504 : (List S_oom_Task))
def G_slices_partialInsertionSortCmpFunc_oom_Task_h_L5_ex : G_slices_partialInsertionSortCmpFunc_oom_Task_h_L5_R → Ex
  | .x0 _ _ => .ret
  | .x1 _ => .exit 0
def G_slices_partialInsertionSortCmpFunc_oom_Task_h_L5_st (v_a415 : Int) (v_b416 : Int) (v_cmp417 : (S_oom_Task → S_oom_Task → Option (Int))) (v_cmp417_g : FuncId) (v_cmp417_c : (List PV)) : G_slices_partialInsertionSortCmpFunc_oom_Task_h_L5_R → PS
  | .x0 v_x436 v_w437 => ⟨[dd, dd, dd, dd, dd, dd, dd, dd, .d (.v (.bool v_x436)), dd, dd, dd, dd, dd, dd, dd, dd, dd, dd, dd, dd, dd, dd, dd, dd, dd, dd, dd, dd, dd, dd, dd, dd, dd, dd, dd, dd, dd, dd, dd, dd, dd, dd, dd, dd, dd, dd, dd, dd, dd, dd, dd, dd, dd, dd, dd, dd, dd, dd, dd, dd, dd, dd, dd, dd, dd, dd, dd, dd, dd, dd, dd, dd, dd, dd, dd, dd, dd, dd, dd, dd, dd, dd, dd, dd, dd, dd, dd, dd, dd, dd, dd, dd, dd, dd, dd, dd, dd, dd, dd, dd, dd, dd, dd, dd, dd, dd, dd, dd, dd, dd, dd, dd, dd, dd, dd, dd, dd, dd, dd, dd, dd, dd, dd, dd, dd, dd, dd, dd, dd, dd, dd, dd, dd, dd, dd, dd, dd, dd, dd, dd], [.gh 0 (.srf 1), .row 207 4 (v_w437.map eS_oom_Task)]⟩
  | .x1 v_w504 => ⟨[dd, dd, dd, dd, dd, dd, dd, dd, dd, dd, dd, dd, dd, dd, dd, dd, dd, dd, dd, dd, dd, dd, dd, dd, dd, dd, dd, dd, dd, dd, dd, dd, dd, dd, dd, dd, dd, dd, dd, dd, dd, dd, dd, dd, dd, dd, dd, dd, dd, dd, dd, dd, dd, dd, dd, dd, dd, dd, dd, dd, dd, dd, dd, dd, dd, dd, dd, dd, dd, dd, dd, dd, dd, dd, dd, dd, dd, dd, dd, dd, dd, dd, dd, dd, dd, dd, dd, dd, dd, dd, dd, dd, dd, dd, dd, dd, dd, dd, dd, dd, dd, dd, dd, dd, dd, dd, dd, dd, dd, dd, dd, dd, dd, dd, dd, dd, dd, dd, dd, dd, dd, dd, dd, dd, dd, dd, dd, dd, dd, dd, dd, dd, dd, dd, dd, dd, dd, dd, dd, dd, dd], [.gh 0 (.srf 1), .row 207 4 (v_w504.map eS_oom_Task)]⟩
def G_slices_partialInsertionSortCmpFunc_oom_Task_h_L5_hd (v_a415 : Int) (v_b416 : Int) (v_cmp417 : (S_oom_Task → S_oom_Task → Option (Int))) (v_cmp417_g : FuncId) (v_cmp417_c : (List PV)) (v_i418 : Int) (v_j419 : Int) (v_w420 : (List S_oom_Task)) : PS := ⟨[.srf 1, .d (.v (.int .i64 v_a415)), .d (.v (.int .i64 v_b416)), .d (.clo v_cmp417_g v_cmp417_c), dd, dd, dd, dd, dd, .d (.v (.int .i64 v_i418)), .d (.v (.int .i64 v_j419)), dd, dd, dd, dd, dd, dd, dd, dd, dd, dd, dd, dd, dd, dd, dd, dd, dd, dd, dd, dd, dd, dd, dd, dd, dd, dd, dd, dd, dd, dd, dd, dd, dd, dd, dd, dd, dd, dd, dd, dd, dd, dd, dd, dd, dd, dd, dd, dd, dd, dd, dd, dd, dd, dd, dd, dd, dd, dd, dd, dd, dd, dd, dd, dd, dd, dd, dd, dd, dd, dd, dd, dd, dd, dd, dd, dd, dd, dd, dd, dd, dd, dd, dd, dd, dd, dd, dd, dd, dd, dd, dd, dd, dd, dd, dd, dd, dd, dd, dd, dd, dd, dd, dd, dd, dd, dd, dd, dd, dd, dd, dd, dd, dd, dd, dd, dd, dd, dd, dd, dd, dd, dd, dd, dd, dd, dd, dd, dd, dd, dd], [.gh 0 (.srf 1), .row 207 4 (v_w420.map eS_oom_Task)]⟩
def G_slices_partialInsertionSortCmpFunc_oom_Task_h_L5 (n : Nat) (v_a415 : Int) (v_b416 : Int) (v_cmp417 : (S_oom_Task → S_oom_Task → Option (Int))) : Nat → Int → Int → (List S_oom_Task) → Option G_slices_partialInsertionSortCmpFunc_oom_Task_h_L5_R
  | 0, _, _, _ => none
  | k + 1, v_i418, v_j419, v_w420 =>
    if v_j419 < 5 then
     (G_slices_partialInsertionSortCmpFunc_oom_Task_h_L1 n v_a415 v_b416 v_cmp417 v_j419 n v_i418 v_w420).bind fun v_o433 => match v_o433 with
     | .x0 v_z434 v_z435 =>
       if v_z434 = v_b416 then
        some (.x0 true v_z435)
       else
        if (wi .i64 (v_b416 - v_a415)) < 50 then
         some (.x0 false v_z435)
        else
         if 0 ≤ (wi .i64 (v_z434 - 1)) ∧ ((wi .i64 (v_z434 - 1))).toNat < v_z435.length then
          (v_z435[((wi .i64 (v_z434 - 1))).toNat]?).bind fun (v_y440 : S_oom_Task) =>
          if 0 ≤ v_z434 ∧ (v_z434).toNat < v_z435.length then
           (v_z435[(v_z434).toNat]?).bind fun (v_y441 : S_oom_Task) =>
           if 0 ≤ v_z434 ∧ (v_z434).toNat < v_z435.length then
            (v_z435[(v_z434).toNat]?).bind fun (v_y442 : S_oom_Task) =>
            if 0 ≤ (wi .i64 (v_z434 - 1)) ∧ ((wi .i64 (v_z434 - 1))).toNat < (v_z435.set (v_z434).toNat v_y440).length then
             ((v_z435.set (v_z434).toNat v_y440)[((wi .i64 (v_z434 - 1))).toNat]?).bind fun (v_y443 : S_oom_Task) =>
             if (wi .i64 (v_z434 - v_a415)) ≥ 2 then
              (G_slices_partialInsertionSortCmpFunc_oom_Task_h_L2 n v_a415 v_b416 v_cmp417 v_z434 v_j419 n (wi .i64 (v_z434 - 1)) ((v_z435.set (v_z434).toNat v_y440).set ((wi .i64 (v_z434 - 1))).toNat v_y441)).bind fun v_o462 => match v_o462 with
              | .x0 v_z463 =>
                if (wi .i64 (v_b416 - v_z434)) ≥ 2 then
                 (G_slices_partialInsertionSortCmpFunc_oom_Task_h_L3 n v_a415 v_b416 v_cmp417 v_z434 v_j419 n (wi .i64 (v_z434 + 1)) v_z463).bind fun v_o482 => match v_o482 with
                 | .x0 v_z483 =>
                   G_slices_partialInsertionSortCmpFunc_oom_Task_h_L5 n v_a415 v_b416 v_cmp417 k v_z434 (wi .i64 (v_j419 + 1)) v_z483
                else
                 G_slices_partialInsertionSortCmpFunc_oom_Task_h_L5 n v_a415 v_b416 v_cmp417 k v_z434 (wi .i64 (v_j419 + 1)) v_z463
             else
              if (wi .i64 (v_b416 - v_z434)) ≥ 2 then
               (G_slices_partialInsertionSortCmpFunc_oom_Task_h_L4 n v_a415 v_b416 v_cmp417 v_z434 v_j419 n (wi .i64 (v_z434 + 1)) ((v_z435.set (v_z434).toNat v_y440).set ((wi .i64 (v_z434 - 1))).toNat v_y441)).bind fun v_o502 => match v_o502 with
               | .x0 v_z503 =>
                 G_slices_partialInsertionSortCmpFunc_oom_Task_h_L5 n v_a415 v_b416 v_cmp417 k v_z434 (wi .i64 (v_j419 + 1)) v_z503
              else
               G_slices_partialInsertionSortCmpFunc_oom_Task_h_L5 n v_a415 v_b416 v_cmp417 k v_z434 (wi .i64 (v_j419 + 1)) ((v_z435.set (v_z434).toNat v_y440).set ((wi .i64 (v_z434 - 1))).toNat v_y441)
            else none
           else none
          else none
         else none
    else
     some (.x1 v_w420)
theorem G_slices_partialInsertionSortCmpFunc_oom_Task_h_L5_ok {Fi : Ex → PS → Prop} (hF : KC 141 Fi) (ks : List Fr) (n : Nat) (v_a415 : Int) (v_b416 : Int) (v_cmp417 : (S_oom_Task → S_oom_Task → Option (Int))) (v_cmp417_g : FuncId) (v_cmp417_c : (List PV)) (v_cmp417_h : ∀ (x0 : S_oom_Task) (x1 : S_oom_Task) (r : Int), v_cmp417 x0 x1 = some r → Ret Try.prog v_cmp417_g ([eS_oom_Task x0, eS_oom_Task x1] ++ v_cmp417_c) ((eI .i64) r)) : ∀ (k : Nat) (v_i418 : Int) (v_j419 : Int) (v_w420 : (List S_oom_Task)) (o : G_slices_partialInsertionSortCmpFunc_oom_Task_h_L5_R), G_slices_partialInsertionSortCmpFunc_oom_Task_h_L5 n v_a415 v_b416 v_cmp417 k v_i418 v_j419 v_w420 = some o → RunE Try.prog 141 Fi ks (G_slices_partialInsertionSortCmpFunc_oom_Task_h_L5_ex o) (G_slices_partialInsertionSortCmpFunc_oom_Task_h_L5_st v_a415 v_b416 v_cmp417 v_cmp417_g v_cmp417_c o) → RunE Try.prog 141 Fi (.l k (cP (cB (cR (cL (cR (cR (bodyOf Try.f290))))))) :: ks) .normal (G_slices_partialInsertionSortCmpFunc_oom_Task_h_L5_hd v_a415 v_b416 v_cmp417 v_cmp417_g v_cmp417_c v_i418 v_j419 v_w420)
  | 0, v_i418, v_j419, v_w420, o, h, q => by rw [G_slices_partialInsertionSortCmpFunc_oom_Task_h_L5] at h; cases h
  | k + 1, v_i418, v_j419, v_w420, o, h, q => by
    rw [G_slices_partialInsertionSortCmpFunc_oom_Task_h_L5] at h
    by_cases h462 : v_j419 < 5
    · rw [if_pos h462] at h
      obtain ⟨v_o433, h476, h⟩ := bind_some h
      refine pkk_sound TTok mix hF 11 (hs := [.t true, .n n]) (ts := []) (s := [0, 1]) (l := [0, 1, 2, 3, 9, 10]) (by kernel_rfl) (by kernel_rfl) (.cons (dt h462) .nil) (G_slices_partialInsertionSortCmpFunc_oom_Task_h_L1_ok hF (.b 2 :: .s (cR (cB (cL (cR (cP (cB (cR (cL (cR (cR (bodyOf Try.f290))))))))))) :: .b 1 :: .s (cR (cR (cP (cB (cR (cL (cR (cR (bodyOf Try.f290))))))))) :: .l k (cP (cB (cR (cL (cR (cR (bodyOf Try.f290))))))) :: ks) n v_a415 v_b416 v_cmp417 v_j419 v_cmp417_g v_cmp417_c v_cmp417_h n v_i418 v_w420 _ h476 ?_)
      cases v_o433 with
      | x0 v_z434 v_z435 =>
        try dsimp only at h
        by_cases h477 : v_z434 = v_b416
        · rw [if_pos h477] at h
          cases h
          exact pkk_sound TTok mix hF 12 (hs := [.t true]) (ts := []) (s := [0, 1]) (l := [8]) (by kernel_rfl) (by kernel_rfl) (.cons (bt h477) .nil) q
        · rw [if_neg h477] at h
          by_cases h478 : (wi .i64 (v_b416 - v_a415)) < 50
          · rw [if_pos h478] at h
            cases h
            exact pkk_sound TTok mix hF 17 (hs := [.t false, .t true]) (ts := []) (s := [0, 1]) (l := [8]) (by kernel_rfl) (by kernel_rfl) (.cons (bf h477) (.cons (dt h478) .nil)) q
          · rw [if_neg h478] at h
            by_cases h479 : 0 ≤ (wi .i64 (v_z434 - 1)) ∧ ((wi .i64 (v_z434 - 1))).toNat < v_z435.length
            · rw [if_pos h479] at h
              obtain ⟨v_y440, h480, h⟩ := bind_some h
              by_cases h481 : 0 ≤ v_z434 ∧ (v_z434).toNat < v_z435.length
              · rw [if_pos h481] at h
                obtain ⟨v_y441, h482, h⟩ := bind_some h
                by_cases h483 : 0 ≤ v_z434 ∧ (v_z434).toNat < v_z435.length
                · rw [if_pos h483] at h
                  obtain ⟨v_y442, h484, h⟩ := bind_some h
                  by_cases h485 : 0 ≤ (wi .i64 (v_z434 - 1)) ∧ ((wi .i64 (v_z434 - 1))).toNat < (v_z435.set (v_z434).toNat v_y440).length
                  · rw [if_pos h485] at h
                    obtain ⟨v_y443, h486, h⟩ := bind_some h
                    by_cases h487 : (wi .i64 (v_z434 - v_a415)) ≥ 2
                    · rw [if_pos h487] at h
                      obtain ⟨v_o462, h517, h⟩ := bind_some h
                      refine pkk_sound TTok mix hF 21 (hs := [.t false, .t false, .y (eS_oom_Task v_y440), .y (eS_oom_Task v_y441), .w ((v_z435.set (v_z434).toNat v_y440).map eS_oom_Task), .y (eS_oom_Task v_y442), .w (((v_z435.set (v_z434).toNat v_y440).set ((wi .i64 (v_z434 - 1))).toNat v_y441).map eS_oom_Task), .y (eS_oom_Task v_y443), .t true, .n n]) (ts := []) (s := [0, 1]) (l := [0, 1, 2, 3, 9, 10, 11]) (by kernel_rfl) (by kernel_rfl) (.cons (bf h477) (.cons (df h478) (.cons (idx_ob (f := eS_oom_Task) h479) (.cons (get_ob (f := eS_oom_Task) h480) (.cons (idx_ob (f := eS_oom_Task) h481) (.cons (get_ob (f := eS_oom_Task) h482) (.cons (idx_ob (f := eS_oom_Task) h483) (.cons (get_ob (f := eS_oom_Task) h484) (.cons (Eq.refl (pcells (.agg [.v (.int .i64 v_y440.fId), .v (.int .i64 v_y440.fPages), .v (.int .i64 v_y440.fScore), .v (.bool v_y440.fKept)]))) (.cons (set_ob (f := eS_oom_Task) (l := v_z435) (k := (v_z434).toNat) (z := v_y440) (p := .agg [.v (.int .i64 v_y440.fId), .v (.int .i64 v_y440.fPages), .v (.int .i64 v_y440.fScore), .v (.bool v_y440.fKept)]) rfl) (.cons (idx_ob (f := eS_oom_Task) h485) (.cons (get_ob (f := eS_oom_Task) h486) (.cons (Eq.refl (pcells (.agg [.v (.int .i64 v_y441.fId), .v (.int .i64 v_y441.fPages), .v (.int .i64 v_y441.fScore), .v (.bool v_y441.fKept)]))) (.cons (set_ob (f := eS_oom_Task) (l := (v_z435.set (v_z434).toNat v_y440)) (k := ((wi .i64 (v_z434 - 1))).toNat) (z := v_y441) (p := .agg [.v (.int .i64 v_y441.fId), .v (.int .i64 v_y441.fPages), .v (.int .i64 v_y441.fScore), .v (.bool v_y441.fKept)]) rfl) (.cons (dt h487) .nil))))))))))))))) (G_slices_partialInsertionSortCmpFunc_oom_Task_h_L2_ok hF (.b 4 :: .s (cR (cR (cR (cR (cR (cB (cL (cR (cP (cB (cR (cL (cR (cR (bodyOf Try.f290))))))))))))))) :: .b 1 :: .s (cR (cR (cP (cB (cR (cL (cR (cR (bodyOf Try.f290))))))))) :: .l k (cP (cB (cR (cL (cR (cR (bodyOf Try.f290))))))) :: ks) n v_a415 v_b416 v_cmp417 v_z434 v_j419 v_cmp417_g v_cmp417_c v_cmp417_h n (wi .i64 (v_z434 - 1)) ((v_z435.set (v_z434).toNat v_y440).set ((wi .i64 (v_z434 - 1))).toNat v_y441) _ h517 ?_)
                      cases v_o462 with
                      | x0 v_z463 =>
                        try dsimp only at h
                        by_cases h518 : (wi .i64 (v_b416 - v_z434)) ≥ 2
                        · rw [if_pos h518] at h
                          obtain ⟨v_o482, h548, h⟩ := bind_some h
                          refine pkk_sound TTok mix hF 8 (hs := [.t true, .n n]) (ts := []) (s := [0, 1]) (l := [0, 1, 2, 3, 9, 10, 12]) (by kernel_rfl) (by kernel_rfl) (.cons (dt h518) .nil) (G_slices_partialInsertionSortCmpFunc_oom_Task_h_L3_ok hF (.b 6 :: .b 1 :: .s (cR (cR (cP (cB (cR (cL (cR (cR (bodyOf Try.f290))))))))) :: .l k (cP (cB (cR (cL (cR (cR (bodyOf Try.f290))))))) :: ks) n v_a415 v_b416 v_cmp417 v_z434 v_j419 v_cmp417_g v_cmp417_c v_cmp417_h n (wi .i64 (v_z434 + 1)) v_z463 _ h548 ?_)
                          cases v_o482 with
                          | x0 v_z483 =>
                            try dsimp only at h
                            exact pkk_sound TTok mix hF 3 (hs := []) (ts := []) (s := [0, 1]) (l := [0, 1, 2, 3, 9, 10]) (by kernel_rfl) (by kernel_rfl) .nil (G_slices_partialInsertionSortCmpFunc_oom_Task_h_L5_ok hF ks n v_a415 v_b416 v_cmp417 v_cmp417_g v_cmp417_c v_cmp417_h k v_z434 (wi .i64 (v_j419 + 1)) v_z483 _ h q)
                        · rw [if_neg h518] at h
                          exact pkk_sound TTok mix hF 7 (hs := [.t false]) (ts := []) (s := [0, 1]) (l := [0, 1, 2, 3, 9, 10]) (by kernel_rfl) (by kernel_rfl) (.cons (df h518) .nil) (G_slices_partialInsertionSortCmpFunc_oom_Task_h_L5_ok hF ks n v_a415 v_b416 v_cmp417 v_cmp417_g v_cmp417_c v_cmp417_h k v_z434 (wi .i64 (v_j419 + 1)) v_z463 _ h q)
                    · rw [if_neg h487] at h
                      by_cases h549 : (wi .i64 (v_b416 - v_z434)) ≥ 2
                      · rw [if_pos h549] at h
                        obtain ⟨v_o502, h579, h⟩ := bind_some h
                        refine pkk_sound TTok mix hF 25 (hs := [.t false, .t false, .y (eS_oom_Task v_y440), .y (eS_oom_Task v_y441), .w ((v_z435.set (v_z434).toNat v_y440).map eS_oom_Task), .y (eS_oom_Task v_y442), .w (((v_z435.set (v_z434).toNat v_y440).set ((wi .i64 (v_z434 - 1))).toNat v_y441).map eS_oom_Task), .y (eS_oom_Task v_y443), .t false, .t true, .n n]) (ts := []) (s := [0, 1]) (l := [0, 1, 2, 3, 9, 10, 12]) (by kernel_rfl) (by kernel_rfl) (.cons (bf h477) (.cons (df h478) (.cons (idx_ob (f := eS_oom_Task) h479) (.cons (get_ob (f := eS_oom_Task) h480) (.cons (idx_ob (f := eS_oom_Task) h481) (.cons (get_ob (f := eS_oom_Task) h482) (.cons (idx_ob (f := eS_oom_Task) h483) (.cons (get_ob (f := eS_oom_Task) h484) (.cons (Eq.refl (pcells (.agg [.v (.int .i64 v_y440.fId), .v (.int .i64 v_y440.fPages), .v (.int .i64 v_y440.fScore), .v (.bool v_y440.fKept)]))) (.cons (set_ob (f := eS_oom_Task) (l := v_z435) (k := (v_z434).toNat) (z := v_y440) (p := .agg [.v (.int .i64 v_y440.fId), .v (.int .i64 v_y440.fPages), .v (.int .i64 v_y440.fScore), .v (.bool v_y440.fKept)]) rfl) (.cons (idx_ob (f := eS_oom_Task) h485) (.cons (get_ob (f := eS_oom_Task) h486) (.cons (Eq.refl (pcells (.agg [.v (.int .i64 v_y441.fId), .v (.int .i64 v_y441.fPages), .v (.int .i64 v_y441.fScore), .v (.bool v_y441.fKept)]))) (.cons (set_ob (f := eS_oom_Task) (l := (v_z435.set (v_z434).toNat v_y440)) (k := ((wi .i64 (v_z434 - 1))).toNat) (z := v_y441) (p := .agg [.v (.int .i64 v_y441.fId), .v (.int .i64 v_y441.fPages), .v (.int .i64 v_y441.fScore), .v (.bool v_y441.fKept)]) rfl) (.cons (df h487) (.cons (dt h549) .nil)))))))))))))))) (G_slices_partialInsertionSortCmpFunc_oom_Task_h_L4_ok hF (.b 6 :: .b 1 :: .s (cR (cR (cP (cB (cR (cL (cR (cR (bodyOf Try.f290))))))))) :: .l k (cP (cB (cR (cL (cR (cR (bodyOf Try.f290))))))) :: ks) n v_a415 v_b416 v_cmp417 v_z434 v_j419 v_cmp417_g v_cmp417_c v_cmp417_h n (wi .i64 (v_z434 + 1)) ((v_z435.set (v_z434).toNat v_y440).set ((wi .i64 (v_z434 - 1))).toNat v_y441) _ h579 ?_)
                        cases v_o502 with
                        | x0 v_z503 =>
                          try dsimp only at h
                          exact pkk_sound TTok mix hF 3 (hs := []) (ts := []) (s := [0, 1]) (l := [0, 1, 2, 3, 9, 10]) (by kernel_rfl) (by kernel_rfl) .nil (G_slices_partialInsertionSortCmpFunc_oom_Task_h_L5_ok hF ks n v_a415 v_b416 v_cmp417 v_cmp417_g v_cmp417_c v_cmp417_h k v_z434 (wi .i64 (v_j419 + 1)) v_z503 _ h q)
                      · rw [if_neg h549] at h
                        exact pkk_sound TTok mix hF 24 (hs := [.t false, .t false, .y (eS_oom_Task v_y440), .y (eS_oom_Task v_y441), .w ((v_z435.set (v_z434).toNat v_y440).map eS_oom_Task), .y (eS_oom_Task v_y442), .w (((v_z435.set (v_z434).toNat v_y440).set ((wi .i64 (v_z434 - 1))).toNat v_y441).map eS_oom_Task), .y (eS_oom_Task v_y443), .t false, .t false]) (ts := []) (s := [0, 1]) (l := [0, 1, 2, 3, 9, 10]) (by kernel_rfl) (by kernel_rfl) (.cons (bf h477) (.cons (df h478) (.cons (idx_ob (f := eS_oom_Task) h479) (.cons (get_ob (f := eS_oom_Task) h480) (.cons (idx_ob (f := eS_oom_Task) h481) (.cons (get_ob (f := eS_oom_Task) h482) (.cons (idx_ob (f := eS_oom_Task) h483) (.cons (get_ob (f := eS_oom_Task) h484) (.cons (Eq.refl (pcells (.agg [.v (.int .i64 v_y440.fId), .v (.int .i64 v_y440.fPages), .v (.int .i64 v_y440.fScore), .v (.bool v_y440.fKept)]))) (.cons (set_ob (f := eS_oom_Task) (l := v_z435) (k := (v_z434).toNat) (z := v_y440) (p := .agg [.v (.int .i64 v_y440.fId), .v (.int .i64 v_y440.fPages), .v (.int .i64 v_y440.fScore), .v (.bool v_y440.fKept)]) rfl) (.cons (idx_ob (f := eS_oom_Task) h485) (.cons (get_ob (f := eS_oom_Task) h486) (.cons (Eq.refl (pcells (.agg [.v (.int .i64 v_y441.fId), .v (.int .i64 v_y441.fPages), .v (.int .i64 v_y441.fScore), .v (.bool v_y441.fKept)]))) (.cons (set_ob (f := eS_oom_Task) (l := (v_z435.set (v_z434).toNat v_y440)) (k := ((wi .i64 (v_z434 - 1))).toNat) (z := v_y441) (p := .agg [.v (.int .i64 v_y441.fId), .v (.int .i64 v_y441.fPages), .v (.int .i64 v_y441.fScore), .v (.bool v_y441.fKept)]) rfl) (.cons (df h487) (.cons (df h549) .nil)))))))))))))))) (G_slices_partialInsertionSortCmpFunc_oom_Task_h_L5_ok hF ks n v_a415 v_b416 v_cmp417 v_cmp417_g v_cmp417_c v_cmp417_h k v_z434 (wi .i64 (v_j419 + 1)) ((v_z435.set (v_z434).toNat v_y440).set ((wi .i64 (v_z434 - 1))).toNat v_y441) _ h q)
                  · rw [if_neg h485] at h; cases h
                · rw [if_neg h483] at h; cases h
              · rw [if_neg h481] at h; cases h
            · rw [if_neg h479] at h; cases h
    · rw [if_neg h462] at h
      cases h
      exact pkk_sound TTok mix hF 8 (hs := [.t false]) (ts := []) (s := [0, 1]) (l := []) (by kernel_rfl) (by kernel_rfl) (.cons (df h462) .nil) q
/- slices.partialInsertionSortCmpFunc[ringhall/oom.Task] -/
def G_slices_partialInsertionSortCmpFunc_oom_Task_h (n : Nat) (v_data414 : (List S_oom_Task)) (v_a415 : Int) (v_b416 : Int) (v_cmp417 : (S_oom_Task → S_oom_Task → Option (Int))) : Option (Bool × (List S_oom_Task)) :=
  (G_slices_partialInsertionSortCmpFunc_oom_Task_h_L5 n v_a415 v_b416 v_cmp417 n (wi .i64 (v_a415 + 1)) 0 v_data414).bind fun v_o505 => match v_o505 with
  | .x0 v_z506 v_z507 =>
    some (v_z506, v_z507)
  | .x1 v_z508 =>
    some (false, v_z508)
theorem G_slices_partialInsertionSortCmpFunc_oom_Task_h_ok (n : Nat) (v_data414 : (List S_oom_Task)) (v_a415 : Int) (v_b416 : Int) (v_cmp417 : (S_oom_Task → S_oom_Task → Option (Int))) (v_cmp417_g : FuncId) (v_cmp417_c : List PV) (v_cmp417_h : ∀ (x0 : S_oom_Task) (x1 : S_oom_Task) (r : Int), v_cmp417 x0 x1 = some r → Ret Try.prog v_cmp417_g ([eS_oom_Task x0, eS_oom_Task x1] ++ v_cmp417_c) ((eI .i64) r)) (r : Bool × (List S_oom_Task)) (h : G_slices_partialInsertionSortCmpFunc_oom_Task_h n v_data414 v_a415 v_b416 v_cmp417 = some r) : RetH Try.prog 290 [.srf 0, .d ((eI .i64) v_a415), .d ((eI .i64) v_b416), .d ((.clo v_cmp417_g v_cmp417_c))] [.row 207 4 (v_data414.map eS_oom_Task)] (.d (eB r.1)) [.row 207 4 (r.2.map eS_oom_Task)] := by
  refine retH_run (n := 141) (fn := Try.f290) (c := bodyOf Try.f290) (by kernel_rfl) (by kernel_rfl) (by kernel_rfl) (by kernel_rfl) ?_
  have hF : KC 141 (FinH Try.prog Try.f290 [.row 207 4 (v_data414.map eS_oom_Task)] (.d (eB r.1)) [.row 207 4 (r.2.map eS_oom_Task)]) := FinH.kc' (by kernel_rfl)
  unfold G_slices_partialInsertionSortCmpFunc_oom_Task_h at h
  obtain ⟨v_o505, h580, h⟩ := bind_some h
  refine pkk_sound TTok mix hF 9 (hs := [.n n]) (ts := []) (s := [1, 0]) (l := [0, 1, 2, 3, 9, 10]) (by kernel_rfl) (by kernel_rfl) .nil (G_slices_partialInsertionSortCmpFunc_oom_Task_h_L5_ok hF (.b 0 :: .s (cR (cR (cR (bodyOf Try.f290)))) :: []) n v_a415 v_b416 v_cmp417 v_cmp417_g v_cmp417_c v_cmp417_h n (wi .i64 (v_a415 + 1)) 0 v_data414 _ h580 ?_)
  cases v_o505 with
  | x0 v_z506 v_z507 =>
    try dsimp only at h
    obtain rfl := Option.some.inj h
    exact pendH_sound TTok mix 2 (hs := []) [1] (by kernel_rfl) (by kernel_rfl) (by kernel_rfl) .nil
  | x1 v_z508 =>
    try dsimp only at h
    obtain rfl := Option.some.inj h
    exact pendH_sound TTok mix 4 (hs := []) [1] (by kernel_rfl) (by kernel_rfl) (by kernel_rfl) .nil
inductive G_slices_partitionEqualCmpFunc_oom_Task_h_L1_R where
  | x0 (v_i550 : Int) (v_w551 : (List S_oom_Task))
def G_slices_partitionEqualCmpFunc_oom_Task_h_L1_ex : G_slices_partitionEqualCmpFunc_oom_Task_h_L1_R → Ex
  | .x0 _ _ => .exit 2
def G_slices_partitionEqualCmpFunc_oom_Task_h_L1_st (v_a531 : Int) (v_cmp534 : (S_oom_Task → S_oom_Task → Option (Int))) (v_j540 : Int) (v_cmp534_g : FuncId) (v_cmp534_c : (List PV)) : G_slices_partitionEqualCmpFunc_oom_Task_h_L1_R → PS
  | .x0 v_i550 v_w551 => ⟨[.srf 1, .d (.v (.int .i64 v_a531)), dd, dd, .d (.clo v_cmp534_g v_cmp534_c), dd, dd, dd, dd, dd, dd, .d (.v (.int .i64 v_i550)), .d (.v (.int .i64 v_j540)), dd, dd, dd, dd, dd, dd, dd, dd, dd, dd, dd, dd, dd, dd, dd, dd, dd, dd, dd, dd, dd, dd, dd, dd, dd, dd, dd, dd, dd, dd, dd, dd, dd, dd, dd, dd, dd, dd, dd, dd, dd, dd, dd, dd, dd, dd, dd, dd, dd, dd, dd, dd, dd, dd, dd, dd, dd, dd, dd, dd, dd, dd, dd, dd, dd, dd, dd, dd, dd, dd, dd, dd, dd, dd, dd, dd, dd], [.gh 0 (.srf 1), .row 207 4 (v_w551.map eS_oom_Task)]⟩
def G_slices_partitionEqualCmpFunc_oom_Task_h_L1_hd (v_a531 : Int) (v_cmp534 : (S_oom_Task → S_oom_Task → Option (Int))) (v_j540 : Int) (v_cmp534_g : FuncId) (v_cmp534_c : (List PV)) (v_i542 : Int) (v_w543 : (List S_oom_Task)) : PS := ⟨[.srf 1, .d (.v (.int .i64 v_a531)), dd, dd, .d (.clo v_cmp534_g v_cmp534_c), dd, dd, dd, dd, dd, dd, .d (.v (.int .i64 v_i542)), .d (.v (.int .i64 v_j540)), dd, dd, dd, dd, dd, dd, dd, dd, dd, dd, dd, dd, dd, dd, dd, dd, dd, dd, dd, dd, dd, dd, dd, dd, dd, dd, dd, dd, dd, dd, dd, dd, dd, dd, dd, dd, dd, dd, dd, dd, dd, dd, dd, dd, dd, dd, dd, dd, dd, dd, dd, dd, dd, dd, dd, dd, dd, dd, dd, dd, dd, dd, dd, dd, dd, dd, dd, dd, dd, dd, dd, dd, dd, dd, dd, dd, dd], [.gh 0 (.srf 1), .row 207 4 (v_w543.map eS_oom_Task)]⟩
def G_slices_partitionEqualCmpFunc_oom_Task_h_L1 (n : Nat) (v_a531 : Int) (v_cmp534 : (S_oom_Task → S_oom_Task → Option (Int))) (v_j540 : Int) : Nat → Int → (List S_oom_Task) → Option G_slices_partitionEqualCmpFunc_oom_Task_h_L1_R
  | 0, _, _ => none
  | k + 1, v_i542, v_w543 =>
    if v_i542 ≤ v_j540 then
     if 0 ≤ v_a531 ∧ (v_a531).toNat < v_w543.length then
      (v_w543[(v_a531).toNat]?).bind fun (v_y547 : S_oom_Task) =>
      if 0 ≤ v_i542 ∧ (v_i542).toNat < v_w543.length then
       (v_w543[(v_i542).toNat]?).bind fun (v_y548 : S_oom_Task) =>
       (v_cmp534 v_y547 v_y548).bind fun (v_r549 : (Int)) =>
       if v_r549 < 0 then
        some (.x0 v_i542 v_w543)
       else
        G_slices_partitionEqualCmpFunc_oom_Task_h_L1 n v_a531 v_cmp534 v_j540 k (wi .i64 (v_i542 + 1)) v_w543
      else none
     else none
    else
     some (.x0 v_i542 v_w543)
theorem G_slices_partitionEqualCmpFunc_oom_Task_h_L1_ok {Fi : Ex → PS → Prop} (hF : KC 90 Fi) (ks : List Fr) (n : Nat) (v_a531 : Int) (v_cmp534 : (S_oom_Task → S_oom_Task → Option (Int))) (v_j540 : Int) (v_cmp534_g : FuncId) (v_cmp534_c : (List PV)) (v_cmp534_h : ∀ (x0 : S_oom_Task) (x1 : S_oom_Task) (r : Int), v_cmp534 x0 x1 = some r → Ret Try.prog v_cmp534_g ([eS_oom_Task x0, eS_oom_Task x1] ++ v_cmp534_c) ((eI .i64) r)) : ∀ (k : Nat) (v_i542 : Int) (v_w543 : (List S_oom_Task)) (o : G_slices_partitionEqualCmpFunc_oom_Task_h_L1_R), G_slices_partitionEqualCmpFunc_oom_Task_h_L1 n v_a531 v_cmp534 v_j540 k v_i542 v_w543 = some o → RunE Try.prog 90 Fi ks (G_slices_partitionEqualCmpFunc_oom_Task_h_L1_ex o) (G_slices_partitionEqualCmpFunc_oom_Task_h_L1_st v_a531 v_cmp534 v_j540 v_cmp534_g v_cmp534_c o) → RunE Try.prog 90 Fi (.l k (cP (cB (cL (cB (cP (cB (cL (cR (cR (cR (bodyOf Try.f291))))))))))) :: ks) .normal (G_slices_partitionEqualCmpFunc_oom_Task_h_L1_hd v_a531 v_cmp534 v_j540 v_cmp534_g v_cmp534_c v_i542 v_w543)
  | 0, v_i542, v_w543, o, h, q => by rw [G_slices_partitionEqualCmpFunc_oom_Task_h_L1] at h; cases h
  | k + 1, v_i542, v_w543, o, h, q => by
    rw [G_slices_partitionEqualCmpFunc_oom_Task_h_L1] at h
    by_cases h615 : v_i542 ≤ v_j540
    · rw [if_pos h615] at h
      by_cases h616 : 0 ≤ v_a531 ∧ (v_a531).toNat < v_w543.length
      · rw [if_pos h616] at h
        obtain ⟨v_y547, h617, h⟩ := bind_some h
        by_cases h618 : 0 ≤ v_i542 ∧ (v_i542).toNat < v_w543.length
        · rw [if_pos h618] at h
          obtain ⟨v_y548, h619, h⟩ := bind_some h
          obtain ⟨v_r549, h620, h⟩ := bind_some h
          by_cases h621 : v_r549 < 0
          · rw [if_pos h621] at h
            cases h
            exact pkk_sound TTok mix hF 8 (hs := [.t true, .c, .c, .c, .c, .y (eS_oom_Task v_y547), .c, .c, .c, .c, .y (eS_oom_Task v_y548), .c, .r ((eI .i64) v_r549), .c, .c, .t false]) (ts := []) (s := [0, 1]) (l := [0, 1, 4, 11, 12]) (by kernel_rfl) (by kernel_rfl) (.cons (dt h615) (.cons (idx_ob (f := eS_oom_Task) h616) (.cons (get_ob (f := eS_oom_Task) h617) (.cons (idx_ob (f := eS_oom_Task) h618) (.cons (get_ob (f := eS_oom_Task) h619) (.cons (v_cmp534_h v_y547 v_y548 _ h620) (.cons (bnf (dt h621)) .nil))))))) q
          · rw [if_neg h621] at h
            exact pkk_sound TTok mix hF 9 (hs := [.t true, .c, .c, .c, .c, .y (eS_oom_Task v_y547), .c, .c, .c, .c, .y (eS_oom_Task v_y548), .c, .r ((eI .i64) v_r549), .c, .c, .t true]) (ts := []) (s := [0, 1]) (l := [0, 1, 4, 11, 12]) (by kernel_rfl) (by kernel_rfl) (.cons (dt h615) (.cons (idx_ob (f := eS_oom_Task) h616) (.cons (get_ob (f := eS_oom_Task) h617) (.cons (idx_ob (f := eS_oom_Task) h618) (.cons (get_ob (f := eS_oom_Task) h619) (.cons (v_cmp534_h v_y547 v_y548 _ h620) (.cons (bnt (df h621)) .nil))))))) (G_slices_partitionEqualCmpFunc_oom_Task_h_L1_ok hF ks n v_a531 v_cmp534 v_j540 v_cmp534_g v_cmp534_c v_cmp534_h k (wi .i64 (v_i542 + 1)) v_w543 _ h q)
        · rw [if_neg h618] at h; cases h
      · rw [if_neg h616] at h; cases h
    · rw [if_neg h615] at h
      cases h
      exact pkk_sound TTok mix hF 8 (hs := [.t false, .c, .c, .c, .c, .c, .c, .c, .c, .c, .c, .c, .c]) (ts := []) (s := [0, 1]) (l := [0, 1, 4, 11, 12]) (by kernel_rfl) (by kernel_rfl) (.cons (df h615) .nil) q
inductive G_slices_partitionEqualCmpFunc_oom_Task_h_L2_R where
  | x0 (v_j565 : Int) (v_w566 : (List S_oom_Task))
def G_slices_partitionEqualCmpFunc_oom_Task_h_L2_ex : G_slices_partitionEqualCmpFunc_oom_Task_h_L2_R → Ex
  | .x0 _ _ => .exit 4
def G_slices_partitionEqualCmpFunc_oom_Task_h_L2_st (v_a531 : Int) (v_cmp534 : (S_oom_Task → S_oom_Task → Option (Int))) (v_z555 : Int) (v_cmp534_g : FuncId) (v_cmp534_c : (List PV)) : G_slices_partitionEqualCmpFunc_oom_Task_h_L2_R → PS
  | .x0 v_j565 v_w566 => ⟨[.srf 1, .d (.v (.int .i64 v_a531)), dd, dd, .d (.clo v_cmp534_g v_cmp534_c), dd, dd, dd, dd, dd, dd, .d (.v (.int .i64 v_z555)), .d (.v (.int .i64 v_j565)), dd, dd, dd, dd, dd, dd, dd, dd, dd, dd, dd, dd, dd, dd, dd, dd, dd, dd, dd, dd, dd, dd, dd, dd, dd, dd, dd, dd, dd, dd, dd, dd, dd, dd, dd, dd, dd, dd, dd, dd, dd, dd, dd, dd, dd, dd, dd, dd, dd, dd, dd, dd, dd, dd, dd, dd, dd, dd, dd, dd, dd, dd, dd, dd, dd, dd, dd, dd, dd, dd, dd, dd, dd, dd, dd, dd, dd], [.gh 0 (.srf 1), .row 207 4 (v_w566.map eS_oom_Task)]⟩
def G_slices_partitionEqualCmpFunc_oom_Task_h_L2_hd (v_a531 : Int) (v_cmp534 : (S_oom_Task → S_oom_Task → Option (Int))) (v_z555 : Int) (v_cmp534_g : FuncId) (v_cmp534_c : (List PV)) (v_j557 : Int) (v_w558 : (List S_oom_Task)) : PS := ⟨[.srf 1, .d (.v (.int .i64 v_a531)), dd, dd, .d (.clo v_cmp534_g v_cmp534_c), dd, dd, dd, dd, dd, dd, .d (.v (.int .i64 v_z555)), .d (.v (.int .i64 v_j557)), dd, dd, dd, dd, dd, dd, dd, dd, dd, dd, dd, dd, dd, dd, dd, dd, dd, dd, dd, dd, dd, dd, dd, dd, dd, dd, dd, dd, dd, dd, dd, dd, dd, dd, dd, dd, dd, dd, dd, dd, dd, dd, dd, dd, dd, dd, dd, dd, dd, dd, dd, dd, dd, dd, dd, dd, dd, dd, dd, dd, dd, dd, dd, dd, dd, dd, dd, dd, dd, dd, dd, dd, dd, dd, dd, dd, dd], [.gh 0 (.srf 1), .row 207 4 (v_w558.map eS_oom_Task)]⟩
def G_slices_partitionEqualCmpFunc_oom_Task_h_L2 (n : Nat) (v_a531 : Int) (v_cmp534 : (S_oom_Task → S_oom_Task → Option (Int))) (v_z555 : Int) : Nat → Int → (List S_oom_Task) → Option G_slices_partitionEqualCmpFunc_oom_Task_h_L2_R
  | 0, _, _ => none
  | k + 1, v_j557, v_w558 =>
    if v_z555 ≤ v_j557 then
     if 0 ≤ v_a531 ∧ (v_a531).toNat < v_w558.length then
      (v_w558[(v_a531).toNat]?).bind fun (v_y562 : S_oom_Task) =>
      if 0 ≤ v_j557 ∧ (v_j557).toNat < v_w558.length then
       (v_w558[(v_j557).toNat]?).bind fun (v_y563 : S_oom_Task) =>
       (v_cmp534 v_y562 v_y563).bind fun (v_r564 : (Int)) =>
       if v_r564 < 0 then
        G_slices_partitionEqualCmpFunc_oom_Task_h_L2 n v_a531 v_cmp534 v_z555 k (wi .i64 (v_j557 - 1)) v_w558
       else
        some (.x0 v_j557 v_w558)
      else none
     else none
    else
     some (.x0 v_j557 v_w558)
theorem G_slices_partitionEqualCmpFunc_oom_Task_h_L2_ok {Fi : Ex → PS → Prop} (hF : KC 90 Fi) (ks : List Fr) (n : Nat) (v_a531 : Int) (v_cmp534 : (S_oom_Task → S_oom_Task → Option (Int))) (v_z555 : Int) (v_cmp534_g : FuncId) (v_cmp534_c : (List PV)) (v_cmp534_h : ∀ (x0 : S_oom_Task) (x1 : S_oom_Task) (r : Int), v_cmp534 x0 x1 = some r → Ret Try.prog v_cmp534_g ([eS_oom_Task x0, eS_oom_Task x1] ++ v_cmp534_c) ((eI .i64) r)) : ∀ (k : Nat) (v_j557 : Int) (v_w558 : (List S_oom_Task)) (o : G_slices_partitionEqualCmpFunc_oom_Task_h_L2_R), G_slices_partitionEqualCmpFunc_oom_Task_h_L2 n v_a531 v_cmp534 v_z555 k v_j557 v_w558 = some o → RunE Try.prog 90 Fi ks (G_slices_partitionEqualCmpFunc_oom_Task_h_L2_ex o) (G_slices_partitionEqualCmpFunc_oom_Task_h_L2_st v_a531 v_cmp534 v_z555 v_cmp534_g v_cmp534_c o) → RunE Try.prog 90 Fi (.l k (cP (cB (cL (cR (cB (cP (cB (cL (cR (cR (cR (bodyOf Try.f291)))))))))))) :: ks) .normal (G_slices_partitionEqualCmpFunc_oom_Task_h_L2_hd v_a531 v_cmp534 v_z555 v_cmp534_g v_cmp534_c v_j557 v_w558)
  | 0, v_j557, v_w558, o, h, q => by rw [G_slices_partitionEqualCmpFunc_oom_Task_h_L2] at h; cases h
  | k + 1, v_j557, v_w558, o, h, q => by
    rw [G_slices_partitionEqualCmpFunc_oom_Task_h_L2] at h
    by_cases h629 : v_z555 ≤ v_j557
    · rw [if_pos h629] at h
      by_cases h630 : 0 ≤ v_a531 ∧ (v_a531).toNat < v_w558.length
      · rw [if_pos h630] at h
        obtain ⟨v_y562, h631, h⟩ := bind_some h
        by_cases h632 : 0 ≤ v_j557 ∧ (v_j557).toNat < v_w558.length
        · rw [if_pos h632] at h
          obtain ⟨v_y563, h633, h⟩ := bind_some h
          obtain ⟨v_r564, h634, h⟩ := bind_some h
          by_cases h635 : v_r564 < 0
          · rw [if_pos h635] at h
            exact pkk_sound TTok mix hF 9 (hs := [.t true, .c, .c, .c, .c, .y (eS_oom_Task v_y562), .c, .c, .c, .c, .y (eS_oom_Task v_y563), .c, .r ((eI .i64) v_r564), .c, .t true]) (ts := []) (s := [0, 1]) (l := [0, 1, 4, 11, 12]) (by kernel_rfl) (by kernel_rfl) (.cons (dt h629) (.cons (idx_ob (f := eS_oom_Task) h630) (.cons (get_ob (f := eS_oom_Task) h631) (.cons (idx_ob (f := eS_oom_Task) h632) (.cons (get_ob (f := eS_oom_Task) h633) (.cons (v_cmp534_h v_y562 v_y563 _ h634) (.cons (dt h635) .nil))))))) (G_slices_partitionEqualCmpFunc_oom_Task_h_L2_ok hF ks n v_a531 v_cmp534 v_z555 v_cmp534_g v_cmp534_c v_cmp534_h k (wi .i64 (v_j557 - 1)) v_w558 _ h q)
          · rw [if_neg h635] at h
            cases h
            exact pkk_sound TTok mix hF 8 (hs := [.t true, .c, .c, .c, .c, .y (eS_oom_Task v_y562), .c, .c, .c, .c, .y (eS_oom_Task v_y563), .c, .r ((eI .i64) v_r564), .c, .t false]) (ts := []) (s := [0, 1]) (l := [0, 1, 4, 11, 12]) (by kernel_rfl) (by kernel_rfl) (.cons (dt h629) (.cons (idx_ob (f := eS_oom_Task) h630) (.cons (get_ob (f := eS_oom_Task) h631) (.cons (idx_ob (f := eS_oom_Task) h632) (.cons (get_ob (f := eS_oom_Task) h633) (.cons (v_cmp534_h v_y562 v_y563 _ h634) (.cons (df h635) .nil))))))) q
        · rw [if_neg h632] at h; cases h
      · rw [if_neg h630] at h; cases h
    · rw [if_neg h629] at h
      cases h
      exact pkk_sound TTok mix hF 8 (hs := [.t false, .c, .c, .c, .c, .c, .c, .c, .c, .c, .c, .c]) (ts := []) (s := [0, 1]) (l := [0, 1, 4, 11, 12]) (by kernel_rfl) (by kernel_rfl) (.cons (df h629) .nil) q
inductive G_slices_partitionEqualCmpFunc_oom_Task_h_L3_R where
  | x0 (v_i572 : Int) (v_w573 : (List S_oom_Task))
def G_slices_partitionEqualCmpFunc_oom_Task_h_L3_ex : G_slices_partitionEqualCmpFunc_oom_Task_h_L3_R → Ex
  | .x0 _ _ => .exit 0
def G_slices_partitionEqualCmpFunc_oom_Task_h_L3_st (v_a531 : Int) (v_cmp534 : (S_oom_Task → S_oom_Task → Option (Int))) (v_cmp534_g : FuncId) (v_cmp534_c : (List PV)) : G_slices_partitionEqualCmpFunc_oom_Task_h_L3_R → PS
  | .x0 v_i572 v_w573 => ⟨[dd, dd, dd, dd, dd, dd, dd, dd, dd, dd, dd, .d (.v (.int .i64 v_i572)), dd, dd, dd, dd, dd, dd, dd, dd, dd, dd, dd, dd, dd, dd, dd, dd, dd, dd, dd, dd, dd, dd, dd, dd, dd, dd, dd, dd, dd, dd, dd, dd, dd, dd, dd, dd, dd, dd, dd, dd, dd, dd, dd, dd, dd, dd, dd, dd, dd, dd, dd, dd, dd, dd, dd, dd, dd, dd, dd, dd, dd, dd, dd, dd, dd, dd, dd, dd, dd, dd, dd, dd, dd, dd, dd, dd, dd, dd], [.gh 0 (.srf 1), .row 207 4 (v_w573.map eS_oom_Task)]⟩
def G_slices_partitionEqualCmpFunc_oom_Task_h_L3_hd (v_a531 : Int) (v_cmp534 : (S_oom_Task → S_oom_Task → Option (Int))) (v_cmp534_g : FuncId) (v_cmp534_c : (List PV)) (v_i539 : Int) (v_j540 : Int) (v_w541 : (List S_oom_Task)) : PS := ⟨[.srf 1, .d (.v (.int .i64 v_a531)), dd, dd, .d (.clo v_cmp534_g v_cmp534_c), dd, dd, dd, dd, dd, dd, .d (.v (.int .i64 v_i539)), .d (.v (.int .i64 v_j540)), dd, dd, dd, dd, dd, dd, dd, dd, dd, dd, dd, dd, dd, dd, dd, dd, dd, dd, dd, dd, dd, dd, dd, dd, dd, dd, dd, dd, dd, dd, dd, dd, dd, dd, dd, dd, dd, dd, dd, dd, dd, dd, dd, dd, dd, dd, dd, dd, dd, dd, dd, dd, dd, dd, dd, dd, dd, dd, dd, dd, dd, dd, dd, dd, dd, dd, dd, dd, dd, dd, dd, dd, dd, dd, dd, dd, dd], [.gh 0 (.srf 1), .row 207 4 (v_w541.map eS_oom_Task)]⟩
def G_slices_partitionEqualCmpFunc_oom_Task_h_L3 (n : Nat) (v_a531 : Int) (v_cmp534 : (S_oom_Task → S_oom_Task → Option (Int))) : Nat → Int → Int → (List S_oom_Task) → Option G_slices_partitionEqualCmpFunc_oom_Task_h_L3_R
  | 0, _, _, _ => none
  | k + 1, v_i539, v_j540, v_w541 =>
    (G_slices_partitionEqualCmpFunc_oom_Task_h_L1 n v_a531 v_cmp534 v_j540 n v_i539 v_w541).bind fun v_o554 => match v_o554 with
    | .x0 v_z555 v_z556 =>
      (G_slices_partitionEqualCmpFunc_oom_Task_h_L2 n v_a531 v_cmp534 v_z555 n v_j540 v_z556).bind fun v_o569 => match v_o569 with
      | .x0 v_z570 v_z571 =>
        if v_z555 > v_z570 then
         some (.x0 v_z555 v_z571)
        else
         if 0 ≤ v_z570 ∧ (v_z570).toNat < v_z571.length then
          (v_z571[(v_z570).toNat]?).bind fun (v_y574 : S_oom_Task) =>
          if 0 ≤ v_z555 ∧ (v_z555).toNat < v_z571.length then
           (v_z571[(v_z555).toNat]?).bind fun (v_y575 : S_oom_Task) =>
           if 0 ≤ v_z555 ∧ (v_z555).toNat < v_z571.length then
            (v_z571[(v_z555).toNat]?).bind fun (v_y576 : S_oom_Task) =>
            if 0 ≤ v_z570 ∧ (v_z570).toNat < (v_z571.set (v_z555).toNat v_y574).length then
             ((v_z571.set (v_z555).toNat v_y574)[(v_z570).toNat]?).bind fun (v_y577 : S_oom_Task) =>
             G_slices_partitionEqualCmpFunc_oom_Task_h_L3 n v_a531 v_cmp534 k (wi .i64 (v_z555 + 1)) (wi .i64 (v_z570 - 1)) ((v_z571.set (v_z555).toNat v_y574).set (v_z570).toNat v_y575)
            else none
           else none
          else none
         else none
theorem G_slices_partitionEqualCmpFunc_oom_Task_h_L3_ok {Fi : Ex → PS → Prop} (hF : KC 90 Fi) (ks : List Fr) (n : Nat) (v_a531 : Int) (v_cmp534 : (S_oom_Task → S_oom_Task → Option (Int))) (v_cmp534_g : FuncId) (v_cmp534_c : (List PV)) (v_cmp534_h : ∀ (x0 : S_oom_Task) (x1 : S_oom_Task) (r : Int), v_cmp534 x0 x1 = some r → Ret Try.prog v_cmp534_g ([eS_oom_Task x0, eS_oom_Task x1] ++ v_cmp534_c) ((eI .i64) r)) : ∀ (k : Nat) (v_i539 : Int) (v_j540 : Int) (v_w541 : (List S_oom_Task)) (o : G_slices_partitionEqualCmpFunc_oom_Task_h_L3_R), G_slices_partitionEqualCmpFunc_oom_Task_h_L3 n v_a531 v_cmp534 k v_i539 v_j540 v_w541 = some o → RunE Try.prog 90 Fi ks (G_slices_partitionEqualCmpFunc_oom_Task_h_L3_ex o) (G_slices_partitionEqualCmpFunc_oom_Task_h_L3_st v_a531 v_cmp534 v_cmp534_g v_cmp534_c o) → RunE Try.prog 90 Fi (.l k (cP (cB (cL (cR (cR (cR (bodyOf Try.f291))))))) :: ks) .normal (G_slices_partitionEqualCmpFunc_oom_Task_h_L3_hd v_a531 v_cmp534 v_cmp534_g v_cmp534_c v_i539 v_j540 v_w541)
  | 0, v_i539, v_j540, v_w541, o, h, q => by rw [G_slices_partitionEqualCmpFunc_oom_Task_h_L3] at h; cases h
  | k + 1, v_i539, v_j540, v_w541, o, h, q => by
    rw [G_slices_partitionEqualCmpFunc_oom_Task_h_L3] at h
    obtain ⟨v_o554, h622, h⟩ := bind_some h
    refine pkk_sound TTok mix hF 5 (hs := [.n n]) (ts := []) (s := [0, 1]) (l := [0, 1, 4, 11, 12]) (by kernel_rfl) (by kernel_rfl) .nil (G_slices_partitionEqualCmpFunc_oom_Task_h_L1_ok hF (.b 2 :: .s (cR (cB (cP (cB (cL (cR (cR (cR (bodyOf Try.f291))))))))) :: .b 1 :: .l k (cP (cB (cL (cR (cR (cR (bodyOf Try.f291))))))) :: ks) n v_a531 v_cmp534 v_j540 v_cmp534_g v_cmp534_c v_cmp534_h n v_i539 v_w541 _ h622 ?_)
    cases v_o554 with
    | x0 v_z555 v_z556 =>
      try dsimp only at h
      obtain ⟨v_o569, h636, h⟩ := bind_some h
      refine pkk_sound TTok mix hF 4 (hs := [.n n]) (ts := []) (s := [0, 1]) (l := [0, 1, 4, 11, 12]) (by kernel_rfl) (by kernel_rfl) .nil (G_slices_partitionEqualCmpFunc_oom_Task_h_L2_ok hF (.b 4 :: .s (cR (cR (cB (cP (cB (cL (cR (cR (cR (bodyOf Try.f291)))))))))) :: .b 1 :: .l k (cP (cB (cL (cR (cR (cR (bodyOf Try.f291))))))) :: ks) n v_a531 v_cmp534 v_z555 v_cmp534_g v_cmp534_c v_cmp534_h n v_j540 v_z556 _ h636 ?_)
      cases v_o569 with
      | x0 v_z570 v_z571 =>
        try dsimp only at h
        by_cases h637 : v_z555 > v_z570
        · rw [if_pos h637] at h
          cases h
          exact pkk_sound TTok mix hF 9 (hs := [.t true]) (ts := []) (s := [0, 1]) (l := [11]) (by kernel_rfl) (by kernel_rfl) (.cons (dt h637) .nil) q
        · rw [if_neg h637] at h
          by_cases h638 : 0 ≤ v_z570 ∧ (v_z570).toNat < v_z571.length
          · rw [if_pos h638] at h
            obtain ⟨v_y574, h639, h⟩ := bind_some h
            by_cases h640 : 0 ≤ v_z555 ∧ (v_z555).toNat < v_z571.length
            · rw [if_pos h640] at h
              obtain ⟨v_y575, h641, h⟩ := bind_some h
              by_cases h642 : 0 ≤ v_z555 ∧ (v_z555).toNat < v_z571.length
              · rw [if_pos h642] at h
                obtain ⟨v_y576, h643, h⟩ := bind_some h
                by_cases h644 : 0 ≤ v_z570 ∧ (v_z570).toNat < (v_z571.set (v_z555).toNat v_y574).length
                · rw [if_pos h644] at h
                  obtain ⟨v_y577, h645, h⟩ := bind_some h
                  exact pkk_sound TTok mix hF 12 (hs := [.t false, .y (eS_oom_Task v_y574), .y (eS_oom_Task v_y575), .w ((v_z571.set (v_z555).toNat v_y574).map eS_oom_Task), .y (eS_oom_Task v_y576), .w (((v_z571.set (v_z555).toNat v_y574).set (v_z570).toNat v_y575).map eS_oom_Task), .y (eS_oom_Task v_y577)]) (ts := []) (s := [0, 1]) (l := [0, 1, 4, 11, 12]) (by kernel_rfl) (by kernel_rfl) (.cons (df h637) (.cons (idx_ob (f := eS_oom_Task) h638) (.cons (get_ob (f := eS_oom_Task) h639) (.cons (idx_ob (f := eS_oom_Task) h640) (.cons (get_ob (f := eS_oom_Task) h641) (.cons (idx_ob (f := eS_oom_Task) h642) (.cons (get_ob (f := eS_oom_Task) h643) (.cons (Eq.refl (pcells (.agg [.v (.int .i64 v_y574.fId), .v (.int .i64 v_y574.fPages), .v (.int .i64 v_y574.fScore), .v (.bool v_y574.fKept)]))) (.cons (set_ob (f := eS_oom_Task) (l := v_z571) (k := (v_z555).toNat) (z := v_y574) (p := .agg [.v (.int .i64 v_y574.fId), .v (.int .i64 v_y574.fPages), .v (.int .i64 v_y574.fScore), .v (.bool v_y574.fKept)]) rfl) (.cons (idx_ob (f := eS_oom_Task) h644) (.cons (get_ob (f := eS_oom_Task) h645) (.cons (Eq.refl (pcells (.agg [.v (.int .i64 v_y575.fId), .v (.int .i64 v_y575.fPages), .v (.int .i64 v_y575.fScore), .v (.bool v_y575.fKept)]))) (.cons (set_ob (f := eS_oom_Task) (l := (v_z571.set (v_z555).toNat v_y574)) (k := (v_z570).toNat) (z := v_y575) (p := .agg [.v (.int .i64 v_y575.fId), .v (.int .i64 v_y575.fPages), .v (.int .i64 v_y575.fScore), .v (.bool v_y575.fKept)]) rfl) .nil))))))))))))) (G_slices_partitionEqualCmpFunc_oom_Task_h_L3_ok hF ks n v_a531 v_cmp534 v_cmp534_g v_cmp534_c v_cmp534_h k (wi .i64 (v_z555 + 1)) (wi .i64 (v_z570 - 1)) ((v_z571.set (v_z555).toNat v_y574).set (v_z570).toNat v_y575) _ h q)
                · rw [if_neg h644] at h; cases h
              · rw [if_neg h642] at h; cases h
            · rw [if_neg h640] at h; cases h
          · rw [if_neg h638] at h; cases h
/- slices.partitionEqualCmpFunc[ringhall/oom.Task] -/
def G_slices_partitionEqualCmpFunc_oom_Task_h (n : Nat) (v_data530 : (List S_oom_Task)) (v_a531 : Int) (v_b532 : Int) (v_pivot533 : Int) (v_cmp534 : (S_oom_Task → S_oom_Task → Option (Int))) : Option (Int × (List S_oom_Task)) :=
  if 0 ≤ v_pivot533 ∧ (v_pivot533).toNat < v_data530.length then
   (v_data530[(v_pivot533).toNat]?).bind fun (v_y535 : S_oom_Task) =>
   if 0 ≤ v_a531 ∧ (v_a531).toNat < v_data530.length then
    (v_data530[(v_a531).toNat]?).bind fun (v_y536 : S_oom_Task) =>
    if 0 ≤ v_a531 ∧ (v_a531).toNat < v_data530.length then
     (v_data530[(v_a531).toNat]?).bind fun (v_y537 : S_oom_Task) =>
     if 0 ≤ v_pivot533 ∧ (v_pivot533).toNat < (v_data530.set (v_a531).toNat v_y535).length then
      ((v_data530.set (v_a531).toNat v_y535)[(v_pivot533).toNat]?).bind fun (v_y538 : S_oom_Task) =>
      (G_slices_partitionEqualCmpFunc_oom_Task_h_L3 n v_a531 v_cmp534 n (wi .i64 (v_a531 + 1)) (wi .i64 (v_b532 - 1)) ((v_data530.set (v_a531).toNat v_y535).set (v_pivot533).toNat v_y536)).bind fun v_o578 => match v_o578 with
      | .x0 v_z579 v_z580 =>
        some (v_z579, v_z580)
     else none
    else none
   else none
  else none
theorem G_slices_partitionEqualCmpFunc_oom_Task_h_ok (n : Nat) (v_data530 : (List S_oom_Task)) (v_a531 : Int) (v_b532 : Int) (v_pivot533 : Int) (v_cmp534 : (S_oom_Task → S_oom_Task → Option (Int))) (v_cmp534_g : FuncId) (v_cmp534_c : List PV) (v_cmp534_h : ∀ (x0 : S_oom_Task) (x1 : S_oom_Task) (r : Int), v_cmp534 x0 x1 = some r → Ret Try.prog v_cmp534_g ([eS_oom_Task x0, eS_oom_Task x1] ++ v_cmp534_c) ((eI .i64) r)) (r : Int × (List S_oom_Task)) (h : G_slices_partitionEqualCmpFunc_oom_Task_h n v_data530 v_a531 v_b532 v_pivot533 v_cmp534 = some r) : RetH Try.prog 291 [.srf 0, .d ((eI .i64) v_a531), .d ((eI .i64) v_b532), .d ((eI .i64) v_pivot533), .d ((.clo v_cmp534_g v_cmp534_c))] [.row 207 4 (v_data530.map eS_oom_Task)] (.d ((eI .i64) r.1)) [.row 207 4 (r.2.map eS_oom_Task)] := by
  refine retH_run (n := 90) (fn := Try.f291) (c := bodyOf Try.f291) (by kernel_rfl) (by kernel_rfl) (by kernel_rfl) (by kernel_rfl) ?_
  have hF : KC 90 (FinH Try.prog Try.f291 [.row 207 4 (v_data530.map eS_oom_Task)] (.d ((eI .i64) r.1)) [.row 207 4 (r.2.map eS_oom_Task)]) := FinH.kc' (by kernel_rfl)
  unfold G_slices_partitionEqualCmpFunc_oom_Task_h at h
  by_cases h601 : 0 ≤ v_pivot533 ∧ (v_pivot533).toNat < v_data530.length
  · rw [if_pos h601] at h
    obtain ⟨v_y535, h602, h⟩ := bind_some h
    by_cases h603 : 0 ≤ v_a531 ∧ (v_a531).toNat < v_data530.length
    · rw [if_pos h603] at h
      obtain ⟨v_y536, h604, h⟩ := bind_some h
      by_cases h605 : 0 ≤ v_a531 ∧ (v_a531).toNat < v_data530.length
      · rw [if_pos h605] at h
        obtain ⟨v_y537, h606, h⟩ := bind_some h
        by_cases h607 : 0 ≤ v_pivot533 ∧ (v_pivot533).toNat < (v_data530.set (v_a531).toNat v_y535).length
        · rw [if_pos h607] at h
          obtain ⟨v_y538, h608, h⟩ := bind_some h
          obtain ⟨v_o578, h646, h⟩ := bind_some h
          refine pkk_sound TTok mix hF 9 (hs := [.y (eS_oom_Task v_y535), .y (eS_oom_Task v_y536), .w ((v_data530.set (v_a531).toNat v_y535).map eS_oom_Task), .y (eS_oom_Task v_y537), .w (((v_data530.set (v_a531).toNat v_y535).set (v_pivot533).toNat v_y536).map eS_oom_Task), .y (eS_oom_Task v_y538), .n n]) (ts := []) (s := [1, 0]) (l := [0, 1, 4, 11, 12]) (by kernel_rfl) (by kernel_rfl) (.cons (idx_ob (f := eS_oom_Task) h601) (.cons (get_ob (f := eS_oom_Task) h602) (.cons (idx_ob (f := eS_oom_Task) h603) (.cons (get_ob (f := eS_oom_Task) h604) (.cons (idx_ob (f := eS_oom_Task) h605) (.cons (get_ob (f := eS_oom_Task) h606) (.cons (Eq.refl (pcells (.agg [.v (.int .i64 v_y535.fId), .v (.int .i64 v_y535.fPages), .v (.int .i64 v_y535.fScore), .v (.bool v_y535.fKept)]))) (.cons (set_ob (f := eS_oom_Task) (l := v_data530) (k := (v_a531).toNat) (z := v_y535) (p := .agg [.v (.int .i64 v_y535.fId), .v (.int .i64 v_y535.fPages), .v (.int .i64 v_y535.fScore), .v (.bool v_y535.fKept)]) rfl) (.cons (idx_ob (f := eS_oom_Task) h607) (.cons (get_ob (f := eS_oom_Task) h608) (.cons (Eq.refl (pcells (.agg [.v (.int .i64 v_y536.fId), .v (.int .i64 v_y536.fPages), .v (.int .i64 v_y536.fScore), .v (.bool v_y536.fKept)]))) (.cons (set_ob (f := eS_oom_Task) (l := (v_data530.set (v_a531).toNat v_y535)) (k := (v_pivot533).toNat) (z := v_y536) (p := .agg [.v (.int .i64 v_y536.fId), .v (.int .i64 v_y536.fPages), .v (.int .i64 v_y536.fScore), .v (.bool v_y536.fKept)]) rfl) .nil)))))))))))) (G_slices_partitionEqualCmpFunc_oom_Task_h_L3_ok hF (.b 0 :: .s (cR (cR (cR (cR (bodyOf Try.f291))))) :: []) n v_a531 v_cmp534 v_cmp534_g v_cmp534_c v_cmp534_h n (wi .i64 (v_a531 + 1)) (wi .i64 (v_b532 - 1)) ((v_data530.set (v_a531).toNat v_y535).set (v_pivot533).toNat v_y536) _ h646 ?_)
          cases v_o578 with
          | x0 v_z579 v_z580 =>
            try dsimp only at h
            obtain rfl := Option.some.inj h
            exact pendH_sound TTok mix 4 (hs := []) [1] (by kernel_rfl) (by kernel_rfl) (by kernel_rfl) .nil
        · rw [if_neg h607] at h; cases h
      · rw [if_neg h605] at h; cases h
    · rw [if_neg h603] at h; cases h
  · rw [if_neg h601] at h; cases h
inductive G_slices_partitionCmpFunc_oom_Task_h_L1_R where
  | x0 (v_i600 : Int) (v_w601 : (List S_oom_Task))
def G_slices_partitionCmpFunc_oom_Task_h_L1_ex : G_slices_partitionCmpFunc_oom_Task_h_L1_R → Ex
  | .x0 _ _ => .exit 0
def G_slices_partitionCmpFunc_oom_Task_h_L1_st (v_a584 : Int) (v_cmp587 : (S_oom_Task → S_oom_Task → Option (Int))) (v_b585 : Int) (v_cmp587_g : FuncId) (v_cmp587_c : (List PV)) : G_slices_partitionCmpFunc_oom_Task_h_L1_R → PS
  | .x0 v_i600 v_w601 => ⟨[.srf 1, .d (.v (.int .i64 v_a584)), dd, dd, .d (.clo v_cmp587_g v_cmp587_c), dd, dd, dd, dd, dd, dd, dd, .d (.v (.int .i64 v_i600)), .d (.v (.int .i64 (wi .i64 (v_b585 - 1)))), dd, dd, dd, dd, dd, dd, dd, dd, dd, dd, dd, dd, dd, dd, dd, dd, dd, dd, dd, dd, dd, dd, dd, dd, dd, dd, dd, dd, dd, dd, dd, dd, dd, dd, dd, dd, dd, dd, dd, dd, dd, dd, dd, dd, dd, dd, dd, dd, dd, dd, dd, dd, dd, dd, dd, dd, dd, dd, dd, dd, dd, dd, dd, dd, dd, dd, dd, dd, dd, dd, dd, dd, dd, dd, dd, dd, dd, dd, dd, dd, dd, dd, dd, dd, dd, dd, dd, dd, dd, dd, dd, dd, dd, dd, dd, dd, dd, dd, dd, dd, dd, dd, dd, dd, dd, dd, dd, dd, dd, dd, dd, dd, dd, dd, dd, dd, dd, dd, dd, dd, dd, dd, dd, dd, dd, dd, dd, dd, dd, dd, dd, dd, dd, dd, dd, dd, dd, dd, dd, dd, dd, dd, dd, dd, dd, dd, dd, dd, dd, dd, dd, dd, dd, dd, dd, dd, dd, dd, dd, dd, dd, dd, dd, dd], [.gh 0 (.srf 1), .row 207 4 (v_w601.map eS_oom_Task)]⟩
def G_slices_partitionCmpFunc_oom_Task_h_L1_hd (v_a584 : Int) (v_cmp587 : (S_oom_Task → S_oom_Task → Option (Int))) (v_b585 : Int) (v_cmp587_g : FuncId) (v_cmp587_c : (List PV)) (v_i592 : Int) (v_w593 : (List S_oom_Task)) : PS := ⟨[.srf 1, .d (.v (.int .i64 v_a584)), dd, dd, .d (.clo v_cmp587_g v_cmp587_c), dd, dd, dd, dd, dd, dd, dd, .d (.v (.int .i64 v_i592)), .d (.v (.int .i64 (wi .i64 (v_b585 - 1)))), dd, dd, dd, dd, dd, dd, dd, dd, dd, dd, dd, dd, dd, dd, dd, dd, dd, dd, dd, dd, dd, dd, dd, dd, dd, dd, dd, dd, dd, dd, dd, dd, dd, dd, dd, dd, dd, dd, dd, dd, dd, dd, dd, dd, dd, dd, dd, dd, dd, dd, dd, dd, dd, dd, dd, dd, dd, dd, dd, dd, dd, dd, dd, dd, dd, dd, dd, dd, dd, dd, dd, dd, dd, dd, dd, dd, dd, dd, dd, dd, dd, dd, dd, dd, dd, dd, dd, dd, dd, dd, dd, dd, dd, dd, dd, dd, dd, dd, dd, dd, dd, dd, dd, dd, dd, dd, dd, dd, dd, dd, dd, dd, dd, dd, dd, dd, dd, dd, dd, dd, dd, dd, dd, dd, dd, dd, dd, dd, dd, dd, dd, dd, dd, dd, dd, dd, dd, dd, dd, dd, dd, dd, dd, dd, dd, dd, dd, dd, dd, dd, dd, dd, dd, dd, dd, dd, dd, dd, dd, dd, dd, dd, dd, dd], [.gh 0 (.srf 1), .row 207 4 (v_w593.map eS_oom_Task)]⟩
def G_slices_partitionCmpFunc_oom_Task_h_L1 (n : Nat) (v_a584 : Int) (v_cmp587 : (S_oom_Task → S_oom_Task → Option (Int))) (v_b585 : Int) : Nat → Int → (List S_oom_Task) → Option G_slices_partitionCmpFunc_oom_Task_h_L1_R
  | 0, _, _ => none
  | k + 1, v_i592, v_w593 =>
    if v_i592 ≤ (wi .i64 (v_b585 - 1)) then
     if 0 ≤ v_i592 ∧ (v_i592).toNat < v_w593.length then
      (v_w593[(v_i592).toNat]?).bind fun (v_y597 : S_oom_Task) =>
      if 0 ≤ v_a584 ∧ (v_a584).toNat < v_w593.length then
       (v_w593[(v_a584).toNat]?).bind fun (v_y598 : S_oom_Task) =>
       (v_cmp587 v_y597 v_y598).bind fun (v_r599 : (Int)) =>
       if v_r599 < 0 then
        G_slices_partitionCmpFunc_oom_Task_h_L1 n v_a584 v_cmp587 v_b585 k (wi .i64 (v_i592 + 1)) v_w593
       else
        some (.x0 v_i592 v_w593)
      else none
     else none
    else
     some (.x0 v_i592 v_w593)
theorem G_slices_partitionCmpFunc_oom_Task_h_L1_ok {Fi : Ex → PS → Prop} (hF : KC 178 Fi) (ks : List Fr) (n : Nat) (v_a584 : Int) (v_cmp587 : (S_oom_Task → S_oom_Task → Option (Int))) (v_b585 : Int) (v_cmp587_g : FuncId) (v_cmp587_c : (List PV)) (v_cmp587_h : ∀ (x0 : S_oom_Task) (x1 : S_oom_Task) (r : Int), v_cmp587 x0 x1 = some r → Ret Try.prog v_cmp587_g ([eS_oom_Task x0, eS_oom_Task x1] ++ v_cmp587_c) ((eI .i64) r)) : ∀ (k : Nat) (v_i592 : Int) (v_w593 : (List S_oom_Task)) (o : G_slices_partitionCmpFunc_oom_Task_h_L1_R), G_slices_partitionCmpFunc_oom_Task_h_L1 n v_a584 v_cmp587 v_b585 k v_i592 v_w593 = some o → RunE Try.prog 178 Fi ks (G_slices_partitionCmpFunc_oom_Task_h_L1_ex o) (G_slices_partitionCmpFunc_oom_Task_h_L1_st v_a584 v_cmp587 v_b585 v_cmp587_g v_cmp587_c o) → RunE Try.prog 178 Fi (.l k (cP (cB (cL (cR (cR (cR (bodyOf Try.f292))))))) :: ks) .normal (G_slices_partitionCmpFunc_oom_Task_h_L1_hd v_a584 v_cmp587 v_b585 v_cmp587_g v_cmp587_c v_i592 v_w593)
  | 0, v_i592, v_w593, o, h, q => by rw [G_slices_partitionCmpFunc_oom_Task_h_L1] at h; cases h
  | k + 1, v_i592, v_w593, o, h, q => by
    rw [G_slices_partitionCmpFunc_oom_Task_h_L1] at h
    by_cases h664 : v_i592 ≤ (wi .i64 (v_b585 - 1))
    · rw [if_pos h664] at h
      by_cases h665 : 0 ≤ v_i592 ∧ (v_i592).toNat < v_w593.length
      · rw [if_pos h665] at h
        obtain ⟨v_y597, h666, h⟩ := bind_some h
        by_cases h667 : 0 ≤ v_a584 ∧ (v_a584).toNat < v_w593.length
        · rw [if_pos h667] at h
          obtain ⟨v_y598, h668, h⟩ := bind_some h
          obtain ⟨v_r599, h669, h⟩ := bind_some h
          by_cases h670 : v_r599 < 0
          · rw [if_pos h670] at h
            exact pkk_sound TTok mix hF 9 (hs := [.t true, .c, .c, .c, .c, .y (eS_oom_Task v_y597), .c, .c, .c, .c, .y (eS_oom_Task v_y598), .c, .r ((eI .i64) v_r599), .c, .t true]) (ts := []) (s := [0, 1]) (l := [0, 1, 4, 12, 13]) (by kernel_rfl) (by kernel_rfl) (.cons (dt h664) (.cons (idx_ob (f := eS_oom_Task) h665) (.cons (get_ob (f := eS_oom_Task) h666) (.cons (idx_ob (f := eS_oom_Task) h667) (.cons (get_ob (f := eS_oom_Task) h668) (.cons (v_cmp587_h v_y597 v_y598 _ h669) (.cons (dt h670) .nil))))))) (G_slices_partitionCmpFunc_oom_Task_h_L1_ok hF ks n v_a584 v_cmp587 v_b585 v_cmp587_g v_cmp587_c v_cmp587_h k (wi .i64 (v_i592 + 1)) v_w593 _ h q)
          · rw [if_neg h670] at h
            cases h
            exact pkk_sound TTok mix hF 8 (hs := [.t true, .c, .c, .c, .c, .y (eS_oom_Task v_y597), .c, .c, .c, .c, .y (eS_oom_Task v_y598), .c, .r ((eI .i64) v_r599), .c, .t false]) (ts := []) (s := [0, 1]) (l := [0, 1, 4, 12, 13]) (by kernel_rfl) (by kernel_rfl) (.cons (dt h664) (.cons (idx_ob (f := eS_oom_Task) h665) (.cons (get_ob (f := eS_oom_Task) h666) (.cons (idx_ob (f := eS_oom_Task) h667) (.cons (get_ob (f := eS_oom_Task) h668) (.cons (v_cmp587_h v_y597 v_y598 _ h669) (.cons (df h670) .nil))))))) q
        · rw [if_neg h667] at h; cases h
      · rw [if_neg h665] at h; cases h
    · rw [if_neg h664] at h
      cases h
      exact pkk_sound TTok mix hF 8 (hs := [.t false, .c, .c, .c, .c, .c, .c, .c, .c, .c, .c, .c]) (ts := []) (s := [0, 1]) (l := [0, 1, 4, 12, 13]) (by kernel_rfl) (by kernel_rfl) (.cons (df h664) .nil) q
inductive G_slices_partitionCmpFunc_oom_Task_h_L2_R where
  | x0 (v_j615 : Int) (v_w616 : (List S_oom_Task))
def G_slices_partitionCmpFunc_oom_Task_h_L2_ex : G_slices_partitionCmpFunc_oom_Task_h_L2_R → Ex
  | .x0 _ _ => .exit 2
def G_slices_partitionCmpFunc_oom_Task_h_L2_st (v_a584 : Int) (v_cmp587 : (S_oom_Task → S_oom_Task → Option (Int))) (v_z605 : Int) (v_cmp587_g : FuncId) (v_cmp587_c : (List PV)) : G_slices_partitionCmpFunc_oom_Task_h_L2_R → PS
  | .x0 v_j615 v_w616 => ⟨[.srf 1, .d (.v (.int .i64 v_a584)), dd, dd, .d (.clo v_cmp587_g v_cmp587_c), dd, dd, dd, dd, dd, dd, dd, .d (.v (.int .i64 v_z605)), .d (.v (.int .i64 v_j615)), dd, dd, dd, dd, dd, dd, dd, dd, dd, dd, dd, dd, dd, dd, dd, dd, dd, dd, dd, dd, dd, dd, dd, dd, dd, dd, dd, dd, dd, dd, dd, dd, dd, dd, dd, dd, dd, dd, dd, dd, dd, dd, dd, dd, dd, dd, dd, dd, dd, dd, dd, dd, dd, dd, dd, dd, dd, dd, dd, dd, dd, dd, dd, dd, dd, dd, dd, dd, dd, dd, dd, dd, dd, dd, dd, dd, dd, dd, dd, dd, dd, dd, dd, dd, dd, dd, dd, dd, dd, dd, dd, dd, dd, dd, dd, dd, dd, dd, dd, dd, dd, dd, dd, dd, dd, dd, dd, dd, dd, dd, dd, dd, dd, dd, dd, dd, dd, dd, dd, dd, dd, dd, dd, dd, dd, dd, dd, dd, dd, dd, dd, dd, dd, dd, dd, dd, dd, dd, dd, dd, dd, dd, dd, dd, dd, dd, dd, dd, dd, dd, dd, dd, dd, dd, dd, dd, dd, dd, dd, dd, dd, dd, dd, dd], [.gh 0 (.srf 1), .row 207 4 (v_w616.map eS_oom_Task)]⟩

end Go.Proofs.Ytiaebagjcbkkgaa.pv
