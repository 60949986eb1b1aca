/- What the functions compute, as functions over plain data, with their contracts: written by gen.py. -/
import Derived.Test.YtiaebagjcbkkgaaProg
import Derived.Test.YtiaebagjcbkkgaaQr
import Derived.Test.YtiaebagjcbkkgaaSh
set_option maxRecDepth 100000
set_option linter.all false
namespace Go.Proofs.Ytiaebagjcbkkgaa.pv
open Go.RowKit
def TT : List TI := [
⟨1, 0, .oth, []⟩,
⟨1, 8, .oth, [.nf]⟩,
⟨1, 8, .int .i64, [.i .i64]⟩,
⟨1, 8, .int .i64, [.i .i64]⟩,
⟨1, 1, .bool, [.b]⟩,
⟨1, 1, .int .u8, [.i .u8]⟩,
⟨1, 1, .int .u8, [.i .u8]⟩,
⟨4, 24, .st [(0, 2), (1, 3), (2, 4), (3, 6)], [.i .i64, .i .i64, .b, .i .u8]⟩,
⟨4, 24, .st [(0, 2), (1, 3), (2, 4), (3, 6)], [.i .i64, .i .i64, .b, .i .u8]⟩,
⟨1, 16, .str, [.s]⟩,
⟨1, 16, .str, [.s]⟩,
⟨1, 16, .str, [.s]⟩,
⟨1, 8, .int .u64, [.i .u64]⟩,
⟨2, 24, .st [(0, 9), (1, 12)], [.s, .i .u64]⟩,
⟨2, 24, .st [(0, 9), (1, 12)], [.s, .i .u64]⟩,
⟨1, 8, .ptr 450, [.np]⟩,
⟨1, 8, .ptr 453, [.np]⟩,
⟨1, 8, .ptr 460, [.np]⟩,
⟨1, 8, .st [(0, 17)], [.np]⟩,
⟨1, 8, .st [(0, 17)], [.np]⟩,
⟨1, 16, .oth, [.ni]⟩,
⟨1, 4, .int .i32, [.i .i32]⟩,
⟨1, 24, .sl 37, [.sl]⟩,
⟨1, 24, .sl 27, [.sl]⟩,
⟨1, 24, .sl 3, [.sl]⟩,
⟨1, 8, .oth, [.nf]⟩,
⟨1, 24, .sl 28, [.sl]⟩,
⟨1, 24, .sl 30, [.sl]⟩,
⟨1, 24, .sl 31, [.sl]⟩,
⟨3, 24, .st [(0, 3), (1, 3), (2, 3)], [.i .i64, .i .i64, .i .i64]⟩,
⟨3, 24, .st [(0, 3), (1, 3), (2, 3)], [.i .i64, .i .i64, .i .i64]⟩,
⟨3, 24, .st [(0, 3), (1, 3), (2, 3)], [.i .i64, .i .i64, .i .i64]⟩,
⟨1, 8, .int .i64, [.i .i64]⟩,
⟨1, 0, .oth, []⟩,
⟨1, 8, .oth, [.nf]⟩,
⟨1, 8, .oth, [.nf]⟩,
⟨1, 8, .oth, [.nf]⟩,
⟨1, 4, .int .u32, [.i .u32]⟩,
⟨1, 8, .oth, [.nf]⟩,
⟨1, 0, .oth, []⟩,
⟨1, 8, .oth, [.nf]⟩,
⟨1, 0, .oth, []⟩,
⟨1, 8, .oth, [.nf]⟩,
⟨1, 8, .oth, [.nf]⟩,
⟨1, 8, .oth, [.nf]⟩,
⟨1, 8, .oth, [.nf]⟩,
⟨1, 8, .oth, [.nf]⟩,
⟨1, 8, .oth, [.nf]⟩,
⟨1, 24, .sl 5, [.sl]⟩,
⟨1, 24, .sl 24, [.sl]⟩,
⟨2, 48, .st [(0, 48), (1, 49)], [.sl, .sl]⟩,
⟨2, 48, .st [(0, 48), (1, 49)], [.sl, .sl]⟩,
⟨1, 0, .oth, []⟩,
⟨1, 8, .oth, [.nf]⟩,
⟨1, 0, .oth, []⟩,
⟨1, 8, .oth, [.nf]⟩,
⟨1, 8, .oth, [.nf]⟩,
⟨1, 0, .oth, []⟩,
⟨1, 8, .oth, [.nf]⟩,
⟨1, 0, .oth, []⟩,
⟨1, 8, .oth, [.nf]⟩,
⟨1, 8, .oth, [.nf]⟩,
⟨1, 8, .oth, [.nf]⟩,
⟨1, 8, .oth, [.nf]⟩,
⟨1, 0, .oth, []⟩,
⟨1, 8, .oth, [.nf]⟩,
⟨1, 8, .oth, [.nf]⟩,
⟨1, 8, .oth, [.nf]⟩,
⟨1, 8, .oth, [.nf]⟩,
⟨1, 8, .oth, [.nf]⟩,
⟨1, 8, .oth, [.nf]⟩,
⟨1, 24, .sl 89, [.sl]⟩,
⟨2, 16, .st [(0, 3), (1, 3)], [.i .i64, .i .i64]⟩,
⟨2, 16, .st [(0, 3), (1, 3)], [.i .i64, .i .i64]⟩,
⟨1, 0, .oth, []⟩,
⟨1, 8, .oth, [.nf]⟩,
⟨1, 8, .oth, [.nf]⟩,
⟨1, 0, .oth, []⟩,
⟨1, 8, .oth, [.nf]⟩,
⟨1, 8, .oth, [.nf]⟩,
⟨1, 0, .oth, []⟩,
⟨1, 8, .oth, [.nf]⟩,
⟨1, 0, .oth, []⟩,
⟨1, 8, .oth, [.nf]⟩,
⟨1, 8, .oth, [.nf]⟩,
⟨1, 8, .oth, [.nf]⟩,
⟨1, 24, .sl 92, [.sl]⟩,
⟨1, 24, .sl 73, [.sl]⟩,
⟨2, 48, .st [(0, 86), (1, 87)], [.sl, .sl]⟩,
⟨2, 48, .st [(0, 86), (1, 87)], [.sl, .sl]⟩,
⟨1, 8, .oth, [.nf]⟩,
⟨3, 24, .st [(0, 3), (1, 3), (2, 37)], [.i .i64, .i .i64, .i .u32]⟩,
⟨3, 24, .st [(0, 3), (1, 3), (2, 37)], [.i .i64, .i .i64, .i .u32]⟩,
⟨1, 8, .oth, [.nf]⟩,
⟨1, 8, .oth, [.nf]⟩,
⟨1, 8, .oth, [.nf]⟩,
⟨1, 8, .oth, [.nf]⟩,
⟨1, 8, .oth, [.nf]⟩,
⟨1, 8, .oth, [.nf]⟩,
⟨1, 24, .sl 269, [.sl]⟩,
⟨2, 32, .st [(0, 3), (1, 99)], [.i .i64, .sl]⟩,
⟨2, 32, .st [(0, 3), (1, 99)], [.i .i64, .sl]⟩,
⟨2, 16, .st [(0, 3), (1, 3)], [.i .i64, .i .i64]⟩,
⟨2, 16, .st [(0, 3), (1, 3)], [.i .i64, .i .i64]⟩,
⟨1, 0, .oth, []⟩,
⟨1, 8, .oth, [.nf]⟩,
⟨1, 0, .oth, []⟩,
⟨1, 8, .oth, [.nf]⟩,
⟨1, 0, .oth, []⟩,
⟨1, 8, .oth, [.nf]⟩,
⟨1, 0, .oth, []⟩,
⟨1, 8, .oth, [.nf]⟩,
⟨1, 8, .oth, [.nf]⟩,
⟨1, 8, .oth, [.nf]⟩,
⟨16, 16, .arr 16 4, List.replicate 16 (.b)⟩,
⟨1024, 1024, .arr 64 114, List.replicate 1024 (.b)⟩,
⟨1, 8, .oth, [.nf]⟩,
⟨1, 8, .oth, [.nf]⟩,
⟨1, 24, .sl 4, [.sl]⟩,
⟨1, 8, .oth, [.nf]⟩,
⟨1, 0, .oth, []⟩,
⟨1, 8, .oth, [.nf]⟩,
⟨1, 8, .oth, [.nf]⟩,
⟨1, 24, .sl 134, [.sl]⟩,
⟨2, 32, .st [(0, 3), (1, 123)], [.i .i64, .sl]⟩,
⟨2, 32, .st [(0, 3), (1, 123)], [.i .i64, .sl]⟩,
⟨1, 0, .oth, []⟩,
⟨1, 8, .oth, [.nf]⟩,
⟨1, 0, .oth, []⟩,
⟨1, 8, .oth, [.nf]⟩,
⟨1, 8, .oth, [.nf]⟩,
⟨1, 8, .oth, [.nf]⟩,
⟨1, 8, .oth, [.nf]⟩,
⟨2, 16, .st [(0, 3), (1, 3)], [.i .i64, .i .i64]⟩,
⟨2, 16, .st [(0, 3), (1, 3)], [.i .i64, .i .i64]⟩,
⟨1, 8, .oth, [.nf]⟩,
⟨64, 64, .arr 64 4, List.replicate 64 (.b)⟩,
⟨1, 8, .oth, [.nf]⟩,
⟨1, 8, .oth, [.nf]⟩,
⟨1, 8, .oth, [.nf]⟩,
⟨1, 8, .oth, [.nf]⟩,
⟨1, 0, .oth, []⟩,
⟨1, 8, .oth, [.nf]⟩,
⟨1, 8, .oth, [.nf]⟩,
⟨1, 24, .sl 161, [.sl]⟩,
⟨1, 8, .ptr 292, [.np]⟩,
⟨1, 8, .oth, [.nf]⟩,
⟨1, 8, .oth, [.nf]⟩,
⟨5, 40, .st [(0, 3), (1, 3), (2, 3), (3, 4), (4, 3)], [.i .i64, .i .i64, .i .i64, .b, .i .i64]⟩,
⟨5, 40, .st [(0, 3), (1, 3), (2, 3), (3, 4), (4, 3)], [.i .i64, .i .i64, .i .i64, .b, .i .i64]⟩,
⟨1, 24, .sl 149, [.sl]⟩,
⟨1, 0, .oth, []⟩,
⟨1, 8, .oth, [.nf]⟩,
⟨1, 8, .ptr 158, [.np]⟩,
⟨1, 24, .sl 159, [.sl]⟩,
⟨8, 64, .arr 8 3, [.i .i64, .i .i64, .i .i64, .i .i64, .i .i64, .i .i64, .i .i64, .i .i64]⟩,
⟨136, 1088, .arr 17 155, List.replicate 136 (.i .i64)⟩,
⟨137, 1112, .st [(0, 154), (1, 156)], (List.replicate 1 (.sl) ++ List.replicate 136 (.i .i64))⟩,
⟨137, 1112, .st [(0, 154), (1, 156)], (List.replicate 1 (.sl) ++ List.replicate 136 (.i .i64))⟩,
⟨5, 40, .st [(0, 3), (1, 3), (2, 3), (3, 4), (4, 3)], [.i .i64, .i .i64, .i .i64, .b, .i .i64]⟩,
⟨9, 72, .st [(0, 3), (1, 3), (2, 3), (3, 3), (4, 159)], [.i .i64, .i .i64, .i .i64, .i .i64, .i .i64, .i .i64, .i .i64, .b, .i .i64]⟩,
⟨9, 72, .st [(0, 3), (1, 3), (2, 3), (3, 3), (4, 159)], [.i .i64, .i .i64, .i .i64, .i .i64, .i .i64, .i .i64, .i .i64, .b, .i .i64]⟩,
⟨1, 8, .oth, [.nf]⟩,
⟨1, 8, .oth, [.nf]⟩,
⟨1, 24, .sl 306, [.sl]⟩,
⟨1, 24, .sl 180, [.sl]⟩,
⟨1, 8, .oth, [.nf]⟩,
⟨1, 8, .oth, [.nf]⟩,
⟨1, 0, .oth, []⟩,
⟨1, 8, .oth, [.nf]⟩,
⟨1, 0, .oth, []⟩,
⟨1, 8, .oth, [.nf]⟩,
⟨1, 8, .oth, [.nf]⟩,
⟨1, 8, .oth, [.nf]⟩,
⟨1, 8, .oth, [.nf]⟩,
⟨1, 8, .oth, [.nf]⟩,
⟨1, 8, .oth, [.nf]⟩,
⟨1, 8, .oth, [.nf]⟩,
⟨1, 8, .oth, [.nf]⟩,
⟨2, 16, .st [(0, 3), (1, 3)], [.i .i64, .i .i64]⟩,
⟨2, 16, .st [(0, 3), (1, 3)], [.i .i64, .i .i64]⟩,
⟨1, 8, .oth, [.nf]⟩,
⟨1, 8, .oth, [.nf]⟩,
⟨1, 8, .oth, [.nf]⟩,
⟨1, 24, .sl 186, [.sl]⟩,
⟨3, 40, .st [(0, 3), (1, 48), (2, 4)], [.i .i64, .sl, .b]⟩,
⟨3, 40, .st [(0, 3), (1, 48), (2, 4)], [.i .i64, .sl, .b]⟩,
⟨1, 8, .oth, [.nf]⟩,
⟨1, 0, .oth, []⟩,
⟨1, 8, .oth, [.nf]⟩,
⟨1, 8, .oth, [.nf]⟩,
⟨1, 8, .oth, [.nf]⟩,
⟨1, 24, .sl 194, [.sl]⟩,
⟨2, 24, .st [(0, 3), (1, 9)], [.i .i64, .s]⟩,
⟨2, 24, .st [(0, 3), (1, 9)], [.i .i64, .s]⟩,
⟨1, 8, .oth, [.nf]⟩,
⟨1, 8, .oth, [.nf]⟩,
⟨1, 8, .oth, [.nf]⟩,
⟨1, 8, .oth, [.nf]⟩,
⟨1, 24, .sl 207, [.sl]⟩,
⟨1, 8, .oth, [.nf]⟩,
⟨1, 0, .oth, []⟩,
⟨1, 8, .oth, [.nf]⟩,
⟨1, 8, .oth, [.nf]⟩,
⟨1, 8, .oth, [.nf]⟩,
⟨1, 8, .oth, [.nf]⟩,
⟨4, 32, .st [(0, 3), (1, 3), (2, 3), (3, 4)], [.i .i64, .i .i64, .i .i64, .b]⟩,
⟨4, 32, .st [(0, 3), (1, 3), (2, 3), (3, 4)], [.i .i64, .i .i64, .i .i64, .b]⟩,
⟨1, 8, .oth, [.nf]⟩,
⟨1, 8, .oth, [.nf]⟩,
⟨1, 24, .sl 218, [.sl]⟩,
⟨1, 8, .ptr 328, [.np]⟩,
⟨1, 0, .oth, []⟩,
⟨1, 8, .oth, [.nf]⟩,
⟨1, 8, .oth, [.nf]⟩,
⟨1, 8, .ptr 226, [.np]⟩,
⟨1, 8, .oth, [.nf]⟩,
⟨4, 64, .st [(0, 3), (1, 3), (2, 48), (3, 118)], [.i .i64, .i .i64, .sl, .sl]⟩,
⟨4, 64, .st [(0, 3), (1, 3), (2, 48), (3, 118)], [.i .i64, .i .i64, .sl, .sl]⟩,
⟨1, 8, .oth, [.nf]⟩,
⟨1, 8, .oth, [.nf]⟩,
⟨1, 8, .oth, [.nf]⟩,
⟨1, 8, .oth, [.nf]⟩,
⟨1, 8, .oth, [.nf]⟩,
⟨1, 24, .sl 331, [.sl]⟩,
⟨4, 48, .st [(0, 3), (1, 3), (2, 3), (3, 224)], [.i .i64, .i .i64, .i .i64, .sl]⟩,
⟨4, 48, .st [(0, 3), (1, 3), (2, 3), (3, 224)], [.i .i64, .i .i64, .i .i64, .sl]⟩,
⟨1, 8, .oth, [.nf]⟩,
⟨1, 8, .oth, [.nf]⟩,
⟨1, 8, .oth, [.nf]⟩,
⟨1, 8, .oth, [.nf]⟩,
⟨1, 8, .oth, [.nf]⟩,
⟨8, 32, .arr 8 37, [.i .u32, .i .u32, .i .u32, .i .u32, .i .u32, .i .u32, .i .u32, .i .u32]⟩,
⟨10, 48, .st [(0, 232), (8, 37), (9, 3)], [.i .u32, .i .u32, .i .u32, .i .u32, .i .u32, .i .u32, .i .u32, .i .u32, .i .u32, .i .i64]⟩,
⟨10, 48, .st [(0, 232), (8, 37), (9, 3)], [.i .u32, .i .u32, .i .u32, .i .u32, .i .u32, .i .u32, .i .u32, .i .u32, .i .u32, .i .i64]⟩,
⟨3, 40, .st [(0, 37), (1, 48), (2, 3)], [.i .u32, .sl, .i .i64]⟩,
⟨3, 40, .st [(0, 37), (1, 48), (2, 3)], [.i .u32, .sl, .i .i64]⟩,
⟨1, 8, .oth, [.nf]⟩,
⟨1, 8, .oth, [.nf]⟩,
⟨2, 16, .st [(0, 3), (1, 37)], [.i .i64, .i .u32]⟩,
⟨2, 16, .st [(0, 3), (1, 37)], [.i .i64, .i .u32]⟩,
⟨1, 0, .oth, []⟩,
⟨1, 8, .oth, [.nf]⟩,
⟨1, 8, .ptr 236, [.np]⟩,
⟨1, 8, .oth, [.nf]⟩,
⟨1, 8, .oth, [.nf]⟩,
⟨1, 8, .oth, [.nf]⟩,
⟨1, 8, .oth, [.nf]⟩,
⟨1, 8, .ptr 37, [.np]⟩,
⟨1, 8, .oth, [.nf]⟩,
⟨1, 8, .oth, [.nf]⟩,
⟨1, 8, .oth, [.nf]⟩,
⟨4, 32, .arr 4 3, [.i .i64, .i .i64, .i .i64, .i .i64]⟩,
⟨1, 8, .oth, [.nf]⟩,
⟨1, 8, .oth, [.nf]⟩,
⟨1, 8, .oth, [.nf]⟩,
⟨1, 8, .oth, [.nf]⟩,
⟨1, 8, .oth, [.nf]⟩,
⟨1, 8, .oth, [.nf]⟩,
⟨1, 8, .oth, [.nf]⟩,
⟨1, 8, .oth, [.nf]⟩,
⟨1, 8, .oth, [.nf]⟩,
⟨1, 8, .ptr 89, [.np]⟩,
⟨1, 8, .oth, [.nf]⟩,
⟨1, 8, .oth, [.nf]⟩,
⟨1, 8, .oth, [.nf]⟩,
⟨1, 8, .oth, [.nf]⟩,
⟨1, 8, .oth, [.nf]⟩,
⟨2, 32, .st [(0, 3), (1, 24)], [.i .i64, .sl]⟩,
⟨2, 32, .st [(0, 3), (1, 24)], [.i .i64, .sl]⟩,
⟨1, 8, .oth, [.nf]⟩,
⟨1, 8, .oth, [.nf]⟩,
⟨1, 8, .oth, [.nf]⟩,
⟨1, 8, .oth, [.nf]⟩,
⟨1, 8, .oth, [.nf]⟩,
⟨1, 8, .oth, [.nf]⟩,
⟨1, 8, .oth, [.nf]⟩,
⟨1, 8, .oth, [.nf]⟩,
⟨1, 8, .oth, [.nf]⟩,
⟨1, 8, .oth, [.nf]⟩,
⟨1, 8, .oth, [.nf]⟩,
⟨1, 8, .oth, [.nf]⟩,
⟨1, 8, .oth, [.nf]⟩,
⟨1, 8, .oth, [.nf]⟩,
⟨1, 8, .oth, [.nf]⟩,
⟨1, 8, .oth, [.nf]⟩,
⟨1, 8, .oth, [.nf]⟩,
⟨1, 8, .oth, [.nf]⟩,
⟨6, 48, .st [(0, 149), (5, 3)], [.i .i64, .i .i64, .i .i64, .b, .i .i64, .i .i64]⟩,
⟨6, 48, .st [(0, 149), (5, 3)], [.i .i64, .i .i64, .i .i64, .b, .i .i64, .i .i64]⟩,
⟨192, 1536, .arr 32 289, (List.replicate 32 [.i .i64, .i .i64, .i .i64, .b, .i .i64, .i .i64]).flatten⟩,
⟨328, 2624, .st [(0, 290), (192, 156)], [.i .i64, .i .i64, .i .i64, .b, .i .i64, .i .i64, .i .i64, .i .i64, .i .i64, .b, .i .i64, .i .i64, .i .i64, .i .i64, .i .i64, .b, .i .i64, .i .i64, .i .i64, .i .i64, .i .i64, .b, .i .i64, .i .i64, .i .i64, .i .i64, .i .i64, .b, .i .i64, .i .i64, .i .i64, .i .i64, .i .i64, .b, .i .i64, .i .i64, .i .i64, .i .i64, .i .i64, .b, .i .i64, .i .i64, .i .i64, .i .i64, .i .i64, .b, .i .i64, .i .i64, .i .i64, .i .i64, .i .i64, .b, .i .i64, .i .i64, .i .i64, .i .i64, .i .i64, .b, .i .i64, .i .i64, .i .i64, .i .i64, .i .i64, .b, .i .i64, .i .i64, .i .i64, .i .i64, .i .i64, .b, .i .i64, .i .i64, .i .i64, .i .i64, .i .i64, .b, .i .i64, .i .i64, .i .i64, .i .i64, .i .i64, .b, .i .i64, .i .i64, .i .i64, .i .i64, .i .i64, .b, .i .i64, .i .i64, .i .i64, .i .i64, .i .i64, .b, .i .i64, .i .i64, .i .i64, .i .i64, .i .i64, .b, .i .i64, .i .i64, .i .i64, .i .i64, .i .i64, .b, .i .i64, .i .i64, .i .i64, .i .i64, .i .i64, .b, .i .i64, .i .i64, .i .i64, .i .i64, .i .i64, .b, .i .i64, .i .i64, .i .i64, .i .i64, .i .i64, .b, .i .i64, .i .i64, .i .i64, .i .i64, .i .i64, .b, .i .i64, .i .i64, .i .i64, .i .i64, .i .i64, .b, .i .i64, .i .i64, .i .i64, .i .i64, .i .i64, .b, .i .i64, .i .i64, .i .i64, .i .i64, .i .i64, .b, .i .i64, .i .i64, .i .i64, .i .i64, .i .i64, .b, .i .i64, .i .i64, .i .i64, .i .i64, .i .i64, .b, .i .i64, .i .i64, .i .i64, .i .i64, .i .i64, .b, .i .i64, .i .i64, .i .i64, .i .i64, .i .i64, .b, .i .i64, .i .i64, .i .i64, .i .i64, .i .i64, .b, .i .i64, .i .i64, .i .i64, .i .i64, .i .i64, .b, .i .i64, .i .i64, .i .i64, .i .i64, .i .i64, .b, .i .i64, .i .i64, .i .i64, .i .i64, .i .i64, .i .i64, .i .i64, .i .i64, .i .i64, .i .i64, .i .i64, .i .i64, .i .i64, .i .i64, .i .i64, .i .i64, .i .i64, .i .i64, .i .i64, .i .i64, .i .i64, .i .i64, .i .i64, .i .i64, .i .i64, .i .i64, .i .i64, .i .i64, .i .i64, .i .i64, .i .i64, .i .i64, .i .i64, .i .i64, .i .i64, .i .i64, .i .i64, .i .i64, .i .i64, .i .i64, .i .i64, .i .i64, .i .i64, .i .i64, .i .i64, .i .i64, .i .i64, .i .i64, .i .i64, .i .i64, .i .i64, .i .i64, .i .i64, .i .i64, .i .i64, .i .i64, .i .i64, .i .i64, .i .i64, .i .i64, .i .i64, .i .i64, .i .i64, .i .i64, .i .i64, .i .i64, .i .i64, .i .i64, .i .i64, .i .i64, .i .i64, .i .i64, .i .i64, .i .i64, .i .i64, .i .i64, .i .i64, .i .i64, .i .i64, .i .i64, .i .i64, .i .i64, .i .i64, .i .i64, .i .i64, .i .i64, .i .i64, .i .i64, .i .i64, .i .i64, .i .i64, .i .i64, .i .i64, .i .i64, .i .i64, .i .i64, .i .i64, .i .i64, .i .i64, .i .i64, .i .i64, .i .i64, .i .i64, .i .i64, .i .i64, .i .i64, .i .i64, .i .i64, .i .i64, .i .i64, .i .i64, .i .i64, .i .i64, .i .i64, .i .i64, .i .i64, .i .i64, .i .i64, .i .i64, .i .i64, .i .i64, .i .i64, .i .i64, .i .i64, .i .i64, .i .i64, .i .i64, .i .i64, .i .i64, .i .i64, .i .i64, .i .i64, .i .i64, .i .i64, .i .i64, .i .i64, .i .i64, .i .i64]⟩,
⟨328, 2624, .st [(0, 290), (192, 156)], [.i .i64, .i .i64, .i .i64, .b, .i .i64, .i .i64, .i .i64, .i .i64, .i .i64, .b, .i .i64, .i .i64, .i .i64, .i .i64, .i .i64, .b, .i .i64, .i .i64, .i .i64, .i .i64, .i .i64, .b, .i .i64, .i .i64, .i .i64, .i .i64, .i .i64, .b, .i .i64, .i .i64, .i .i64, .i .i64, .i .i64, .b, .i .i64, .i .i64, .i .i64, .i .i64, .i .i64, .b, .i .i64, .i .i64, .i .i64, .i .i64, .i .i64, .b, .i .i64, .i .i64, .i .i64, .i .i64, .i .i64, .b, .i .i64, .i .i64, .i .i64, .i .i64, .i .i64, .b, .i .i64, .i .i64, .i .i64, .i .i64, .i .i64, .b, .i .i64, .i .i64, .i .i64, .i .i64, .i .i64, .b, .i .i64, .i .i64, .i .i64, .i .i64, .i .i64, .b, .i .i64, .i .i64, .i .i64, .i .i64, .i .i64, .b, .i .i64, .i .i64, .i .i64, .i .i64, .i .i64, .b, .i .i64, .i .i64, .i .i64, .i .i64, .i .i64, .b, .i .i64, .i .i64, .i .i64, .i .i64, .i .i64, .b, .i .i64, .i .i64, .i .i64, .i .i64, .i .i64, .b, .i .i64, .i .i64, .i .i64, .i .i64, .i .i64, .b, .i .i64, .i .i64, .i .i64, .i .i64, .i .i64, .b, .i .i64, .i .i64, .i .i64, .i .i64, .i .i64, .b, .i .i64, .i .i64, .i .i64, .i .i64, .i .i64, .b, .i .i64, .i .i64, .i .i64, .i .i64, .i .i64, .b, .i .i64, .i .i64, .i .i64, .i .i64, .i .i64, .b, .i .i64, .i .i64, .i .i64, .i .i64, .i .i64, .b, .i .i64, .i .i64, .i .i64, .i .i64, .i .i64, .b, .i .i64, .i .i64, .i .i64, .i .i64, .i .i64, .b, .i .i64, .i .i64, .i .i64, .i .i64, .i .i64, .b, .i .i64, .i .i64, .i .i64, .i .i64, .i .i64, .b, .i .i64, .i .i64, .i .i64, .i .i64, .i .i64, .b, .i .i64, .i .i64, .i .i64, .i .i64, .i .i64, .b, .i .i64, .i .i64, .i .i64, .i .i64, .i .i64, .b, .i .i64, .i .i64, .i .i64, .i .i64, .i .i64, .i .i64, .i .i64, .i .i64, .i .i64, .i .i64, .i .i64, .i .i64, .i .i64, .i .i64, .i .i64, .i .i64, .i .i64, .i .i64, .i .i64, .i .i64, .i .i64, .i .i64, .i .i64, .i .i64, .i .i64, .i .i64, .i .i64, .i .i64, .i .i64, .i .i64, .i .i64, .i .i64, .i .i64, .i .i64, .i .i64, .i .i64, .i .i64, .i .i64, .i .i64, .i .i64, .i .i64, .i .i64, .i .i64, .i .i64, .i .i64, .i .i64, .i .i64, .i .i64, .i .i64, .i .i64, .i .i64, .i .i64, .i .i64, .i .i64, .i .i64, .i .i64, .i .i64, .i .i64, .i .i64, .i .i64, .i .i64, .i .i64, .i .i64, .i .i64, .i .i64, .i .i64, .i .i64, .i .i64, .i .i64, .i .i64, .i .i64, .i .i64, .i .i64, .i .i64, .i .i64, .i .i64, .i .i64, .i .i64, .i .i64, .i .i64, .i .i64, .i .i64, .i .i64, .i .i64, .i .i64, .i .i64, .i .i64, .i .i64, .i .i64, .i .i64, .i .i64, .i .i64, .i .i64, .i .i64, .i .i64, .i .i64, .i .i64, .i .i64, .i .i64, .i .i64, .i .i64, .i .i64, .i .i64, .i .i64, .i .i64, .i .i64, .i .i64, .i .i64, .i .i64, .i .i64, .i .i64, .i .i64, .i .i64, .i .i64, .i .i64, .i .i64, .i .i64, .i .i64, .i .i64, .i .i64, .i .i64, .i .i64, .i .i64, .i .i64, .i .i64, .i .i64, .i .i64, .i .i64, .i .i64, .i .i64, .i .i64, .i .i64, .i .i64, .i .i64, .i .i64, .i .i64, .i .i64, .i .i64]⟩,
⟨1, 0, .oth, []⟩,
⟨1, 8, .oth, [.nf]⟩,
⟨1, 8, .oth, [.nf]⟩,
⟨1, 8, .oth, [.nf]⟩,
⟨1, 8, .oth, [.nf]⟩,
⟨1, 0, .oth, []⟩,
⟨1, 8, .oth, [.nf]⟩,
⟨1, 8, .ptr 159, [.np]⟩,
⟨1, 8, .oth, [.nf]⟩,
⟨1, 8, .oth, [.nf]⟩,
⟨1, 0, .oth, []⟩,
⟨1, 8, .oth, [.nf]⟩,
⟨1, 8, .oth, [.nf]⟩,
⟨2, 16, .st [(0, 3), (1, 3)], [.i .i64, .i .i64]⟩,
⟨1, 8, .oth, [.nf]⟩,
⟨1, 8, .oth, [.nf]⟩,
⟨1, 8, .oth, [.nf]⟩,
⟨1, 8, .oth, [.nf]⟩,
⟨1, 8, .oth, [.nm]⟩,
⟨1, 0, .oth, []⟩,
⟨1, 8, .int .u64, [.i .u64]⟩,
⟨1, 8, .oth, [.nf]⟩,
⟨1, 8, .oth, [.nf]⟩,
⟨1, 8, .oth, [.nf]⟩,
⟨1, 0, .oth, []⟩,
⟨1, 8, .oth, [.nf]⟩,
⟨1, 8, .oth, [.nf]⟩,
⟨1, 8, .oth, [.nf]⟩,
⟨1, 8, .oth, [.nf]⟩,
⟨1, 8, .oth, [.nf]⟩,
⟨1, 8, .oth, [.nf]⟩,
⟨1, 8, .oth, [.nf]⟩,
⟨1, 8, .oth, [.nf]⟩,
⟨1, 24, .sl 330, [.sl]⟩,
⟨4, 80, .st [(0, 48), (1, 48), (2, 326), (3, 3)], [.sl, .sl, .sl, .i .i64]⟩,
⟨4, 80, .st [(0, 48), (1, 48), (2, 326), (3, 3)], [.sl, .sl, .sl, .i .i64]⟩,
⟨2, 32, .st [(0, 3), (1, 48)], [.i .i64, .sl]⟩,
⟨2, 32, .st [(0, 3), (1, 48)], [.i .i64, .sl]⟩,
⟨2, 24, .st [(0, 3), (1, 9)], [.i .i64, .s]⟩,
⟨1, 8, .oth, [.nf]⟩,
⟨1, 16, .oth, [.ni]⟩,
⟨1, 16, .oth, [.ni]⟩,
⟨1, 0, .oth, []⟩,
⟨1, 8, .oth, [.nf]⟩,
⟨4, 32, .st [(0, 3), (1, 3), (2, 3), (3, 3)], [.i .i64, .i .i64, .i .i64, .i .i64]⟩,
⟨4, 32, .st [(0, 3), (1, 3), (2, 3), (3, 3)], [.i .i64, .i .i64, .i .i64, .i .i64]⟩,
⟨1, 0, .oth, []⟩,
⟨1, 8, .oth, [.nf]⟩,
⟨1, 0, .oth, []⟩,
⟨1, 8, .oth, [.nf]⟩,
⟨1, 8, .oth, [.nf]⟩,
⟨1, 8, .ptr 234, [.np]⟩,
⟨1, 8, .oth, [.nf]⟩,
⟨1, 8, .oth, [.nf]⟩,
⟨1, 8, .oth, [.nf]⟩,
⟨1, 8, .oth, [.nf]⟩,
⟨1, 8, .oth, [.nf]⟩,
⟨1, 8, .oth, [.nf]⟩,
⟨1, 8, .oth, [.nm]⟩,
⟨1, 8, .oth, [.nf]⟩,
⟨1, 8, .oth, [.nf]⟩,
⟨1, 8, .oth, [.nf]⟩,
⟨1, 8, .oth, [.nf]⟩,
⟨1, 8, .oth, [.nf]⟩,
⟨1, 8, .oth, [.nf]⟩,
⟨1, 8, .oth, [.nf]⟩,
⟨1, 8, .oth, [.nf]⟩,
⟨1, 8, .oth, [.nf]⟩,
⟨1, 8, .oth, [.nf]⟩,
⟨1, 8, .oth, [.nf]⟩,
⟨1, 8, .oth, [.nf]⟩,
⟨1, 8, .oth, [.nf]⟩,
⟨1, 8, .oth, [.nf]⟩,
⟨1, 8, .ptr 289, [.np]⟩,
⟨1, 0, .oth, []⟩,
⟨1, 8, .oth, [.nf]⟩,
⟨1, 8, .oth, [.nf]⟩,
⟨1, 8, .oth, [.nf]⟩,
⟨1, 8, .oth, [.nf]⟩,
⟨1, 8, .oth, [.nf]⟩,
⟨1, 8, .oth, [.nf]⟩,
⟨1, 8, .oth, [.nf]⟩,
⟨1, 8, .oth, [.nf]⟩,
⟨1, 8, .oth, [.nf]⟩,
⟨1, 8, .oth, [.nm]⟩,
⟨1, 8, .oth, [.nf]⟩,
⟨1, 8, .oth, [.nf]⟩,
⟨1, 8, .oth, [.nf]⟩,
⟨1, 8, .oth, [.nf]⟩,
⟨1, 8, .oth, [.nf]⟩,
⟨1, 8, .oth, [.nf]⟩,
⟨1, 8, .oth, [.nf]⟩,
⟨1, 0, .oth, []⟩,
⟨1, 8, .oth, [.nf]⟩,
⟨1, 2, .int .i16, [.i .i16]⟩,
⟨1, 0, .oth, []⟩,
⟨1, 8, .oth, [.nf]⟩,
⟨1, 8, .oth, [.nf]⟩,
⟨1, 8, .oth, [.nf]⟩,
⟨1, 2, .int .u16, [.i .u16]⟩,
⟨1, 8, .oth, [.nf]⟩,
⟨1, 8, .int .u64, [.i .u64]⟩,
⟨1, 8, .ptr 134, [.np]⟩,
⟨1, 0, .oth, []⟩,
⟨1, 8, .oth, [.nf]⟩,
⟨1, 8, .oth, [.nf]⟩,
⟨1, 8, .ptr 401, [.np]⟩,
⟨2, 32, .st [(0, 399), (1, 48)], [.np, .sl]⟩,
⟨2, 32, .st [(0, 399), (1, 48)], [.np, .sl]⟩,
⟨1, 16, .oth, [.ni]⟩,
⟨1, 16, .oth, [.ni]⟩,
⟨1, 0, .oth, []⟩,
⟨1, 8, .oth, [.nf]⟩,
⟨1, 8, .oth, [.nf]⟩,
⟨1, 8, .oth, [.nf]⟩,
⟨1, 8, .int .i64, [.i .i64]⟩,
⟨1, 0, .oth, []⟩,
⟨1, 8, .oth, [.nf]⟩,
⟨1, 8, .oth, [.nf]⟩,
⟨1, 8, .oth, [.nf]⟩,
⟨1, 8, .oth, [.nf]⟩,
⟨1, 8, .oth, [.nf]⟩,
⟨1, 8, .oth, [.nf]⟩,
⟨1, 0, .oth, []⟩,
⟨1, 8, .oth, [.nf]⟩,
⟨1, 0, .oth, []⟩,
⟨1, 8, .oth, [.nf]⟩,
⟨1, 8, .oth, [.nf]⟩,
⟨1, 8, .oth, [.nf]⟩,
⟨1, 8, .oth, [.nf]⟩,
⟨1, 8, .oth, [.nf]⟩,
⟨1, 0, .oth, []⟩,
⟨1, 8, .oth, [.nf]⟩,
⟨1, 0, .oth, []⟩,
⟨1, 8, .oth, [.nf]⟩,
⟨1, 8, .ptr 5, [.np]⟩,
⟨1, 8, .oth, [.nf]⟩,
⟨1, 8, .oth, [.nf]⟩,
⟨1, 8, .oth, [.nf]⟩,
⟨1, 8, .oth, [.nf]⟩,
⟨1, 8, .oth, [.nf]⟩,
⟨1, 8, .int .u64, [.i .u64]⟩,
⟨1, 8, .oth, [.nf]⟩,
⟨1, 8, .oth, [.nf]⟩,
⟨1, 8, .oth, [.nf]⟩,
⟨1, 8, .ptr 3, [.np]⟩,
⟨1, 8, .oth, [.nf]⟩,
⟨1, 8, .oth, [.np]⟩,
⟨1, 8, .oth, [.nf]⟩,
⟨1, 8, .oth, [.nf]⟩,
⟨1, 8, .oth, [.nf]⟩,
⟨1, 8, .oth, [.nf]⟩,
⟨1, 8, .ptr 434, [.np]⟩,
⟨1, 0, .oth, []⟩,
⟨1, 8, .oth, [.nf]⟩,
⟨1, 8, .oth, [.nf]⟩,
⟨4, 40, .st [(0, 17), (1, 17), (2, 17), (3, 9)], [.np, .np, .np, .s]⟩,
⟨4, 40, .st [(0, 17), (1, 17), (2, 17), (3, 9)], [.np, .np, .np, .s]⟩,
⟨0, 0, .arr 0 16, []⟩,
⟨0, 0, .st [(0, 451)], []⟩,
⟨0, 0, .st [(0, 451)], []⟩,
⟨1, 1, .int .u8, [.i .u8]⟩,
⟨1, 1, .int .u8, [.i .u8]⟩,
⟨1, 8, .oth, [.nf]⟩,
⟨1, 4, .int .i32, [.i .i32]⟩,
⟨1, 4, .int .i32, [.i .i32]⟩,
⟨11, 48, .st [(0, 12), (1, 12), (2, 37), (3, 454), (4, 5), (5, 5), (6, 455), (7, 456), (8, 428), (9, 457), (10, 458)], [.i .u64, .i .u64, .i .u32, .i .u8, .i .u8, .i .u8, .i .u8, .nf, .np, .i .i32, .i .i32]⟩,
⟨11, 48, .st [(0, 12), (1, 12), (2, 37), (3, 454), (4, 5), (5, 5), (6, 455), (7, 456), (8, 428), (9, 457), (10, 458)], [.i .u64, .i .u64, .i .u32, .i .u8, .i .u8, .i .u8, .i .u8, .nf, .np, .i .i32, .i .i32]⟩]
theorem TTok : TOk Try.prog TT := by unfold TOk; kernel_rfl
theorem mix : Try.prog.follows .mixedOrders = true := by kernel_rfl
structure S_ringref5_Do where
  fKind : Int
  fCell : Int
  fBy : Int
def eS_ringref5_Do (x : S_ringref5_Do) : PV := .agg [.v (.int .i64 x.fKind), .v (.int .i64 x.fCell), .v (.int .i64 x.fBy)]
structure S_turn_Do where
  fKind : Int
  fCell : Int
  fBy : Int
def eS_turn_Do (x : S_turn_Do) : PV := .agg [.v (.int .i64 x.fKind), .v (.int .i64 x.fCell), .v (.int .i64 x.fBy)]

/- slices.Clone[[]uint32,uint32] -/
def G_slices_Clone_uint32_uint32_A (n : Nat) (v_c30 : Nat) : Option ((List Int)) :=
  some ([] : List Int)
theorem G_slices_Clone_uint32_uint32_A_ok (n : Nat) (v_c30 : Nat) (r : (List Int)) (h : G_slices_Clone_uint32_uint32_A n v_c30 = some r) : RetH Try.prog 135 [.d (.v (.slice none 0 v_c30))] [] (.srf 0) [.row 37 1 (r.map (eI .u32))] := by
  refine retH_run (n := 8) (fn := Try.f135) (c := bodyOf Try.f135) (by kernel_rfl) (by kernel_rfl) (by kernel_rfl) (by kernel_rfl) ?_
  have hF : KC 8 (FinH Try.prog Try.f135 [] (.srf 0) [.row 37 1 (r.map (eI .u32))]) := FinH.kc' (by kernel_rfl)
  unfold G_slices_Clone_uint32_uint32_A at h
  obtain rfl := Option.some.inj h
  exact pendH_sound TTok mix 11 (hs := [.c, .dl 4, .th 2 37 1]) [12] (by kernel_rfl) (by kernel_rfl) (by kernel_rfl) .nil
/- slices.Clone[[]uint32,uint32] -/
def G_slices_Clone_uint32_uint32_B (n : Nat) (v_a31 : Addr) (v_c32 : Nat) : Option ((List Int)) :=
  (app 4 ([] : List Int) ([] : (List Int))).bind fun (v_a33 : (List Int)) =>
  some v_a33
theorem G_slices_Clone_uint32_uint32_B_ok (n : Nat) (v_a31 : Addr) (v_c32 : Nat) (r : (List Int)) (h : G_slices_Clone_uint32_uint32_B n v_a31 v_c32 = some r) : RetH Try.prog 135 [.d (.v (.slice (some v_a31) 0 v_c32))] [] (.srf 0) [.row 37 1 (r.map (eI .u32))] := by
  refine retH_run (n := 8) (fn := Try.f135) (c := bodyOf Try.f135) (by kernel_rfl) (by kernel_rfl) (by kernel_rfl) (by kernel_rfl) ?_
  have hF : KC 8 (FinH Try.prog Try.f135 [] (.srf 0) [.row 37 1 (r.map (eI .u32))]) := FinH.kc' (by kernel_rfl)
  unfold G_slices_Clone_uint32_uint32_B at h
  obtain ⟨v_a33, h29, h⟩ := bind_some h
  obtain rfl := Option.some.inj h
  exact pendH_sound TTok mix 10 (hs := [.c, .w (([] : List Int).map (eI .u32)), .w (v_a33.map (eI .u32))]) [15] (by kernel_rfl) (by kernel_rfl) (by kernel_rfl) (.cons (Eq.refl (([] : List Int).map (eI .u32))) (.cons (app_ob (f := (eI .u32)) (s := 1) h29 (fun _ => rfl)).1 (.cons (app_ob (f := (eI .u32)) (s := 1) h29 (fun _ => rfl)).2.1 (.cons (app_ob (f := (eI .u32)) (s := 1) h29 (fun _ => rfl)).2.2.1 (.cons (app_ob (f := (eI .u32)) (s := 1) h29 (fun _ => rfl)).2.2.2 .nil)))))
/- slices.Clone[[]uint32,uint32] -/
def G_slices_Clone_uint32_uint32_C (n : Nat) (v_y34 : Int) (v_ys35 : (List Int)) : Option ((List Int)) :=
  (app 4 ([] : List Int) (v_y34 :: v_ys35)).bind fun (v_a36 : (List Int)) =>
  some v_a36
theorem G_slices_Clone_uint32_uint32_C_ok (n : Nat) (v_y34 : Int) (v_ys35 : (List Int)) (r : (List Int)) (h : G_slices_Clone_uint32_uint32_C n v_y34 v_ys35 = some r) : RetH Try.prog 135 [.d (.sl ((eI .u32) v_y34 :: v_ys35.map (eI .u32)))] [] (.srf 0) [.row 37 1 (r.map (eI .u32))] := by
  refine retH_run (n := 8) (fn := Try.f135) (c := bodyOf Try.f135) (by kernel_rfl) (by kernel_rfl) (by kernel_rfl) (by kernel_rfl) ?_
  have hF : KC 8 (FinH Try.prog Try.f135 [] (.srf 0) [.row 37 1 (r.map (eI .u32))]) := FinH.kc' (by kernel_rfl)
  unfold G_slices_Clone_uint32_uint32_C at h
  obtain ⟨v_a36, h30, h⟩ := bind_some h
  obtain rfl := Option.some.inj h
  exact pendH_sound TTok mix 10 (hs := [.c, .w (([] : List Int).map (eI .u32)), .w (v_a36.map (eI .u32))]) [15] (by kernel_rfl) (by kernel_rfl) (by kernel_rfl) (.cons (Eq.refl (([] : List Int).map (eI .u32))) (.cons (app_ob (f := (eI .u32)) (s := 1) h30 (fun _ => rfl)).1 (.cons (app_ob (f := (eI .u32)) (s := 1) h30 (fun _ => rfl)).2.1 (.cons (app_ob (f := (eI .u32)) (s := 1) h30 (fun _ => rfl)).2.2.1 (.cons (app_ob (f := (eI .u32)) (s := 1) h30 (fun _ => rfl)).2.2.2 .nil)))))
def G_slices_Clone_uint32_uint32 (n : Nat) (xs : (List Int)) : Option (List Int) := app 4 [] xs
theorem G_slices_Clone_uint32_uint32_ok (n : Nat) (xs : (List Int)) (r : (List Int)) (h : G_slices_Clone_uint32_uint32 n xs = some r) : RetH Try.prog 135 [.d (.sl (xs.map (eI .u32)))] [] (.srf 0) [.row 37 1 (r.map (eI .u32))] := by
  unfold G_slices_Clone_uint32_uint32 at h
  have e : app 4 ([] : (List Int)) [] = some [] := by simp [app]
  cases xs with
  | nil =>
    rw [e] at h; obtain rfl := Option.some.inj h
    exact clone_nil (fun c => G_slices_Clone_uint32_uint32_A_ok n c _ (by unfold G_slices_Clone_uint32_uint32_A; rfl)) (fun a c => G_slices_Clone_uint32_uint32_B_ok n a c _ (by unfold G_slices_Clone_uint32_uint32_B; rw [e]; rfl))
  | cons y ys => exact G_slices_Clone_uint32_uint32_C_ok n y ys _ (by unfold G_slices_Clone_uint32_uint32_C; rw [h]; rfl)
inductive G_turn_step_h_C1_R where
  | x0 (v_w91 : (List Int)) (v_w92 : (List Int))
def G_turn_step_h_C1_ex : G_turn_step_h_C1_R → Ex
  | .x0 _ _ => .normal
def G_turn_step_h_C1_st (v_i71 : Nat) (v_d72 : S_turn_Do) (v_y73 : Int) (v_cells69 : (List Int)) (v_hand70 : (List Int)) : G_turn_step_h_C1_R → PS
  | .x0 v_w91 v_w92 => ⟨[dd, dd, dd, dd, dd, dd, dd, dd, dd, dd, dd, dd, dd, dd, dd, dd, dd, dd, dd, dd, dd, dd, dd, dd, dd, dd, dd, dd, dd, dd, dd, dd, dd, dd, dd, dd, dd, dd, dd, dd, dd, dd, dd, dd, dd, dd, dd, dd, dd, dd, dd, dd, dd, dd, dd, dd, dd, dd, dd, dd, dd, dd, dd, dd, dd, dd, dd, dd, dd, dd, dd, dd, dd, dd, dd, dd, dd], [.gh 0 (.srf 2), .gh 1 (.srf 3), .row 37 1 (v_w91.map (eI .u32)), .row 37 1 (v_w92.map (eI .u32))]⟩
def G_turn_step_h_C1_hd (v_i71 : Nat) (v_d72 : S_turn_Do) (v_y73 : Int) (v_cells69 : (List Int)) (v_hand70 : (List Int))  : PS := ⟨[dd, .ept 3 1 v_i71 0, dd, dd, dd, .ref 4 0, .ept 2 1 ((v_d72.fCell).toNat) 0, .d (.v (.int .u32 v_y73)), dd, dd, dd, dd, dd, dd, dd, dd, .d (.v (.int .i64 v_d72.fKind)), .d (.v (.bool (v_d72.fKind == 1))), dd, dd, dd, dd, dd, dd, dd, dd, dd, dd, dd, dd, dd, dd, dd, dd, dd, dd, dd, dd, dd, dd, dd, dd, dd, dd, dd, dd, dd, dd, dd, dd, dd, dd, dd, dd, dd, dd, dd, dd, dd, dd, dd, dd, dd, dd, dd, dd, dd, dd, dd, dd, dd, dd, dd, dd, dd, dd, dd], [.gh 0 (.srf 2), .gh 1 (.srf 3), .row 37 1 (v_cells69.map (eI .u32)), .row 37 1 (v_hand70.map (eI .u32)), .box [.d (.v (.int .i64 v_d72.fKind)), .d (.v (.int .i64 v_d72.fCell)), .d (.v (.int .i64 v_d72.fBy))]]⟩
def G_turn_step_h_C1 (n : Nat) (v_i71 : Nat) (v_d72 : S_turn_Do) (v_y73 : Int) (v_cells69 : (List Int)) (v_hand70 : (List Int)) : Option G_turn_step_h_C1_R :=
  if v_d72.fKind = 1 then
   (v_hand70[v_i71]?).bind fun (v_y90 : Int) =>
   some (.x0 v_cells69 (v_hand70.set v_i71 v_y73))
  else
   if v_d72.fKind = 2 then
    (v_hand70[v_i71]?).bind fun (v_y93 : Int) =>
    (v_cells69[(v_d72.fCell).toNat]?).bind fun (v_y94 : Int) =>
    some (.x0 (v_cells69.set (v_d72.fCell).toNat v_y93) v_hand70)
   else
    if v_d72.fKind = 3 then
     (v_hand70[v_i71]?).bind fun (v_y97 : Int) =>
     (v_hand70[v_i71]?).bind fun (v_y98 : Int) =>
     some (.x0 v_cells69 (v_hand70.set v_i71 (wi .u32 (v_y97 + (wi .u32 v_d72.fBy)))))
    else
     if v_d72.fKind = 4 then
      (v_cells69[(v_d72.fCell).toNat]?).bind fun (v_y101 : Int) =>
      (v_cells69[(v_d72.fCell).toNat]?).bind fun (v_y102 : Int) =>
      (v_hand70[v_i71]?).bind fun (v_y103 : Int) =>
      some (.x0 (v_cells69.set (v_d72.fCell).toNat (wi .u32 (v_y101 + (wi .u32 v_d72.fBy)))) (v_hand70.set v_i71 v_y73))
     else
      if v_d72.fKind = 5 then
       (v_hand70[v_i71]?).bind fun (v_y106 : Int) =>
       (v_cells69[(v_d72.fCell).toNat]?).bind fun (v_y107 : Int) =>
       (v_hand70[v_i71]?).bind fun (v_y108 : Int) =>
       some (.x0 (v_cells69.set (v_d72.fCell).toNat v_y106) (v_hand70.set v_i71 v_y73))
      else
       if v_d72.fKind = 6 then
        (v_hand70[v_i71]?).bind fun (v_y111 : Int) =>
        if v_y73 = v_y111 then
         (v_cells69[(v_d72.fCell).toNat]?).bind fun (v_y113 : Int) =>
         (v_hand70[v_i71]?).bind fun (v_y114 : Int) =>
         some (.x0 (v_cells69.set (v_d72.fCell).toNat (wi .u32 v_d72.fBy)) (v_hand70.set v_i71 v_y73))
        else
         (v_hand70[v_i71]?).bind fun (v_y117 : Int) =>
         some (.x0 v_cells69 (v_hand70.set v_i71 v_y73))
       else
        some (.x0 v_cells69 v_hand70)
theorem G_turn_step_h_C1_ok {Fi : Ex → PS → Prop} (hF : KC 77 Fi) (ks : List Fr) (n : Nat) (v_i71 : Nat) (v_d72 : S_turn_Do) (v_y73 : Int) (v_cells69 : (List Int)) (v_hand70 : (List Int))  (o : G_turn_step_h_C1_R) (h : G_turn_step_h_C1 n v_i71 v_d72 v_y73 v_cells69 v_hand70 = some o) (q : RunE Try.prog 77 Fi ks (G_turn_step_h_C1_ex o) (G_turn_step_h_C1_st v_i71 v_d72 v_y73 v_cells69 v_hand70 o)) : RunE Try.prog 77 Fi (.s (cR (cB (cR (cR (cR (cR (bodyOf Try.f136))))))) :: ks) .normal (G_turn_step_h_C1_hd v_i71 v_d72 v_y73 v_cells69 v_hand70) := by
  unfold G_turn_step_h_C1 at h
  by_cases h80 : v_d72.fKind = 1
  · rw [if_pos h80] at h
    obtain ⟨v_y90, h81, h⟩ := bind_some h
    cases h
    exact pkk_sound TTok mix hF 2 (hs := [.t true, .w ((v_hand70.set v_i71 v_y73).map (eI .u32)), .y ((eI .u32) v_y90)]) (ts := []) (s := [0, 1, 2, 3]) (l := []) (by kernel_rfl) (by kernel_rfl) (.cons (bt h80) (.cons (get_ob (f := (eI .u32)) h81) (.cons (Eq.refl (pcells (.v (.int .u32 v_y73)))) (.cons (set_ob (f := (eI .u32)) (l := v_hand70) (k := v_i71) (z := v_y73) (p := .v (.int .u32 v_y73)) rfl) .nil)))) q
  · rw [if_neg h80] at h
    by_cases h82 : v_d72.fKind = 2
    · rw [if_pos h82] at h
      obtain ⟨v_y93, h83, h⟩ := bind_some h
      obtain ⟨v_y94, h84, h⟩ := bind_some h
      cases h
      exact pkk_sound TTok mix hF 5 (hs := [.t false, .t true, .y ((eI .u32) v_y93), .w ((v_cells69.set (v_d72.fCell).toNat v_y93).map (eI .u32)), .y ((eI .u32) v_y94)]) (ts := []) (s := [0, 1, 2, 3]) (l := []) (by kernel_rfl) (by kernel_rfl) (.cons (bf h80) (.cons (bt h82) (.cons (get_ob (f := (eI .u32)) h83) (.cons (get_ob (f := (eI .u32)) h84) (.cons (Eq.refl (pcells (.v (.int .u32 v_y93)))) (.cons (set_ob (f := (eI .u32)) (l := v_cells69) (k := (v_d72.fCell).toNat) (z := v_y93) (p := .v (.int .u32 v_y93)) rfl) .nil)))))) q
    · rw [if_neg h82] at h
      by_cases h85 : v_d72.fKind = 3
      · rw [if_pos h85] at h
        obtain ⟨v_y97, h86, h⟩ := bind_some h
        obtain ⟨v_y98, h87, h⟩ := bind_some h
        cases h
        exact pkk_sound TTok mix hF 8 (hs := [.t false, .t false, .t true, .y ((eI .u32) v_y97), .c, .w ((v_hand70.set v_i71 (wi .u32 (v_y97 + (wi .u32 v_d72.fBy)))).map (eI .u32)), .y ((eI .u32) v_y98)]) (ts := []) (s := [0, 1, 2, 3]) (l := []) (by kernel_rfl) (by kernel_rfl) (.cons (bf h80) (.cons (bf h82) (.cons (bt h85) (.cons (get_ob (f := (eI .u32)) h86) (.cons (get_ob (f := (eI .u32)) h87) (.cons (Eq.refl (pcells (.v (.int .u32 (wi .u32 (v_y97 + (wi .u32 v_d72.fBy))))))) (.cons (set_ob (f := (eI .u32)) (l := v_hand70) (k := v_i71) (z := (wi .u32 (v_y97 + (wi .u32 v_d72.fBy)))) (p := .v (.int .u32 (wi .u32 (v_y97 + (wi .u32 v_d72.fBy))))) rfl) .nil))))))) q
      · rw [if_neg h85] at h
        by_cases h88 : v_d72.fKind = 4
        · rw [if_pos h88] at h
          obtain ⟨v_y101, h89, h⟩ := bind_some h
          obtain ⟨v_y102, h90, h⟩ := bind_some h
          obtain ⟨v_y103, h91, h⟩ := bind_some h
          cases h
          exact pkk_sound TTok mix hF 13 (hs := [.t false, .t false, .t false, .t true, .y ((eI .u32) v_y101), .c, .w ((v_cells69.set (v_d72.fCell).toNat (wi .u32 (v_y101 + (wi .u32 v_d72.fBy)))).map (eI .u32)), .y ((eI .u32) v_y102), .w ((v_hand70.set v_i71 v_y73).map (eI .u32)), .y ((eI .u32) v_y103)]) (ts := []) (s := [0, 1, 2, 3]) (l := []) (by kernel_rfl) (by kernel_rfl) (.cons (bf h80) (.cons (bf h82) (.cons (bf h85) (.cons (bt h88) (.cons (get_ob (f := (eI .u32)) h89) (.cons (get_ob (f := (eI .u32)) h90) (.cons (Eq.refl (pcells (.v (.int .u32 (wi .u32 (v_y101 + (wi .u32 v_d72.fBy))))))) (.cons (set_ob (f := (eI .u32)) (l := v_cells69) (k := (v_d72.fCell).toNat) (z := (wi .u32 (v_y101 + (wi .u32 v_d72.fBy)))) (p := .v (.int .u32 (wi .u32 (v_y101 + (wi .u32 v_d72.fBy))))) rfl) (.cons (get_ob (f := (eI .u32)) h91) (.cons (Eq.refl (pcells (.v (.int .u32 v_y73)))) (.cons (set_ob (f := (eI .u32)) (l := v_hand70) (k := v_i71) (z := v_y73) (p := .v (.int .u32 v_y73)) rfl) .nil))))))))))) q
        · rw [if_neg h88] at h
          by_cases h92 : v_d72.fKind = 5
          · rw [if_pos h92] at h
            obtain ⟨v_y106, h93, h⟩ := bind_some h
            obtain ⟨v_y107, h94, h⟩ := bind_some h
            obtain ⟨v_y108, h95, h⟩ := bind_some h
            cases h
            exact pkk_sound TTok mix hF 14 (hs := [.t false, .t false, .t false, .t false, .t true, .y ((eI .u32) v_y106), .w ((v_cells69.set (v_d72.fCell).toNat v_y106).map (eI .u32)), .y ((eI .u32) v_y107), .w ((v_hand70.set v_i71 v_y73).map (eI .u32)), .y ((eI .u32) v_y108)]) (ts := []) (s := [0, 1, 2, 3]) (l := []) (by kernel_rfl) (by kernel_rfl) (.cons (bf h80) (.cons (bf h82) (.cons (bf h85) (.cons (bf h88) (.cons (bt h92) (.cons (get_ob (f := (eI .u32)) h93) (.cons (get_ob (f := (eI .u32)) h94) (.cons (Eq.refl (pcells (.v (.int .u32 v_y106)))) (.cons (set_ob (f := (eI .u32)) (l := v_cells69) (k := (v_d72.fCell).toNat) (z := v_y106) (p := .v (.int .u32 v_y106)) rfl) (.cons (get_ob (f := (eI .u32)) h95) (.cons (Eq.refl (pcells (.v (.int .u32 v_y73)))) (.cons (set_ob (f := (eI .u32)) (l := v_hand70) (k := v_i71) (z := v_y73) (p := .v (.int .u32 v_y73)) rfl) .nil)))))))))))) q
          · rw [if_neg h92] at h
            by_cases h96 : v_d72.fKind = 6
            · rw [if_pos h96] at h
              obtain ⟨v_y111, h97, h⟩ := bind_some h
              by_cases h100 : v_y73 = v_y111
              · rw [if_pos h100] at h
                obtain ⟨v_y113, h101, h⟩ := bind_some h
                obtain ⟨v_y114, h102, h⟩ := bind_some h
                cases h
                exact pkk_sound TTok mix hF 22 (hs := [.t false, .t false, .t false, .t false, .t false, .t true, .y ((eI .u32) v_y111), .t true, .c, .w ((v_cells69.set (v_d72.fCell).toNat (wi .u32 v_d72.fBy)).map (eI .u32)), .y ((eI .u32) v_y113), .w ((v_hand70.set v_i71 v_y73).map (eI .u32)), .y ((eI .u32) v_y114)]) (ts := []) (s := [0, 1, 2, 3]) (l := []) (by kernel_rfl) (by kernel_rfl) (.cons (bf h80) (.cons (bf h82) (.cons (bf h85) (.cons (bf h88) (.cons (bf h92) (.cons (bt h96) (.cons (get_ob (f := (eI .u32)) h97) (.cons (bt h100) (.cons (get_ob (f := (eI .u32)) h101) (.cons (Eq.refl (pcells (.v (.int .u32 (wi .u32 v_d72.fBy))))) (.cons (set_ob (f := (eI .u32)) (l := v_cells69) (k := (v_d72.fCell).toNat) (z := (wi .u32 v_d72.fBy)) (p := .v (.int .u32 (wi .u32 v_d72.fBy))) rfl) (.cons (get_ob (f := (eI .u32)) h102) (.cons (Eq.refl (pcells (.v (.int .u32 v_y73)))) (.cons (set_ob (f := (eI .u32)) (l := v_hand70) (k := v_i71) (z := v_y73) (p := .v (.int .u32 v_y73)) rfl) .nil)))))))))))))) q
              · rw [if_neg h100] at h
                obtain ⟨v_y117, h103, h⟩ := bind_some h
                cases h
                exact pkk_sound TTok mix hF 22 (hs := [.t false, .t false, .t false, .t false, .t false, .t true, .y ((eI .u32) v_y111), .t false, .w ((v_hand70.set v_i71 v_y73).map (eI .u32)), .y ((eI .u32) v_y117)]) (ts := []) (s := [0, 1, 2, 3]) (l := []) (by kernel_rfl) (by kernel_rfl) (.cons (bf h80) (.cons (bf h82) (.cons (bf h85) (.cons (bf h88) (.cons (bf h92) (.cons (bt h96) (.cons (get_ob (f := (eI .u32)) h97) (.cons (bf h100) (.cons (get_ob (f := (eI .u32)) h103) (.cons (Eq.refl (pcells (.v (.int .u32 v_y73)))) (.cons (set_ob (f := (eI .u32)) (l := v_hand70) (k := v_i71) (z := v_y73) (p := .v (.int .u32 v_y73)) rfl) .nil))))))))))) q
            · rw [if_neg h96] at h
              cases h
              exact pkk_sound TTok mix hF 17 (hs := [.t false, .t false, .t false, .t false, .t false, .t false]) (ts := []) (s := [0, 1, 2, 3]) (l := []) (by kernel_rfl) (by kernel_rfl) (.cons (bf h80) (.cons (bf h82) (.cons (bf h85) (.cons (bf h88) (.cons (bf h92) (.cons (bf h96) .nil)))))) q
/- ringhall/turn.step -/
def G_turn_step_h (n : Nat) (v_cells69 : (List Int)) (v_hand70 : (List Int)) (v_i71 : Nat) (v_d72 : S_turn_Do) : Option ((List Int) × (List Int)) :=
  if 0 ≤ v_d72.fCell ∧ (v_d72.fCell).toNat < v_cells69.length then
   (v_cells69[(v_d72.fCell).toNat]?).bind fun (v_y73 : Int) =>
   (G_turn_step_h_C1 n v_i71 v_d72 v_y73 v_cells69 v_hand70).bind fun v_o122 => match v_o122 with
   | .x0 v_z123 v_z124 =>
     some (v_z123, v_z124)
  else none
theorem G_turn_step_h_ok (n : Nat) (v_cells69 : (List Int)) (v_hand70 : (List Int)) (v_i71 : Nat) (v_d72 : S_turn_Do) (r : (List Int) × (List Int)) (h : G_turn_step_h n v_cells69 v_hand70 v_i71 v_d72 = some r) : RetH Try.prog 136 [.srf 0, .ept 1 1 v_i71 0, .d (eS_turn_Do v_d72)] [.row 37 1 (v_cells69.map (eI .u32)), .row 37 1 (v_hand70.map (eI .u32))] (.tup []) [.row 37 1 (r.1.map (eI .u32)), .row 37 1 (r.2.map (eI .u32))] := by
  refine retH_run (n := 77) (fn := Try.f136) (c := bodyOf Try.f136) (by kernel_rfl) (by kernel_rfl) (by kernel_rfl) (by kernel_rfl) ?_
  have hF : KC 77 (FinH Try.prog Try.f136 [.row 37 1 (v_cells69.map (eI .u32)), .row 37 1 (v_hand70.map (eI .u32))] (.tup []) [.row 37 1 (r.1.map (eI .u32)), .row 37 1 (r.2.map (eI .u32))]) := FinH.kc' (by kernel_rfl)
  unfold G_turn_step_h at h
  by_cases h54 : 0 ≤ v_d72.fCell ∧ (v_d72.fCell).toNat < v_cells69.length
  · rw [if_pos h54] at h
    obtain ⟨v_y73, h55, h⟩ := bind_some h
    obtain ⟨v_o122, h104, h⟩ := bind_some h
    refine pkk_sound TTok mix hF 11 (hs := [.c, .y ((eI .u32) v_y73), .c]) (ts := []) (s := [2, 3, 0, 1, 4]) (l := [1, 5, 6, 7, 16, 17]) (by kernel_rfl) (by kernel_rfl) (.cons (idx_ob (f := (eI .u32)) h54) (.cons (get_ob (f := (eI .u32)) h55) .nil)) (G_turn_step_h_C1_ok hF (.b 0 :: []) n v_i71 v_d72 v_y73 v_cells69 v_hand70 _ h104 ?_)
    cases v_o122 with
    | x0 v_z123 v_z124 =>
      try dsimp only at h
      obtain rfl := Option.some.inj h
      exact pendH_sound TTok mix 1 (hs := []) [2, 3] (by kernel_rfl) (by kernel_rfl) (by kernel_rfl) .nil
  · rw [if_neg h54] at h; cases h
inductive G_turn_Play_C1_R where
  | x0 (v_x18 : Bool)
def G_turn_Play_C1_ex : G_turn_Play_C1_R → Ex
  | .x0 _ => .normal
def G_turn_Play_C1_st (v_cells4 : (List Int)) (v_progs5 : (List (List S_turn_Do))) (v_order6 : (List Int)) (v_x7 : Int) (v_y8 : (List S_turn_Do)) (v_x9 : Int) (v_y17 : S_turn_Do) : G_turn_Play_C1_R → PS
  | .x0 v_x18 => ⟨[.d (.sl (v_cells4.map (eI .u32))), .d (.sl (v_progs5.map (eL eS_turn_Do))), .d (.sl (v_order6.map (eI .i64))), dd, dd, dd, dd, dd, dd, dd, dd, dd, dd, dd, dd, dd, dd, dd, dd, dd, dd, dd, dd, dd, dd, dd, .d (.sl (v_progs5.map (eL eS_turn_Do))), .d (.v (.int .i64 (v_progs5.length : Int))), .d (.v (.int .i64 v_x7)), dd, dd, dd, .d (.sl (v_y8.map eS_turn_Do)), .d (.v (.int .i64 (v_y8.length : Int))), .d (.v (.int .i64 v_x9)), dd, dd, dd, dd, dd, dd, dd, dd, dd, dd, dd, dd, dd, dd, dd, dd, dd, dd, dd, dd, dd, dd, .d (.v (.bool v_x18)), dd, dd, dd, dd, dd, dd, dd, dd, dd, dd, dd, dd, dd, dd, dd, dd, dd, dd, dd, dd, dd, dd, dd, dd, dd, dd, dd, dd, dd, dd, dd, dd, dd, dd, dd, dd, dd, dd, dd, dd, dd, dd, dd, dd, dd, dd, dd, dd, dd, dd, dd, dd, dd, dd, dd, dd, dd, dd, dd, dd], []⟩
def G_turn_Play_C1_hd (v_cells4 : (List Int)) (v_progs5 : (List (List S_turn_Do))) (v_order6 : (List Int)) (v_x7 : Int) (v_y8 : (List S_turn_Do)) (v_x9 : Int) (v_y17 : S_turn_Do)  : PS := ⟨[.d (.sl (v_cells4.map (eI .u32))), .d (.sl (v_progs5.map (eL eS_turn_Do))), .d (.sl (v_order6.map (eI .i64))), dd, dd, dd, dd, dd, dd, dd, dd, dd, .ref 0 0, dd, dd, dd, dd, dd, dd, dd, dd, dd, dd, dd, dd, dd, .d (.sl (v_progs5.map (eL eS_turn_Do))), .d (.v (.int .i64 (v_progs5.length : Int))), .d (.v (.int .i64 v_x7)), dd, dd, dd, .d (.sl (v_y8.map eS_turn_Do)), .d (.v (.int .i64 (v_y8.length : Int))), .d (.v (.int .i64 v_x9)), dd, dd, dd, dd, dd, dd, dd, dd, dd, dd, dd, dd, dd, dd, dd, dd, dd, dd, dd, dd, dd, dd, dd, dd, dd, dd, dd, dd, dd, dd, dd, dd, dd, dd, dd, dd, dd, dd, dd, dd, dd, dd, dd, dd, dd, dd, dd, dd, dd, dd, dd, dd, dd, dd, dd, dd, dd, dd, dd, dd, dd, dd, dd, dd, dd, dd, dd, dd, dd, dd, dd, dd, dd, dd, dd, dd, dd, dd, dd, dd, dd, dd, dd], [.box [.d (.v (.int .i64 v_y17.fKind)), .d (.v (.int .i64 v_y17.fCell)), .d (.v (.int .i64 v_y17.fBy))]]⟩
def G_turn_Play_C1 (n : Nat) (v_cells4 : (List Int)) (v_progs5 : (List (List S_turn_Do))) (v_order6 : (List Int)) (v_x7 : Int) (v_y8 : (List S_turn_Do)) (v_x9 : Int) (v_y17 : S_turn_Do) : Option G_turn_Play_C1_R :=
  if v_y17.fKind < 1 then
   some (.x0 true)
  else
   if v_y17.fKind > 6 then
    some (.x0 true)
   else
    if v_y17.fCell < 0 then
     some (.x0 true)
    else
     some (.x0 (decide (v_y17.fCell ≥ (v_cells4.length : Int))))
theorem G_turn_Play_C1_ok {Fi : Ex → PS → Prop} (hF : KC 118 Fi) (ks : List Fr) (n : Nat) (v_cells4 : (List Int)) (v_progs5 : (List (List S_turn_Do))) (v_order6 : (List Int)) (v_x7 : Int) (v_y8 : (List S_turn_Do)) (v_x9 : Int) (v_y17 : S_turn_Do)  (o : G_turn_Play_C1_R) (h : G_turn_Play_C1 n v_cells4 v_progs5 v_order6 v_x7 v_y8 v_x9 v_y17 = some o) (q : RunE Try.prog 118 Fi ks (G_turn_Play_C1_ex o) (G_turn_Play_C1_st v_cells4 v_progs5 v_order6 v_x7 v_y8 v_x9 v_y17 o)) : RunE Try.prog 118 Fi (.s (cL (cR (cB (cL (cR (cR (cP (cB (cR (cR (cB (cL (cR (cR (cP (cB (cR (cL (cR (cR (bodyOf Try.f16))))))))))))))))))))) :: ks) .normal (G_turn_Play_C1_hd v_cells4 v_progs5 v_order6 v_x7 v_y8 v_x9 v_y17) := by
  unfold G_turn_Play_C1 at h
  by_cases h21 : v_y17.fKind < 1
  · rw [if_pos h21] at h
    cases h
    exact pkk_sound TTok mix hF 1 (hs := [.c, .t true, .c, .c, .c, .c, .c, .c, .c, .c, .c, .c]) (ts := []) (s := []) (l := [0, 1, 2, 26, 27, 28, 32, 33, 34, 57]) (by kernel_rfl) (by kernel_rfl) (.cons (dt h21) .nil) q
  · rw [if_neg h21] at h
    by_cases h22 : v_y17.fKind > 6
    · rw [if_pos h22] at h
      cases h
      exact pkk_sound TTok mix hF 1 (hs := [.c, .t false, .c, .c, .c, .t true, .c, .c, .c, .c, .c, .c, .c]) (ts := []) (s := []) (l := [0, 1, 2, 26, 27, 28, 32, 33, 34, 57]) (by kernel_rfl) (by kernel_rfl) (.cons (df h21) (.cons (dt h22) .nil)) q
    · rw [if_neg h22] at h
      by_cases h23 : v_y17.fCell < 0
      · rw [if_pos h23] at h
        cases h
        exact pkk_sound TTok mix hF 1 (hs := [.c, .t false, .c, .c, .c, .t false, .c, .c, .c, .t true, .c, .c, .c, .c]) (ts := []) (s := []) (l := [0, 1, 2, 26, 27, 28, 32, 33, 34, 57]) (by kernel_rfl) (by kernel_rfl) (.cons (df h21) (.cons (df h22) (.cons (dt h23) .nil))) q
      · rw [if_neg h23] at h
        cases h
        exact pkk_sound TTok mix hF 1 (hs := [.c, .t false, .c, .c, .c, .t false, .c, .c, .c, .t false, .c, .c, .c, .c, .u (.d (.v (.int .i64 (v_cells4.length : Int)))), .c]) (ts := []) (s := []) (l := [0, 1, 2, 26, 27, 28, 32, 33, 34, 57]) (by kernel_rfl) (by kernel_rfl) (.cons (df h21) (.cons (df h22) (.cons (df h23) (.cons (len_ob (f := (eI .u32)) (l := v_cells4)) .nil)))) q
inductive G_turn_Play_L2_R where
  | x0 (v_x24 : Int)
  | x1 
def G_turn_Play_L2_ex : G_turn_Play_L2_R → Ex
  | .x0 _ => .ret
  | .x1  => .exit 2
def G_turn_Play_L2_st (v_cells4 : (List Int)) (v_progs5 : (List (List S_turn_Do))) (v_order6 : (List Int)) (v_x7 : Int) (v_y8 : (List S_turn_Do)) : G_turn_Play_L2_R → PS
  | .x0 v_x24 => ⟨[dd, dd, dd, dd, dd, dd, .d (vnil), .d (vnil), .d (.v (.int .i64 v_x24)), dd, dd, dd, dd, dd, dd, dd, dd, dd, dd, dd, dd, dd, dd, dd, dd, dd, dd, dd, dd, dd, dd, dd, dd, dd, dd, dd, dd, dd, dd, dd, dd, dd, dd, dd, dd, dd, dd, dd, dd, dd, dd, dd, dd, dd, dd, dd, dd, dd, dd, dd, dd, dd, dd, dd, dd, dd, dd, dd, dd, dd, dd, dd, dd, dd, dd, dd, dd, dd, dd, dd, dd, dd, dd, dd, dd, dd, dd, dd, dd, dd, dd, dd, dd, dd, dd, dd, dd, dd, dd, dd, dd, dd, dd, dd, dd, dd, dd, dd, dd, dd, dd, dd, dd, dd, dd, dd, dd, dd], []⟩
  | .x1  => ⟨[.d (.sl (v_cells4.map (eI .u32))), .d (.sl (v_progs5.map (eL eS_turn_Do))), .d (.sl (v_order6.map (eI .i64))), dd, dd, dd, dd, dd, dd, dd, dd, dd, dd, dd, dd, dd, dd, dd, dd, dd, dd, dd, dd, dd, dd, dd, .d (.sl (v_progs5.map (eL eS_turn_Do))), .d (.v (.int .i64 (v_progs5.length : Int))), .d (.v (.int .i64 v_x7)), dd, dd, dd, dd, dd, dd, dd, dd, dd, dd, dd, dd, dd, dd, dd, dd, dd, dd, dd, dd, dd, dd, dd, dd, dd, dd, dd, dd, dd, dd, dd, dd, dd, dd, dd, dd, dd, dd, dd, dd, dd, dd, dd, dd, dd, dd, dd, dd, dd, dd, dd, dd, dd, dd, dd, dd, dd, dd, dd, dd, dd, dd, dd, dd, dd, dd, dd, dd, dd, dd, dd, dd, dd, dd, dd, dd, dd, dd, dd, dd, dd, dd, dd, dd, dd, dd, dd, dd, dd], []⟩
def G_turn_Play_L2_hd (v_cells4 : (List Int)) (v_progs5 : (List (List S_turn_Do))) (v_order6 : (List Int)) (v_x7 : Int) (v_y8 : (List S_turn_Do)) (v_x9 : Int) : PS := ⟨[.d (.sl (v_cells4.map (eI .u32))), .d (.sl (v_progs5.map (eL eS_turn_Do))), .d (.sl (v_order6.map (eI .i64))), dd, dd, dd, dd, dd, dd, dd, dd, dd, dd, dd, dd, dd, dd, dd, dd, dd, dd, dd, dd, dd, dd, dd, .d (.sl (v_progs5.map (eL eS_turn_Do))), .d (.v (.int .i64 (v_progs5.length : Int))), .d (.v (.int .i64 v_x7)), dd, dd, dd, .d (.sl (v_y8.map eS_turn_Do)), .d (.v (.int .i64 (v_y8.length : Int))), .d (.v (.int .i64 v_x9)), dd, dd, dd, dd, dd, dd, dd, dd, dd, dd, dd, dd, dd, dd, dd, dd, dd, dd, dd, dd, dd, dd, dd, dd, dd, dd, dd, dd, dd, dd, dd, dd, dd, dd, dd, dd, dd, dd, dd, dd, dd, dd, dd, dd, dd, dd, dd, dd, dd, dd, dd, dd, dd, dd, dd, dd, dd, dd, dd, dd, dd, dd, dd, dd, dd, dd, dd, dd, dd, dd, dd, dd, dd, dd, dd, dd, dd, dd, dd, dd, dd, dd, dd], []⟩
def G_turn_Play_L2 (n : Nat) (v_cells4 : (List Int)) (v_progs5 : (List (List S_turn_Do))) (v_order6 : (List Int)) (v_x7 : Int) (v_y8 : (List S_turn_Do)) : Nat → Int → Option G_turn_Play_L2_R
  | 0, _ => none
  | k + 1, v_x9 =>
    if v_x9 < (v_y8.length : Int) then
     (getI v_y8 v_x9).bind fun (v_y17 : S_turn_Do) =>
     (G_turn_Play_C1 n v_cells4 v_progs5 v_order6 v_x7 v_y8 v_x9 v_y17).bind fun v_o22 => match v_o22 with
     | .x0 v_z23 =>
       if v_z23 = true then
        some (.x0 1)
       else
        G_turn_Play_L2 n v_cells4 v_progs5 v_order6 v_x7 v_y8 k (wi .i64 (v_x9 + 1))
    else
     some (.x1 )
theorem G_turn_Play_L2_ok {Fi : Ex → PS → Prop} (hF : KC 118 Fi) (ks : List Fr) (n : Nat) (v_cells4 : (List Int)) (v_progs5 : (List (List S_turn_Do))) (v_order6 : (List Int)) (v_x7 : Int) (v_y8 : (List S_turn_Do))  : ∀ (k : Nat) (v_x9 : Int) (o : G_turn_Play_L2_R), G_turn_Play_L2 n v_cells4 v_progs5 v_order6 v_x7 v_y8 k v_x9 = some o → RunE Try.prog 118 Fi ks (G_turn_Play_L2_ex o) (G_turn_Play_L2_st v_cells4 v_progs5 v_order6 v_x7 v_y8 o) → RunE Try.prog 118 Fi (.l k (cP (cB (cR (cR (cB (cL (cR (cR (cP (cB (cR (cL (cR (cR (bodyOf Try.f16))))))))))))))) :: ks) .normal (G_turn_Play_L2_hd v_cells4 v_progs5 v_order6 v_x7 v_y8 v_x9)
  | 0, v_x9, o, h, q => by rw [G_turn_Play_L2] at h; cases h
  | k + 1, v_x9, o, h, q => by
    rw [G_turn_Play_L2] at h
    by_cases h6 : v_x9 < (v_y8.length : Int)
    · rw [if_pos h6] at h
      obtain ⟨v_y17, h17, h⟩ := bind_some h
      obtain ⟨v_o22, h24, h⟩ := bind_some h
      refine pkk_sound TTok mix hF 11 (hs := [.t true, .y (eS_turn_Do v_y17), .c]) (ts := []) (s := [9]) (l := [0, 1, 2, 12, 26, 27, 28, 32, 33, 34]) (by kernel_rfl) (by kernel_rfl) (.cons (dt h6) (.cons (getI_ob (f := eS_turn_Do) h17) (.cons (show 0 + 3 ≤ 3 by decide) .nil))) (G_turn_Play_C1_ok hF (.s (cR (cR (cB (cL (cR (cR (cP (cB (cR (cR (cB (cL (cR (cR (cP (cB (cR (cL (cR (cR (bodyOf Try.f16))))))))))))))))))))) :: .b 3 :: .s (cR (cR (cR (cP (cB (cR (cR (cB (cL (cR (cR (cP (cB (cR (cL (cR (cR (bodyOf Try.f16)))))))))))))))))) :: .l k (cP (cB (cR (cR (cB (cL (cR (cR (cP (cB (cR (cL (cR (cR (bodyOf Try.f16))))))))))))))) :: ks) n v_cells4 v_progs5 v_order6 v_x7 v_y8 v_x9 v_y17 _ h24 ?_)
      cases v_o22 with
      | x0 v_z23 =>
        try dsimp only at h
        by_cases h26 : v_z23 = true
        · rw [if_pos h26] at h
          cases h
          exact pkk_sound TTok mix hF 7 (hs := [.t true]) (ts := []) (s := []) (l := [6, 7, 8]) (by kernel_rfl) (by kernel_rfl) (.cons h26 .nil) q
        · rw [if_neg h26] at h
          exact pkk_sound TTok mix hF 4 (hs := [.t false]) (ts := []) (s := []) (l := [0, 1, 2, 26, 27, 28, 32, 33, 34]) (by kernel_rfl) (by kernel_rfl) (.cons (vf h26) .nil) (G_turn_Play_L2_ok hF ks n v_cells4 v_progs5 v_order6 v_x7 v_y8 k (wi .i64 (v_x9 + 1)) _ h q)
    · rw [if_neg h6] at h
      cases h
      exact pkk_sound TTok mix hF 8 (hs := [.t false]) (ts := []) (s := []) (l := [0, 1, 2, 26, 27, 28]) (by kernel_rfl) (by kernel_rfl) (.cons (df h6) .nil) q
inductive G_turn_Play_L3_R where
  | x0 (v_x27 : Int)
  | x1 
def G_turn_Play_L3_ex : G_turn_Play_L3_R → Ex
  | .x0 _ => .ret
  | .x1  => .exit 0
def G_turn_Play_L3_st (v_cells4 : (List Int)) (v_progs5 : (List (List S_turn_Do))) (v_order6 : (List Int)) : G_turn_Play_L3_R → PS
  | .x0 v_x27 => ⟨[dd, dd, dd, dd, dd, dd, .d (vnil), .d (vnil), .d (.v (.int .i64 v_x27)), dd, dd, dd, dd, dd, dd, dd, dd, dd, dd, dd, dd, dd, dd, dd, dd, dd, dd, dd, dd, dd, dd, dd, dd, dd, dd, dd, dd, dd, dd, dd, dd, dd, dd, dd, dd, dd, dd, dd, dd, dd, dd, dd, dd, dd, dd, dd, dd, dd, dd, dd, dd, dd, dd, dd, dd, dd, dd, dd, dd, dd, dd, dd, dd, dd, dd, dd, dd, dd, dd, dd, dd, dd, dd, dd, dd, dd, dd, dd, dd, dd, dd, dd, dd, dd, dd, dd, dd, dd, dd, dd, dd, dd, dd, dd, dd, dd, dd, dd, dd, dd, dd, dd, dd, dd, dd, dd, dd, dd], []⟩
  | .x1  => ⟨[.d (.sl (v_cells4.map (eI .u32))), .d (.sl (v_progs5.map (eL eS_turn_Do))), .d (.sl (v_order6.map (eI .i64))), dd, dd, dd, dd, dd, dd, dd, dd, dd, dd, dd, dd, dd, dd, dd, dd, dd, dd, dd, dd, dd, dd, dd, dd, dd, dd, dd, dd, dd, dd, dd, dd, dd, dd, dd, dd, dd, dd, dd, dd, dd, dd, dd, dd, dd, dd, dd, dd, dd, dd, dd, dd, dd, dd, dd, dd, dd, dd, dd, dd, dd, dd, dd, dd, dd, dd, dd, dd, dd, dd, dd, dd, dd, dd, dd, dd, dd, dd, dd, dd, dd, dd, dd, dd, dd, dd, dd, dd, dd, dd, dd, dd, dd, dd, dd, dd, dd, dd, dd, dd, dd, dd, dd, dd, dd, dd, dd, dd, dd, dd, dd, dd, dd, dd, dd], []⟩
def G_turn_Play_L3_hd (v_cells4 : (List Int)) (v_progs5 : (List (List S_turn_Do))) (v_order6 : (List Int)) (v_x7 : Int) : PS := ⟨[.d (.sl (v_cells4.map (eI .u32))), .d (.sl (v_progs5.map (eL eS_turn_Do))), .d (.sl (v_order6.map (eI .i64))), dd, dd, dd, dd, dd, dd, dd, dd, dd, dd, dd, dd, dd, dd, dd, dd, dd, dd, dd, dd, dd, dd, dd, .d (.sl (v_progs5.map (eL eS_turn_Do))), .d (.v (.int .i64 (v_progs5.length : Int))), .d (.v (.int .i64 v_x7)), dd, dd, dd, dd, dd, dd, dd, dd, dd, dd, dd, dd, dd, dd, dd, dd, dd, dd, dd, dd, dd, dd, dd, dd, dd, dd, dd, dd, dd, dd, dd, dd, dd, dd, dd, dd, dd, dd, dd, dd, dd, dd, dd, dd, dd, dd, dd, dd, dd, dd, dd, dd, dd, dd, dd, dd, dd, dd, dd, dd, dd, dd, dd, dd, dd, dd, dd, dd, dd, dd, dd, dd, dd, dd, dd, dd, dd, dd, dd, dd, dd, dd, dd, dd, dd, dd, dd, dd, dd], []⟩
def G_turn_Play_L3 (n : Nat) (v_cells4 : (List Int)) (v_progs5 : (List (List S_turn_Do))) (v_order6 : (List Int)) : Nat → Int → Option G_turn_Play_L3_R
  | 0, _ => none
  | k + 1, v_x7 =>
    if v_x7 < (v_progs5.length : Int) then
     (getI v_progs5 v_x7).bind fun (v_y8 : (List S_turn_Do)) =>
     (G_turn_Play_L2 n v_cells4 v_progs5 v_order6 v_x7 v_y8 n 0).bind fun v_o25 => match v_o25 with
     | .x0 v_z26 =>
       some (.x0 v_z26)
     | .x1  =>
       G_turn_Play_L3 n v_cells4 v_progs5 v_order6 k (wi .i64 (v_x7 + 1))
    else
     some (.x1 )
theorem G_turn_Play_L3_ok {Fi : Ex → PS → Prop} (hF : KC 118 Fi) (ks : List Fr) (n : Nat) (v_cells4 : (List Int)) (v_progs5 : (List (List S_turn_Do))) (v_order6 : (List Int))  : ∀ (k : Nat) (v_x7 : Int) (o : G_turn_Play_L3_R), G_turn_Play_L3 n v_cells4 v_progs5 v_order6 k v_x7 = some o → RunE Try.prog 118 Fi ks (G_turn_Play_L3_ex o) (G_turn_Play_L3_st v_cells4 v_progs5 v_order6 o) → RunE Try.prog 118 Fi (.l k (cP (cB (cR (cL (cR (cR (bodyOf Try.f16))))))) :: ks) .normal (G_turn_Play_L3_hd v_cells4 v_progs5 v_order6 v_x7)
  | 0, v_x7, o, h, q => by rw [G_turn_Play_L3] at h; cases h
  | k + 1, v_x7, o, h, q => by
    rw [G_turn_Play_L3] at h
    by_cases h4 : v_x7 < (v_progs5.length : Int)
    · rw [if_pos h4] at h
      obtain ⟨v_y8, h5, h⟩ := bind_some h
      obtain ⟨v_o25, h27, h⟩ := bind_some h
      refine pkk_sound TTok mix hF 14 (hs := [.t true, .y ((eL eS_turn_Do) v_y8), .c, .u (.d (.v (.int .i64 (v_y8.length : Int)))), .n n]) (ts := []) (s := []) (l := [0, 1, 2, 26, 27, 28, 32, 33, 34]) (by kernel_rfl) (by kernel_rfl) (.cons (dt h4) (.cons (getI_ob (f := (eL eS_turn_Do)) h5) (.cons (len_ob (f := eS_turn_Do) (l := v_y8)) .nil))) (G_turn_Play_L2_ok hF (.b 2 :: .b 1 :: .s (cR (cR (cR (cP (cB (cR (cL (cR (cR (bodyOf Try.f16)))))))))) :: .l k (cP (cB (cR (cL (cR (cR (bodyOf Try.f16))))))) :: ks) n v_cells4 v_progs5 v_order6 v_x7 v_y8 n 0 _ h27 ?_)
      cases v_o25 with
      | x0 v_z26 =>
        try dsimp only at h
        cases h
        exact pkk_sound TTok mix hF 4 (hs := []) (ts := []) (s := []) (l := [6, 7, 8]) (by kernel_rfl) (by kernel_rfl) .nil q
      | x1  =>
        try dsimp only at h
        exact pkk_sound TTok mix hF 3 (hs := []) (ts := []) (s := []) (l := [0, 1, 2, 26, 27, 28]) (by kernel_rfl) (by kernel_rfl) .nil (G_turn_Play_L3_ok hF ks n v_cells4 v_progs5 v_order6 k (wi .i64 (v_x7 + 1)) _ h q)
    · rw [if_neg h4] at h
      cases h
      exact pkk_sound TTok mix hF 8 (hs := [.t false]) (ts := []) (s := []) (l := [0, 1, 2]) (by kernel_rfl) (by kernel_rfl) (.cons (df h4) .nil) q
inductive G_turn_Play_C4_R where
  | x0 (v_x131 : Bool) (v_w132 : (List Int)) (v_w133 : (List Int)) (v_w134 : (List Int))
def G_turn_Play_C4_ex : G_turn_Play_C4_R → Ex
  | .x0 _ _ _ _ => .normal
def G_turn_Play_C4_st (v_progs5 : (List (List S_turn_Do))) (v_y128 : Int) (v_order6 : (List Int)) (v_x40 : Int) (v_w41 : (List Int)) (v_w42 : (List Int)) (v_w43 : (List Int)) : G_turn_Play_C4_R → PS
  | .x0 v_x131 v_w132 v_w133 v_w134 => ⟨[dd, .d (.sl (v_progs5.map (eL eS_turn_Do))), dd, dd, dd, dd, dd, dd, dd, dd, dd, dd, dd, .srf 0, .srf 1, .srf 2, dd, .d (.v (.int .i64 v_y128)), dd, dd, dd, dd, dd, dd, dd, dd, dd, dd, dd, dd, dd, dd, dd, dd, dd, dd, dd, dd, dd, dd, dd, dd, dd, dd, dd, dd, dd, dd, dd, dd, dd, dd, dd, dd, dd, dd, dd, dd, dd, dd, dd, dd, dd, dd, dd, dd, dd, dd, .d (.sl (v_order6.map (eI .i64))), .d (.v (.int .i64 (v_order6.length : Int))), .d (.v (.int .i64 v_x40)), dd, dd, dd, dd, dd, dd, dd, dd, dd, dd, dd, dd, dd, dd, dd, dd, dd, dd, dd, dd, dd, dd, .d (.v (.bool v_x131)), dd, dd, dd, dd, dd, dd, dd, dd, dd, dd, dd, dd, dd, dd, dd, dd, dd, dd, dd, dd, dd, dd, dd, dd], [.row 37 1 (v_w132.map (eI .u32)), .row 37 1 (v_w133.map (eI .u32)), .row 3 1 (v_w134.map (eI .i64))]⟩
def G_turn_Play_C4_hd (v_progs5 : (List (List S_turn_Do))) (v_y128 : Int) (v_order6 : (List Int)) (v_x40 : Int) (v_w41 : (List Int)) (v_w42 : (List Int)) (v_w43 : (List Int))  : PS := ⟨[dd, .d (.sl (v_progs5.map (eL eS_turn_Do))), dd, dd, dd, dd, dd, dd, dd, dd, dd, dd, dd, .srf 0, .srf 1, .srf 2, dd, .d (.v (.int .i64 v_y128)), dd, dd, dd, dd, dd, dd, dd, dd, dd, dd, dd, dd, dd, dd, dd, dd, dd, dd, dd, dd, dd, dd, dd, dd, dd, dd, dd, dd, dd, dd, dd, dd, dd, dd, dd, dd, dd, dd, dd, dd, dd, dd, dd, dd, dd, dd, dd, dd, dd, dd, .d (.sl (v_order6.map (eI .i64))), .d (.v (.int .i64 (v_order6.length : Int))), .d (.v (.int .i64 v_x40)), dd, dd, dd, dd, dd, dd, dd, dd, dd, dd, dd, dd, dd, dd, dd, dd, dd, dd, dd, dd, dd, dd, dd, dd, dd, dd, dd, dd, dd, dd, dd, dd, dd, dd, dd, dd, dd, dd, dd, dd, dd, dd, dd, dd, dd, dd, dd], [.row 37 1 (v_w41.map (eI .u32)), .row 37 1 (v_w42.map (eI .u32)), .row 3 1 (v_w43.map (eI .i64))]⟩
def G_turn_Play_C4 (n : Nat) (v_progs5 : (List (List S_turn_Do))) (v_y128 : Int) (v_order6 : (List Int)) (v_x40 : Int) (v_w41 : (List Int)) (v_w42 : (List Int)) (v_w43 : (List Int)) : Option G_turn_Play_C4_R :=
  if v_y128 < 0 then
   some (.x0 true v_w41 v_w42 v_w43)
  else
   if v_y128 ≥ (v_progs5.length : Int) then
    some (.x0 true v_w41 v_w42 v_w43)
   else
    if 0 ≤ v_y128 ∧ (v_y128).toNat < v_w43.length then
     (v_w43[(v_y128).toNat]?).bind fun (v_y139 : Int) =>
     (getI v_progs5 v_y128).bind fun (v_y140 : (List S_turn_Do)) =>
     some (.x0 (v_y139 == (v_y140.length : Int)) v_w41 v_w42 v_w43)
    else none
theorem G_turn_Play_C4_ok {Fi : Ex → PS → Prop} (hF : KC 118 Fi) (ks : List Fr) (n : Nat) (v_progs5 : (List (List S_turn_Do))) (v_y128 : Int) (v_order6 : (List Int)) (v_x40 : Int) (v_w41 : (List Int)) (v_w42 : (List Int)) (v_w43 : (List Int))  (o : G_turn_Play_C4_R) (h : G_turn_Play_C4 n v_progs5 v_y128 v_order6 v_x40 v_w41 v_w42 v_w43 = some o) (q : RunE Try.prog 118 Fi ks (G_turn_Play_C4_ex o) (G_turn_Play_C4_st v_progs5 v_y128 v_order6 v_x40 v_w41 v_w42 v_w43 o)) : RunE Try.prog 118 Fi (.s (cL (cL (cR (cB (cL (cR (cR (cP (cB (cR (cL (cR (cR (cR (cR (cR (cR (bodyOf Try.f16)))))))))))))))))) :: ks) .normal (G_turn_Play_C4_hd v_progs5 v_y128 v_order6 v_x40 v_w41 v_w42 v_w43) := by
  unfold G_turn_Play_C4 at h
  by_cases h116 : v_y128 < 0
  · rw [if_pos h116] at h
    cases h
    exact pkk_sound TTok mix hF 1 (hs := [.t true, .c, .c, .c, .c, .c, .c, .c, .c, .c, .c, .c, .c, .c]) (ts := []) (s := [0, 1, 2]) (l := [1, 13, 14, 15, 17, 68, 69, 70, 93]) (by kernel_rfl) (by kernel_rfl) (.cons (dt h116) .nil) q
  · rw [if_neg h116] at h
    by_cases h117 : v_y128 ≥ (v_progs5.length : Int)
    · rw [if_pos h117] at h
      cases h
      exact pkk_sound TTok mix hF 1 (hs := [.t false, .c, .c, .u (.d (.v (.int .i64 (v_progs5.length : Int)))), .c, .t true, .c, .c, .c, .c, .c, .c, .c, .c, .c]) (ts := []) (s := [0, 1, 2]) (l := [1, 13, 14, 15, 17, 68, 69, 70, 93]) (by kernel_rfl) (by kernel_rfl) (.cons (df h116) (.cons (len_ob (f := (eL eS_turn_Do)) (l := v_progs5)) (.cons (dt h117) .nil))) q
    · rw [if_neg h117] at h
      by_cases h118 : 0 ≤ v_y128 ∧ (v_y128).toNat < v_w43.length
      · rw [if_pos h118] at h
        obtain ⟨v_y139, h119, h⟩ := bind_some h
        obtain ⟨v_y140, h120, h⟩ := bind_some h
        cases h
        exact pkk_sound TTok mix hF 1 (hs := [.t false, .c, .c, .u (.d (.v (.int .i64 (v_progs5.length : Int)))), .c, .t false, .c, .c, .c, .y ((eI .i64) v_y139), .c, .c, .c, .y ((eL eS_turn_Do) v_y140), .c, .c, .c, .u (.d (.v (.int .i64 (v_y140.length : Int)))), .c]) (ts := []) (s := [0, 1, 2]) (l := [1, 13, 14, 15, 17, 68, 69, 70, 93]) (by kernel_rfl) (by kernel_rfl) (.cons (df h116) (.cons (len_ob (f := (eL eS_turn_Do)) (l := v_progs5)) (.cons (df h117) (.cons (idx_ob (f := (eI .i64)) h118) (.cons (get_ob (f := (eI .i64)) h119) (.cons (getI_ob (f := (eL eS_turn_Do)) h120) (.cons (len_ob (f := eS_turn_Do) (l := v_y140)) .nil))))))) q
      · rw [if_neg h118] at h; cases h
inductive G_turn_Play_L5_R where
  | x0 (v_x150 : Int)
  | x1 (v_w157 : (List Int)) (v_w158 : (List Int))
def G_turn_Play_L5_ex : G_turn_Play_L5_R → Ex
  | .x0 _ => .ret
  | .x1 _ _ => .exit 4
def G_turn_Play_L5_st (v_progs5 : (List (List S_turn_Do))) (v_order6 : (List Int)) : G_turn_Play_L5_R → PS
  | .x0 v_x150 => ⟨[dd, dd, dd, dd, dd, dd, .d (vnil), .d (vnil), .d (.v (.int .i64 v_x150)), dd, dd, dd, dd, dd, dd, dd, dd, dd, dd, dd, dd, dd, dd, dd, dd, dd, dd, dd, dd, dd, dd, dd, dd, dd, dd, dd, dd, dd, dd, dd, dd, dd, dd, dd, dd, dd, dd, dd, dd, dd, dd, dd, dd, dd, dd, dd, dd, dd, dd, dd, dd, dd, dd, dd, dd, dd, dd, dd, dd, dd, dd, dd, dd, dd, dd, dd, dd, dd, dd, dd, dd, dd, dd, dd, dd, dd, dd, dd, dd, dd, dd, dd, dd, dd, dd, dd, dd, dd, dd, dd, dd, dd, dd, dd, dd, dd, dd, dd, dd, dd, dd, dd, dd, dd, dd, dd, dd, dd], []⟩
  | .x1 v_w157 v_w158 => ⟨[dd, dd, dd, dd, dd, dd, dd, dd, dd, dd, dd, dd, dd, .srf 0, .srf 1, dd, dd, dd, dd, dd, dd, dd, dd, dd, dd, dd, dd, dd, dd, dd, dd, dd, dd, dd, dd, dd, dd, dd, dd, dd, dd, dd, dd, dd, dd, dd, dd, dd, dd, dd, dd, dd, dd, dd, dd, dd, dd, dd, dd, dd, dd, dd, dd, dd, dd, dd, dd, dd, dd, dd, dd, dd, dd, dd, dd, dd, dd, dd, dd, dd, dd, dd, dd, dd, dd, dd, dd, dd, dd, dd, dd, dd, dd, dd, dd, dd, dd, dd, dd, dd, dd, dd, dd, dd, dd, dd, dd, dd, dd, dd, dd, dd, dd, dd, dd, dd, dd, dd], [.row 37 1 (v_w157.map (eI .u32)), .row 37 1 (v_w158.map (eI .u32))]⟩
def G_turn_Play_L5_hd (v_progs5 : (List (List S_turn_Do))) (v_order6 : (List Int)) (v_x40 : Int) (v_w41 : (List Int)) (v_w42 : (List Int)) (v_w43 : (List Int)) : PS := ⟨[dd, .d (.sl (v_progs5.map (eL eS_turn_Do))), dd, dd, dd, dd, dd, dd, dd, dd, dd, dd, dd, .srf 0, .srf 1, .srf 2, dd, dd, dd, dd, dd, dd, dd, dd, dd, dd, dd, dd, dd, dd, dd, dd, dd, dd, dd, dd, dd, dd, dd, dd, dd, dd, dd, dd, dd, dd, dd, dd, dd, dd, dd, dd, dd, dd, dd, dd, dd, dd, dd, dd, dd, dd, dd, dd, dd, dd, dd, dd, .d (.sl (v_order6.map (eI .i64))), .d (.v (.int .i64 (v_order6.length : Int))), .d (.v (.int .i64 v_x40)), dd, dd, dd, dd, dd, dd, dd, dd, dd, dd, dd, dd, dd, dd, dd, dd, dd, dd, dd, dd, dd, dd, dd, dd, dd, dd, dd, dd, dd, dd, dd, dd, dd, dd, dd, dd, dd, dd, dd, dd, dd, dd, dd, dd, dd, dd, dd], [.row 37 1 (v_w41.map (eI .u32)), .row 37 1 (v_w42.map (eI .u32)), .row 3 1 (v_w43.map (eI .i64))]⟩
def G_turn_Play_L5 (n : Nat) (v_progs5 : (List (List S_turn_Do))) (v_order6 : (List Int)) : Nat → Int → (List Int) → (List Int) → (List Int) → Option G_turn_Play_L5_R
  | 0, _, _, _, _ => none
  | k + 1, v_x40, v_w41, v_w42, v_w43 =>
    if v_x40 < (v_order6.length : Int) then
     (getI v_order6 v_x40).bind fun (v_y128 : Int) =>
     (G_turn_Play_C4 n v_progs5 v_y128 v_order6 v_x40 v_w41 v_w42 v_w43).bind fun v_o145 => match v_o145 with
     | .x0 v_z146 v_z147 v_z148 v_z149 =>
       if v_z146 = true then
        some (.x0 3)
       else
        if 0 ≤ v_y128 ∧ (v_y128).toNat < v_z148.length then
         (getI v_progs5 v_y128).bind fun (v_y151 : (List S_turn_Do)) =>
         if 0 ≤ v_y128 ∧ (v_y128).toNat < v_z149.length then
          (v_z149[(v_y128).toNat]?).bind fun (v_y152 : Int) =>
          (getI v_y151 v_y152).bind fun (v_y153 : S_turn_Do) =>
          (G_turn_step_h n v_z147 v_z148 ((v_y128).toNat) v_y153).bind fun (v_r154 : ((List Int) × (List Int))) =>
          if 0 ≤ v_y128 ∧ (v_y128).toNat < v_z149.length then
           (v_z149[(v_y128).toNat]?).bind fun (v_y155 : Int) =>
           if 0 ≤ v_y128 ∧ (v_y128).toNat < v_z149.length then
            (v_z149[(v_y128).toNat]?).bind fun (v_y156 : Int) =>
            G_turn_Play_L5 n v_progs5 v_order6 k (wi .i64 (v_x40 + 1)) v_r154.1 v_r154.2 (v_z149.set (v_y128).toNat (wi .i64 (v_y155 + 1)))
           else none
          else none
         else none
        else none
    else
     some (.x1 v_w41 v_w42)
theorem G_turn_Play_L5_ok {Fi : Ex → PS → Prop} (hF : KC 118 Fi) (ks : List Fr) (n : Nat) (v_progs5 : (List (List S_turn_Do))) (v_order6 : (List Int))  : ∀ (k : Nat) (v_x40 : Int) (v_w41 : (List Int)) (v_w42 : (List Int)) (v_w43 : (List Int)) (o : G_turn_Play_L5_R), G_turn_Play_L5 n v_progs5 v_order6 k v_x40 v_w41 v_w42 v_w43 = some o → RunE Try.prog 118 Fi ks (G_turn_Play_L5_ex o) (G_turn_Play_L5_st v_progs5 v_order6 o) → RunE Try.prog 118 Fi (.l k (cP (cB (cR (cL (cR (cR (cR (cR (cR (cR (bodyOf Try.f16))))))))))) :: ks) .normal (G_turn_Play_L5_hd v_progs5 v_order6 v_x40 v_w41 v_w42 v_w43)
  | 0, v_x40, v_w41, v_w42, v_w43, o, h, q => by rw [G_turn_Play_L5] at h; cases h
  | k + 1, v_x40, v_w41, v_w42, v_w43, o, h, q => by
    rw [G_turn_Play_L5] at h
    by_cases h34 : v_x40 < (v_order6.length : Int)
    · rw [if_pos h34] at h
      obtain ⟨v_y128, h110, h⟩ := bind_some h
      obtain ⟨v_o145, h121, h⟩ := bind_some h
      refine pkk_sound TTok mix hF 12 (hs := [.t true, .y ((eI .i64) v_y128), .c]) (ts := []) (s := [0, 1, 2]) (l := [1, 13, 14, 15, 17, 68, 69, 70]) (by kernel_rfl) (by kernel_rfl) (.cons (dt h34) (.cons (getI_ob (f := (eI .i64)) h110) .nil)) (G_turn_Play_C4_ok hF (.s (cR (cL (cR (cB (cL (cR (cR (cP (cB (cR (cL (cR (cR (cR (cR (cR (cR (bodyOf Try.f16)))))))))))))))))) :: .s (cR (cR (cB (cL (cR (cR (cP (cB (cR (cL (cR (cR (cR (cR (cR (cR (bodyOf Try.f16))))))))))))))))) :: .b 5 :: .s (cR (cR (cR (cP (cB (cR (cL (cR (cR (cR (cR (cR (cR (bodyOf Try.f16)))))))))))))) :: .l k (cP (cB (cR (cL (cR (cR (cR (cR (cR (cR (bodyOf Try.f16))))))))))) :: ks) n v_progs5 v_y128 v_order6 v_x40 v_w41 v_w42 v_w43 _ h121 ?_)
      cases v_o145 with
      | x0 v_z146 v_z147 v_z148 v_z149 =>
        try dsimp only at h
        by_cases h123 : v_z146 = true
        · rw [if_pos h123] at h
          cases h
          exact pkk_sound TTok mix hF 8 (hs := [.t true]) (ts := []) (s := []) (l := [6, 7, 8]) (by kernel_rfl) (by kernel_rfl) (.cons h123 .nil) q
        · rw [if_neg h123] at h
          by_cases h124 : 0 ≤ v_y128 ∧ (v_y128).toNat < v_z148.length
          · rw [if_pos h124] at h
            obtain ⟨v_y151, h125, h⟩ := bind_some h
            by_cases h126 : 0 ≤ v_y128 ∧ (v_y128).toNat < v_z149.length
            · rw [if_pos h126] at h
              obtain ⟨v_y152, h127, h⟩ := bind_some h
              obtain ⟨v_y153, h128, h⟩ := bind_some h
              obtain ⟨v_r154, h129, h⟩ := bind_some h
              by_cases h130 : 0 ≤ v_y128 ∧ (v_y128).toNat < v_z149.length
              · rw [if_pos h130] at h
                obtain ⟨v_y155, h131, h⟩ := bind_some h
                by_cases h132 : 0 ≤ v_y128 ∧ (v_y128).toNat < v_z149.length
                · rw [if_pos h132] at h
                  obtain ⟨v_y156, h133, h⟩ := bind_some h
                  exact pkk_sound TTok mix hF 7 (hs := [.t false, .y ((eL eS_turn_Do) v_y151), .c, .y ((eI .i64) v_y152), .y (eS_turn_Do v_y153), .h [0, 1] [] [.row 37 1 (v_r154.1.map (eI .u32)), .row 37 1 (v_r154.2.map (eI .u32))] (.tup []), .y ((eI .i64) v_y155), .w ((v_z149.set (v_y128).toNat (wi .i64 (v_y155 + 1))).map (eI .i64)), .y ((eI .i64) v_y156)]) (ts := []) (s := [0, 1, 2]) (l := [1, 13, 14, 15, 68, 69, 70]) (by kernel_rfl) (by kernel_rfl) (.cons (vf h123) (.cons (idx_ob (f := (eI .u32)) h124) (.cons (getI_ob (f := (eL eS_turn_Do)) h125) (.cons (idx_ob (f := (eI .i64)) h126) (.cons (get_ob (f := (eI .i64)) h127) (.cons (getI_ob (f := eS_turn_Do) h128) (.cons (G_turn_step_h_ok n v_z147 v_z148 ((v_y128).toNat) v_y153 _ h129) (.cons (idx_ob (f := (eI .i64)) h130) (.cons (get_ob (f := (eI .i64)) h131) (.cons (idx_ob (f := (eI .i64)) h132) (.cons (get_ob (f := (eI .i64)) h133) (.cons (Eq.refl (pcells (.v (.int .i64 (wi .i64 (v_y155 + 1)))))) (.cons (set_ob (f := (eI .i64)) (l := v_z149) (k := (v_y128).toNat) (z := (wi .i64 (v_y155 + 1))) (p := .v (.int .i64 (wi .i64 (v_y155 + 1)))) rfl) .nil))))))))))))) (G_turn_Play_L5_ok hF ks n v_progs5 v_order6 k (wi .i64 (v_x40 + 1)) v_r154.1 v_r154.2 (v_z149.set (v_y128).toNat (wi .i64 (v_y155 + 1))) _ h q)
                · rw [if_neg h132] at h; cases h
              · rw [if_neg h130] at h; cases h
            · rw [if_neg h126] at h; cases h
          · rw [if_neg h124] at h; cases h
    · rw [if_neg h34] at h
      cases h
      exact pkk_sound TTok mix hF 8 (hs := [.t false]) (ts := []) (s := [0, 1]) (l := [13, 14]) (by kernel_rfl) (by kernel_rfl) (.cons (df h34) .nil) q
/- ringhall/turn.Play -/
def G_turn_Play (n : Nat) (v_cells4 : (List Int)) (v_progs5 : (List (List S_turn_Do))) (v_order6 : (List Int)) : Option ((List Int) × (List Int) × Int) :=
  if (v_cells4.length : Int) > 4 then
   some (([] : (List Int)), ([] : (List Int)), 2)
  else
   if (v_progs5.length : Int) > 4 then
    some (([] : (List Int)), ([] : (List Int)), 2)
   else
    (G_turn_Play_L3 n v_cells4 v_progs5 v_order6 n 0).bind fun v_o28 => match v_o28 with
    | .x0 v_z29 =>
      some (([] : (List Int)), ([] : (List Int)), v_z29)
    | .x1  =>
      (G_slices_Clone_uint32_uint32 n v_cells4).bind fun (v_r37 : ((List Int))) =>
      (mkL 4 0 (v_progs5.length : Int)).bind fun (v_m38 : (List Int)) =>
      (mkL 8 0 (v_progs5.length : Int)).bind fun (v_m39 : (List Int)) =>
      (G_turn_Play_L5 n v_progs5 v_order6 n 0 v_r37 v_m38 v_m39).bind fun v_o159 => match v_o159 with
      | .x0 v_z160 =>
        some (([] : (List Int)), ([] : (List Int)), v_z160)
      | .x1 v_z161 v_z162 =>
        some (v_z161, v_z162, 0)
theorem G_turn_Play_ok (n : Nat) (v_cells4 : (List Int)) (v_progs5 : (List (List S_turn_Do))) (v_order6 : (List Int)) (r : (List Int) × (List Int) × Int) (h : G_turn_Play n v_cells4 v_progs5 v_order6 = some r) : Ret Try.prog 16 [(eL (eI .u32)) v_cells4, (eL (eL eS_turn_Do)) v_progs5, (eL (eI .i64)) v_order6] (.tup [(eL (eI .u32)) r.1, (eL (eI .u32)) r.2.1, (eI .i64) r.2.2]) := by
  refine ret_run (n := 118) (fn := Try.f16) (c := bodyOf Try.f16) (by kernel_rfl) (by kernel_rfl) (by kernel_rfl) (by kernel_rfl) ?_
  have hF : KC 118 (FinR Try.prog Try.f16 (.tup [(eL (eI .u32)) r.1, (eL (eI .u32)) r.2.1, (eI .i64) r.2.2])) := FinR.kc' (by kernel_rfl)
  unfold G_turn_Play at h
  by_cases h1 : (v_cells4.length : Int) > 4
  · rw [if_pos h1] at h
    obtain rfl := Option.some.inj h
    exact pend_sound TTok mix 10 (hs := [.u (.d (.v (.int .i64 (v_cells4.length : Int)))), .t true, .c, .c, .c]) (by kernel_rfl) (by kernel_rfl) (by kernel_rfl) (.cons (len_ob (f := (eI .u32)) (l := v_cells4)) (.cons (dt h1) .nil))
  · rw [if_neg h1] at h
    by_cases h3 : (v_progs5.length : Int) > 4
    · rw [if_pos h3] at h
      obtain rfl := Option.some.inj h
      exact pend_sound TTok mix 10 (hs := [.u (.d (.v (.int .i64 (v_cells4.length : Int)))), .t false, .c, .u (.d (.v (.int .i64 (v_progs5.length : Int)))), .c, .t true]) (by kernel_rfl) (by kernel_rfl) (by kernel_rfl) (.cons (len_ob (f := (eI .u32)) (l := v_cells4)) (.cons (df h1) (.cons (len_ob (f := (eL eS_turn_Do)) (l := v_progs5)) (.cons (dt h3) .nil))))
    · rw [if_neg h3] at h
      obtain ⟨v_o28, h28, h⟩ := bind_some h
      refine pkk_sound TTok mix hF 12 (hs := [.u (.d (.v (.int .i64 (v_cells4.length : Int)))), .t false, .c, .u (.d (.v (.int .i64 (v_progs5.length : Int)))), .c, .t false, .u (.d (.v (.int .i64 (v_progs5.length : Int)))), .n n]) (ts := []) (s := []) (l := [0, 1, 2, 26, 27, 28]) (by kernel_rfl) (by kernel_rfl) (.cons (len_ob (f := (eI .u32)) (l := v_cells4)) (.cons (df h1) (.cons (len_ob (f := (eL eS_turn_Do)) (l := v_progs5)) (.cons (df h3) (.cons (len_ob (f := (eL eS_turn_Do)) (l := v_progs5)) .nil))))) (G_turn_Play_L3_ok hF (.b 0 :: .s (cR (cR (cR (bodyOf Try.f16)))) :: []) n v_cells4 v_progs5 v_order6 n 0 _ h28 ?_)
      cases v_o28 with
      | x0 v_z29 =>
        try dsimp only at h
        obtain rfl := Option.some.inj h
        exact pend_sound TTok mix 2 (hs := []) (by kernel_rfl) (by kernel_rfl) (by kernel_rfl) .nil
      | x1  =>
        try dsimp only at h
        obtain ⟨v_r37, h31, h⟩ := bind_some h
        obtain ⟨v_m38, h32, h⟩ := bind_some h
        obtain ⟨v_m39, h33, h⟩ := bind_some h
        obtain ⟨v_o159, h134, h⟩ := bind_some h
        refine pkk_sound TTok mix hF 12 (hs := [.h [] [] [.row 37 1 (v_r37.map (eI .u32))] (.srf 0), .u (.d (.v (.int .i64 (v_progs5.length : Int)))), .w (v_m38.map (eI .u32)), .u (.d (.v (.int .i64 (v_progs5.length : Int)))), .w (v_m39.map (eI .i64)), .u (.d (.v (.int .i64 (v_order6.length : Int)))), .n n]) (ts := []) (s := [3, 15, 27]) (l := [1, 13, 14, 15, 68, 69, 70]) (by kernel_rfl) (by kernel_rfl) (.cons (G_slices_Clone_uint32_uint32_ok n v_cells4 _ h31) (.cons (len_ob (f := (eL eS_turn_Do)) (l := v_progs5)) (.cons (mkL_ob (f := (eI .u32)) (p := .v (.int .u32 0)) h32 rfl).1 (.cons (mkL_ob (f := (eI .u32)) (p := .v (.int .u32 0)) h32 rfl).2.1 (.cons (mkL_ob (f := (eI .u32)) (p := .v (.int .u32 0)) h32 rfl).2.2.1 (.cons (mkL_ob (f := (eI .u32)) (p := .v (.int .u32 0)) h32 rfl).2.2.2.1 (.cons (mkL_ob (f := (eI .u32)) (p := .v (.int .u32 0)) h32 rfl).2.2.2.2 (.cons (len_ob (f := (eL eS_turn_Do)) (l := v_progs5)) (.cons (mkL_ob (f := (eI .i64)) (p := .v (.int .i64 0)) h33 rfl).1 (.cons (mkL_ob (f := (eI .i64)) (p := .v (.int .i64 0)) h33 rfl).2.1 (.cons (mkL_ob (f := (eI .i64)) (p := .v (.int .i64 0)) h33 rfl).2.2.1 (.cons (mkL_ob (f := (eI .i64)) (p := .v (.int .i64 0)) h33 rfl).2.2.2.1 (.cons (mkL_ob (f := (eI .i64)) (p := .v (.int .i64 0)) h33 rfl).2.2.2.2 (.cons (len_ob (f := (eI .i64)) (l := v_order6)) .nil)))))))))))))) (G_turn_Play_L5_ok hF (.b 4 :: .s (cR (cR (cR (cR (cR (cR (cR (bodyOf Try.f16)))))))) :: []) n v_progs5 v_order6 n 0 v_r37 v_m38 v_m39 _ h134 ?_)
        cases v_o159 with
        | x0 v_z160 =>
          try dsimp only at h
          obtain rfl := Option.some.inj h
          exact pend_sound TTok mix 2 (hs := []) (by kernel_rfl) (by kernel_rfl) (by kernel_rfl) .nil
        | x1 v_z161 v_z162 =>
          try dsimp only at h
          obtain rfl := Option.some.inj h
          exact pend_sound TTok mix 4 (hs := []) (by kernel_rfl) (by kernel_rfl) (by kernel_rfl) .nil
inductive G_slices_Equal_uint32_uint32_L1_R where
  | x0 (v_x171 : Bool)
  | x1 
def G_slices_Equal_uint32_uint32_L1_ex : G_slices_Equal_uint32_uint32_L1_R → Ex
  | .x0 _ => .ret
  | .x1  => .exit 0
def G_slices_Equal_uint32_uint32_L1_st (v_s164 : (List Int)) (v_s165 : (List Int)) : G_slices_Equal_uint32_uint32_L1_R → PS
  | .x0 v_x171 => ⟨[dd, dd, dd, dd, .d (.v (.bool v_x171)), dd, dd, dd, dd, dd, dd, dd, dd, dd, dd, dd, dd, dd, dd, dd, dd, dd, dd, dd, dd, dd], []⟩
  | .x1  => ⟨[dd, dd, dd, dd, dd, dd, dd, dd, dd, dd, dd, dd, dd, dd, dd, dd, dd, dd, dd, dd, dd, dd, dd, dd, dd, dd], []⟩
def G_slices_Equal_uint32_uint32_L1_hd (v_s164 : (List Int)) (v_s165 : (List Int)) (v_x166 : Int) : PS := ⟨[.d (.sl (v_s164.map (eI .u32))), .d (.sl (v_s165.map (eI .u32))), dd, dd, dd, dd, dd, dd, dd, dd, dd, dd, .d (.v (.int .i64 (v_s164.length : Int))), .d (.v (.int .i64 v_x166)), dd, dd, dd, dd, dd, dd, dd, dd, dd, dd, dd, dd], []⟩
def G_slices_Equal_uint32_uint32_L1 (n : Nat) (v_s164 : (List Int)) (v_s165 : (List Int)) : Nat → Int → Option G_slices_Equal_uint32_uint32_L1_R
  | 0, _ => none
  | k + 1, v_x166 =>
    if v_x166 < (v_s164.length : Int) then
     (getI v_s164 v_x166).bind fun (v_y169 : Int) =>
     (getI v_s165 v_x166).bind fun (v_y170 : Int) =>
     if v_y169 = v_y170 then
      G_slices_Equal_uint32_uint32_L1 n v_s164 v_s165 k (wi .i64 (v_x166 + 1))
     else
      some (.x0 false)
    else
     some (.x1 )
theorem G_slices_Equal_uint32_uint32_L1_ok {Fi : Ex → PS → Prop} (hF : KC 26 Fi) (ks : List Fr) (n : Nat) (v_s164 : (List Int)) (v_s165 : (List Int))  : ∀ (k : Nat) (v_x166 : Int) (o : G_slices_Equal_uint32_uint32_L1_R), G_slices_Equal_uint32_uint32_L1 n v_s164 v_s165 k v_x166 = some o → RunE Try.prog 26 Fi ks (G_slices_Equal_uint32_uint32_L1_ex o) (G_slices_Equal_uint32_uint32_L1_st v_s164 v_s165 o) → RunE Try.prog 26 Fi (.l k (cP (cB (cR (cL (cR (cR (bodyOf Try.f18))))))) :: ks) .normal (G_slices_Equal_uint32_uint32_L1_hd v_s164 v_s165 v_x166)
  | 0, v_x166, o, h, q => by rw [G_slices_Equal_uint32_uint32_L1] at h; cases h
  | k + 1, v_x166, o, h, q => by
    rw [G_slices_Equal_uint32_uint32_L1] at h
    by_cases h138 : v_x166 < (v_s164.length : Int)
    · rw [if_pos h138] at h
      obtain ⟨v_y169, h142, h⟩ := bind_some h
      obtain ⟨v_y170, h143, h⟩ := bind_some h
      by_cases h144 : v_y169 = v_y170
      · rw [if_pos h144] at h
        exact pkk_sound TTok mix hF 16 (hs := [.t true, .y ((eI .u32) v_y169), .c, .y ((eI .u32) v_y170), .c, .t false]) (ts := []) (s := []) (l := [0, 1, 12, 13]) (by kernel_rfl) (by kernel_rfl) (.cons (dt h138) (.cons (getI_ob (f := (eI .u32)) h142) (.cons (getI_ob (f := (eI .u32)) h143) (.cons (nf h144) .nil)))) (G_slices_Equal_uint32_uint32_L1_ok hF ks n v_s164 v_s165 k (wi .i64 (v_x166 + 1)) _ h q)
      · rw [if_neg h144] at h
        cases h
        exact pkk_sound TTok mix hF 19 (hs := [.t true, .y ((eI .u32) v_y169), .c, .y ((eI .u32) v_y170), .c, .t true]) (ts := []) (s := []) (l := [4]) (by kernel_rfl) (by kernel_rfl) (.cons (dt h138) (.cons (getI_ob (f := (eI .u32)) h142) (.cons (getI_ob (f := (eI .u32)) h143) (.cons (nt h144) .nil)))) q
    · rw [if_neg h138] at h
      cases h
      exact pkk_sound TTok mix hF 8 (hs := [.t false]) (ts := []) (s := []) (l := []) (by kernel_rfl) (by kernel_rfl) (.cons (df h138) .nil) q
/- slices.Equal[[]uint32,uint32] -/
def G_slices_Equal_uint32_uint32 (n : Nat) (v_s164 : (List Int)) (v_s165 : (List Int)) : Option (Bool) :=
  if (v_s164.length : Int) = (v_s165.length : Int) then
   (G_slices_Equal_uint32_uint32_L1 n v_s164 v_s165 n 0).bind fun v_o172 => match v_o172 with
   | .x0 v_z173 =>
     some v_z173
   | .x1  =>
     some true
  else
   some false
theorem G_slices_Equal_uint32_uint32_ok (n : Nat) (v_s164 : (List Int)) (v_s165 : (List Int)) (r : Bool) (h : G_slices_Equal_uint32_uint32 n v_s164 v_s165 = some r) : Ret Try.prog 18 [(eL (eI .u32)) v_s164, (eL (eI .u32)) v_s165] (eB r) := by
  refine ret_run (n := 26) (fn := Try.f18) (c := bodyOf Try.f18) (by kernel_rfl) (by kernel_rfl) (by kernel_rfl) (by kernel_rfl) ?_
  have hF : KC 26 (FinR Try.prog Try.f18 (eB r)) := FinR.kc' (by kernel_rfl)
  unfold G_slices_Equal_uint32_uint32 at h
  by_cases h137 : (v_s164.length : Int) = (v_s165.length : Int)
  · rw [if_pos h137] at h
    obtain ⟨v_o172, h145, h⟩ := bind_some h
    refine pkk_sound TTok mix hF 12 (hs := [.u (.d (.v (.int .i64 (v_s164.length : Int)))), .u (.d (.v (.int .i64 (v_s165.length : Int)))), .t false, .u (.d (.v (.int .i64 (v_s164.length : Int)))), .n n]) (ts := []) (s := []) (l := [0, 1, 12, 13]) (by kernel_rfl) (by kernel_rfl) (.cons (len_ob (f := (eI .u32)) (l := v_s164)) (.cons (len_ob (f := (eI .u32)) (l := v_s165)) (.cons (nf h137) (.cons (len_ob (f := (eI .u32)) (l := v_s164)) .nil)))) (G_slices_Equal_uint32_uint32_L1_ok hF (.b 0 :: .s (cR (cR (cR (bodyOf Try.f18)))) :: []) n v_s164 v_s165 n 0 _ h145 ?_)
    cases v_o172 with
    | x0 v_z173 =>
      try dsimp only at h
      obtain rfl := Option.some.inj h
      exact pend_sound TTok mix 2 (hs := []) (by kernel_rfl) (by kernel_rfl) (by kernel_rfl) .nil
    | x1  =>
      try dsimp only at h
      obtain rfl := Option.some.inj h
      exact pend_sound TTok mix 4 (hs := []) (by kernel_rfl) (by kernel_rfl) (by kernel_rfl) .nil
  · rw [if_neg h137] at h
    obtain rfl := Option.some.inj h
    exact pend_sound TTok mix 10 (hs := [.u (.d (.v (.int .i64 (v_s164.length : Int)))), .u (.d (.v (.int .i64 (v_s165.length : Int)))), .t true]) (by kernel_rfl) (by kernel_rfl) (by kernel_rfl) (.cons (len_ob (f := (eI .u32)) (l := v_s164)) (.cons (len_ob (f := (eI .u32)) (l := v_s165)) (.cons (nt h137) .nil)))
inductive G_ringlaw5_plays_C1_R where
  | x0 (v_x178 : Bool)
def G_ringlaw5_plays_C1_ex : G_ringlaw5_plays_C1_R → Ex
  | .x0 _ => .normal
def G_ringlaw5_plays_C1_st (v_r163 : ((List Int) × (List Int) × Int)) : G_ringlaw5_plays_C1_R → PS
  | .x0 v_x178 => ⟨[.d (.v (.bool v_x178)), dd, dd, dd, dd, dd, dd, dd, dd, dd, dd, dd, dd, dd, dd, dd, dd, dd, dd, dd, dd, dd, dd, dd, dd, dd], []⟩
def G_ringlaw5_plays_C1_hd (v_r163 : ((List Int) × (List Int) × Int))  : PS := ⟨[dd, .d (.sl (v_r163.1.map (eI .u32))), .d (.sl (v_r163.2.1.map (eI .u32))), .d (.v (.int .i64 v_r163.2.2)), dd, dd, dd, dd, dd, dd, dd, dd, dd, dd, dd, dd, dd, dd, dd, dd, dd, dd, dd, dd, dd, dd], []⟩
def G_ringlaw5_plays_C1 (n : Nat) (v_r163 : ((List Int) × (List Int) × Int)) : Option G_ringlaw5_plays_C1_R :=
  if v_r163.2.2 = 0 then
   (G_slices_Equal_uint32_uint32 n v_r163.1 ([9])).bind fun (v_r176 : (Bool)) =>
   if v_r176 = true then
    (G_slices_Equal_uint32_uint32 n v_r163.2.1 ([7])).bind fun (v_r177 : (Bool)) =>
    some (.x0 v_r177)
   else
    some (.x0 false)
  else
   some (.x0 false)
theorem G_ringlaw5_plays_C1_ok {Fi : Ex → PS → Prop} (hF : KC 26 Fi) (ks : List Fr) (n : Nat) (v_r163 : ((List Int) × (List Int) × Int))  (o : G_ringlaw5_plays_C1_R) (h : G_ringlaw5_plays_C1 n v_r163 = some o) (q : RunE Try.prog 26 Fi ks (G_ringlaw5_plays_C1_ex o) (G_ringlaw5_plays_C1_st v_r163 o)) : RunE Try.prog 26 Fi (.s (cL (cR (cR (bodyOf Try.f15)))) :: ks) .normal (G_ringlaw5_plays_C1_hd v_r163) := by
  unfold G_ringlaw5_plays_C1 at h
  by_cases h149 : v_r163.2.2 = 0
  · rw [if_pos h149] at h
    obtain ⟨v_r176, h150, h⟩ := bind_some h
    by_cases h151 : v_r176 = true
    · rw [if_pos h151] at h
      obtain ⟨v_r177, h152, h⟩ := bind_some h
      cases h
      exact pkk_sound TTok mix hF 1 (hs := [.t true, .c, .bd, .c, .r (eB v_r176), .t true, .c, .bd, .c, .r (eB v_r177)]) (ts := []) (s := []) (l := [0]) (by kernel_rfl) (by kernel_rfl) (.cons (bt h149) (.cons (G_slices_Equal_uint32_uint32_ok n v_r163.1 ([9]) _ h150) (.cons h151 (.cons (G_slices_Equal_uint32_uint32_ok n v_r163.2.1 ([7]) _ h152) .nil)))) q
    · rw [if_neg h151] at h
      cases h
      exact pkk_sound TTok mix hF 1 (hs := [.t true, .c, .bd, .c, .r (eB v_r176), .t false, .c, .c]) (ts := []) (s := []) (l := [0]) (by kernel_rfl) (by kernel_rfl) (.cons (bt h149) (.cons (G_slices_Equal_uint32_uint32_ok n v_r163.1 ([9]) _ h150) (.cons (vf h151) .nil))) q
  · rw [if_neg h149] at h
    cases h
    exact pkk_sound TTok mix hF 1 (hs := [.t false, .c, .c, .c, .c, .c]) (ts := []) (s := []) (l := [0]) (by kernel_rfl) (by kernel_rfl) (.cons (bf h149) .nil) q
/- ringhall/ringlaw5.plays -/
def G_ringlaw5_plays (n : Nat)  : Option (Bool) :=
  (G_turn_Play n ([7]) ([[(S_turn_Do.mk 4 0 2)]]) ([0])).bind fun (v_r163 : ((List Int) × (List Int) × Int)) =>
  (G_ringlaw5_plays_C1 n v_r163).bind fun v_o181 => match v_o181 with
  | .x0 v_z182 =>
    some v_z182
theorem G_ringlaw5_plays_ok (n : Nat)  (r : Bool) (h : G_ringlaw5_plays n  = some r) : Ret Try.prog 15 [] (eB r) := by
  refine ret_run (n := 26) (fn := Try.f15) (c := bodyOf Try.f15) (by kernel_rfl) (by kernel_rfl) (by kernel_rfl) (by kernel_rfl) ?_
  have hF : KC 26 (FinR Try.prog Try.f15 (eB r)) := FinR.kc' (by kernel_rfl)
  unfold G_ringlaw5_plays at h
  obtain ⟨v_r163, h135, h⟩ := bind_some h
  obtain ⟨v_o181, h153, h⟩ := bind_some h
  refine pkk_sound TTok mix hF 5 (hs := [.bd, .bd, .bd, .bd, .r (.tup [(eL (eI .u32)) v_r163.1, (eL (eI .u32)) v_r163.2.1, (eI .i64) v_r163.2.2])]) (ts := []) (s := []) (l := [1, 2, 3]) (by kernel_rfl) (by kernel_rfl) (.cons (G_turn_Play_ok n ([7]) ([[(S_turn_Do.mk 4 0 2)]]) ([0]) _ h135) .nil) (G_ringlaw5_plays_C1_ok hF (.s (cR (cR (cR (bodyOf Try.f15)))) :: []) n v_r163 _ h153 ?_)
  cases v_o181 with
  | x0 v_z182 =>
    try dsimp only at h
    obtain rfl := Option.some.inj h
    exact pend_sound TTok mix 1 (hs := []) (by kernel_rfl) (by kernel_rfl) (by kernel_rfl) .nil
/- slices.Grow[[]ringhall/ringref5.Do,ringhall/ringref5.Do] -/
def G_slices_Grow_ringref5_Do_ringref5_Do_h (n : Nat) (v_n215 : Int) : Option ((List S_ringref5_Do)) :=
  if v_n215 < 0 then
   none
  else
   if (wi .i64 (v_n215 - (wi .i64 (0 - 0)))) > 0 then
    (appZ 24 (S_ringref5_Do.mk 0 0 0) (wi .i64 (v_n215 - (wi .i64 (0 - 0))))).bind fun (v_a218 : (List S_ringref5_Do)) =>
    (sub v_a218 0 0).bind fun (v_s219 : (List S_ringref5_Do)) =>
    some v_s219
   else
    some ([] : List S_ringref5_Do)
theorem G_slices_Grow_ringref5_Do_ringref5_Do_h_ok (n : Nat) (v_n215 : Int) (r : (List S_ringref5_Do)) (h : G_slices_Grow_ringref5_Do_ringref5_Do_h n v_n215 = some r) : RetH Try.prog 224 [.d vnil, .d ((eI .i64) v_n215)] [] (.srf 0) [.row 30 3 (r.map eS_ringref5_Do)] := by
  refine retH_run (n := 27) (fn := Try.f224) (c := bodyOf Try.f224) (by kernel_rfl) (by kernel_rfl) (by kernel_rfl) (by kernel_rfl) ?_
  have hF : KC 27 (FinH Try.prog Try.f224 [] (.srf 0) [.row 30 3 (r.map eS_ringref5_Do)]) := FinH.kc' (by kernel_rfl)
  unfold G_slices_Grow_ringref5_Do_ringref5_Do_h at h
  by_cases h176 : v_n215 < 0
  · rw [if_pos h176] at h
    cases h
  · rw [if_neg h176] at h
    by_cases h180 : (wi .i64 (v_n215 - (wi .i64 (0 - 0)))) > 0
    · rw [if_pos h180] at h
      obtain ⟨v_a218, h181, h⟩ := bind_some h
      obtain ⟨v_s219, h182, h⟩ := bind_some h
      obtain rfl := Option.some.inj h
      exact pendH_sound TTok mix 17 (hs := [.t false, .u (.d (.v (.int .i64 0))), .t true, .c, .w (v_a218.map eS_ringref5_Do), .u (.d (.v (.int .i64 0))), .w (v_s219.map eS_ringref5_Do)]) [63] (by kernel_rfl) (by kernel_rfl) (by kernel_rfl) (.cons (df h176) (.cons (Eq.refl (FV.d (.v (.int .i64 0)))) (.cons (dt h180) (.cons (Eq.refl (0 : Int)) (.cons (Eq.refl (0 : Int)) (.cons (appZ_ob (f := eS_ringref5_Do) (p := .agg [.v (.int .i64 0), .v (.int .i64 0), .v (.int .i64 0)]) h181 rfl).1 (.cons (appZ_ob (f := eS_ringref5_Do) (p := .agg [.v (.int .i64 0), .v (.int .i64 0), .v (.int .i64 0)]) h181 rfl).2.1 (.cons (appZ_ob (f := eS_ringref5_Do) (p := .agg [.v (.int .i64 0), .v (.int .i64 0), .v (.int .i64 0)]) h181 rfl).2.2.1 (.cons (appZ_ob (f := eS_ringref5_Do) (p := .agg [.v (.int .i64 0), .v (.int .i64 0), .v (.int .i64 0)]) h181 rfl).2.2.2 (.cons (Eq.refl (FV.d (.v (.int .i64 0)))) (.cons (Eq.refl (0 : Int)) (.cons (subR_ob (f := eS_ringref5_Do) h182).1 (.cons (subR_ob (f := eS_ringref5_Do) h182).2.1 (.cons (subR_ob (f := eS_ringref5_Do) h182).2.2 .nil))))))))))))))
    · rw [if_neg h180] at h
      obtain rfl := Option.some.inj h
      exact pendH_sound TTok mix 18 (hs := [.t false, .u (.d (.v (.int .i64 0))), .t false, .dl 4, .th 4 30 3]) [45] (by kernel_rfl) (by kernel_rfl) (by kernel_rfl) (.cons (df h176) (.cons (Eq.refl (FV.d (.v (.int .i64 0)))) (.cons (df h180) .nil)))
inductive G_slices_Concat_ringref5_Do_ringref5_Do_h_L1_R where
  | x0 (v_size212 : Int)
def G_slices_Concat_ringref5_Do_ringref5_Do_h_L1_ex : G_slices_Concat_ringref5_Do_ringref5_Do_h_L1_R → Ex
  | .x0 _ => .exit 0
def G_slices_Concat_ringref5_Do_ringref5_Do_h_L1_st (v_slices207 : (List (List S_ringref5_Do))) : G_slices_Concat_ringref5_Do_ringref5_Do_h_L1_R → PS
  | .x0 v_size212 => ⟨[.d (.sl (v_slices207.map (eL eS_ringref5_Do))), dd, dd, .d (.v (.int .i64 v_size212)), dd, dd, dd, dd, dd, dd, dd, dd, dd, dd, dd, dd, dd, dd, dd, dd, dd, dd, dd, dd, dd, dd, dd, dd, dd, dd, dd, dd, dd, dd, dd, dd], []⟩
def G_slices_Concat_ringref5_Do_ringref5_Do_h_L1_hd (v_slices207 : (List (List S_ringref5_Do))) (v_size208 : Int) (v_x209 : Int) : PS := ⟨[.d (.sl (v_slices207.map (eL eS_ringref5_Do))), dd, dd, .d (.v (.int .i64 v_size208)), dd, dd, dd, dd, dd, .d (.sl (v_slices207.map (eL eS_ringref5_Do))), .d (.v (.int .i64 (v_slices207.length : Int))), .d (.v (.int .i64 v_x209)), dd, dd, dd, dd, dd, dd, dd, dd, dd, dd, dd, dd, dd, dd, dd, dd, dd, dd, dd, dd, dd, dd, dd, dd], []⟩
def G_slices_Concat_ringref5_Do_ringref5_Do_h_L1 (n : Nat) (v_slices207 : (List (List S_ringref5_Do))) : Nat → Int → Int → Option G_slices_Concat_ringref5_Do_ringref5_Do_h_L1_R
  | 0, _, _ => none
  | k + 1, v_size208, v_x209 =>
    if v_x209 < (v_slices207.length : Int) then
     (getI v_slices207 v_x209).bind fun (v_y211 : (List S_ringref5_Do)) =>
     if (wi .i64 (v_size208 + (v_y211.length : Int))) < 0 then
      none
     else
      G_slices_Concat_ringref5_Do_ringref5_Do_h_L1 n v_slices207 k (wi .i64 (v_size208 + (v_y211.length : Int))) (wi .i64 (v_x209 + 1))
    else
     some (.x0 v_size208)
theorem G_slices_Concat_ringref5_Do_ringref5_Do_h_L1_ok {Fi : Ex → PS → Prop} (hF : KC 36 Fi) (ks : List Fr) (n : Nat) (v_slices207 : (List (List S_ringref5_Do)))  : ∀ (k : Nat) (v_size208 : Int) (v_x209 : Int) (o : G_slices_Concat_ringref5_Do_ringref5_Do_h_L1_R), G_slices_Concat_ringref5_Do_ringref5_Do_h_L1 n v_slices207 k v_size208 v_x209 = some o → RunE Try.prog 36 Fi ks (G_slices_Concat_ringref5_Do_ringref5_Do_h_L1_ex o) (G_slices_Concat_ringref5_Do_ringref5_Do_h_L1_st v_slices207 o) → RunE Try.prog 36 Fi (.l k (cP (cB (cR (cL (cR (cR (bodyOf Try.f137))))))) :: ks) .normal (G_slices_Concat_ringref5_Do_ringref5_Do_h_L1_hd v_slices207 v_size208 v_x209)
  | 0, v_size208, v_x209, o, h, q => by rw [G_slices_Concat_ringref5_Do_ringref5_Do_h_L1] at h; cases h
  | k + 1, v_size208, v_x209, o, h, q => by
    rw [G_slices_Concat_ringref5_Do_ringref5_Do_h_L1] at h
    by_cases h170 : v_x209 < (v_slices207.length : Int)
    · rw [if_pos h170] at h
      obtain ⟨v_y211, h173, h⟩ := bind_some h
      by_cases h174 : (wi .i64 (v_size208 + (v_y211.length : Int))) < 0
      · rw [if_pos h174] at h
        cases h
      · rw [if_neg h174] at h
        exact pkk_sound TTok mix hF 18 (hs := [.t true, .y ((eL eS_ringref5_Do) v_y211), .c, .u (.d (.v (.int .i64 (v_y211.length : Int)))), .t false]) (ts := []) (s := []) (l := [0, 3, 9, 10, 11]) (by kernel_rfl) (by kernel_rfl) (.cons (dt h170) (.cons (getI_ob (f := (eL eS_ringref5_Do)) h173) (.cons (len_ob (f := eS_ringref5_Do) (l := v_y211)) (.cons (df h174) .nil)))) (G_slices_Concat_ringref5_Do_ringref5_Do_h_L1_ok hF ks n v_slices207 k (wi .i64 (v_size208 + (v_y211.length : Int))) (wi .i64 (v_x209 + 1)) _ h q)
    · rw [if_neg h170] at h
      cases h
      exact pkk_sound TTok mix hF 8 (hs := [.t false]) (ts := []) (s := []) (l := [0, 3]) (by kernel_rfl) (by kernel_rfl) (.cons (df h170) .nil) q
inductive G_slices_Concat_ringref5_Do_ringref5_Do_h_L2_R where
  | x0 (v_w227 : (List S_ringref5_Do))
def G_slices_Concat_ringref5_Do_ringref5_Do_h_L2_ex : G_slices_Concat_ringref5_Do_ringref5_Do_h_L2_R → Ex
  | .x0 _ => .exit 2
def G_slices_Concat_ringref5_Do_ringref5_Do_h_L2_st (v_slices207 : (List (List S_ringref5_Do))) : G_slices_Concat_ringref5_Do_ringref5_Do_h_L2_R → PS
  | .x0 v_w227 => ⟨[dd, dd, dd, dd, dd, dd, .srf 0, dd, dd, dd, dd, dd, dd, dd, dd, dd, dd, dd, dd, dd, dd, dd, dd, dd, dd, dd, dd, dd, dd, dd, dd, dd, dd, dd, dd, dd], [.row 30 3 (v_w227.map eS_ringref5_Do)]⟩
def G_slices_Concat_ringref5_Do_ringref5_Do_h_L2_hd (v_slices207 : (List (List S_ringref5_Do))) (v_x221 : Int) (v_w222 : (List S_ringref5_Do)) : PS := ⟨[dd, dd, dd, dd, dd, dd, .srf 0, dd, dd, dd, dd, dd, dd, dd, dd, dd, dd, dd, dd, dd, dd, dd, dd, dd, dd, .d (.sl (v_slices207.map (eL eS_ringref5_Do))), .d (.v (.int .i64 (v_slices207.length : Int))), .d (.v (.int .i64 v_x221)), dd, dd, dd, dd, dd, dd, dd, dd], [.row 30 3 (v_w222.map eS_ringref5_Do)]⟩
def G_slices_Concat_ringref5_Do_ringref5_Do_h_L2 (n : Nat) (v_slices207 : (List (List S_ringref5_Do))) : Nat → Int → (List S_ringref5_Do) → Option G_slices_Concat_ringref5_Do_ringref5_Do_h_L2_R
  | 0, _, _ => none
  | k + 1, v_x221, v_w222 =>
    if v_x221 < (v_slices207.length : Int) then
     (getI v_slices207 v_x221).bind fun (v_y225 : (List S_ringref5_Do)) =>
     (app 24 v_w222 v_y225).bind fun (v_a226 : (List S_ringref5_Do)) =>
     G_slices_Concat_ringref5_Do_ringref5_Do_h_L2 n v_slices207 k (wi .i64 (v_x221 + 1)) v_a226
    else
     some (.x0 v_w222)
theorem G_slices_Concat_ringref5_Do_ringref5_Do_h_L2_ok {Fi : Ex → PS → Prop} (hF : KC 36 Fi) (ks : List Fr) (n : Nat) (v_slices207 : (List (List S_ringref5_Do)))  : ∀ (k : Nat) (v_x221 : Int) (v_w222 : (List S_ringref5_Do)) (o : G_slices_Concat_ringref5_Do_ringref5_Do_h_L2_R), G_slices_Concat_ringref5_Do_ringref5_Do_h_L2 n v_slices207 k v_x221 v_w222 = some o → RunE Try.prog 36 Fi ks (G_slices_Concat_ringref5_Do_ringref5_Do_h_L2_ex o) (G_slices_Concat_ringref5_Do_ringref5_Do_h_L2_st v_slices207 o) → RunE Try.prog 36 Fi (.l k (cP (cB (cR (cL (cR (cR (cR (cR (bodyOf Try.f137))))))))) :: ks) .normal (G_slices_Concat_ringref5_Do_ringref5_Do_h_L2_hd v_slices207 v_x221 v_w222)
  | 0, v_x221, v_w222, o, h, q => by rw [G_slices_Concat_ringref5_Do_ringref5_Do_h_L2] at h; cases h
  | k + 1, v_x221, v_w222, o, h, q => by
    rw [G_slices_Concat_ringref5_Do_ringref5_Do_h_L2] at h
    by_cases h184 : v_x221 < (v_slices207.length : Int)
    · rw [if_pos h184] at h
      obtain ⟨v_y225, h187, h⟩ := bind_some h
      obtain ⟨v_a226, h188, h⟩ := bind_some h
      exact pkk_sound TTok mix hF 13 (hs := [.t true, .y ((eL eS_ringref5_Do) v_y225), .c, .w (v_a226.map eS_ringref5_Do)]) (ts := []) (s := [19]) (l := [6, 25, 26, 27]) (by kernel_rfl) (by kernel_rfl) (.cons (dt h184) (.cons (getI_ob (f := (eL eS_ringref5_Do)) h187) (.cons (app_ob (f := eS_ringref5_Do) (s := 3) h188 (fun _ => rfl)).1 (.cons (app_ob (f := eS_ringref5_Do) (s := 3) h188 (fun _ => rfl)).2.1 (.cons (app_ob (f := eS_ringref5_Do) (s := 3) h188 (fun _ => rfl)).2.2.1 (.cons (app_ob (f := eS_ringref5_Do) (s := 3) h188 (fun _ => rfl)).2.2.2 .nil)))))) (G_slices_Concat_ringref5_Do_ringref5_Do_h_L2_ok hF ks n v_slices207 k (wi .i64 (v_x221 + 1)) v_a226 _ h q)
    · rw [if_neg h184] at h
      cases h
      exact pkk_sound TTok mix hF 8 (hs := [.t false]) (ts := []) (s := [0]) (l := [6]) (by kernel_rfl) (by kernel_rfl) (.cons (df h184) .nil) q
/- slices.Concat[[]ringhall/ringref5.Do,ringhall/ringref5.Do] -/
def G_slices_Concat_ringref5_Do_ringref5_Do_h (n : Nat) (v_slices207 : (List (List S_ringref5_Do))) : Option ((List S_ringref5_Do)) :=
  (G_slices_Concat_ringref5_Do_ringref5_Do_h_L1 n v_slices207 n 0 0).bind fun v_o213 => match v_o213 with
  | .x0 v_z214 =>
    (G_slices_Grow_ringref5_Do_ringref5_Do_h n v_z214).bind fun (v_r220 : ((List S_ringref5_Do))) =>
    (G_slices_Concat_ringref5_Do_ringref5_Do_h_L2 n v_slices207 n 0 v_r220).bind fun v_o228 => match v_o228 with
    | .x0 v_z229 =>
      some v_z229
theorem G_slices_Concat_ringref5_Do_ringref5_Do_h_ok (n : Nat) (v_slices207 : (List (List S_ringref5_Do))) (r : (List S_ringref5_Do)) (h : G_slices_Concat_ringref5_Do_ringref5_Do_h n v_slices207 = some r) : RetH Try.prog 137 [.d ((eL (eL eS_ringref5_Do)) v_slices207)] [] (.srf 0) [.row 30 3 (r.map eS_ringref5_Do)] := by
  refine retH_run (n := 36) (fn := Try.f137) (c := bodyOf Try.f137) (by kernel_rfl) (by kernel_rfl) (by kernel_rfl) (by kernel_rfl) ?_
  have hF : KC 36 (FinH Try.prog Try.f137 [] (.srf 0) [.row 30 3 (r.map eS_ringref5_Do)]) := FinH.kc' (by kernel_rfl)
  unfold G_slices_Concat_ringref5_Do_ringref5_Do_h at h
  obtain ⟨v_o213, h175, h⟩ := bind_some h
  refine pkk_sound TTok mix hF 9 (hs := [.u (.d (.v (.int .i64 (v_slices207.length : Int)))), .n n]) (ts := []) (s := []) (l := [0, 3, 9, 10, 11]) (by kernel_rfl) (by kernel_rfl) (.cons (len_ob (f := (eL eS_ringref5_Do)) (l := v_slices207)) .nil) (G_slices_Concat_ringref5_Do_ringref5_Do_h_L1_ok hF (.b 0 :: .s (cR (cR (cR (bodyOf Try.f137)))) :: []) n v_slices207 n 0 0 _ h175 ?_)
  cases v_o213 with
  | x0 v_z214 =>
    try dsimp only at h
    obtain ⟨v_r220, h183, h⟩ := bind_some h
    obtain ⟨v_o228, h189, h⟩ := bind_some h
    refine pkk_sound TTok mix hF 8 (hs := [.h [] [false] [.row 30 3 (v_r220.map eS_ringref5_Do)] (.srf 0), .u (.d (.v (.int .i64 (v_slices207.length : Int)))), .n n]) (ts := []) (s := [3]) (l := [6, 25, 26, 27]) (by kernel_rfl) (by kernel_rfl) (.cons (G_slices_Grow_ringref5_Do_ringref5_Do_h_ok n v_z214 _ h183) (.cons (len_ob (f := (eL eS_ringref5_Do)) (l := v_slices207)) .nil)) (G_slices_Concat_ringref5_Do_ringref5_Do_h_L2_ok hF (.b 2 :: .s (cR (cR (cR (cR (cR (bodyOf Try.f137)))))) :: []) n v_slices207 n 0 v_r220 _ h189 ?_)
    cases v_o228 with
    | x0 v_z229 =>
      try dsimp only at h
      obtain rfl := Option.some.inj h
      exact pendH_sound TTok mix 4 (hs := []) [0] (by kernel_rfl) (by kernel_rfl) (by kernel_rfl) .nil
/- slices.Clone[[][]ringhall/ringref5.Do,[]ringhall/ringref5.Do] -/
def G_slices_Clone_ringref5_Do_ringref5_Do_A (n : Nat) (v_c262 : Nat) : Option ((List (List S_ringref5_Do))) :=
  some ([] : List (List S_ringref5_Do))
theorem G_slices_Clone_ringref5_Do_ringref5_Do_A_ok (n : Nat) (v_c262 : Nat) (r : (List (List S_ringref5_Do))) (h : G_slices_Clone_ringref5_Do_ringref5_Do_A n v_c262 = some r) : RetH Try.prog 138 [.d (.v (.slice none 0 v_c262))] [] (.srf 0) [.row 27 1 (r.map (eL eS_ringref5_Do))] := by
  refine retH_run (n := 8) (fn := Try.f138) (c := bodyOf Try.f138) (by kernel_rfl) (by kernel_rfl) (by kernel_rfl) (by kernel_rfl) ?_
  have hF : KC 8 (FinH Try.prog Try.f138 [] (.srf 0) [.row 27 1 (r.map (eL eS_ringref5_Do))]) := FinH.kc' (by kernel_rfl)
  unfold G_slices_Clone_ringref5_Do_ringref5_Do_A at h
  obtain rfl := Option.some.inj h
  exact pendH_sound TTok mix 11 (hs := [.c, .dl 4, .th 2 27 1]) [12] (by kernel_rfl) (by kernel_rfl) (by kernel_rfl) .nil
/- slices.Clone[[][]ringhall/ringref5.Do,[]ringhall/ringref5.Do] -/
def G_slices_Clone_ringref5_Do_ringref5_Do_B (n : Nat) (v_a263 : Addr) (v_c264 : Nat) : Option ((List (List S_ringref5_Do))) :=
  (app 24 ([] : List (List S_ringref5_Do)) ([] : (List (List S_ringref5_Do)))).bind fun (v_a265 : (List (List S_ringref5_Do))) =>
  some v_a265
theorem G_slices_Clone_ringref5_Do_ringref5_Do_B_ok (n : Nat) (v_a263 : Addr) (v_c264 : Nat) (r : (List (List S_ringref5_Do))) (h : G_slices_Clone_ringref5_Do_ringref5_Do_B n v_a263 v_c264 = some r) : RetH Try.prog 138 [.d (.v (.slice (some v_a263) 0 v_c264))] [] (.srf 0) [.row 27 1 (r.map (eL eS_ringref5_Do))] := by
  refine retH_run (n := 8) (fn := Try.f138) (c := bodyOf Try.f138) (by kernel_rfl) (by kernel_rfl) (by kernel_rfl) (by kernel_rfl) ?_
  have hF : KC 8 (FinH Try.prog Try.f138 [] (.srf 0) [.row 27 1 (r.map (eL eS_ringref5_Do))]) := FinH.kc' (by kernel_rfl)
  unfold G_slices_Clone_ringref5_Do_ringref5_Do_B at h
  obtain ⟨v_a265, h217, h⟩ := bind_some h
  obtain rfl := Option.some.inj h
  exact pendH_sound TTok mix 10 (hs := [.c, .w (([] : List (List S_ringref5_Do)).map (eL eS_ringref5_Do)), .w (v_a265.map (eL eS_ringref5_Do))]) [15] (by kernel_rfl) (by kernel_rfl) (by kernel_rfl) (.cons (Eq.refl (([] : List (List S_ringref5_Do)).map (eL eS_ringref5_Do))) (.cons (app_ob (f := (eL eS_ringref5_Do)) (s := 1) h217 (fun _ => rfl)).1 (.cons (app_ob (f := (eL eS_ringref5_Do)) (s := 1) h217 (fun _ => rfl)).2.1 (.cons (app_ob (f := (eL eS_ringref5_Do)) (s := 1) h217 (fun _ => rfl)).2.2.1 (.cons (app_ob (f := (eL eS_ringref5_Do)) (s := 1) h217 (fun _ => rfl)).2.2.2 .nil)))))
/- slices.Clone[[][]ringhall/ringref5.Do,[]ringhall/ringref5.Do] -/
def G_slices_Clone_ringref5_Do_ringref5_Do_C (n : Nat) (v_y266 : (List S_ringref5_Do)) (v_ys267 : (List (List S_ringref5_Do))) : Option ((List (List S_ringref5_Do))) :=
  (app 24 ([] : List (List S_ringref5_Do)) (v_y266 :: v_ys267)).bind fun (v_a268 : (List (List S_ringref5_Do))) =>
  some v_a268
theorem G_slices_Clone_ringref5_Do_ringref5_Do_C_ok (n : Nat) (v_y266 : (List S_ringref5_Do)) (v_ys267 : (List (List S_ringref5_Do))) (r : (List (List S_ringref5_Do))) (h : G_slices_Clone_ringref5_Do_ringref5_Do_C n v_y266 v_ys267 = some r) : RetH Try.prog 138 [.d (.sl ((eL eS_ringref5_Do) v_y266 :: v_ys267.map (eL eS_ringref5_Do)))] [] (.srf 0) [.row 27 1 (r.map (eL eS_ringref5_Do))] := by
  refine retH_run (n := 8) (fn := Try.f138) (c := bodyOf Try.f138) (by kernel_rfl) (by kernel_rfl) (by kernel_rfl) (by kernel_rfl) ?_
  have hF : KC 8 (FinH Try.prog Try.f138 [] (.srf 0) [.row 27 1 (r.map (eL eS_ringref5_Do))]) := FinH.kc' (by kernel_rfl)
  unfold G_slices_Clone_ringref5_Do_ringref5_Do_C at h
  obtain ⟨v_a268, h218, h⟩ := bind_some h
  obtain rfl := Option.some.inj h
  exact pendH_sound TTok mix 10 (hs := [.c, .w (([] : List (List S_ringref5_Do)).map (eL eS_ringref5_Do)), .w (v_a268.map (eL eS_ringref5_Do))]) [15] (by kernel_rfl) (by kernel_rfl) (by kernel_rfl) (.cons (Eq.refl (([] : List (List S_ringref5_Do)).map (eL eS_ringref5_Do))) (.cons (app_ob (f := (eL eS_ringref5_Do)) (s := 1) h218 (fun _ => rfl)).1 (.cons (app_ob (f := (eL eS_ringref5_Do)) (s := 1) h218 (fun _ => rfl)).2.1 (.cons (app_ob (f := (eL eS_ringref5_Do)) (s := 1) h218 (fun _ => rfl)).2.2.1 (.cons (app_ob (f := (eL eS_ringref5_Do)) (s := 1) h218 (fun _ => rfl)).2.2.2 .nil)))))
def G_slices_Clone_ringref5_Do_ringref5_Do (n : Nat) (xs : (List (List S_ringref5_Do))) : Option (List (List S_ringref5_Do)) := app 24 [] xs
theorem G_slices_Clone_ringref5_Do_ringref5_Do_ok (n : Nat) (xs : (List (List S_ringref5_Do))) (r : (List (List S_ringref5_Do))) (h : G_slices_Clone_ringref5_Do_ringref5_Do n xs = some r) : RetH Try.prog 138 [.d (.sl (xs.map (eL eS_ringref5_Do)))] [] (.srf 0) [.row 27 1 (r.map (eL eS_ringref5_Do))] := by
  unfold G_slices_Clone_ringref5_Do_ringref5_Do at h
  have e : app 24 ([] : (List (List S_ringref5_Do))) [] = some [] := by simp [app]
  cases xs with
  | nil =>
    rw [e] at h; obtain rfl := Option.some.inj h
    exact clone_nil (fun c => G_slices_Clone_ringref5_Do_ringref5_Do_A_ok n c _ (by unfold G_slices_Clone_ringref5_Do_ringref5_Do_A; rfl)) (fun a c => G_slices_Clone_ringref5_Do_ringref5_Do_B_ok n a c _ (by unfold G_slices_Clone_ringref5_Do_ringref5_Do_B; rw [e]; rfl))
  | cons y ys => exact G_slices_Clone_ringref5_Do_ringref5_Do_C_ok n y ys _ (by unfold G_slices_Clone_ringref5_Do_ringref5_Do_C; rw [h]; rfl)
/- ringhall/ringref5.Rest -/
def G_ringref5_Rest (n : Nat) (v_n301 : Int) (v_m302 : Int) : Option (Int) :=
  if v_m302 ≠ 0 then
   if (remI v_n301 v_m302) < 0 then
    some (wi .i64 ((remI v_n301 v_m302) + v_m302))
   else
    some (remI v_n301 v_m302)
  else none
theorem G_ringref5_Rest_ok (n : Nat) (v_n301 : Int) (v_m302 : Int) (r : Int) (h : G_ringref5_Rest n v_n301 v_m302 = some r) : Ret Try.prog 132 [(eI .i64) v_n301, (eI .i64) v_m302] ((eI .i64) r) := by
  refine ret_run (n := 14) (fn := Try.f132) (c := bodyOf Try.f132) (by kernel_rfl) (by kernel_rfl) (by kernel_rfl) (by kernel_rfl) ?_
  have hF : KC 14 (FinR Try.prog Try.f132 ((eI .i64) r)) := FinR.kc' (by kernel_rfl)
  unfold G_ringref5_Rest at h
  by_cases h245 : v_m302 ≠ 0
  · rw [if_pos h245] at h
    by_cases h247 : (remI v_n301 v_m302) < 0
    · rw [if_pos h247] at h
      obtain rfl := Option.some.inj h
      exact pend_sound TTok mix 12 (hs := [.t true]) (by kernel_rfl) (by kernel_rfl) (by kernel_rfl) (.cons h245 (.cons (dt h247) .nil))
    · rw [if_neg h247] at h
      obtain rfl := Option.some.inj h
      exact pend_sound TTok mix 12 (hs := [.t false]) (by kernel_rfl) (by kernel_rfl) (by kernel_rfl) (.cons h245 (.cons (df h247) .nil))
  · rw [if_neg h245] at h; cases h
inductive G_ringref5_PlayOf_C1_R where
  | x0 (v_x246 : Bool) (v_w247 : (List S_ringref5_Do))
def G_ringref5_PlayOf_C1_ex : G_ringref5_PlayOf_C1_R → Ex
  | .x0 _ _ => .normal
def G_ringref5_PlayOf_C1_st (v_cells204 : (List Int)) (v_progs205 : (List (List S_ringref5_Do))) (v_order206 : (List Int)) (v_r230 : ((List S_ringref5_Do))) (v_x231 : Int) (v_y245 : S_ringref5_Do) (v_w232 : (List S_ringref5_Do)) : G_ringref5_PlayOf_C1_R → PS
  | .x0 v_x246 v_w247 => ⟨[.d (.sl (v_cells204.map (eI .u32))), .d (.sl (v_progs205.map (eL eS_ringref5_Do))), .d (.sl (v_order206.map (eI .i64))), dd, dd, dd, dd, dd, dd, dd, dd, dd, dd, dd, dd, dd, dd, dd, dd, dd, dd, dd, dd, dd, dd, dd, dd, dd, dd, .srf 0, .d (.v (.int .i64 (v_r230.length : Int))), .d (.v (.int .i64 v_x231)), dd, dd, dd, dd, dd, dd, dd, dd, dd, dd, dd, dd, dd, dd, dd, dd, dd, dd, dd, dd, dd, dd, .d (.v (.bool v_x246)), dd, dd, dd, dd, dd, dd, dd, dd, dd, dd, dd, dd, dd, dd, dd, dd, dd, dd, dd, dd, dd, dd, dd, dd, dd, dd, dd, dd, dd, dd, dd, dd, dd, dd, dd, dd, dd, dd, dd, dd, dd, dd, dd, dd, dd, dd, dd, dd, dd, dd, dd, dd, dd, dd, dd, dd, dd, dd, dd, dd, dd, dd, dd, dd, dd, dd, dd, dd, dd, dd, dd, dd, dd, dd, dd, dd, dd, dd, dd, dd, dd, dd, dd, dd, dd, dd, dd, dd, dd, dd, dd, dd, dd, dd, dd, dd, dd, dd, dd], [.row 30 3 (v_w247.map eS_ringref5_Do)]⟩
def G_ringref5_PlayOf_C1_hd (v_cells204 : (List Int)) (v_progs205 : (List (List S_ringref5_Do))) (v_order206 : (List Int)) (v_r230 : ((List S_ringref5_Do))) (v_x231 : Int) (v_y245 : S_ringref5_Do) (v_w232 : (List S_ringref5_Do))  : PS := ⟨[.d (.sl (v_cells204.map (eI .u32))), .d (.sl (v_progs205.map (eL eS_ringref5_Do))), .d (.sl (v_order206.map (eI .i64))), dd, dd, dd, dd, dd, dd, dd, .ref 0 0, dd, dd, dd, dd, dd, dd, dd, dd, dd, dd, dd, dd, dd, dd, dd, dd, dd, dd, .srf 1, .d (.v (.int .i64 (v_r230.length : Int))), .d (.v (.int .i64 v_x231)), dd, dd, dd, dd, dd, dd, dd, dd, dd, dd, dd, dd, dd, dd, dd, dd, dd, dd, dd, dd, dd, dd, dd, dd, dd, dd, dd, dd, dd, dd, dd, dd, dd, dd, dd, dd, dd, dd, dd, dd, dd, dd, dd, dd, dd, dd, dd, dd, dd, dd, dd, dd, dd, dd, dd, dd, dd, dd, dd, dd, dd, dd, dd, dd, dd, dd, dd, dd, dd, dd, dd, dd, dd, dd, dd, dd, dd, dd, dd, dd, dd, dd, dd, dd, dd, dd, dd, dd, dd, dd, dd, dd, dd, dd, dd, dd, dd, dd, dd, dd, dd, dd, dd, dd, dd, dd, dd, dd, dd, dd, dd, dd, dd, dd, dd, dd, dd, dd, dd, dd, dd, dd], [.box [.d (.v (.int .i64 v_y245.fKind)), .d (.v (.int .i64 v_y245.fCell)), .d (.v (.int .i64 v_y245.fBy))], .row 30 3 (v_w232.map eS_ringref5_Do)]⟩
def G_ringref5_PlayOf_C1 (n : Nat) (v_cells204 : (List Int)) (v_progs205 : (List (List S_ringref5_Do))) (v_order206 : (List Int)) (v_r230 : ((List S_ringref5_Do))) (v_x231 : Int) (v_y245 : S_ringref5_Do) (v_w232 : (List S_ringref5_Do)) : Option G_ringref5_PlayOf_C1_R :=
  if v_y245.fKind < 1 then
   some (.x0 true v_w232)
  else
   if v_y245.fKind > 6 then
    some (.x0 true v_w232)
   else
    if v_y245.fCell < 0 then
     some (.x0 true v_w232)
    else
     some (.x0 (decide (v_y245.fCell ≥ (v_cells204.length : Int))) v_w232)
theorem G_ringref5_PlayOf_C1_ok {Fi : Ex → PS → Prop} (hF : KC 154 Fi) (ks : List Fr) (n : Nat) (v_cells204 : (List Int)) (v_progs205 : (List (List S_ringref5_Do))) (v_order206 : (List Int)) (v_r230 : ((List S_ringref5_Do))) (v_x231 : Int) (v_y245 : S_ringref5_Do) (v_w232 : (List S_ringref5_Do))  (o : G_ringref5_PlayOf_C1_R) (h : G_ringref5_PlayOf_C1 n v_cells204 v_progs205 v_order206 v_r230 v_x231 v_y245 v_w232 = some o) (q : RunE Try.prog 154 Fi ks (G_ringref5_PlayOf_C1_ex o) (G_ringref5_PlayOf_C1_st v_cells204 v_progs205 v_order206 v_r230 v_x231 v_y245 v_w232 o)) : RunE Try.prog 154 Fi (.s (cL (cR (cB (cL (cR (cR (cP (cB (cR (cL (cR (cR (bodyOf Try.f17))))))))))))) :: ks) .normal (G_ringref5_PlayOf_C1_hd v_cells204 v_progs205 v_order206 v_r230 v_x231 v_y245 v_w232) := by
  unfold G_ringref5_PlayOf_C1 at h
  by_cases h208 : v_y245.fKind < 1
  · rw [if_pos h208] at h
    cases h
    exact pkk_sound TTok mix hF 1 (hs := [.c, .t true, .c, .c, .c, .c, .c, .c, .c, .c, .c, .c]) (ts := []) (s := [1]) (l := [0, 1, 2, 29, 30, 31, 54]) (by kernel_rfl) (by kernel_rfl) (.cons (dt h208) .nil) q
  · rw [if_neg h208] at h
    by_cases h209 : v_y245.fKind > 6
    · rw [if_pos h209] at h
      cases h
      exact pkk_sound TTok mix hF 1 (hs := [.c, .t false, .c, .c, .c, .t true, .c, .c, .c, .c, .c, .c, .c]) (ts := []) (s := [1]) (l := [0, 1, 2, 29, 30, 31, 54]) (by kernel_rfl) (by kernel_rfl) (.cons (df h208) (.cons (dt h209) .nil)) q
    · rw [if_neg h209] at h
      by_cases h210 : v_y245.fCell < 0
      · rw [if_pos h210] at h
        cases h
        exact pkk_sound TTok mix hF 1 (hs := [.c, .t false, .c, .c, .c, .t false, .c, .c, .c, .t true, .c, .c, .c, .c]) (ts := []) (s := [1]) (l := [0, 1, 2, 29, 30, 31, 54]) (by kernel_rfl) (by kernel_rfl) (.cons (df h208) (.cons (df h209) (.cons (dt h210) .nil))) q
      · rw [if_neg h210] at h
        cases h
        exact pkk_sound TTok mix hF 1 (hs := [.c, .t false, .c, .c, .c, .t false, .c, .c, .c, .t false, .c, .c, .c, .c, .u (.d (.v (.int .i64 (v_cells204.length : Int)))), .c]) (ts := []) (s := [1]) (l := [0, 1, 2, 29, 30, 31, 54]) (by kernel_rfl) (by kernel_rfl) (.cons (df h208) (.cons (df h209) (.cons (df h210) (.cons (len_ob (f := (eI .u32)) (l := v_cells204)) .nil)))) q
inductive G_ringref5_PlayOf_L2_R where
  | x0 (v_x257 : Int)
  | x1 
def G_ringref5_PlayOf_L2_ex : G_ringref5_PlayOf_L2_R → Ex
  | .x0 _ => .ret
  | .x1  => .exit 0
def G_ringref5_PlayOf_L2_st (v_cells204 : (List Int)) (v_progs205 : (List (List S_ringref5_Do))) (v_order206 : (List Int)) (v_r230 : ((List S_ringref5_Do))) : G_ringref5_PlayOf_L2_R → PS
  | .x0 v_x257 => ⟨[dd, dd, dd, dd, dd, dd, .d (vnil), .d (vnil), .d (.v (.int .i64 v_x257)), dd, dd, dd, dd, dd, dd, dd, dd, dd, dd, dd, dd, dd, dd, dd, dd, dd, dd, dd, dd, dd, dd, dd, dd, dd, dd, dd, dd, dd, dd, dd, dd, dd, dd, dd, dd, dd, dd, dd, dd, dd, dd, dd, dd, dd, dd, dd, dd, dd, dd, dd, dd, dd, dd, dd, dd, dd, dd, dd, dd, dd, dd, dd, dd, dd, dd, dd, dd, dd, dd, dd, dd, dd, dd, dd, dd, dd, dd, dd, dd, dd, dd, dd, dd, dd, dd, dd, dd, dd, dd, dd, dd, dd, dd, dd, dd, dd, dd, dd, dd, dd, dd, dd, dd, dd, dd, dd, dd, dd, dd, dd, dd, dd, dd, dd, dd, dd, dd, dd, dd, dd, dd, dd, dd, dd, dd, dd, dd, dd, dd, dd, dd, dd, dd, dd, dd, dd, dd, dd, dd, dd, dd, dd, dd, dd], []⟩
  | .x1  => ⟨[.d (.sl (v_cells204.map (eI .u32))), .d (.sl (v_progs205.map (eL eS_ringref5_Do))), .d (.sl (v_order206.map (eI .i64))), dd, dd, dd, dd, dd, dd, dd, dd, dd, dd, dd, dd, dd, dd, dd, dd, dd, dd, dd, dd, dd, dd, dd, dd, dd, dd, dd, dd, dd, dd, dd, dd, dd, dd, dd, dd, dd, dd, dd, dd, dd, dd, dd, dd, dd, dd, dd, dd, dd, dd, dd, dd, dd, dd, dd, dd, dd, dd, dd, dd, dd, dd, dd, dd, dd, dd, dd, dd, dd, dd, dd, dd, dd, dd, dd, dd, dd, dd, dd, dd, dd, dd, dd, dd, dd, dd, dd, dd, dd, dd, dd, dd, dd, dd, dd, dd, dd, dd, dd, dd, dd, dd, dd, dd, dd, dd, dd, dd, dd, dd, dd, dd, dd, dd, dd, dd, dd, dd, dd, dd, dd, dd, dd, dd, dd, dd, dd, dd, dd, dd, dd, dd, dd, dd, dd, dd, dd, dd, dd, dd, dd, dd, dd, dd, dd, dd, dd, dd, dd, dd, dd], []⟩
def G_ringref5_PlayOf_L2_hd (v_cells204 : (List Int)) (v_progs205 : (List (List S_ringref5_Do))) (v_order206 : (List Int)) (v_r230 : ((List S_ringref5_Do))) (v_x231 : Int) (v_w232 : (List S_ringref5_Do)) : PS := ⟨[.d (.sl (v_cells204.map (eI .u32))), .d (.sl (v_progs205.map (eL eS_ringref5_Do))), .d (.sl (v_order206.map (eI .i64))), dd, dd, dd, dd, dd, dd, dd, dd, dd, dd, dd, dd, dd, dd, dd, dd, dd, dd, dd, dd, dd, dd, dd, dd, dd, dd, .srf 0, .d (.v (.int .i64 (v_r230.length : Int))), .d (.v (.int .i64 v_x231)), dd, dd, dd, dd, dd, dd, dd, dd, dd, dd, dd, dd, dd, dd, dd, dd, dd, dd, dd, dd, dd, dd, dd, dd, dd, dd, dd, dd, dd, dd, dd, dd, dd, dd, dd, dd, dd, dd, dd, dd, dd, dd, dd, dd, dd, dd, dd, dd, dd, dd, dd, dd, dd, dd, dd, dd, dd, dd, dd, dd, dd, dd, dd, dd, dd, dd, dd, dd, dd, dd, dd, dd, dd, dd, dd, dd, dd, dd, dd, dd, dd, dd, dd, dd, dd, dd, dd, dd, dd, dd, dd, dd, dd, dd, dd, dd, dd, dd, dd, dd, dd, dd, dd, dd, dd, dd, dd, dd, dd, dd, dd, dd, dd, dd, dd, dd, dd, dd, dd, dd, dd, dd], [.row 30 3 (v_w232.map eS_ringref5_Do)]⟩
def G_ringref5_PlayOf_L2 (n : Nat) (v_cells204 : (List Int)) (v_progs205 : (List (List S_ringref5_Do))) (v_order206 : (List Int)) (v_r230 : ((List S_ringref5_Do))) : Nat → Int → (List S_ringref5_Do) → Option G_ringref5_PlayOf_L2_R
  | 0, _, _ => none
  | k + 1, v_x231, v_w232 =>
    if v_x231 < (v_r230.length : Int) then
     if 0 ≤ v_x231 ∧ (v_x231).toNat < v_w232.length then
      (v_w232[(v_x231).toNat]?).bind fun (v_y245 : S_ringref5_Do) =>
      (G_ringref5_PlayOf_C1 n v_cells204 v_progs205 v_order206 v_r230 v_x231 v_y245 v_w232).bind fun v_o254 => match v_o254 with
      | .x0 v_z255 v_z256 =>
        if v_z255 = true then
         some (.x0 1)
        else
         G_ringref5_PlayOf_L2 n v_cells204 v_progs205 v_order206 v_r230 k (wi .i64 (v_x231 + 1)) v_z256
     else none
    else
     some (.x1 )
theorem G_ringref5_PlayOf_L2_ok {Fi : Ex → PS → Prop} (hF : KC 154 Fi) (ks : List Fr) (n : Nat) (v_cells204 : (List Int)) (v_progs205 : (List (List S_ringref5_Do))) (v_order206 : (List Int)) (v_r230 : ((List S_ringref5_Do)))  : ∀ (k : Nat) (v_x231 : Int) (v_w232 : (List S_ringref5_Do)) (o : G_ringref5_PlayOf_L2_R), G_ringref5_PlayOf_L2 n v_cells204 v_progs205 v_order206 v_r230 k v_x231 v_w232 = some o → RunE Try.prog 154 Fi ks (G_ringref5_PlayOf_L2_ex o) (G_ringref5_PlayOf_L2_st v_cells204 v_progs205 v_order206 v_r230 o) → RunE Try.prog 154 Fi (.l k (cP (cB (cR (cL (cR (cR (bodyOf Try.f17))))))) :: ks) .normal (G_ringref5_PlayOf_L2_hd v_cells204 v_progs205 v_order206 v_r230 v_x231 v_w232)
  | 0, v_x231, v_w232, o, h, q => by rw [G_ringref5_PlayOf_L2] at h; cases h
  | k + 1, v_x231, v_w232, o, h, q => by
    rw [G_ringref5_PlayOf_L2] at h
    by_cases h191 : v_x231 < (v_r230.length : Int)
    · rw [if_pos h191] at h
      by_cases h203 : 0 ≤ v_x231 ∧ (v_x231).toNat < v_w232.length
      · rw [if_pos h203] at h
        obtain ⟨v_y245, h204, h⟩ := bind_some h
        obtain ⟨v_o254, h211, h⟩ := bind_some h
        refine pkk_sound TTok mix hF 11 (hs := [.t true, .y (eS_ringref5_Do v_y245), .c]) (ts := []) (s := [10, 0]) (l := [0, 1, 2, 10, 29, 30, 31]) (by kernel_rfl) (by kernel_rfl) (.cons (dt h191) (.cons (idx_ob (f := eS_ringref5_Do) h203) (.cons (get_ob (f := eS_ringref5_Do) h204) (.cons (show 0 + 3 ≤ 3 by decide) .nil)))) (G_ringref5_PlayOf_C1_ok hF (.s (cR (cR (cB (cL (cR (cR (cP (cB (cR (cL (cR (cR (bodyOf Try.f17))))))))))))) :: .b 1 :: .s (cR (cR (cR (cP (cB (cR (cL (cR (cR (bodyOf Try.f17)))))))))) :: .l k (cP (cB (cR (cL (cR (cR (bodyOf Try.f17))))))) :: ks) n v_cells204 v_progs205 v_order206 v_r230 v_x231 v_y245 v_w232 _ h211 ?_)
        cases v_o254 with
        | x0 v_z255 v_z256 =>
          try dsimp only at h
          by_cases h213 : v_z255 = true
          · rw [if_pos h213] at h
            cases h
            exact pkk_sound TTok mix hF 7 (hs := [.t true]) (ts := []) (s := []) (l := [6, 7, 8]) (by kernel_rfl) (by kernel_rfl) (.cons h213 .nil) q
          · rw [if_neg h213] at h
            exact pkk_sound TTok mix hF 4 (hs := [.t false]) (ts := []) (s := [0]) (l := [0, 1, 2, 29, 30, 31]) (by kernel_rfl) (by kernel_rfl) (.cons (vf h213) .nil) (G_ringref5_PlayOf_L2_ok hF ks n v_cells204 v_progs205 v_order206 v_r230 k (wi .i64 (v_x231 + 1)) v_z256 _ h q)
      · rw [if_neg h203] at h; cases h
    · rw [if_neg h191] at h
      cases h
      exact pkk_sound TTok mix hF 8 (hs := [.t false]) (ts := []) (s := []) (l := [0, 1, 2]) (by kernel_rfl) (by kernel_rfl) (.cons (df h191) .nil) q
inductive G_ringref5_PlayOf_C3_R where
  | x0 (v_x400 : Bool) (v_w401 : (List Int)) (v_w402 : (List Int)) (v_w403 : (List (List S_ringref5_Do)))
def G_ringref5_PlayOf_C3_ex : G_ringref5_PlayOf_C3_R → Ex
  | .x0 _ _ _ _ => .normal
def G_ringref5_PlayOf_C3_st (v_y398 : Int) (v_order206 : (List Int)) (v_x270 : Int) (v_w271 : (List Int)) (v_w272 : (List Int)) (v_w273 : (List (List S_ringref5_Do))) : G_ringref5_PlayOf_C3_R → PS
  | .x0 v_x400 v_w401 v_w402 v_w403 => ⟨[dd, dd, dd, dd, dd, dd, dd, dd, dd, dd, dd, .srf 0, .srf 1, .srf 2, dd, .d (.v (.int .i64 v_y398)), dd, dd, dd, dd, dd, dd, dd, dd, dd, dd, dd, dd, dd, dd, dd, dd, dd, dd, dd, dd, dd, dd, dd, dd, dd, dd, dd, dd, dd, dd, dd, dd, dd, dd, dd, dd, dd, dd, dd, dd, dd, dd, dd, dd, dd, dd, dd, .d (.sl (v_order206.map (eI .i64))), .d (.v (.int .i64 (v_order206.length : Int))), .d (.v (.int .i64 v_x270)), dd, dd, dd, dd, dd, dd, dd, dd, dd, dd, dd, dd, dd, dd, dd, dd, dd, dd, .d (.v (.bool v_x400)), dd, dd, dd, dd, dd, dd, dd, dd, dd, dd, dd, dd, dd, dd, dd, dd, dd, dd, dd, dd, dd, dd, dd, dd, dd, dd, dd, dd, dd, dd, dd, dd, dd, dd, dd, dd, dd, dd, dd, dd, dd, dd, dd, dd, dd, dd, dd, dd, dd, dd, dd, dd, dd, dd, dd, dd, dd, dd, dd, dd, dd, dd, dd, dd, dd, dd, dd, dd, dd], [.row 37 1 (v_w401.map (eI .u32)), .row 37 1 (v_w402.map (eI .u32)), .row 27 1 (v_w403.map (eL eS_ringref5_Do))]⟩
def G_ringref5_PlayOf_C3_hd (v_y398 : Int) (v_order206 : (List Int)) (v_x270 : Int) (v_w271 : (List Int)) (v_w272 : (List Int)) (v_w273 : (List (List S_ringref5_Do)))  : PS := ⟨[dd, dd, dd, dd, dd, dd, dd, dd, dd, dd, dd, .srf 0, .srf 1, .srf 2, dd, .d (.v (.int .i64 v_y398)), dd, dd, dd, dd, dd, dd, dd, dd, dd, dd, dd, dd, dd, dd, dd, dd, dd, dd, dd, dd, dd, dd, dd, dd, dd, dd, dd, dd, dd, dd, dd, dd, dd, dd, dd, dd, dd, dd, dd, dd, dd, dd, dd, dd, dd, dd, dd, .d (.sl (v_order206.map (eI .i64))), .d (.v (.int .i64 (v_order206.length : Int))), .d (.v (.int .i64 v_x270)), dd, dd, dd, dd, dd, dd, dd, dd, dd, dd, dd, dd, dd, dd, dd, dd, dd, dd, dd, dd, dd, dd, dd, dd, dd, dd, dd, dd, dd, dd, dd, dd, dd, dd, dd, dd, dd, dd, dd, dd, dd, dd, dd, dd, dd, dd, dd, dd, dd, dd, dd, dd, dd, dd, dd, dd, dd, dd, dd, dd, dd, dd, dd, dd, dd, dd, dd, dd, dd, dd, dd, dd, dd, dd, dd, dd, dd, dd, dd, dd, dd, dd, dd, dd, dd, dd, dd, dd], [.row 37 1 (v_w271.map (eI .u32)), .row 37 1 (v_w272.map (eI .u32)), .row 27 1 (v_w273.map (eL eS_ringref5_Do))]⟩
def G_ringref5_PlayOf_C3 (n : Nat) (v_y398 : Int) (v_order206 : (List Int)) (v_x270 : Int) (v_w271 : (List Int)) (v_w272 : (List Int)) (v_w273 : (List (List S_ringref5_Do))) : Option G_ringref5_PlayOf_C3_R :=
  if v_y398 < 0 then
   some (.x0 true v_w271 v_w272 v_w273)
  else
   if v_y398 ≥ (v_w273.length : Int) then
    some (.x0 true v_w271 v_w272 v_w273)
   else
    if 0 ≤ v_y398 ∧ (v_y398).toNat < v_w273.length then
     (v_w273[(v_y398).toNat]?).bind fun (v_y408 : (List S_ringref5_Do)) =>
     some (.x0 ((v_y408.length : Int) == 0) v_w271 v_w272 v_w273)
    else none
theorem G_ringref5_PlayOf_C3_ok {Fi : Ex → PS → Prop} (hF : KC 154 Fi) (ks : List Fr) (n : Nat) (v_y398 : Int) (v_order206 : (List Int)) (v_x270 : Int) (v_w271 : (List Int)) (v_w272 : (List Int)) (v_w273 : (List (List S_ringref5_Do)))  (o : G_ringref5_PlayOf_C3_R) (h : G_ringref5_PlayOf_C3 n v_y398 v_order206 v_x270 v_w271 v_w272 v_w273 = some o) (q : RunE Try.prog 154 Fi ks (G_ringref5_PlayOf_C3_ex o) (G_ringref5_PlayOf_C3_st v_y398 v_order206 v_x270 v_w271 v_w272 v_w273 o)) : RunE Try.prog 154 Fi (.s (cL (cL (cR (cB (cL (cR (cR (cP (cB (cR (cL (cR (cR (cR (cR (cR (bodyOf Try.f17))))))))))))))))) :: ks) .normal (G_ringref5_PlayOf_C3_hd v_y398 v_order206 v_x270 v_w271 v_w272 v_w273) := by
  unfold G_ringref5_PlayOf_C3 at h
  by_cases h288 : v_y398 < 0
  · rw [if_pos h288] at h
    cases h
    exact pkk_sound TTok mix hF 1 (hs := [.t true, .c, .c, .c, .c, .c, .c, .c, .c, .c]) (ts := []) (s := [0, 1, 2]) (l := [11, 12, 13, 15, 63, 64, 65, 84]) (by kernel_rfl) (by kernel_rfl) (.cons (dt h288) .nil) q
  · rw [if_neg h288] at h
    by_cases h289 : v_y398 ≥ (v_w273.length : Int)
    · rw [if_pos h289] at h
      cases h
      exact pkk_sound TTok mix hF 1 (hs := [.t false, .c, .c, .u (.d (.v (.int .i64 (v_w273.length : Int)))), .c, .t true, .c, .c, .c, .c, .c]) (ts := []) (s := [0, 1, 2]) (l := [11, 12, 13, 15, 63, 64, 65, 84]) (by kernel_rfl) (by kernel_rfl) (.cons (df h288) (.cons (len_ob (f := (eL eS_ringref5_Do)) (l := v_w273)) (.cons (dt h289) .nil))) q
    · rw [if_neg h289] at h
      by_cases h290 : 0 ≤ v_y398 ∧ (v_y398).toNat < v_w273.length
      · rw [if_pos h290] at h
        obtain ⟨v_y408, h291, h⟩ := bind_some h
        cases h
        exact pkk_sound TTok mix hF 1 (hs := [.t false, .c, .c, .u (.d (.v (.int .i64 (v_w273.length : Int)))), .c, .t false, .c, .c, .c, .y ((eL eS_ringref5_Do) v_y408), .c, .u (.d (.v (.int .i64 (v_y408.length : Int)))), .c]) (ts := []) (s := [0, 1, 2]) (l := [11, 12, 13, 15, 63, 64, 65, 84]) (by kernel_rfl) (by kernel_rfl) (.cons (df h288) (.cons (len_ob (f := (eL eS_ringref5_Do)) (l := v_w273)) (.cons (df h289) (.cons (idx_ob (f := (eL eS_ringref5_Do)) h290) (.cons (get_ob (f := (eL eS_ringref5_Do)) h291) (.cons (len_ob (f := eS_ringref5_Do) (l := v_y408)) .nil)))))) q
      · rw [if_neg h290] at h; cases h
inductive G_ringref5_PlayOf_C4_R where
  | x0 (v_c473 : Int) (v_h474 : Int) (v_w475 : (List Int)) (v_w476 : (List Int)) (v_w477 : (List (List S_ringref5_Do)))
def G_ringref5_PlayOf_C4_ex : G_ringref5_PlayOf_C4_R → Ex
  | .x0 _ _ _ _ _ => .normal
def G_ringref5_PlayOf_C4_st (v_y398 : Int) (v_y424 : Int) (v_y425 : Int) (v_r426 : (Int)) (v_order206 : (List Int)) (v_x270 : Int) (v_y420 : S_ringref5_Do) (v_z415 : (List Int)) (v_z416 : (List Int)) (v_z417 : (List (List S_ringref5_Do))) (v_s422 : (List S_ringref5_Do)) : G_ringref5_PlayOf_C4_R → PS
  | .x0 v_c473 v_h474 v_w475 v_w476 v_w477 => ⟨[dd, dd, dd, dd, dd, dd, dd, dd, dd, dd, dd, .srf 0, .srf 1, .srf 2, dd, .d (.v (.int .i64 v_y398)), .ref 3 0, .d (.v (.int .u32 v_c473)), .d (.v (.int .u32 v_h474)), dd, dd, dd, dd, dd, dd, dd, dd, dd, dd, dd, dd, dd, dd, dd, dd, dd, dd, dd, dd, dd, dd, dd, dd, dd, dd, dd, dd, dd, dd, dd, dd, dd, dd, dd, dd, dd, dd, dd, dd, dd, dd, dd, dd, .d (.sl (v_order206.map (eI .i64))), .d (.v (.int .i64 (v_order206.length : Int))), .d (.v (.int .i64 v_x270)), dd, dd, dd, dd, dd, dd, dd, dd, dd, dd, dd, dd, dd, dd, dd, dd, dd, dd, dd, dd, dd, dd, dd, dd, dd, dd, dd, dd, dd, dd, dd, dd, dd, dd, dd, dd, dd, dd, dd, dd, dd, dd, dd, dd, dd, dd, dd, dd, dd, dd, dd, dd, dd, dd, dd, dd, dd, dd, dd, dd, dd, dd, dd, dd, dd, dd, dd, dd, dd, dd, dd, dd, dd, dd, dd, dd, dd, dd, dd, dd, dd, dd, dd, dd, dd, dd, dd, dd], [.row 37 1 (v_w475.map (eI .u32)), .row 37 1 (v_w476.map (eI .u32)), .row 27 1 (v_w477.map (eL eS_ringref5_Do)), .box [.d (.v (.int .i64 v_y420.fKind)), .d (.v (.int .i64 v_y420.fCell)), .d (.v (.int .i64 v_y420.fBy))]]⟩
def G_ringref5_PlayOf_C4_hd (v_y398 : Int) (v_y424 : Int) (v_y425 : Int) (v_r426 : (Int)) (v_order206 : (List Int)) (v_x270 : Int) (v_y420 : S_ringref5_Do) (v_z415 : (List Int)) (v_z416 : (List Int)) (v_z417 : (List (List S_ringref5_Do))) (v_s422 : (List S_ringref5_Do))  : PS := ⟨[dd, dd, dd, dd, dd, dd, dd, dd, dd, dd, dd, .srf 0, .srf 1, .srf 2, dd, .d (.v (.int .i64 v_y398)), .ref 3 0, .d (.v (.int .u32 v_y424)), .d (.v (.int .u32 v_y425)), .d (.v (.int .u32 (wi .u32 v_r426))), dd, dd, dd, dd, dd, dd, dd, dd, dd, dd, dd, dd, dd, dd, dd, dd, dd, dd, dd, dd, dd, dd, dd, dd, dd, dd, dd, dd, dd, dd, dd, dd, dd, dd, dd, dd, dd, dd, dd, dd, dd, dd, dd, .d (.sl (v_order206.map (eI .i64))), .d (.v (.int .i64 (v_order206.length : Int))), .d (.v (.int .i64 v_x270)), dd, dd, dd, dd, dd, dd, dd, dd, dd, dd, dd, dd, dd, dd, dd, dd, dd, dd, dd, dd, dd, dd, dd, dd, dd, dd, dd, dd, dd, dd, dd, dd, dd, dd, dd, dd, dd, dd, dd, dd, dd, dd, dd, dd, dd, dd, dd, .d (.v (.int .i64 v_y420.fKind)), .d (.v (.bool (v_y420.fKind == 1))), dd, dd, dd, dd, dd, dd, dd, dd, dd, dd, dd, dd, dd, dd, dd, dd, dd, dd, dd, dd, dd, dd, dd, dd, dd, dd, dd, dd, dd, dd, dd, dd, dd, dd, dd, dd, dd, dd, dd], [.row 37 1 (v_z415.map (eI .u32)), .row 37 1 (v_z416.map (eI .u32)), .row 27 1 ((v_z417.set (v_y398).toNat v_s422).map (eL eS_ringref5_Do)), .box [.d (.v (.int .i64 v_y420.fKind)), .d (.v (.int .i64 v_y420.fCell)), .d (.v (.int .i64 v_y420.fBy))]]⟩
def G_ringref5_PlayOf_C4 (n : Nat) (v_y398 : Int) (v_y424 : Int) (v_y425 : Int) (v_r426 : (Int)) (v_order206 : (List Int)) (v_x270 : Int) (v_y420 : S_ringref5_Do) (v_z415 : (List Int)) (v_z416 : (List Int)) (v_z417 : (List (List S_ringref5_Do))) (v_s422 : (List S_ringref5_Do)) : Option G_ringref5_PlayOf_C4_R :=
  if v_y420.fKind = 1 then
   some (.x0 v_y424 v_y424 v_z415 v_z416 (v_z417.set (v_y398).toNat v_s422))
  else
   if v_y420.fKind = 2 then
    some (.x0 v_y425 v_y425 v_z415 v_z416 (v_z417.set (v_y398).toNat v_s422))
   else
    if v_y420.fKind = 3 then
     some (.x0 v_y424 (wi .u32 (v_y425 + (wi .u32 v_r426))) v_z415 v_z416 (v_z417.set (v_y398).toNat v_s422))
    else
     if v_y420.fKind = 4 then
      some (.x0 (wi .u32 (v_y424 + (wi .u32 v_r426))) v_y424 v_z415 v_z416 (v_z417.set (v_y398).toNat v_s422))
     else
      if v_y420.fKind = 5 then
       some (.x0 v_y425 v_y424 v_z415 v_z416 (v_z417.set (v_y398).toNat v_s422))
      else
       if v_y420.fKind = 6 then
        if v_y424 = v_y425 then
         some (.x0 (wi .u32 v_r426) v_y425 v_z415 v_z416 (v_z417.set (v_y398).toNat v_s422))
        else
         some (.x0 v_y424 v_y424 v_z415 v_z416 (v_z417.set (v_y398).toNat v_s422))
       else
        some (.x0 v_y424 v_y425 v_z415 v_z416 (v_z417.set (v_y398).toNat v_s422))
theorem G_ringref5_PlayOf_C4_ok {Fi : Ex → PS → Prop} (hF : KC 154 Fi) (ks : List Fr) (n : Nat) (v_y398 : Int) (v_y424 : Int) (v_y425 : Int) (v_r426 : (Int)) (v_order206 : (List Int)) (v_x270 : Int) (v_y420 : S_ringref5_Do) (v_z415 : (List Int)) (v_z416 : (List Int)) (v_z417 : (List (List S_ringref5_Do))) (v_s422 : (List S_ringref5_Do))  (o : G_ringref5_PlayOf_C4_R) (h : G_ringref5_PlayOf_C4 n v_y398 v_y424 v_y425 v_r426 v_order206 v_x270 v_y420 v_z415 v_z416 v_z417 v_s422 = some o) (q : RunE Try.prog 154 Fi ks (G_ringref5_PlayOf_C4_ex o) (G_ringref5_PlayOf_C4_st v_y398 v_y424 v_y425 v_r426 v_order206 v_x270 v_y420 v_z415 v_z416 v_z417 v_s422 o)) : RunE Try.prog 154 Fi (.s (cR (cB (cR (cL (cR (cR (cR (cR (cR (cR (cB (cL (cR (cR (cP (cB (cR (cL (cR (cR (cR (cR (cR (bodyOf Try.f17)))))))))))))))))))))))) :: ks) .normal (G_ringref5_PlayOf_C4_hd v_y398 v_y424 v_y425 v_r426 v_order206 v_x270 v_y420 v_z415 v_z416 v_z417 v_s422) := by
  unfold G_ringref5_PlayOf_C4 at h
  by_cases h330 : v_y420.fKind = 1
  · rw [if_pos h330] at h
    cases h
    exact pkk_sound TTok mix hF 2 (hs := [.t true]) (ts := []) (s := [0, 1, 2, 3]) (l := [11, 12, 13, 15, 16, 17, 18, 63, 64, 65]) (by kernel_rfl) (by kernel_rfl) (.cons (bt h330) .nil) q
  · rw [if_neg h330] at h
    by_cases h331 : v_y420.fKind = 2
    · rw [if_pos h331] at h
      cases h
      exact pkk_sound TTok mix hF 5 (hs := [.t false, .t true]) (ts := []) (s := [0, 1, 2, 3]) (l := [11, 12, 13, 15, 16, 17, 18, 63, 64, 65]) (by kernel_rfl) (by kernel_rfl) (.cons (bf h330) (.cons (bt h331) .nil)) q
    · rw [if_neg h331] at h
      by_cases h332 : v_y420.fKind = 3
      · rw [if_pos h332] at h
        cases h
        exact pkk_sound TTok mix hF 8 (hs := [.t false, .t false, .t true]) (ts := []) (s := [0, 1, 2, 3]) (l := [11, 12, 13, 15, 16, 17, 18, 63, 64, 65]) (by kernel_rfl) (by kernel_rfl) (.cons (bf h330) (.cons (bf h331) (.cons (bt h332) .nil))) q
      · rw [if_neg h332] at h
        by_cases h333 : v_y420.fKind = 4
        · rw [if_pos h333] at h
          cases h
          exact pkk_sound TTok mix hF 11 (hs := [.t false, .t false, .t false, .t true]) (ts := []) (s := [0, 1, 2, 3]) (l := [11, 12, 13, 15, 16, 17, 18, 63, 64, 65]) (by kernel_rfl) (by kernel_rfl) (.cons (bf h330) (.cons (bf h331) (.cons (bf h332) (.cons (bt h333) .nil)))) q
        · rw [if_neg h333] at h
          by_cases h334 : v_y420.fKind = 5
          · rw [if_pos h334] at h
            cases h
            exact pkk_sound TTok mix hF 14 (hs := [.t false, .t false, .t false, .t false, .t true]) (ts := []) (s := [0, 1, 2, 3]) (l := [11, 12, 13, 15, 16, 17, 18, 63, 64, 65]) (by kernel_rfl) (by kernel_rfl) (.cons (bf h330) (.cons (bf h331) (.cons (bf h332) (.cons (bf h333) (.cons (bt h334) .nil))))) q
          · rw [if_neg h334] at h
            by_cases h335 : v_y420.fKind = 6
            · rw [if_pos h335] at h
              by_cases h336 : v_y424 = v_y425
              · rw [if_pos h336] at h
                cases h
                exact pkk_sound TTok mix hF 20 (hs := [.t false, .t false, .t false, .t false, .t false, .t true, .t true]) (ts := []) (s := [0, 1, 2, 3]) (l := [11, 12, 13, 15, 16, 17, 18, 63, 64, 65]) (by kernel_rfl) (by kernel_rfl) (.cons (bf h330) (.cons (bf h331) (.cons (bf h332) (.cons (bf h333) (.cons (bf h334) (.cons (bt h335) (.cons (bt h336) .nil))))))) q
              · rw [if_neg h336] at h
                cases h
                exact pkk_sound TTok mix hF 20 (hs := [.t false, .t false, .t false, .t false, .t false, .t true, .t false]) (ts := []) (s := [0, 1, 2, 3]) (l := [11, 12, 13, 15, 16, 17, 18, 63, 64, 65]) (by kernel_rfl) (by kernel_rfl) (.cons (bf h330) (.cons (bf h331) (.cons (bf h332) (.cons (bf h333) (.cons (bf h334) (.cons (bt h335) (.cons (bf h336) .nil))))))) q
            · rw [if_neg h335] at h
              cases h
              exact pkk_sound TTok mix hF 17 (hs := [.t false, .t false, .t false, .t false, .t false, .t false]) (ts := []) (s := [0, 1, 2, 3]) (l := [11, 12, 13, 15, 16, 17, 18, 63, 64, 65]) (by kernel_rfl) (by kernel_rfl) (.cons (bf h330) (.cons (bf h331) (.cons (bf h332) (.cons (bf h333) (.cons (bf h334) (.cons (bf h335) .nil)))))) q
inductive G_ringref5_PlayOf_L5_R where
  | x0 (v_x418 : Int)
  | x1 (v_w521 : (List Int)) (v_w522 : (List Int))
def G_ringref5_PlayOf_L5_ex : G_ringref5_PlayOf_L5_R → Ex
  | .x0 _ => .ret
  | .x1 _ _ => .exit 2
def G_ringref5_PlayOf_L5_st (v_order206 : (List Int)) : G_ringref5_PlayOf_L5_R → PS
  | .x0 v_x418 => ⟨[dd, dd, dd, dd, dd, dd, .d (vnil), .d (vnil), .d (.v (.int .i64 v_x418)), dd, dd, dd, dd, dd, dd, dd, dd, dd, dd, dd, dd, dd, dd, dd, dd, dd, dd, dd, dd, dd, dd, dd, dd, dd, dd, dd, dd, dd, dd, dd, dd, dd, dd, dd, dd, dd, dd, dd, dd, dd, dd, dd, dd, dd, dd, dd, dd, dd, dd, dd, dd, dd, dd, dd, dd, dd, dd, dd, dd, dd, dd, dd, dd, dd, dd, dd, dd, dd, dd, dd, dd, dd, dd, dd, dd, dd, dd, dd, dd, dd, dd, dd, dd, dd, dd, dd, dd, dd, dd, dd, dd, dd, dd, dd, dd, dd, dd, dd, dd, dd, dd, dd, dd, dd, dd, dd, dd, dd, dd, dd, dd, dd, dd, dd, dd, dd, dd, dd, dd, dd, dd, dd, dd, dd, dd, dd, dd, dd, dd, dd, dd, dd, dd, dd, dd, dd, dd, dd, dd, dd, dd, dd, dd, dd], []⟩
  | .x1 v_w521 v_w522 => ⟨[dd, dd, dd, dd, dd, dd, dd, dd, dd, dd, dd, .srf 0, .srf 1, dd, dd, dd, dd, dd, dd, dd, dd, dd, dd, dd, dd, dd, dd, dd, dd, dd, dd, dd, dd, dd, dd, dd, dd, dd, dd, dd, dd, dd, dd, dd, dd, dd, dd, dd, dd, dd, dd, dd, dd, dd, dd, dd, dd, dd, dd, dd, dd, dd, dd, dd, dd, dd, dd, dd, dd, dd, dd, dd, dd, dd, dd, dd, dd, dd, dd, dd, dd, dd, dd, dd, dd, dd, dd, dd, dd, dd, dd, dd, dd, dd, dd, dd, dd, dd, dd, dd, dd, dd, dd, dd, dd, dd, dd, dd, dd, dd, dd, dd, dd, dd, dd, dd, dd, dd, dd, dd, dd, dd, dd, dd, dd, dd, dd, dd, dd, dd, dd, dd, dd, dd, dd, dd, dd, dd, dd, dd, dd, dd, dd, dd, dd, dd, dd, dd, dd, dd, dd, dd, dd, dd], [.row 37 1 (v_w521.map (eI .u32)), .row 37 1 (v_w522.map (eI .u32))]⟩
def G_ringref5_PlayOf_L5_hd (v_order206 : (List Int)) (v_x270 : Int) (v_w271 : (List Int)) (v_w272 : (List Int)) (v_w273 : (List (List S_ringref5_Do))) : PS := ⟨[dd, dd, dd, dd, dd, dd, dd, dd, dd, dd, dd, .srf 0, .srf 1, .srf 2, dd, dd, dd, dd, dd, dd, dd, dd, dd, dd, dd, dd, dd, dd, dd, dd, dd, dd, dd, dd, dd, dd, dd, dd, dd, dd, dd, dd, dd, dd, dd, dd, dd, dd, dd, dd, dd, dd, dd, dd, dd, dd, dd, dd, dd, dd, dd, dd, dd, .d (.sl (v_order206.map (eI .i64))), .d (.v (.int .i64 (v_order206.length : Int))), .d (.v (.int .i64 v_x270)), dd, dd, dd, dd, dd, dd, dd, dd, dd, dd, dd, dd, dd, dd, dd, dd, dd, dd, dd, dd, dd, dd, dd, dd, dd, dd, dd, dd, dd, dd, dd, dd, dd, dd, dd, dd, dd, dd, dd, dd, dd, dd, dd, dd, dd, dd, dd, dd, dd, dd, dd, dd, dd, dd, dd, dd, dd, dd, dd, dd, dd, dd, dd, dd, dd, dd, dd, dd, dd, dd, dd, dd, dd, dd, dd, dd, dd, dd, dd, dd, dd, dd, dd, dd, dd, dd, dd, dd], [.row 37 1 (v_w271.map (eI .u32)), .row 37 1 (v_w272.map (eI .u32)), .row 27 1 (v_w273.map (eL eS_ringref5_Do))]⟩
def G_ringref5_PlayOf_L5 (n : Nat) (v_order206 : (List Int)) : Nat → Int → (List Int) → (List Int) → (List (List S_ringref5_Do)) → Option G_ringref5_PlayOf_L5_R
  | 0, _, _, _, _ => none
  | k + 1, v_x270, v_w271, v_w272, v_w273 =>
    if v_x270 < (v_order206.length : Int) then
     (getI v_order206 v_x270).bind fun (v_y398 : Int) =>
     (G_ringref5_PlayOf_C3 n v_y398 v_order206 v_x270 v_w271 v_w272 v_w273).bind fun v_o413 => match v_o413 with
     | .x0 v_z414 v_z415 v_z416 v_z417 =>
       if v_z414 = true then
        some (.x0 3)
       else
        if 0 ≤ v_y398 ∧ (v_y398).toNat < v_z417.length then
         (v_z417[(v_y398).toNat]?).bind fun (v_y419 : (List S_ringref5_Do)) =>
         (getI v_y419 0).bind fun (v_y420 : S_ringref5_Do) =>
         if 0 ≤ v_y398 ∧ (v_y398).toNat < v_z417.length then
          (v_z417[(v_y398).toNat]?).bind fun (v_y421 : (List S_ringref5_Do)) =>
          (sub v_y421 1 (v_y421.length : Int)).bind fun (v_s422 : (List S_ringref5_Do)) =>
          if 0 ≤ v_y398 ∧ (v_y398).toNat < v_z417.length then
           (v_z417[(v_y398).toNat]?).bind fun (v_y423 : (List S_ringref5_Do)) =>
           if 0 ≤ v_y420.fCell ∧ (v_y420.fCell).toNat < v_z415.length then
            (v_z415[(v_y420.fCell).toNat]?).bind fun (v_y424 : Int) =>
            if 0 ≤ v_y398 ∧ (v_y398).toNat < v_z416.length then
             (v_z416[(v_y398).toNat]?).bind fun (v_y425 : Int) =>
             (G_ringref5_Rest n v_y420.fBy 4294967296).bind fun (v_r426 : (Int)) =>
             (G_ringref5_PlayOf_C4 n v_y398 v_y424 v_y425 v_r426 v_order206 v_x270 v_y420 v_z415 v_z416 v_z417 v_s422).bind fun v_o513 => match v_o513 with
             | .x0 v_z514 v_z515 v_z516 v_z517 v_z518 =>
               if 0 ≤ v_y420.fCell ∧ (v_y420.fCell).toNat < v_z516.length then
                (v_z516[(v_y420.fCell).toNat]?).bind fun (v_y519 : Int) =>
                if 0 ≤ v_y398 ∧ (v_y398).toNat < v_z517.length then
                 (v_z517[(v_y398).toNat]?).bind fun (v_y520 : Int) =>
                 G_ringref5_PlayOf_L5 n v_order206 k (wi .i64 (v_x270 + 1)) (v_z516.set (v_y420.fCell).toNat v_z514) (v_z517.set (v_y398).toNat v_z515) v_z518
                else none
               else none
            else none
           else none
          else none
         else none
        else none
    else
     some (.x1 v_w271 v_w272)
theorem G_ringref5_PlayOf_L5_ok {Fi : Ex → PS → Prop} (hF : KC 154 Fi) (ks : List Fr) (n : Nat) (v_order206 : (List Int))  : ∀ (k : Nat) (v_x270 : Int) (v_w271 : (List Int)) (v_w272 : (List Int)) (v_w273 : (List (List S_ringref5_Do))) (o : G_ringref5_PlayOf_L5_R), G_ringref5_PlayOf_L5 n v_order206 k v_x270 v_w271 v_w272 v_w273 = some o → RunE Try.prog 154 Fi ks (G_ringref5_PlayOf_L5_ex o) (G_ringref5_PlayOf_L5_st v_order206 o) → RunE Try.prog 154 Fi (.l k (cP (cB (cR (cL (cR (cR (cR (cR (cR (bodyOf Try.f17)))))))))) :: ks) .normal (G_ringref5_PlayOf_L5_hd v_order206 v_x270 v_w271 v_w272 v_w273)
  | 0, v_x270, v_w271, v_w272, v_w273, o, h, q => by rw [G_ringref5_PlayOf_L5] at h; cases h
  | k + 1, v_x270, v_w271, v_w272, v_w273, o, h, q => by
    rw [G_ringref5_PlayOf_L5] at h
    by_cases h220 : v_x270 < (v_order206.length : Int)
    · rw [if_pos h220] at h
      obtain ⟨v_y398, h283, h⟩ := bind_some h
      obtain ⟨v_o413, h292, h⟩ := bind_some h
      refine pkk_sound TTok mix hF 12 (hs := [.t true, .y ((eI .i64) v_y398), .c]) (ts := []) (s := [0, 1, 2]) (l := [11, 12, 13, 15, 63, 64, 65]) (by kernel_rfl) (by kernel_rfl) (.cons (dt h220) (.cons (getI_ob (f := (eI .i64)) h283) .nil)) (G_ringref5_PlayOf_C3_ok hF (.s (cR (cL (cR (cB (cL (cR (cR (cP (cB (cR (cL (cR (cR (cR (cR (cR (bodyOf Try.f17))))))))))))))))) :: .s (cR (cR (cB (cL (cR (cR (cP (cB (cR (cL (cR (cR (cR (cR (cR (bodyOf Try.f17)))))))))))))))) :: .b 3 :: .s (cR (cR (cR (cP (cB (cR (cL (cR (cR (cR (cR (cR (bodyOf Try.f17))))))))))))) :: .l k (cP (cB (cR (cL (cR (cR (cR (cR (cR (bodyOf Try.f17)))))))))) :: ks) n v_y398 v_order206 v_x270 v_w271 v_w272 v_w273 _ h292 ?_)
      cases v_o413 with
      | x0 v_z414 v_z415 v_z416 v_z417 =>
        try dsimp only at h
        by_cases h294 : v_z414 = true
        · rw [if_pos h294] at h
          cases h
          exact pkk_sound TTok mix hF 8 (hs := [.t true]) (ts := []) (s := []) (l := [6, 7, 8]) (by kernel_rfl) (by kernel_rfl) (.cons h294 .nil) q
        · rw [if_neg h294] at h
          by_cases h295 : 0 ≤ v_y398 ∧ (v_y398).toNat < v_z417.length
          · rw [if_pos h295] at h
            obtain ⟨v_y419, h296, h⟩ := bind_some h
            obtain ⟨v_y420, h297, h⟩ := bind_some h
            by_cases h298 : 0 ≤ v_y398 ∧ (v_y398).toNat < v_z417.length
            · rw [if_pos h298] at h
              obtain ⟨v_y421, h299, h⟩ := bind_some h
              obtain ⟨v_s422, h300, h⟩ := bind_some h
              by_cases h301 : 0 ≤ v_y398 ∧ (v_y398).toNat < v_z417.length
              · rw [if_pos h301] at h
                obtain ⟨v_y423, h302, h⟩ := bind_some h
                by_cases h303 : 0 ≤ v_y420.fCell ∧ (v_y420.fCell).toNat < v_z415.length
                · rw [if_pos h303] at h
                  obtain ⟨v_y424, h304, h⟩ := bind_some h
                  by_cases h305 : 0 ≤ v_y398 ∧ (v_y398).toNat < v_z416.length
                  · rw [if_pos h305] at h
                    obtain ⟨v_y425, h306, h⟩ := bind_some h
                    obtain ⟨v_r426, h307, h⟩ := bind_some h
                    obtain ⟨v_o513, h337, h⟩ := bind_some h
                    refine pkk_sound TTok mix hF 16 (hs := [.t false, .y ((eL eS_ringref5_Do) v_y419), .y (eS_ringref5_Do v_y420), .c, .y ((eL eS_ringref5_Do) v_y421), .w (v_s422.map eS_ringref5_Do), .w ((v_z417.set (v_y398).toNat v_s422).map (eL eS_ringref5_Do)), .y ((eL eS_ringref5_Do) v_y423), .c, .y ((eI .u32) v_y424), .y ((eI .u32) v_y425), .c, .r ((eI .i64) v_r426), .c]) (ts := []) (s := [0, 1, 2, 21]) (l := [11, 12, 13, 15, 16, 17, 18, 19, 63, 64, 65, 113, 114]) (by kernel_rfl) (by kernel_rfl) (.cons (vf h294) (.cons (idx_ob (f := (eL eS_ringref5_Do)) h295) (.cons (get_ob (f := (eL eS_ringref5_Do)) h296) (.cons (getI_ob (f := eS_ringref5_Do) h297) (.cons (show 0 + 3 ≤ 3 by decide) (.cons (idx_ob (f := (eL eS_ringref5_Do)) h298) (.cons (get_ob (f := (eL eS_ringref5_Do)) h299) (.cons (sub_ob' (f := eS_ringref5_Do) (s := 3) h300 (fun _ => rfl)).1 (.cons (sub_ob' (f := eS_ringref5_Do) (s := 3) h300 (fun _ => rfl)).2.1 (.cons (sub_ob' (f := eS_ringref5_Do) (s := 3) h300 (fun _ => rfl)).2.2.1 (.cons (sub_ob' (f := eS_ringref5_Do) (s := 3) h300 (fun _ => rfl)).2.2.2.1 (.cons (sub_ob' (f := eS_ringref5_Do) (s := 3) h300 (fun _ => rfl)).2.2.2.2 (.cons (idx_ob (f := (eL eS_ringref5_Do)) h301) (.cons (get_ob (f := (eL eS_ringref5_Do)) h302) (.cons (Eq.refl (pcells (.sl (v_s422.map eS_ringref5_Do)))) (.cons (set_ob (f := (eL eS_ringref5_Do)) (l := v_z417) (k := (v_y398).toNat) (z := v_s422) (p := .sl (v_s422.map eS_ringref5_Do)) rfl) (.cons (idx_ob (f := (eI .u32)) h303) (.cons (get_ob (f := (eI .u32)) h304) (.cons (idx_ob (f := (eI .u32)) h305) (.cons (get_ob (f := (eI .u32)) h306) (.cons (G_ringref5_Rest_ok n v_y420.fBy 4294967296 _ h307) .nil))))))))))))))))))))) (G_ringref5_PlayOf_C4_ok hF (.b 4 :: .s (cR (cR (cR (cR (cR (cR (cR (cB (cL (cR (cR (cP (cB (cR (cL (cR (cR (cR (cR (cR (bodyOf Try.f17))))))))))))))))))))) :: .b 3 :: .s (cR (cR (cR (cP (cB (cR (cL (cR (cR (cR (cR (cR (bodyOf Try.f17))))))))))))) :: .l k (cP (cB (cR (cL (cR (cR (cR (cR (cR (bodyOf Try.f17)))))))))) :: ks) n v_y398 v_y424 v_y425 v_r426 v_order206 v_x270 v_y420 v_z415 v_z416 v_z417 v_s422 _ h337 ?_)
                    cases v_o513 with
                    | x0 v_z514 v_z515 v_z516 v_z517 v_z518 =>
                      try dsimp only at h
                      by_cases h338 : 0 ≤ v_y420.fCell ∧ (v_y420.fCell).toNat < v_z516.length
                      · rw [if_pos h338] at h
                        obtain ⟨v_y519, h339, h⟩ := bind_some h
                        by_cases h340 : 0 ≤ v_y398 ∧ (v_y398).toNat < v_z517.length
                        · rw [if_pos h340] at h
                          obtain ⟨v_y520, h341, h⟩ := bind_some h
                          exact pkk_sound TTok mix hF 4 (hs := [.c, .w ((v_z516.set (v_y420.fCell).toNat v_z514).map (eI .u32)), .y ((eI .u32) v_y519), .w ((v_z517.set (v_y398).toNat v_z515).map (eI .u32)), .y ((eI .u32) v_y520)]) (ts := []) (s := [0, 1, 2]) (l := [11, 12, 13, 63, 64, 65]) (by kernel_rfl) (by kernel_rfl) (.cons (idx_ob (f := (eI .u32)) h338) (.cons (get_ob (f := (eI .u32)) h339) (.cons (Eq.refl (pcells (.v (.int .u32 v_z514)))) (.cons (set_ob (f := (eI .u32)) (l := v_z516) (k := (v_y420.fCell).toNat) (z := v_z514) (p := .v (.int .u32 v_z514)) rfl) (.cons (idx_ob (f := (eI .u32)) h340) (.cons (get_ob (f := (eI .u32)) h341) (.cons (Eq.refl (pcells (.v (.int .u32 v_z515)))) (.cons (set_ob (f := (eI .u32)) (l := v_z517) (k := (v_y398).toNat) (z := v_z515) (p := .v (.int .u32 v_z515)) rfl) .nil)))))))) (G_ringref5_PlayOf_L5_ok hF ks n v_order206 k (wi .i64 (v_x270 + 1)) (v_z516.set (v_y420.fCell).toNat v_z514) (v_z517.set (v_y398).toNat v_z515) v_z518 _ h q)
                        · rw [if_neg h340] at h; cases h
                      · rw [if_neg h338] at h; cases h
                  · rw [if_neg h305] at h; cases h
                · rw [if_neg h303] at h; cases h
              · rw [if_neg h301] at h; cases h
            · rw [if_neg h298] at h; cases h
          · rw [if_neg h295] at h; cases h
    · rw [if_neg h220] at h
      cases h
      exact pkk_sound TTok mix hF 8 (hs := [.t false]) (ts := []) (s := [0, 1]) (l := [11, 12]) (by kernel_rfl) (by kernel_rfl) (.cons (df h220) .nil) q
/- ringhall/ringref5.PlayOf -/
def G_ringref5_PlayOf (n : Nat) (v_cells204 : (List Int)) (v_progs205 : (List (List S_ringref5_Do))) (v_order206 : (List Int)) : Option ((List Int) × (List Int) × Int) :=
  if (v_cells204.length : Int) > 4 then
   some (([] : (List Int)), ([] : (List Int)), 2)
  else
   if (v_progs205.length : Int) > 4 then
    some (([] : (List Int)), ([] : (List Int)), 2)
   else
    (G_slices_Concat_ringref5_Do_ringref5_Do_h n v_progs205).bind fun (v_r230 : ((List S_ringref5_Do))) =>
    (G_ringref5_PlayOf_L2 n v_cells204 v_progs205 v_order206 v_r230 n 0 v_r230).bind fun v_o258 => match v_o258 with
    | .x0 v_z259 =>
      some (([] : (List Int)), ([] : (List Int)), v_z259)
    | .x1  =>
      (G_slices_Clone_uint32_uint32 n v_cells204).bind fun (v_r260 : ((List Int))) =>
      (mkL 4 0 (v_progs205.length : Int)).bind fun (v_m261 : (List Int)) =>
      (G_slices_Clone_ringref5_Do_ringref5_Do n v_progs205).bind fun (v_r269 : ((List (List S_ringref5_Do)))) =>
      (G_ringref5_PlayOf_L5 n v_order206 n 0 v_r260 v_m261 v_r269).bind fun v_o523 => match v_o523 with
      | .x0 v_z524 =>
        some (([] : (List Int)), ([] : (List Int)), v_z524)
      | .x1 v_z525 v_z526 =>
        some (v_z525, v_z526, 0)
theorem G_ringref5_PlayOf_ok (n : Nat) (v_cells204 : (List Int)) (v_progs205 : (List (List S_ringref5_Do))) (v_order206 : (List Int)) (r : (List Int) × (List Int) × Int) (h : G_ringref5_PlayOf n v_cells204 v_progs205 v_order206 = some r) : Ret Try.prog 17 [(eL (eI .u32)) v_cells204, (eL (eL eS_ringref5_Do)) v_progs205, (eL (eI .i64)) v_order206] (.tup [(eL (eI .u32)) r.1, (eL (eI .u32)) r.2.1, (eI .i64) r.2.2]) := by
  refine ret_run (n := 154) (fn := Try.f17) (c := bodyOf Try.f17) (by kernel_rfl) (by kernel_rfl) (by kernel_rfl) (by kernel_rfl) ?_
  have hF : KC 154 (FinR Try.prog Try.f17 (.tup [(eL (eI .u32)) r.1, (eL (eI .u32)) r.2.1, (eI .i64) r.2.2])) := FinR.kc' (by kernel_rfl)
  unfold G_ringref5_PlayOf at h
  by_cases h167 : (v_cells204.length : Int) > 4
  · rw [if_pos h167] at h
    obtain rfl := Option.some.inj h
    exact pend_sound TTok mix 10 (hs := [.u (.d (.v (.int .i64 (v_cells204.length : Int)))), .t true, .c, .c, .c]) (by kernel_rfl) (by kernel_rfl) (by kernel_rfl) (.cons (len_ob (f := (eI .u32)) (l := v_cells204)) (.cons (dt h167) .nil))
  · rw [if_neg h167] at h
    by_cases h169 : (v_progs205.length : Int) > 4
    · rw [if_pos h169] at h
      obtain rfl := Option.some.inj h
      exact pend_sound TTok mix 10 (hs := [.u (.d (.v (.int .i64 (v_cells204.length : Int)))), .t false, .c, .u (.d (.v (.int .i64 (v_progs205.length : Int)))), .c, .t true]) (by kernel_rfl) (by kernel_rfl) (by kernel_rfl) (.cons (len_ob (f := (eI .u32)) (l := v_cells204)) (.cons (df h167) (.cons (len_ob (f := (eL eS_ringref5_Do)) (l := v_progs205)) (.cons (dt h169) .nil))))
    · rw [if_neg h169] at h
      obtain ⟨v_r230, h190, h⟩ := bind_some h
      obtain ⟨v_o258, h214, h⟩ := bind_some h
      refine pkk_sound TTok mix hF 12 (hs := [.u (.d (.v (.int .i64 (v_cells204.length : Int)))), .t false, .c, .u (.d (.v (.int .i64 (v_progs205.length : Int)))), .c, .t false, .h [] [] [.row 30 3 (v_r230.map eS_ringref5_Do)] (.srf 0), .u (.d (.v (.int .i64 (v_r230.length : Int)))), .n n]) (ts := []) (s := [36]) (l := [0, 1, 2, 29, 30, 31]) (by kernel_rfl) (by kernel_rfl) (.cons (len_ob (f := (eI .u32)) (l := v_cells204)) (.cons (df h167) (.cons (len_ob (f := (eL eS_ringref5_Do)) (l := v_progs205)) (.cons (df h169) (.cons (G_slices_Concat_ringref5_Do_ringref5_Do_h_ok n v_progs205 _ h190) (.cons (len_ob (f := eS_ringref5_Do) (l := v_r230)) .nil)))))) (G_ringref5_PlayOf_L2_ok hF (.b 0 :: .s (cR (cR (cR (bodyOf Try.f17)))) :: []) n v_cells204 v_progs205 v_order206 v_r230 n 0 v_r230 _ h214 ?_)
      cases v_o258 with
      | x0 v_z259 =>
        try dsimp only at h
        obtain rfl := Option.some.inj h
        exact pend_sound TTok mix 2 (hs := []) (by kernel_rfl) (by kernel_rfl) (by kernel_rfl) .nil
      | x1  =>
        try dsimp only at h
        obtain ⟨v_r260, h215, h⟩ := bind_some h
        obtain ⟨v_m261, h216, h⟩ := bind_some h
        obtain ⟨v_r269, h219, h⟩ := bind_some h
        obtain ⟨v_o523, h342, h⟩ := bind_some h
        refine pkk_sound TTok mix hF 10 (hs := [.h [] [] [.row 37 1 (v_r260.map (eI .u32))] (.srf 0), .u (.d (.v (.int .i64 (v_progs205.length : Int)))), .w (v_m261.map (eI .u32)), .h [] [] [.row 27 1 (v_r269.map (eL eS_ringref5_Do))] (.srf 0), .u (.d (.v (.int .i64 (v_order206.length : Int)))), .n n]) (ts := []) (s := [3, 12, 24]) (l := [11, 12, 13, 63, 64, 65]) (by kernel_rfl) (by kernel_rfl) (.cons (G_slices_Clone_uint32_uint32_ok n v_cells204 _ h215) (.cons (len_ob (f := (eL eS_ringref5_Do)) (l := v_progs205)) (.cons (mkL_ob (f := (eI .u32)) (p := .v (.int .u32 0)) h216 rfl).1 (.cons (mkL_ob (f := (eI .u32)) (p := .v (.int .u32 0)) h216 rfl).2.1 (.cons (mkL_ob (f := (eI .u32)) (p := .v (.int .u32 0)) h216 rfl).2.2.1 (.cons (mkL_ob (f := (eI .u32)) (p := .v (.int .u32 0)) h216 rfl).2.2.2.1 (.cons (mkL_ob (f := (eI .u32)) (p := .v (.int .u32 0)) h216 rfl).2.2.2.2 (.cons (G_slices_Clone_ringref5_Do_ringref5_Do_ok n v_progs205 _ h219) (.cons (len_ob (f := (eI .i64)) (l := v_order206)) .nil))))))))) (G_ringref5_PlayOf_L5_ok hF (.b 2 :: .s (cR (cR (cR (cR (cR (cR (bodyOf Try.f17))))))) :: []) n v_order206 n 0 v_r260 v_m261 v_r269 _ h342 ?_)
        cases v_o523 with
        | x0 v_z524 =>
          try dsimp only at h
          obtain rfl := Option.some.inj h
          exact pend_sound TTok mix 2 (hs := []) (by kernel_rfl) (by kernel_rfl) (by kernel_rfl) .nil
        | x1 v_z525 v_z526 =>
          try dsimp only at h
          obtain rfl := Option.some.inj h
          exact pend_sound TTok mix 4 (hs := []) (by kernel_rfl) (by kernel_rfl) (by kernel_rfl) .nil
inductive G_ringlaw5_TurnPlays_L1_R where
  | x0 (v_w194 : (List (List S_turn_Do))) (v_w195 : (List S_turn_Do))
def G_ringlaw5_TurnPlays_L1_ex : G_ringlaw5_TurnPlays_L1_R → Ex
  | .x0 _ _ => .exit 2
def G_ringlaw5_TurnPlays_L1_st (v_cells1 : (List Int)) (v_progs2 : (List (List S_ringref5_Do))) (v_order3 : (List Int)) (v_x184 : Int) (v_y186 : (List S_ringref5_Do)) : G_ringlaw5_TurnPlays_L1_R → PS
  | .x0 v_w194 v_w195 => ⟨[.d (.sl (v_cells1.map (eI .u32))), .d (.sl (v_progs2.map (eL eS_ringref5_Do))), .d (.sl (v_order3.map (eI .i64))), dd, dd, dd, dd, .srf 0, dd, dd, .srf 1, dd, dd, dd, dd, dd, dd, dd, dd, dd, dd, .d (.sl (v_progs2.map (eL eS_ringref5_Do))), .d (.v (.int .i64 (v_progs2.length : Int))), .d (.v (.int .i64 v_x184)), dd, dd, dd, dd, dd, dd, dd, dd, dd, dd, dd, dd, dd, dd, dd, dd, dd, dd, dd, dd, dd, dd, dd, dd, dd, dd, dd, dd, dd, dd, dd, dd, dd, dd, dd, dd, dd, dd, dd, dd, dd, dd, dd, dd, dd, dd, dd, dd, dd, dd, dd, dd, dd, dd], [.row 28 1 (v_w194.map (eL eS_turn_Do)), .row 31 3 (v_w195.map eS_turn_Do)]⟩
def G_ringlaw5_TurnPlays_L1_hd (v_cells1 : (List Int)) (v_progs2 : (List (List S_ringref5_Do))) (v_order3 : (List Int)) (v_x184 : Int) (v_y186 : (List S_ringref5_Do)) (v_x187 : Int) (v_w188 : (List (List S_turn_Do))) (v_w189 : (List S_turn_Do)) : PS := ⟨[.d (.sl (v_cells1.map (eI .u32))), .d (.sl (v_progs2.map (eL eS_ringref5_Do))), .d (.sl (v_order3.map (eI .i64))), dd, dd, dd, dd, .srf 0, dd, dd, .srf 1, dd, dd, dd, dd, dd, dd, dd, dd, dd, dd, .d (.sl (v_progs2.map (eL eS_ringref5_Do))), .d (.v (.int .i64 (v_progs2.length : Int))), .d (.v (.int .i64 v_x184)), dd, dd, dd, .d (.sl (v_y186.map eS_ringref5_Do)), .d (.v (.int .i64 (v_y186.length : Int))), .d (.v (.int .i64 v_x187)), dd, dd, dd, dd, dd, dd, dd, dd, dd, dd, dd, dd, dd, dd, dd, dd, dd, dd, dd, dd, dd, dd, dd, dd, dd, dd, dd, dd, dd, dd, dd, dd, dd, dd, dd, dd, dd, dd, dd, dd, dd, dd, dd, dd, dd, dd, dd, dd], [.row 28 1 (v_w188.map (eL eS_turn_Do)), .row 31 3 (v_w189.map eS_turn_Do)]⟩
def G_ringlaw5_TurnPlays_L1 (n : Nat) (v_cells1 : (List Int)) (v_progs2 : (List (List S_ringref5_Do))) (v_order3 : (List Int)) (v_x184 : Int) (v_y186 : (List S_ringref5_Do)) : Nat → Int → (List (List S_turn_Do)) → (List S_turn_Do) → Option G_ringlaw5_TurnPlays_L1_R
  | 0, _, _, _ => none
  | k + 1, v_x187, v_w188, v_w189 =>
    if v_x187 < (v_y186.length : Int) then
     (getI v_y186 v_x187).bind fun (v_y192 : S_ringref5_Do) =>
     (app 24 v_w189 ([(S_turn_Do.mk v_y192.fKind v_y192.fCell v_y192.fBy)])).bind fun (v_a193 : (List S_turn_Do)) =>
     G_ringlaw5_TurnPlays_L1 n v_cells1 v_progs2 v_order3 v_x184 v_y186 k (wi .i64 (v_x187 + 1)) v_w188 v_a193
    else
     some (.x0 v_w188 v_w189)
theorem G_ringlaw5_TurnPlays_L1_ok {Fi : Ex → PS → Prop} (hF : KC 78 Fi) (ks : List Fr) (n : Nat) (v_cells1 : (List Int)) (v_progs2 : (List (List S_ringref5_Do))) (v_order3 : (List Int)) (v_x184 : Int) (v_y186 : (List S_ringref5_Do))  : ∀ (k : Nat) (v_x187 : Int) (v_w188 : (List (List S_turn_Do))) (v_w189 : (List S_turn_Do)) (o : G_ringlaw5_TurnPlays_L1_R), G_ringlaw5_TurnPlays_L1 n v_cells1 v_progs2 v_order3 v_x184 v_y186 k v_x187 v_w188 v_w189 = some o → RunE Try.prog 78 Fi ks (G_ringlaw5_TurnPlays_L1_ex o) (G_ringlaw5_TurnPlays_L1_st v_cells1 v_progs2 v_order3 v_x184 v_y186 o) → RunE Try.prog 78 Fi (.l k (cP (cB (cR (cL (cR (cR (cB (cL (cR (cR (cP (cB (cR (cL (cR (cR (cR (bodyOf Try.f3)))))))))))))))))) :: ks) .normal (G_ringlaw5_TurnPlays_L1_hd v_cells1 v_progs2 v_order3 v_x184 v_y186 v_x187 v_w188 v_w189)
  | 0, v_x187, v_w188, v_w189, o, h, q => by rw [G_ringlaw5_TurnPlays_L1] at h; cases h
  | k + 1, v_x187, v_w188, v_w189, o, h, q => by
    rw [G_ringlaw5_TurnPlays_L1] at h
    by_cases h158 : v_x187 < (v_y186.length : Int)
    · rw [if_pos h158] at h
      obtain ⟨v_y192, h161, h⟩ := bind_some h
      obtain ⟨v_a193, h162, h⟩ := bind_some h
      exact pkk_sound TTok mix hF 13 (hs := [.t true, .y (eS_ringref5_Do v_y192), .c, .c, .c, .c, .bd, .w (v_a193.map eS_turn_Do)]) (ts := []) (s := [0, 44]) (l := [0, 1, 2, 7, 10, 21, 22, 23, 27, 28, 29]) (by kernel_rfl) (by kernel_rfl) (.cons (dt h158) (.cons (getI_ob (f := eS_ringref5_Do) h161) (.cons (show 0 + 3 ≤ 3 by decide) (.cons (app_ob (f := eS_turn_Do) (s := 3) h162 (fun _ => rfl)).1 (.cons (app_ob (f := eS_turn_Do) (s := 3) h162 (fun _ => rfl)).2.1 (.cons (app_ob (f := eS_turn_Do) (s := 3) h162 (fun _ => rfl)).2.2.1 (.cons (app_ob (f := eS_turn_Do) (s := 3) h162 (fun _ => rfl)).2.2.2 .nil))))))) (G_ringlaw5_TurnPlays_L1_ok hF ks n v_cells1 v_progs2 v_order3 v_x184 v_y186 k (wi .i64 (v_x187 + 1)) v_w188 v_a193 _ h q)
    · rw [if_neg h158] at h
      cases h
      exact pkk_sound TTok mix hF 8 (hs := [.t false]) (ts := []) (s := [0, 1]) (l := [0, 1, 2, 7, 10, 21, 22, 23]) (by kernel_rfl) (by kernel_rfl) (.cons (df h158) .nil) q
inductive G_ringlaw5_TurnPlays_L2_R where
  | x0 (v_w200 : (List (List S_turn_Do)))
def G_ringlaw5_TurnPlays_L2_ex : G_ringlaw5_TurnPlays_L2_R → Ex
  | .x0 _ => .exit 0
def G_ringlaw5_TurnPlays_L2_st (v_cells1 : (List Int)) (v_progs2 : (List (List S_ringref5_Do))) (v_order3 : (List Int)) : G_ringlaw5_TurnPlays_L2_R → PS
  | .x0 v_w200 => ⟨[.d (.sl (v_cells1.map (eI .u32))), .d (.sl (v_progs2.map (eL eS_ringref5_Do))), .d (.sl (v_order3.map (eI .i64))), dd, dd, dd, dd, .srf 0, dd, dd, dd, dd, dd, dd, dd, dd, dd, dd, dd, dd, dd, dd, dd, dd, dd, dd, dd, dd, dd, dd, dd, dd, dd, dd, dd, dd, dd, dd, dd, dd, dd, dd, dd, dd, dd, dd, dd, dd, dd, dd, dd, dd, dd, dd, dd, dd, dd, dd, dd, dd, dd, dd, dd, dd, dd, dd, dd, dd, dd, dd, dd, dd, dd, dd, dd, dd, dd, dd], [.row 28 1 (v_w200.map (eL eS_turn_Do))]⟩
def G_ringlaw5_TurnPlays_L2_hd (v_cells1 : (List Int)) (v_progs2 : (List (List S_ringref5_Do))) (v_order3 : (List Int)) (v_x184 : Int) (v_w185 : (List (List S_turn_Do))) : PS := ⟨[.d (.sl (v_cells1.map (eI .u32))), .d (.sl (v_progs2.map (eL eS_ringref5_Do))), .d (.sl (v_order3.map (eI .i64))), dd, dd, dd, dd, .srf 0, dd, dd, dd, dd, dd, dd, dd, dd, dd, dd, dd, dd, dd, .d (.sl (v_progs2.map (eL eS_ringref5_Do))), .d (.v (.int .i64 (v_progs2.length : Int))), .d (.v (.int .i64 v_x184)), dd, dd, dd, dd, dd, dd, dd, dd, dd, dd, dd, dd, dd, dd, dd, dd, dd, dd, dd, dd, dd, dd, dd, dd, dd, dd, dd, dd, dd, dd, dd, dd, dd, dd, dd, dd, dd, dd, dd, dd, dd, dd, dd, dd, dd, dd, dd, dd, dd, dd, dd, dd, dd, dd], [.row 28 1 (v_w185.map (eL eS_turn_Do))]⟩
def G_ringlaw5_TurnPlays_L2 (n : Nat) (v_cells1 : (List Int)) (v_progs2 : (List (List S_ringref5_Do))) (v_order3 : (List Int)) : Nat → Int → (List (List S_turn_Do)) → Option G_ringlaw5_TurnPlays_L2_R
  | 0, _, _ => none
  | k + 1, v_x184, v_w185 =>
    if v_x184 < (v_progs2.length : Int) then
     (getI v_progs2 v_x184).bind fun (v_y186 : (List S_ringref5_Do)) =>
     (G_ringlaw5_TurnPlays_L1 n v_cells1 v_progs2 v_order3 v_x184 v_y186 n 0 v_w185 ([] : List S_turn_Do)).bind fun v_o196 => match v_o196 with
     | .x0 v_z197 v_z198 =>
       (app 24 v_z197 ([v_z198])).bind fun (v_a199 : (List (List S_turn_Do))) =>
       G_ringlaw5_TurnPlays_L2 n v_cells1 v_progs2 v_order3 k (wi .i64 (v_x184 + 1)) v_a199
    else
     some (.x0 v_w185)
theorem G_ringlaw5_TurnPlays_L2_ok {Fi : Ex → PS → Prop} (hF : KC 78 Fi) (ks : List Fr) (n : Nat) (v_cells1 : (List Int)) (v_progs2 : (List (List S_ringref5_Do))) (v_order3 : (List Int))  : ∀ (k : Nat) (v_x184 : Int) (v_w185 : (List (List S_turn_Do))) (o : G_ringlaw5_TurnPlays_L2_R), G_ringlaw5_TurnPlays_L2 n v_cells1 v_progs2 v_order3 k v_x184 v_w185 = some o → RunE Try.prog 78 Fi ks (G_ringlaw5_TurnPlays_L2_ex o) (G_ringlaw5_TurnPlays_L2_st v_cells1 v_progs2 v_order3 o) → RunE Try.prog 78 Fi (.l k (cP (cB (cR (cL (cR (cR (cR (bodyOf Try.f3)))))))) :: ks) .normal (G_ringlaw5_TurnPlays_L2_hd v_cells1 v_progs2 v_order3 v_x184 v_w185)
  | 0, v_x184, v_w185, o, h, q => by rw [G_ringlaw5_TurnPlays_L2] at h; cases h
  | k + 1, v_x184, v_w185, o, h, q => by
    rw [G_ringlaw5_TurnPlays_L2] at h
    by_cases h156 : v_x184 < (v_progs2.length : Int)
    · rw [if_pos h156] at h
      obtain ⟨v_y186, h157, h⟩ := bind_some h
      obtain ⟨v_o196, h163, h⟩ := bind_some h
      refine pkk_sound TTok mix hF 17 (hs := [.t true, .y ((eL eS_ringref5_Do) v_y186), .c, .u (.d (.v (.int .i64 (v_y186.length : Int)))), .n n]) (ts := [(10, 31, 3)]) (s := [0, 25]) (l := [0, 1, 2, 7, 10, 21, 22, 23, 27, 28, 29]) (by kernel_rfl) (by kernel_rfl) (.cons (dt h156) (.cons (getI_ob (f := (eL eS_ringref5_Do)) h157) (.cons (len_ob (f := eS_ringref5_Do) (l := v_y186)) .nil))) (G_ringlaw5_TurnPlays_L1_ok hF (.b 2 :: .s (cR (cR (cR (cB (cL (cR (cR (cP (cB (cR (cL (cR (cR (cR (bodyOf Try.f3))))))))))))))) :: .b 1 :: .s (cR (cR (cR (cP (cB (cR (cL (cR (cR (cR (bodyOf Try.f3))))))))))) :: .l k (cP (cB (cR (cL (cR (cR (cR (bodyOf Try.f3)))))))) :: ks) n v_cells1 v_progs2 v_order3 v_x184 v_y186 n 0 v_w185 ([] : List S_turn_Do) _ h163 ?_)
      cases v_o196 with
      | x0 v_z197 v_z198 =>
        try dsimp only at h
        obtain ⟨v_a199, h164, h⟩ := bind_some h
        exact pkk_sound TTok mix hF 5 (hs := [.dl 1, .fz 1, .bd, .w (v_a199.map (eL eS_turn_Do))]) (ts := []) (s := [11]) (l := [0, 1, 2, 7, 21, 22, 23]) (by kernel_rfl) (by kernel_rfl) (.cons (app_ob (f := (eL eS_turn_Do)) (s := 1) h164 (fun _ => rfl)).1 (.cons (app_ob (f := (eL eS_turn_Do)) (s := 1) h164 (fun _ => rfl)).2.1 (.cons (app_ob (f := (eL eS_turn_Do)) (s := 1) h164 (fun _ => rfl)).2.2.1 (.cons (app_ob (f := (eL eS_turn_Do)) (s := 1) h164 (fun _ => rfl)).2.2.2 .nil)))) (G_ringlaw5_TurnPlays_L2_ok hF ks n v_cells1 v_progs2 v_order3 k (wi .i64 (v_x184 + 1)) v_a199 _ h q)
    · rw [if_neg h156] at h
      cases h
      exact pkk_sound TTok mix hF 8 (hs := [.t false]) (ts := []) (s := [0]) (l := [0, 1, 2, 7]) (by kernel_rfl) (by kernel_rfl) (.cons (df h156) .nil) q
inductive G_ringlaw5_TurnPlays_C3_R where
  | x0 (v_x532 : Bool)
def G_ringlaw5_TurnPlays_C3_ex : G_ringlaw5_TurnPlays_C3_R → Ex
  | .x0 _ => .normal
def G_ringlaw5_TurnPlays_C3_st (v_r203 : ((List Int) × (List Int) × Int)) (v_r527 : ((List Int) × (List Int) × Int)) : G_ringlaw5_TurnPlays_C3_R → PS
  | .x0 v_x532 => ⟨[dd, dd, dd, dd, dd, dd, .d (.v (.bool v_x532)), dd, dd, dd, dd, dd, dd, dd, dd, dd, dd, dd, dd, dd, dd, dd, dd, dd, dd, dd, dd, dd, dd, dd, dd, dd, dd, dd, dd, dd, dd, dd, dd, dd, dd, dd, dd, dd, dd, dd, dd, dd, dd, dd, dd, dd, dd, dd, dd, dd, dd, dd, dd, dd, dd, dd, dd, dd, dd, dd, dd, dd, dd, dd, dd, dd, dd, dd, dd, dd, dd, dd], []⟩
def G_ringlaw5_TurnPlays_C3_hd (v_r203 : ((List Int) × (List Int) × Int)) (v_r527 : ((List Int) × (List Int) × Int))  : PS := ⟨[dd, dd, dd, dd, dd, dd, dd, dd, dd, dd, dd, dd, dd, .d (.sl (v_r203.1.map (eI .u32))), .d (.sl (v_r203.2.1.map (eI .u32))), .d (.v (.int .i64 v_r203.2.2)), .d (.sl (v_r527.1.map (eI .u32))), .d (.sl (v_r527.2.1.map (eI .u32))), .d (.v (.int .i64 v_r527.2.2)), dd, dd, dd, dd, dd, dd, dd, dd, dd, dd, dd, dd, dd, dd, dd, dd, dd, dd, dd, dd, dd, dd, dd, dd, dd, dd, dd, dd, dd, dd, dd, dd, dd, dd, dd, dd, dd, dd, dd, dd, dd, dd, dd, dd, dd, dd, dd, dd, dd, dd, dd, dd, dd, dd, dd, dd, dd, dd, dd], []⟩
def G_ringlaw5_TurnPlays_C3 (n : Nat) (v_r203 : ((List Int) × (List Int) × Int)) (v_r527 : ((List Int) × (List Int) × Int)) : Option G_ringlaw5_TurnPlays_C3_R :=
  if v_r203.2.2 = v_r527.2.2 then
   (G_slices_Equal_uint32_uint32 n v_r203.1 v_r527.1).bind fun (v_r530 : (Bool)) =>
   if v_r530 = true then
    (G_slices_Equal_uint32_uint32 n v_r203.2.1 v_r527.2.1).bind fun (v_r531 : (Bool)) =>
    some (.x0 v_r531)
   else
    some (.x0 false)
  else
   some (.x0 false)
theorem G_ringlaw5_TurnPlays_C3_ok {Fi : Ex → PS → Prop} (hF : KC 78 Fi) (ks : List Fr) (n : Nat) (v_r203 : ((List Int) × (List Int) × Int)) (v_r527 : ((List Int) × (List Int) × Int))  (o : G_ringlaw5_TurnPlays_C3_R) (h : G_ringlaw5_TurnPlays_C3 n v_r203 v_r527 = some o) (q : RunE Try.prog 78 Fi ks (G_ringlaw5_TurnPlays_C3_ex o) (G_ringlaw5_TurnPlays_C3_st v_r203 v_r527 o)) : RunE Try.prog 78 Fi (.s (cL (cR (cR (cR (cR (cR (cR (bodyOf Try.f3)))))))) :: ks) .normal (G_ringlaw5_TurnPlays_C3_hd v_r203 v_r527) := by
  unfold G_ringlaw5_TurnPlays_C3 at h
  by_cases h348 : v_r203.2.2 = v_r527.2.2
  · rw [if_pos h348] at h
    obtain ⟨v_r530, h349, h⟩ := bind_some h
    by_cases h350 : v_r530 = true
    · rw [if_pos h350] at h
      obtain ⟨v_r531, h351, h⟩ := bind_some h
      cases h
      exact pkk_sound TTok mix hF 1 (hs := [.t true, .c, .c, .r (eB v_r530), .t true, .c, .c, .r (eB v_r531)]) (ts := []) (s := []) (l := [6]) (by kernel_rfl) (by kernel_rfl) (.cons (bt h348) (.cons (G_slices_Equal_uint32_uint32_ok n v_r203.1 v_r527.1 _ h349) (.cons h350 (.cons (G_slices_Equal_uint32_uint32_ok n v_r203.2.1 v_r527.2.1 _ h351) .nil)))) q
    · rw [if_neg h350] at h
      cases h
      exact pkk_sound TTok mix hF 1 (hs := [.t true, .c, .c, .r (eB v_r530), .t false, .c, .c]) (ts := []) (s := []) (l := [6]) (by kernel_rfl) (by kernel_rfl) (.cons (bt h348) (.cons (G_slices_Equal_uint32_uint32_ok n v_r203.1 v_r527.1 _ h349) (.cons (vf h350) .nil))) q
  · rw [if_neg h348] at h
    cases h
    exact pkk_sound TTok mix hF 1 (hs := [.t false, .c, .c, .c, .c, .c]) (ts := []) (s := []) (l := [6]) (by kernel_rfl) (by kernel_rfl) (.cons (bf h348) .nil) q
/- ringhall/ringlaw5.TurnPlays -/
def G_ringlaw5_TurnPlays (n : Nat) (v_cells1 : (List Int)) (v_progs2 : (List (List S_ringref5_Do))) (v_order3 : (List Int)) : Option (Bool) :=
  (G_ringlaw5_plays n ).bind fun (v_r183 : (Bool)) =>
  if v_r183 = true then
   (G_ringlaw5_TurnPlays_L2 n v_cells1 v_progs2 v_order3 n 0 ([] : List (List S_turn_Do))).bind fun v_o201 => match v_o201 with
   | .x0 v_z202 =>
     (G_turn_Play n v_cells1 v_z202 v_order3).bind fun (v_r203 : ((List Int) × (List Int) × Int)) =>
     (G_ringref5_PlayOf n v_cells1 v_progs2 v_order3).bind fun (v_r527 : ((List Int) × (List Int) × Int)) =>
     (G_ringlaw5_TurnPlays_C3 n v_r203 v_r527).bind fun v_o535 => match v_o535 with
     | .x0 v_z536 =>
       some v_z536
  else
   some false
theorem G_ringlaw5_TurnPlays_ok (n : Nat) (v_cells1 : (List Int)) (v_progs2 : (List (List S_ringref5_Do))) (v_order3 : (List Int)) (r : Bool) (h : G_ringlaw5_TurnPlays n v_cells1 v_progs2 v_order3 = some r) : Ret Try.prog 3 [(eL (eI .u32)) v_cells1, (eL (eL eS_ringref5_Do)) v_progs2, (eL (eI .i64)) v_order3] (eB r) := by
  refine ret_run (n := 78) (fn := Try.f3) (c := bodyOf Try.f3) (by kernel_rfl) (by kernel_rfl) (by kernel_rfl) (by kernel_rfl) ?_
  have hF : KC 78 (FinR Try.prog Try.f3 (eB r)) := FinR.kc' (by kernel_rfl)
  unfold G_ringlaw5_TurnPlays at h
  obtain ⟨v_r183, h154, h⟩ := bind_some h
  by_cases h155 : v_r183 = true
  · rw [if_pos h155] at h
    obtain ⟨v_o201, h165, h⟩ := bind_some h
    refine pkk_sound TTok mix hF 14 (hs := [.r (eB v_r183), .t false, .u (.d (.v (.int .i64 (v_progs2.length : Int)))), .n n]) (ts := [(7, 28, 1)]) (s := [21]) (l := [0, 1, 2, 7, 21, 22, 23]) (by kernel_rfl) (by kernel_rfl) (.cons (G_ringlaw5_plays_ok n  _ h154) (.cons (bnf h155) (.cons (len_ob (f := (eL eS_ringref5_Do)) (l := v_progs2)) .nil))) (G_ringlaw5_TurnPlays_L2_ok hF (.b 0 :: .s (cR (cR (cR (cR (bodyOf Try.f3))))) :: []) n v_cells1 v_progs2 v_order3 n 0 ([] : List (List S_turn_Do)) _ h165 ?_)
    cases v_o201 with
    | x0 v_z202 =>
      try dsimp only at h
      obtain ⟨v_r203, h166, h⟩ := bind_some h
      obtain ⟨v_r527, h343, h⟩ := bind_some h
      obtain ⟨v_o535, h352, h⟩ := bind_some h
      refine pkk_sound TTok mix hF 7 (hs := [.dl 2, .fz 0, .r (.tup [(eL (eI .u32)) v_r203.1, (eL (eI .u32)) v_r203.2.1, (eI .i64) v_r203.2.2]), .r (.tup [(eL (eI .u32)) v_r527.1, (eL (eI .u32)) v_r527.2.1, (eI .i64) v_r527.2.2])]) (ts := []) (s := []) (l := [13, 14, 15, 16, 17, 18]) (by kernel_rfl) (by kernel_rfl) (.cons (G_turn_Play_ok n v_cells1 v_z202 v_order3 _ h166) (.cons (G_ringref5_PlayOf_ok n v_cells1 v_progs2 v_order3 _ h343) .nil)) (G_ringlaw5_TurnPlays_C3_ok hF (.s (cR (cR (cR (cR (cR (cR (cR (bodyOf Try.f3)))))))) :: []) n v_r203 v_r527 _ h352 ?_)
      cases v_o535 with
      | x0 v_z536 =>
        try dsimp only at h
        obtain rfl := Option.some.inj h
        exact pend_sound TTok mix 1 (hs := []) (by kernel_rfl) (by kernel_rfl) (by kernel_rfl) .nil
  · rw [if_neg h155] at h
    obtain rfl := Option.some.inj h
    exact pend_sound TTok mix 10 (hs := [.r (eB v_r183), .t true]) (by kernel_rfl) (by kernel_rfl) (by kernel_rfl) (.cons (G_ringlaw5_plays_ok n  _ h154) (.cons (bnt (vf h155)) .nil))
def okS_ringref5_Do (x : S_ringref5_Do) : Prop := (fun a => (Lit.int .i64 a).wf = true) x.fKind ∧ (fun a => (Lit.int .i64 a).wf = true) x.fCell ∧ (fun a => (Lit.int .i64 a).wf = true) x.fBy ∧ True
theorem brS_ringref5_Do : Br (.pair (.int .i64) (.pair (.int .i64) (.pair (.int .i64) .unit))) (fun x : S_ringref5_Do => [.v (.int .i64 x.fKind), .v (.int .i64 x.fCell), .v (.int .i64 x.fBy)]) okS_ringref5_Do := br_map (br_pair (br_int .i64) (br_pair (br_int .i64) (br_pair (br_int .i64) br_unit))) (fun p => S_ringref5_Do.mk p.1 p.2.1 p.2.2.1) (fun p h => ⟨rfl, h⟩)
theorem TurnPlays_walk (H : ∀ (a0 : (List Int)) (a1 : (List (List S_ringref5_Do))) (a2 : (List Int)), (okL 134217728 (fun a => (Lit.int .u32 a).wf = true)) a0 → (okL 134217728 (okL 134217728 okS_ringref5_Do)) a1 → (okL 134217728 (fun a => (Lit.int .i64 a).wf = true)) a2 → ∃ n, G_ringlaw5_TurnPlays n a0 a1 a2 = some true) (w : World) (v0 : Value) (v1 : Value) (v2 : Value) (h0 : rep.Arg w (.slice 134217728 (.int .u32)) v0) (h1 : rep.Arg w (.slice 134217728 (.slice 134217728 (.pair (.int .i64) (.pair (.int .i64) (.pair (.int .i64) .unit))))) v1) (h2 : rep.Arg w (.slice 134217728 (.int .i64)) v2) : Calls Try.prog 3 #[v0, v1, v2] w (help.Ret (.bool true) w) := by
  obtain ⟨a0, o0, r0⟩ := arg_one (br_slice (f := (eI .u32)) (ok := (fun a => (Lit.int .u32 a).wf = true)) (br_int .u32) (fun _ => rfl) (by decide)) (by rfl) h0
  obtain ⟨a1, o1, r1⟩ := arg_one (br_slice (f := (eL eS_ringref5_Do)) (ok := (okL 134217728 okS_ringref5_Do)) (br_slice (f := eS_ringref5_Do) (ok := okS_ringref5_Do) brS_ringref5_Do (fun _ => rfl) (by decide)) (fun _ => rfl) (by decide)) (by rfl) h1
  obtain ⟨a2, o2, r2⟩ := arg_one (br_slice (f := (eI .i64)) (ok := (fun a => (Lit.int .i64 a).wf = true)) (br_int .i64) (fun _ => rfl) (by decide)) (by rfl) h2
  obtain ⟨n, hn⟩ := H a0 a1 a2 o0 o1 o2
  exact walk_of (G_ringlaw5_TurnPlays_ok n a0 a1 a2 true hn) (RT_cons r0 (RT_cons r1 (RT_cons r2 RT_nil)))
/- FRAME TurnPlays; ringhall/ringlaw5.TurnPlays; (.slice 134217728 (.int .u32)) | (.slice 134217728 (.slice 134217728 (.pair (.int .i64) (.pair (.int .i64) (.pair (.int .i64) .unit))))) | (.slice 134217728 (.int .i64)); .slice none 0 0 | .slice none 0 0 | .slice none 0 0 -/
end Go.Proofs.Ytiaebagjcbkkgaa.pv
