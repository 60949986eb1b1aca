/- What the functions compute, as functions over plain data, with their contracts: written by gen.py. -/
import Derived.Test.YtjjjaakefnnbpaaProg
import Derived.Test.YtjjjaakefnnbpaaQr
import Derived.Test.YtjjjaakefnnbpaaSg
set_option maxRecDepth 100000
set_option linter.all false
namespace Go.Proofs.Ytjjjaakefnnbpaa.pv
open Go.RowKit
def TT : List TI := [
⟨1, 0, .oth, []⟩,
⟨1, 8, .oth, [.nf]⟩,
⟨1, 8, .int .i64, [.i .i64]⟩,
⟨1, 8, .int .i64, [.i .i64]⟩,
⟨1, 1, .bool, [.b]⟩,
⟨1, 1, .int .u8, [.i .u8]⟩,
⟨1, 1, .int .u8, [.i .u8]⟩,
⟨4, 24, .st [(0, 2), (1, 3), (2, 4), (3, 6)], [.i .i64, .i .i64, .b, .i .u8]⟩,
⟨4, 24, .st [(0, 2), (1, 3), (2, 4), (3, 6)], [.i .i64, .i .i64, .b, .i .u8]⟩,
⟨1, 16, .str, [.s]⟩,
⟨1, 16, .str, [.s]⟩,
⟨1, 16, .str, [.s]⟩,
⟨1, 8, .int .u64, [.i .u64]⟩,
⟨2, 24, .st [(0, 9), (1, 12)], [.s, .i .u64]⟩,
⟨2, 24, .st [(0, 9), (1, 12)], [.s, .i .u64]⟩,
⟨1, 8, .ptr 333, [.np]⟩,
⟨1, 8, .ptr 336, [.np]⟩,
⟨1, 8, .ptr 343, [.np]⟩,
⟨1, 8, .st [(0, 17)], [.np]⟩,
⟨1, 8, .st [(0, 17)], [.np]⟩,
⟨1, 16, .oth, [.ni]⟩,
⟨1, 4, .int .i32, [.i .i32]⟩,
⟨1, 24, .sl 3, [.sl]⟩,
⟨6, 64, .st [(0, 3), (1, 3), (2, 22), (3, 3), (4, 3), (5, 3)], [.i .i64, .i .i64, .sl, .i .i64, .i .i64, .i .i64]⟩,
⟨6, 64, .st [(0, 3), (1, 3), (2, 22), (3, 3), (4, 3), (5, 3)], [.i .i64, .i .i64, .sl, .i .i64, .i .i64, .i .i64]⟩,
⟨1, 8, .int .i64, [.i .i64]⟩,
⟨1, 0, .oth, []⟩,
⟨1, 8, .oth, [.nf]⟩,
⟨1, 0, .oth, []⟩,
⟨1, 8, .oth, [.nf]⟩,
⟨1, 8, .oth, [.nf]⟩,
⟨1, 8, .oth, [.nf]⟩,
⟨1, 8, .oth, [.nf]⟩,
⟨1, 8, .oth, [.nf]⟩,
⟨1, 8, .oth, [.nf]⟩,
⟨1, 8, .oth, [.nf]⟩,
⟨1, 8, .oth, [.nf]⟩,
⟨1, 8, .oth, [.nf]⟩,
⟨1, 24, .sl 211, [.sl]⟩,
⟨1, 8, .oth, [.nf]⟩,
⟨1, 0, .oth, []⟩,
⟨1, 8, .oth, [.nf]⟩,
⟨1, 8, .oth, [.nf]⟩,
⟨1, 24, .sl 47, [.sl]⟩,
⟨1, 8, .oth, [.nf]⟩,
⟨1, 8, .oth, [.nf]⟩,
⟨1, 8, .oth, [.nf]⟩,
⟨3, 24, .arr 3 3, [.i .i64, .i .i64, .i .i64]⟩,
⟨1, 8, .oth, [.nf]⟩,
⟨1, 8, .oth, [.nf]⟩,
⟨1, 24, .sl 59, [.sl]⟩,
⟨1, 24, .sl 65, [.sl]⟩,
⟨1, 24, .sl 4, [.sl]⟩,
⟨1, 0, .oth, []⟩,
⟨1, 8, .oth, [.nf]⟩,
⟨1, 0, .oth, []⟩,
⟨1, 8, .oth, [.nf]⟩,
⟨1, 8, .oth, [.nf]⟩,
⟨2, 16, .st [(0, 3), (1, 3)], [.i .i64, .i .i64]⟩,
⟨2, 16, .st [(0, 3), (1, 3)], [.i .i64, .i .i64]⟩,
⟨1, 8, .oth, [.nf]⟩,
⟨1, 8, .oth, [.nf]⟩,
⟨1, 8, .oth, [.nf]⟩,
⟨1, 8, .oth, [.nf]⟩,
⟨3, 24, .st [(0, 3), (1, 3), (2, 4)], [.i .i64, .i .i64, .b]⟩,
⟨3, 24, .st [(0, 3), (1, 3), (2, 4)], [.i .i64, .i .i64, .b]⟩,
⟨1, 8, .oth, [.nf]⟩,
⟨1, 8, .oth, [.nf]⟩,
⟨1, 8, .oth, [.nf]⟩,
⟨1, 8, .oth, [.nf]⟩,
⟨8, 80, .st [(0, 3), (1, 3), (2, 3), (3, 3), (4, 3), (5, 3), (6, 3), (7, 22)], [.i .i64, .i .i64, .i .i64, .i .i64, .i .i64, .i .i64, .i .i64, .sl]⟩,
⟨8, 80, .st [(0, 3), (1, 3), (2, 3), (3, 3), (4, 3), (5, 3), (6, 3), (7, 22)], [.i .i64, .i .i64, .i .i64, .i .i64, .i .i64, .i .i64, .i .i64, .sl]⟩,
⟨1, 24, .sl 71, [.sl]⟩,
⟨1, 24, .sl 83, [.sl]⟩,
⟨1, 8, .oth, [.nf]⟩,
⟨8, 80, .st [(0, 3), (1, 3), (2, 3), (3, 3), (4, 3), (5, 3), (6, 3), (7, 22)], [.i .i64, .i .i64, .i .i64, .i .i64, .i .i64, .i .i64, .i .i64, .sl]⟩,
⟨1, 8, .oth, [.nf]⟩,
⟨1, 0, .oth, []⟩,
⟨1, 8, .oth, [.nf]⟩,
⟨1, 8, .oth, [.nf]⟩,
⟨1, 0, .oth, []⟩,
⟨1, 8, .oth, [.nf]⟩,
⟨2, 24, .st [(0, 9), (1, 3)], [.s, .i .i64]⟩,
⟨2, 24, .st [(0, 9), (1, 3)], [.s, .i .i64]⟩,
⟨1, 8, .oth, [.nf]⟩,
⟨1, 8, .oth, [.nf]⟩,
⟨1, 8, .oth, [.nf]⟩,
⟨16, 128, .arr 16 3, List.replicate 16 (.i .i64)⟩,
⟨18, 144, .st [(0, 3), (1, 3), (2, 87)], List.replicate 18 (.i .i64)⟩,
⟨18, 144, .st [(0, 3), (1, 3), (2, 87)], List.replicate 18 (.i .i64)⟩,
⟨1, 0, .oth, []⟩,
⟨1, 8, .oth, [.nf]⟩,
⟨1, 8, .oth, [.nf]⟩,
⟨1, 8, .oth, [.nf]⟩,
⟨1, 0, .oth, []⟩,
⟨1, 8, .oth, [.nf]⟩,
⟨1, 8, .oth, [.nf]⟩,
⟨1, 8, .oth, [.nf]⟩,
⟨1, 8, .oth, [.nf]⟩,
⟨18, 176, .st [(0, 22), (1, 22), (2, 87)], (List.replicate 2 (.sl) ++ List.replicate 16 (.i .i64))⟩,
⟨18, 176, .st [(0, 22), (1, 22), (2, 87)], (List.replicate 2 (.sl) ++ List.replicate 16 (.i .i64))⟩,
⟨1, 8, .oth, [.nf]⟩,
⟨1, 8, .oth, [.nf]⟩,
⟨1, 8, .oth, [.nf]⟩,
⟨1, 8, .oth, [.nf]⟩,
⟨1, 8, .oth, [.nf]⟩,
⟨1, 24, .sl 229, [.sl]⟩,
⟨1, 24, .sl 5, [.sl]⟩,
⟨1, 8, .oth, [.nf]⟩,
⟨1, 0, .oth, []⟩,
⟨1, 8, .oth, [.nf]⟩,
⟨1, 0, .oth, []⟩,
⟨1, 8, .oth, [.nf]⟩,
⟨1, 0, .oth, []⟩,
⟨1, 8, .oth, [.nf]⟩,
⟨1, 8, .oth, [.nf]⟩,
⟨1, 24, .sl 121, [.sl]⟩,
⟨1, 8, .oth, [.nf]⟩,
⟨1, 8, .oth, [.nf]⟩,
⟨1, 8, .oth, [.nf]⟩,
⟨1, 8, .oth, [.nf]⟩,
⟨2, 16, .arr 2 3, [.i .i64, .i .i64]⟩,
⟨1, 8, .oth, [.nf]⟩,
⟨1, 8, .oth, [.nf]⟩,
⟨1, 8, .oth, [.nf]⟩,
⟨1, 8, .oth, [.nf]⟩,
⟨1, 8, .oth, [.nf]⟩,
⟨1, 0, .oth, []⟩,
⟨1, 8, .oth, [.nf]⟩,
⟨1, 0, .oth, []⟩,
⟨1, 8, .oth, [.nf]⟩,
⟨1, 8, .oth, [.nf]⟩,
⟨1, 8, .oth, [.nf]⟩,
⟨6, 48, .st [(0, 3), (1, 3), (2, 3), (3, 3), (4, 3), (5, 3)], [.i .i64, .i .i64, .i .i64, .i .i64, .i .i64, .i .i64]⟩,
⟨6, 48, .st [(0, 3), (1, 3), (2, 3), (3, 3), (4, 3), (5, 3)], [.i .i64, .i .i64, .i .i64, .i .i64, .i .i64, .i .i64]⟩,
⟨1, 8, .oth, [.nf]⟩,
⟨1, 8, .oth, [.nf]⟩,
⟨1, 8, .oth, [.nf]⟩,
⟨1, 8, .oth, [.nf]⟩,
⟨1, 24, .sl 233, [.sl]⟩,
⟨1, 24, .sl 155, [.sl]⟩,
⟨1, 8, .oth, [.nf]⟩,
⟨1, 8, .oth, [.nf]⟩,
⟨1, 0, .oth, []⟩,
⟨1, 8, .oth, [.nf]⟩,
⟨1, 0, .oth, []⟩,
⟨1, 8, .oth, [.nf]⟩,
⟨1, 8, .oth, [.nf]⟩,
⟨1, 8, .oth, [.nf]⟩,
⟨1, 8, .oth, [.nf]⟩,
⟨1, 8, .oth, [.nf]⟩,
⟨1, 8, .oth, [.nf]⟩,
⟨1, 8, .oth, [.nf]⟩,
⟨1, 8, .oth, [.nf]⟩,
⟨2, 16, .st [(0, 3), (1, 3)], [.i .i64, .i .i64]⟩,
⟨2, 16, .st [(0, 3), (1, 3)], [.i .i64, .i .i64]⟩,
⟨1, 8, .oth, [.nf]⟩,
⟨1, 8, .oth, [.nf]⟩,
⟨1, 8, .oth, [.nf]⟩,
⟨1, 24, .sl 166, [.sl]⟩,
⟨1, 8, .ptr 245, [.np]⟩,
⟨1, 8, .oth, [.nf]⟩,
⟨1, 24, .sl 180, [.sl]⟩,
⟨1, 24, .sl 180, [.sl]⟩,
⟨1, 8, .oth, [.nf]⟩,
⟨3, 24, .st [(0, 3), (1, 3), (2, 3)], [.i .i64, .i .i64, .i .i64]⟩,
⟨3, 24, .st [(0, 3), (1, 3), (2, 3)], [.i .i64, .i .i64, .i .i64]⟩,
⟨1, 8, .oth, [.nf]⟩,
⟨1, 8, .oth, [.nf]⟩,
⟨1, 8, .oth, [.nf]⟩,
⟨1, 0, .oth, []⟩,
⟨1, 8, .oth, [.nf]⟩,
⟨1, 8, .oth, [.nf]⟩,
⟨1, 8, .oth, [.nf]⟩,
⟨1, 0, .oth, []⟩,
⟨1, 8, .oth, [.nf]⟩,
⟨1, 0, .oth, []⟩,
⟨1, 8, .oth, [.nf]⟩,
⟨1, 8, .oth, [.nf]⟩,
⟨5, 40, .st [(0, 3), (1, 3), (2, 3), (3, 3), (4, 4)], [.i .i64, .i .i64, .i .i64, .i .i64, .b]⟩,
⟨5, 40, .st [(0, 3), (1, 3), (2, 3), (3, 3), (4, 4)], [.i .i64, .i .i64, .i .i64, .i .i64, .b]⟩,
⟨1, 8, .oth, [.nf]⟩,
⟨1, 8, .oth, [.nf]⟩,
⟨1, 8, .oth, [.nf]⟩,
⟨1, 8, .oth, [.nf]⟩,
⟨1, 24, .sl 202, [.sl]⟩,
⟨1, 8, .ptr 256, [.np]⟩,
⟨1, 8, .oth, [.nf]⟩,
⟨1, 8, .oth, [.nf]⟩,
⟨5, 40, .st [(0, 3), (1, 3), (2, 3), (3, 4), (4, 3)], [.i .i64, .i .i64, .i .i64, .b, .i .i64]⟩,
⟨5, 40, .st [(0, 3), (1, 3), (2, 3), (3, 4), (4, 3)], [.i .i64, .i .i64, .i .i64, .b, .i .i64]⟩,
⟨1, 24, .sl 190, [.sl]⟩,
⟨1, 0, .oth, []⟩,
⟨1, 8, .oth, [.nf]⟩,
⟨1, 8, .ptr 199, [.np]⟩,
⟨1, 24, .sl 200, [.sl]⟩,
⟨8, 64, .arr 8 3, [.i .i64, .i .i64, .i .i64, .i .i64, .i .i64, .i .i64, .i .i64, .i .i64]⟩,
⟨136, 1088, .arr 17 196, List.replicate 136 (.i .i64)⟩,
⟨137, 1112, .st [(0, 195), (1, 197)], (List.replicate 1 (.sl) ++ List.replicate 136 (.i .i64))⟩,
⟨137, 1112, .st [(0, 195), (1, 197)], (List.replicate 1 (.sl) ++ List.replicate 136 (.i .i64))⟩,
⟨5, 40, .st [(0, 3), (1, 3), (2, 3), (3, 4), (4, 3)], [.i .i64, .i .i64, .i .i64, .b, .i .i64]⟩,
⟨9, 72, .st [(0, 3), (1, 3), (2, 3), (3, 3), (4, 200)], [.i .i64, .i .i64, .i .i64, .i .i64, .i .i64, .i .i64, .i .i64, .b, .i .i64]⟩,
⟨9, 72, .st [(0, 3), (1, 3), (2, 3), (3, 3), (4, 200)], [.i .i64, .i .i64, .i .i64, .i .i64, .i .i64, .i .i64, .i .i64, .b, .i .i64]⟩,
⟨1, 8, .oth, [.nf]⟩,
⟨1, 8, .oth, [.nf]⟩,
⟨1, 8, .oth, [.nf]⟩,
⟨1, 8, .oth, [.nf]⟩,
⟨1, 8, .oth, [.nf]⟩,
⟨1, 8, .oth, [.nf]⟩,
⟨1, 8, .int .u64, [.i .u64]⟩,
⟨3, 24, .st [(0, 3), (1, 3), (2, 3)], [.i .i64, .i .i64, .i .i64]⟩,
⟨3, 24, .st [(0, 3), (1, 3), (2, 3)], [.i .i64, .i .i64, .i .i64]⟩,
⟨1, 0, .oth, []⟩,
⟨1, 8, .oth, [.nf]⟩,
⟨1, 8, .oth, [.nf]⟩,
⟨100, 100, .arr 100 4, List.replicate 100 (.b)⟩,
⟨1, 24, .sl 50, [.sl]⟩,
⟨1, 8, .oth, [.nf]⟩,
⟨6, 6, .arr 6 4, [.b, .b, .b, .b, .b, .b]⟩,
⟨1, 8, .oth, [.nf]⟩,
⟨1, 8, .oth, [.nf]⟩,
⟨1, 8, .oth, [.nf]⟩,
⟨1, 8, .oth, [.nf]⟩,
⟨1, 8, .oth, [.nf]⟩,
⟨1, 8, .oth, [.nf]⟩,
⟨1, 8, .oth, [.nf]⟩,
⟨1, 8, .oth, [.nf]⟩,
⟨1, 8, .oth, [.nf]⟩,
⟨2, 16, .st [(0, 3), (1, 3)], [.i .i64, .i .i64]⟩,
⟨2, 16, .st [(0, 3), (1, 3)], [.i .i64, .i .i64]⟩,
⟨1, 8, .oth, [.nf]⟩,
⟨1, 8, .oth, [.nf]⟩,
⟨1, 8, .oth, [.nf]⟩,
⟨2, 16, .st [(0, 3), (1, 3)], [.i .i64, .i .i64]⟩,
⟨1, 8, .oth, [.nf]⟩,
⟨1, 8, .oth, [.nf]⟩,
⟨1, 8, .oth, [.nf]⟩,
⟨1, 8, .oth, [.nf]⟩,
⟨1, 8, .oth, [.nm]⟩,
⟨1, 0, .oth, []⟩,
⟨1, 8, .oth, [.nf]⟩,
⟨4, 32, .st [(0, 3), (1, 3), (2, 3), (3, 3)], [.i .i64, .i .i64, .i .i64, .i .i64]⟩,
⟨4, 32, .st [(0, 3), (1, 3), (2, 3), (3, 3)], [.i .i64, .i .i64, .i .i64, .i .i64]⟩,
⟨68, 544, .arr 17 242, List.replicate 68 (.i .i64)⟩,
⟨68, 544, .st [(0, 243)], List.replicate 68 (.i .i64)⟩,
⟨68, 544, .st [(0, 243)], List.replicate 68 (.i .i64)⟩,
⟨1, 8, .oth, [.nf]⟩,
⟨1, 8, .oth, [.nf]⟩,
⟨1, 8, .oth, [.nf]⟩,
⟨1, 8, .oth, [.nf]⟩,
⟨1, 8, .oth, [.nf]⟩,
⟨1, 8, .oth, [.nf]⟩,
⟨6, 48, .st [(0, 190), (5, 3)], [.i .i64, .i .i64, .i .i64, .b, .i .i64, .i .i64]⟩,
⟨6, 48, .st [(0, 190), (5, 3)], [.i .i64, .i .i64, .i .i64, .b, .i .i64, .i .i64]⟩,
⟨192, 1536, .arr 32 253, (List.replicate 32 [.i .i64, .i .i64, .i .i64, .b, .i .i64, .i .i64]).flatten⟩,
⟨328, 2624, .st [(0, 254), (192, 197)], [.i .i64, .i .i64, .i .i64, .b, .i .i64, .i .i64, .i .i64, .i .i64, .i .i64, .b, .i .i64, .i .i64, .i .i64, .i .i64, .i .i64, .b, .i .i64, .i .i64, .i .i64, .i .i64, .i .i64, .b, .i .i64, .i .i64, .i .i64, .i .i64, .i .i64, .b, .i .i64, .i .i64, .i .i64, .i .i64, .i .i64, .b, .i .i64, .i .i64, .i .i64, .i .i64, .i .i64, .b, .i .i64, .i .i64, .i .i64, .i .i64, .i .i64, .b, .i .i64, .i .i64, .i .i64, .i .i64, .i .i64, .b, .i .i64, .i .i64, .i .i64, .i .i64, .i .i64, .b, .i .i64, .i .i64, .i .i64, .i .i64, .i .i64, .b, .i .i64, .i .i64, .i .i64, .i .i64, .i .i64, .b, .i .i64, .i .i64, .i .i64, .i .i64, .i .i64, .b, .i .i64, .i .i64, .i .i64, .i .i64, .i .i64, .b, .i .i64, .i .i64, .i .i64, .i .i64, .i .i64, .b, .i .i64, .i .i64, .i .i64, .i .i64, .i .i64, .b, .i .i64, .i .i64, .i .i64, .i .i64, .i .i64, .b, .i .i64, .i .i64, .i .i64, .i .i64, .i .i64, .b, .i .i64, .i .i64, .i .i64, .i .i64, .i .i64, .b, .i .i64, .i .i64, .i .i64, .i .i64, .i .i64, .b, .i .i64, .i .i64, .i .i64, .i .i64, .i .i64, .b, .i .i64, .i .i64, .i .i64, .i .i64, .i .i64, .b, .i .i64, .i .i64, .i .i64, .i .i64, .i .i64, .b, .i .i64, .i .i64, .i .i64, .i .i64, .i .i64, .b, .i .i64, .i .i64, .i .i64, .i .i64, .i .i64, .b, .i .i64, .i .i64, .i .i64, .i .i64, .i .i64, .b, .i .i64, .i .i64, .i .i64, .i .i64, .i .i64, .b, .i .i64, .i .i64, .i .i64, .i .i64, .i .i64, .b, .i .i64, .i .i64, .i .i64, .i .i64, .i .i64, .b, .i .i64, .i .i64, .i .i64, .i .i64, .i .i64, .b, .i .i64, .i .i64, .i .i64, .i .i64, .i .i64, .b, .i .i64, .i .i64, .i .i64, .i .i64, .i .i64, .b, .i .i64, .i .i64, .i .i64, .i .i64, .i .i64, .i .i64, .i .i64, .i .i64, .i .i64, .i .i64, .i .i64, .i .i64, .i .i64, .i .i64, .i .i64, .i .i64, .i .i64, .i .i64, .i .i64, .i .i64, .i .i64, .i .i64, .i .i64, .i .i64, .i .i64, .i .i64, .i .i64, .i .i64, .i .i64, .i .i64, .i .i64, .i .i64, .i .i64, .i .i64, .i .i64, .i .i64, .i .i64, .i .i64, .i .i64, .i .i64, .i .i64, .i .i64, .i .i64, .i .i64, .i .i64, .i .i64, .i .i64, .i .i64, .i .i64, .i .i64, .i .i64, .i .i64, .i .i64, .i .i64, .i .i64, .i .i64, .i .i64, .i .i64, .i .i64, .i .i64, .i .i64, .i .i64, .i .i64, .i .i64, .i .i64, .i .i64, .i .i64, .i .i64, .i .i64, .i .i64, .i .i64, .i .i64, .i .i64, .i .i64, .i .i64, .i .i64, .i .i64, .i .i64, .i .i64, .i .i64, .i .i64, .i .i64, .i .i64, .i .i64, .i .i64, .i .i64, .i .i64, .i .i64, .i .i64, .i .i64, .i .i64, .i .i64, .i .i64, .i .i64, .i .i64, .i .i64, .i .i64, .i .i64, .i .i64, .i .i64, .i .i64, .i .i64, .i .i64, .i .i64, .i .i64, .i .i64, .i .i64, .i .i64, .i .i64, .i .i64, .i .i64, .i .i64, .i .i64, .i .i64, .i .i64, .i .i64, .i .i64, .i .i64, .i .i64, .i .i64, .i .i64, .i .i64, .i .i64, .i .i64, .i .i64, .i .i64, .i .i64, .i .i64, .i .i64, .i .i64, .i .i64, .i .i64, .i .i64, .i .i64, .i .i64, .i .i64, .i .i64, .i .i64]⟩,
⟨328, 2624, .st [(0, 254), (192, 197)], [.i .i64, .i .i64, .i .i64, .b, .i .i64, .i .i64, .i .i64, .i .i64, .i .i64, .b, .i .i64, .i .i64, .i .i64, .i .i64, .i .i64, .b, .i .i64, .i .i64, .i .i64, .i .i64, .i .i64, .b, .i .i64, .i .i64, .i .i64, .i .i64, .i .i64, .b, .i .i64, .i .i64, .i .i64, .i .i64, .i .i64, .b, .i .i64, .i .i64, .i .i64, .i .i64, .i .i64, .b, .i .i64, .i .i64, .i .i64, .i .i64, .i .i64, .b, .i .i64, .i .i64, .i .i64, .i .i64, .i .i64, .b, .i .i64, .i .i64, .i .i64, .i .i64, .i .i64, .b, .i .i64, .i .i64, .i .i64, .i .i64, .i .i64, .b, .i .i64, .i .i64, .i .i64, .i .i64, .i .i64, .b, .i .i64, .i .i64, .i .i64, .i .i64, .i .i64, .b, .i .i64, .i .i64, .i .i64, .i .i64, .i .i64, .b, .i .i64, .i .i64, .i .i64, .i .i64, .i .i64, .b, .i .i64, .i .i64, .i .i64, .i .i64, .i .i64, .b, .i .i64, .i .i64, .i .i64, .i .i64, .i .i64, .b, .i .i64, .i .i64, .i .i64, .i .i64, .i .i64, .b, .i .i64, .i .i64, .i .i64, .i .i64, .i .i64, .b, .i .i64, .i .i64, .i .i64, .i .i64, .i .i64, .b, .i .i64, .i .i64, .i .i64, .i .i64, .i .i64, .b, .i .i64, .i .i64, .i .i64, .i .i64, .i .i64, .b, .i .i64, .i .i64, .i .i64, .i .i64, .i .i64, .b, .i .i64, .i .i64, .i .i64, .i .i64, .i .i64, .b, .i .i64, .i .i64, .i .i64, .i .i64, .i .i64, .b, .i .i64, .i .i64, .i .i64, .i .i64, .i .i64, .b, .i .i64, .i .i64, .i .i64, .i .i64, .i .i64, .b, .i .i64, .i .i64, .i .i64, .i .i64, .i .i64, .b, .i .i64, .i .i64, .i .i64, .i .i64, .i .i64, .b, .i .i64, .i .i64, .i .i64, .i .i64, .i .i64, .b, .i .i64, .i .i64, .i .i64, .i .i64, .i .i64, .b, .i .i64, .i .i64, .i .i64, .i .i64, .i .i64, .b, .i .i64, .i .i64, .i .i64, .i .i64, .i .i64, .i .i64, .i .i64, .i .i64, .i .i64, .i .i64, .i .i64, .i .i64, .i .i64, .i .i64, .i .i64, .i .i64, .i .i64, .i .i64, .i .i64, .i .i64, .i .i64, .i .i64, .i .i64, .i .i64, .i .i64, .i .i64, .i .i64, .i .i64, .i .i64, .i .i64, .i .i64, .i .i64, .i .i64, .i .i64, .i .i64, .i .i64, .i .i64, .i .i64, .i .i64, .i .i64, .i .i64, .i .i64, .i .i64, .i .i64, .i .i64, .i .i64, .i .i64, .i .i64, .i .i64, .i .i64, .i .i64, .i .i64, .i .i64, .i .i64, .i .i64, .i .i64, .i .i64, .i .i64, .i .i64, .i .i64, .i .i64, .i .i64, .i .i64, .i .i64, .i .i64, .i .i64, .i .i64, .i .i64, .i .i64, .i .i64, .i .i64, .i .i64, .i .i64, .i .i64, .i .i64, .i .i64, .i .i64, .i .i64, .i .i64, .i .i64, .i .i64, .i .i64, .i .i64, .i .i64, .i .i64, .i .i64, .i .i64, .i .i64, .i .i64, .i .i64, .i .i64, .i .i64, .i .i64, .i .i64, .i .i64, .i .i64, .i .i64, .i .i64, .i .i64, .i .i64, .i .i64, .i .i64, .i .i64, .i .i64, .i .i64, .i .i64, .i .i64, .i .i64, .i .i64, .i .i64, .i .i64, .i .i64, .i .i64, .i .i64, .i .i64, .i .i64, .i .i64, .i .i64, .i .i64, .i .i64, .i .i64, .i .i64, .i .i64, .i .i64, .i .i64, .i .i64, .i .i64, .i .i64, .i .i64, .i .i64, .i .i64, .i .i64, .i .i64, .i .i64, .i .i64, .i .i64, .i .i64, .i .i64]⟩,
⟨1, 0, .oth, []⟩,
⟨1, 8, .oth, [.nf]⟩,
⟨1, 8, .oth, [.nf]⟩,
⟨1, 8, .oth, [.nf]⟩,
⟨1, 0, .oth, []⟩,
⟨1, 8, .oth, [.nf]⟩,
⟨1, 8, .ptr 200, [.np]⟩,
⟨1, 8, .oth, [.nf]⟩,
⟨1, 8, .oth, [.nf]⟩,
⟨1, 0, .oth, []⟩,
⟨1, 8, .oth, [.nf]⟩,
⟨1, 8, .oth, [.nf]⟩,
⟨1, 8, .oth, [.nf]⟩,
⟨1, 8, .int .i64, [.i .i64]⟩,
⟨1, 0, .oth, []⟩,
⟨1, 8, .oth, [.nf]⟩,
⟨1, 8, .oth, [.nf]⟩,
⟨1, 8, .oth, [.nf]⟩,
⟨1, 8, .oth, [.nf]⟩,
⟨1, 8, .oth, [.nf]⟩,
⟨1, 8, .oth, [.nf]⟩,
⟨1, 4, .int .u32, [.i .u32]⟩,
⟨1, 8, .oth, [.nf]⟩,
⟨1, 8, .int .u64, [.i .u64]⟩,
⟨1, 8, .oth, [.nf]⟩,
⟨1, 8, .oth, [.nf]⟩,
⟨1, 0, .oth, []⟩,
⟨1, 8, .oth, [.nf]⟩,
⟨1, 8, .oth, [.nf]⟩,
⟨1, 8, .ptr 288, [.np]⟩,
⟨2, 32, .st [(0, 286), (1, 107)], [.np, .sl]⟩,
⟨2, 32, .st [(0, 286), (1, 107)], [.np, .sl]⟩,
⟨1, 8, .oth, [.nf]⟩,
⟨1, 16, .oth, [.ni]⟩,
⟨1, 16, .oth, [.ni]⟩,
⟨1, 0, .oth, []⟩,
⟨1, 8, .oth, [.nf]⟩,
⟨1, 8, .oth, [.nf]⟩,
⟨1, 8, .oth, [.nf]⟩,
⟨1, 8, .oth, [.nf]⟩,
⟨1, 8, .oth, [.nf]⟩,
⟨1, 8, .oth, [.nf]⟩,
⟨1, 8, .ptr 253, [.np]⟩,
⟨1, 0, .oth, []⟩,
⟨1, 8, .oth, [.nf]⟩,
⟨1, 8, .oth, [.nf]⟩,
⟨1, 8, .oth, [.nf]⟩,
⟨1, 8, .oth, [.nf]⟩,
⟨1, 8, .oth, [.nf]⟩,
⟨1, 8, .int .u64, [.i .u64]⟩,
⟨1, 8, .oth, [.nf]⟩,
⟨1, 8, .oth, [.nf]⟩,
⟨1, 8, .oth, [.nf]⟩,
⟨1, 8, .ptr 3, [.np]⟩,
⟨1, 8, .oth, [.nf]⟩,
⟨1, 0, .oth, []⟩,
⟨1, 8, .oth, [.nf]⟩,
⟨1, 0, .oth, []⟩,
⟨1, 8, .oth, [.nf]⟩,
⟨1, 8, .ptr 5, [.np]⟩,
⟨1, 8, .oth, [.nf]⟩,
⟨1, 8, .oth, [.nf]⟩,
⟨1, 8, .oth, [.nf]⟩,
⟨1, 8, .oth, [.nf]⟩,
⟨1, 8, .oth, [.nf]⟩,
⟨1, 8, .ptr 306, [.np]⟩,
⟨1, 0, .oth, []⟩,
⟨1, 8, .oth, [.nf]⟩,
⟨1, 8, .oth, [.np]⟩,
⟨1, 8, .oth, [.nf]⟩,
⟨1, 8, .oth, [.nf]⟩,
⟨1, 8, .oth, [.nf]⟩,
⟨1, 8, .oth, [.nf]⟩,
⟨1, 8, .oth, [.nf]⟩,
⟨1, 8, .oth, [.nf]⟩,
⟨4, 40, .st [(0, 17), (1, 17), (2, 17), (3, 9)], [.np, .np, .np, .s]⟩,
⟨4, 40, .st [(0, 17), (1, 17), (2, 17), (3, 9)], [.np, .np, .np, .s]⟩,
⟨0, 0, .arr 0 16, []⟩,
⟨0, 0, .st [(0, 334)], []⟩,
⟨0, 0, .st [(0, 334)], []⟩,
⟨1, 1, .int .u8, [.i .u8]⟩,
⟨1, 1, .int .u8, [.i .u8]⟩,
⟨1, 8, .oth, [.nf]⟩,
⟨1, 4, .int .i32, [.i .i32]⟩,
⟨1, 4, .int .i32, [.i .i32]⟩,
⟨11, 48, .st [(0, 12), (1, 12), (2, 278), (3, 337), (4, 5), (5, 5), (6, 338), (7, 339), (8, 316), (9, 340), (10, 341)], [.i .u64, .i .u64, .i .u32, .i .u8, .i .u8, .i .u8, .i .u8, .nf, .np, .i .i32, .i .i32]⟩,
⟨11, 48, .st [(0, 12), (1, 12), (2, 278), (3, 337), (4, 5), (5, 5), (6, 338), (7, 339), (8, 316), (9, 340), (10, 341)], [.i .u64, .i .u64, .i .u32, .i .u8, .i .u8, .i .u8, .i .u8, .nf, .np, .i .i32, .i .i32]⟩]
theorem TTok : TOk Try.prog TT := by unfold TOk; kernel_rfl
theorem mix : Try.prog.follows .mixedOrders = true := by kernel_rfl
structure S_box_Range where
  fIn : Int
  fOut : Int
  fN : Int
def eS_box_Range (x : S_box_Range) : PV := .agg [.v (.int .i64 x.fIn), .v (.int .i64 x.fOut), .v (.int .i64 x.fN)]
structure S_api_Cred where
  fUser : Int
  fGroup : Int
  fMore : (List Int)
  fCaps : Int
  fLevel : Int
  fKind : Int
def eS_api_Cred (x : S_api_Cred) : PV := .agg [.v (.int .i64 x.fUser), .v (.int .i64 x.fGroup), .sl (x.fMore.map (eI .i64)), .v (.int .i64 x.fCaps), .v (.int .i64 x.fLevel), .v (.int .i64 x.fKind)]
def cA_t215 (x : (Fin 100 → Bool)) : List PV := (List.ofFn x).flatMap fun a => [.v (.bool a)]
def eqS_box_Range (x y : S_box_Range) : Bool := ((x.fIn == y.fIn) && ((x.fOut == y.fOut) && ((x.fN == y.fN) && true)))
theorem eqS_box_Range_ok (x y : S_box_Range) : EqA Try.prog 211 [((.int .i64 x.fIn)), ((.int .i64 x.fOut)), ((.int .i64 x.fN))] [((.int .i64 y.fIn)), ((.int .i64 y.fOut)), ((.int .i64 y.fN))] (eqS_box_Range x y) := eqA_of TTok (by kernel_rfl) (by kernel_rfl) (by kernel_rfl)
/- ringhall/box.meet -/
def G_box_meet (n : Nat) (v_a21 : Int) (v_n22 : Int) (v_b23 : Int) (v_m24 : Int) : Option (Bool) :=
  if v_a21 < (wi .i64 (v_b23 + v_m24)) then
   some (decide (v_b23 < (wi .i64 (v_a21 + v_n22))))
  else
   some false
theorem G_box_meet_ok (n : Nat) (v_a21 : Int) (v_n22 : Int) (v_b23 : Int) (v_m24 : Int) (r : Bool) (h : G_box_meet n v_a21 v_n22 v_b23 v_m24 = some r) : Ret Try.prog 124 [(eI .i64) v_a21, (eI .i64) v_n22, (eI .i64) v_b23, (eI .i64) v_m24] (eB r) := by
  refine ret_run (n := 21) (fn := Try.f124) (c := bodyOf Try.f124) (by kernel_rfl) (by kernel_rfl) (by kernel_rfl) (by kernel_rfl) ?_
  have hF : KC 21 (FinR Try.prog Try.f124 (eB r)) := FinR.kc' (by kernel_rfl)
  unfold G_box_meet at h
  by_cases h20 : v_a21 < (wi .i64 (v_b23 + v_m24))
  · rw [if_pos h20] at h
    obtain rfl := Option.some.inj h
    exact pend_sound TTok mix 5 (hs := [.t true, .c, .c, .c, .c]) (by kernel_rfl) (by kernel_rfl) (by kernel_rfl) (.cons (dt h20) .nil)
  · rw [if_neg h20] at h
    obtain rfl := Option.some.inj h
    exact pend_sound TTok mix 5 (hs := [.t false, .c, .c, .c, .c]) (by kernel_rfl) (by kernel_rfl) (by kernel_rfl) (.cons (df h20) .nil)
inductive G_box_Check_C1_R where
  | x0 (v_x9 : Bool)
def G_box_Check_C1_ex : G_box_Check_C1_R → Ex
  | .x0 _ => .normal
def G_box_Check_C1_st (v_l6 : (List S_box_Range)) (v_x7 : Int) (v_y8 : S_box_Range) : G_box_Check_C1_R → PS
  | .x0 v_x9 => ⟨[.d (.sl (v_l6.map eS_box_Range)), dd, dd, .d (.v (.int .i64 v_x7)), .ref 0 0, dd, dd, dd, dd, dd, .d (.sl (v_l6.map eS_box_Range)), .d (.v (.int .i64 (v_l6.length : Int))), .d (.v (.int .i64 v_x7)), dd, dd, dd, dd, dd, dd, dd, dd, dd, dd, dd, dd, dd, dd, dd, dd, dd, dd, dd, dd, dd, dd, dd, dd, dd, dd, dd, dd, dd, dd, dd, dd, dd, dd, dd, dd, dd, .d (.v (.bool v_x9)), dd, dd, dd, dd, dd, dd, dd, dd, dd, dd, dd, dd, dd, dd, dd, dd, dd, dd, dd, dd, dd, dd, dd, dd, dd, dd, dd, dd, dd, dd], [.box [.d (.v (.int .i64 v_y8.fIn)), .d (.v (.int .i64 v_y8.fOut)), .d (.v (.int .i64 v_y8.fN))]]⟩
def G_box_Check_C1_hd (v_l6 : (List S_box_Range)) (v_x7 : Int) (v_y8 : S_box_Range)  : PS := ⟨[.d (.sl (v_l6.map eS_box_Range)), dd, dd, .d (.v (.int .i64 v_x7)), .ref 0 0, dd, dd, dd, dd, dd, .d (.sl (v_l6.map eS_box_Range)), .d (.v (.int .i64 (v_l6.length : Int))), .d (.v (.int .i64 v_x7)), dd, dd, dd, dd, dd, dd, dd, dd, dd, dd, dd, dd, dd, dd, dd, dd, dd, dd, dd, dd, dd, dd, dd, dd, dd, dd, dd, dd, dd, dd, dd, dd, dd, dd, dd, dd, dd, dd, dd, dd, dd, dd, dd, dd, dd, dd, dd, dd, dd, dd, dd, dd, dd, dd, dd, dd, dd, dd, dd, dd, dd, dd, dd, dd, dd, dd, dd, dd], [.box [.d (.v (.int .i64 v_y8.fIn)), .d (.v (.int .i64 v_y8.fOut)), .d (.v (.int .i64 v_y8.fN))]]⟩
def G_box_Check_C1 (n : Nat) (v_l6 : (List S_box_Range)) (v_x7 : Int) (v_y8 : S_box_Range) : Option G_box_Check_C1_R :=
  if v_y8.fN < 1 then
   some (.x0 true)
  else
   if v_y8.fN > 100 then
    some (.x0 true)
   else
    if v_y8.fIn < 0 then
     some (.x0 true)
    else
     if v_y8.fOut < 0 then
      some (.x0 true)
     else
      if v_y8.fIn > (wi .i64 (100 - v_y8.fN)) then
       some (.x0 true)
      else
       some (.x0 (decide (v_y8.fOut > (wi .i64 (100 - v_y8.fN)))))
theorem G_box_Check_C1_ok {Fi : Ex → PS → Prop} (hF : KC 81 Fi) (ks : List Fr) (n : Nat) (v_l6 : (List S_box_Range)) (v_x7 : Int) (v_y8 : S_box_Range)  (o : G_box_Check_C1_R) (h : G_box_Check_C1 n v_l6 v_x7 v_y8 = some o) (q : RunE Try.prog 81 Fi ks (G_box_Check_C1_ex o) (G_box_Check_C1_st v_l6 v_x7 v_y8 o)) : RunE Try.prog 81 Fi (.s (cL (cL (cR (cB (cL (cR (cR (cP (cB (cR (cL (cR (cR (bodyOf Try.f32)))))))))))))) :: ks) .normal (G_box_Check_C1_hd v_l6 v_x7 v_y8) := by
  unfold G_box_Check_C1 at h
  by_cases h9 : v_y8.fN < 1
  · rw [if_pos h9] at h
    cases h
    exact pkk_sound TTok mix hF 1 (hs := [.c, .t true, .c, .c, .c, .c, .c, .c, .c, .c, .c, .c, .c, .c, .c, .c, .c, .c, .c, .c, .c, .c]) (ts := []) (s := [0]) (l := [0, 3, 4, 10, 11, 12, 50]) (by kernel_rfl) (by kernel_rfl) (.cons (dt h9) .nil) q
  · rw [if_neg h9] at h
    by_cases h10 : v_y8.fN > 100
    · rw [if_pos h10] at h
      cases h
      exact pkk_sound TTok mix hF 1 (hs := [.c, .t false, .c, .c, .c, .t true, .c, .c, .c, .c, .c, .c, .c, .c, .c, .c, .c, .c, .c, .c, .c, .c, .c]) (ts := []) (s := [0]) (l := [0, 3, 4, 10, 11, 12, 50]) (by kernel_rfl) (by kernel_rfl) (.cons (df h9) (.cons (dt h10) .nil)) q
    · rw [if_neg h10] at h
      by_cases h11 : v_y8.fIn < 0
      · rw [if_pos h11] at h
        cases h
        exact pkk_sound TTok mix hF 1 (hs := [.c, .t false, .c, .c, .c, .t false, .c, .c, .c, .t true, .c, .c, .c, .c, .c, .c, .c, .c, .c, .c, .c, .c, .c, .c]) (ts := []) (s := [0]) (l := [0, 3, 4, 10, 11, 12, 50]) (by kernel_rfl) (by kernel_rfl) (.cons (df h9) (.cons (df h10) (.cons (dt h11) .nil))) q
      · rw [if_neg h11] at h
        by_cases h12 : v_y8.fOut < 0
        · rw [if_pos h12] at h
          cases h
          exact pkk_sound TTok mix hF 1 (hs := [.c, .t false, .c, .c, .c, .t false, .c, .c, .c, .t false, .c, .c, .c, .t true, .c, .c, .c, .c, .c, .c, .c, .c, .c, .c, .c]) (ts := []) (s := [0]) (l := [0, 3, 4, 10, 11, 12, 50]) (by kernel_rfl) (by kernel_rfl) (.cons (df h9) (.cons (df h10) (.cons (df h11) (.cons (dt h12) .nil)))) q
        · rw [if_neg h12] at h
          by_cases h13 : v_y8.fIn > (wi .i64 (100 - v_y8.fN))
          · rw [if_pos h13] at h
            cases h
            exact pkk_sound TTok mix hF 1 (hs := [.c, .t false, .c, .c, .c, .t false, .c, .c, .c, .t false, .c, .c, .c, .t false, .c, .c, .c, .c, .c, .c, .c, .t true, .c, .c, .c, .c, .c]) (ts := []) (s := [0]) (l := [0, 3, 4, 10, 11, 12, 50]) (by kernel_rfl) (by kernel_rfl) (.cons (df h9) (.cons (df h10) (.cons (df h11) (.cons (df h12) (.cons (dt h13) .nil))))) q
          · rw [if_neg h13] at h
            cases h
            exact pkk_sound TTok mix hF 1 (hs := [.c, .t false, .c, .c, .c, .t false, .c, .c, .c, .t false, .c, .c, .c, .t false, .c, .c, .c, .c, .c, .c, .c, .t false, .c, .c, .c, .c, .c, .c, .c]) (ts := []) (s := [0]) (l := [0, 3, 4, 10, 11, 12, 50]) (by kernel_rfl) (by kernel_rfl) (.cons (df h9) (.cons (df h10) (.cons (df h11) (.cons (df h12) (.cons (df h13) .nil))))) q
inductive G_box_Check_L2_R where
  | x0 (v_x33 : Int)
  | x1 
def G_box_Check_L2_ex : G_box_Check_L2_R → Ex
  | .x0 _ => .ret
  | .x1  => .exit 2
def G_box_Check_L2_st (v_l6 : (List S_box_Range)) (v_x7 : Int) (v_s18 : (List S_box_Range)) (v_y8 : S_box_Range) : G_box_Check_L2_R → PS
  | .x0 v_x33 => ⟨[dd, dd, .d (.v (.int .i64 v_x33)), dd, dd, dd, dd, dd, dd, dd, dd, dd, dd, dd, dd, dd, dd, dd, dd, dd, dd, dd, dd, dd, dd, dd, dd, dd, dd, dd, dd, dd, dd, dd, dd, dd, dd, dd, dd, dd, dd, dd, dd, dd, dd, dd, dd, dd, dd, dd, dd, dd, dd, dd, dd, dd, dd, dd, dd, dd, dd, dd, dd, dd, dd, dd, dd, dd, dd, dd, dd, dd, dd, dd, dd, dd, dd, dd, dd, dd, dd], []⟩
  | .x1  => ⟨[.d (.sl (v_l6.map eS_box_Range)), dd, dd, dd, dd, dd, dd, dd, dd, dd, .d (.sl (v_l6.map eS_box_Range)), .d (.v (.int .i64 (v_l6.length : Int))), .d (.v (.int .i64 v_x7)), dd, dd, dd, dd, dd, dd, dd, dd, dd, dd, dd, dd, dd, dd, dd, dd, dd, dd, dd, dd, dd, dd, dd, dd, dd, dd, dd, dd, dd, dd, dd, dd, dd, dd, dd, dd, dd, dd, dd, dd, dd, dd, dd, dd, dd, dd, dd, dd, dd, dd, dd, dd, dd, dd, dd, dd, dd, dd, dd, dd, dd, dd, dd, dd, dd, dd, dd, dd], []⟩
def G_box_Check_L2_hd (v_l6 : (List S_box_Range)) (v_x7 : Int) (v_s18 : (List S_box_Range)) (v_y8 : S_box_Range) (v_x19 : Int) : PS := ⟨[.d (.sl (v_l6.map eS_box_Range)), dd, dd, dd, .ref 0 0, dd, dd, dd, dd, dd, .d (.sl (v_l6.map eS_box_Range)), .d (.v (.int .i64 (v_l6.length : Int))), .d (.v (.int .i64 v_x7)), dd, dd, dd, dd, dd, dd, dd, dd, dd, dd, dd, dd, dd, dd, dd, dd, dd, dd, dd, dd, dd, dd, dd, dd, dd, dd, dd, dd, dd, dd, dd, dd, dd, dd, dd, dd, dd, dd, dd, dd, .d (.sl (v_s18.map eS_box_Range)), .d (.v (.int .i64 (v_s18.length : Int))), .d (.v (.int .i64 v_x19)), dd, dd, dd, dd, dd, dd, dd, dd, dd, dd, dd, dd, dd, dd, dd, dd, dd, dd, dd, dd, dd, dd, dd, dd, dd], [.box [.d (.v (.int .i64 v_y8.fIn)), .d (.v (.int .i64 v_y8.fOut)), .d (.v (.int .i64 v_y8.fN))]]⟩
def G_box_Check_L2 (n : Nat) (v_l6 : (List S_box_Range)) (v_x7 : Int) (v_s18 : (List S_box_Range)) (v_y8 : S_box_Range) : Nat → Int → Option G_box_Check_L2_R
  | 0, _ => none
  | k + 1, v_x19 =>
    if v_x19 < (v_s18.length : Int) then
     (getI v_s18 v_x19).bind fun (v_y29 : S_box_Range) =>
     (G_box_meet n v_y8.fIn v_y8.fN v_y29.fIn v_y29.fN).bind fun (v_r32 : (Bool)) =>
     if v_r32 = true then
      some (.x0 5)
     else
      (G_box_meet n v_y8.fOut v_y8.fN v_y29.fOut v_y29.fN).bind fun (v_r34 : (Bool)) =>
      if v_r34 = true then
       some (.x0 5)
      else
       G_box_Check_L2 n v_l6 v_x7 v_s18 v_y8 k (wi .i64 (v_x19 + 1))
    else
     some (.x1 )
theorem G_box_Check_L2_ok {Fi : Ex → PS → Prop} (hF : KC 81 Fi) (ks : List Fr) (n : Nat) (v_l6 : (List S_box_Range)) (v_x7 : Int) (v_s18 : (List S_box_Range)) (v_y8 : S_box_Range)  : ∀ (k : Nat) (v_x19 : Int) (o : G_box_Check_L2_R), G_box_Check_L2 n v_l6 v_x7 v_s18 v_y8 k v_x19 = some o → RunE Try.prog 81 Fi ks (G_box_Check_L2_ex o) (G_box_Check_L2_st v_l6 v_x7 v_s18 v_y8 o) → RunE Try.prog 81 Fi (.l k (cP (cB (cR (cR (cR (cB (cL (cR (cR (cP (cB (cR (cL (cR (cR (bodyOf Try.f32)))))))))))))))) :: ks) .normal (G_box_Check_L2_hd v_l6 v_x7 v_s18 v_y8 v_x19)
  | 0, v_x19, o, h, q => by rw [G_box_Check_L2] at h; cases h
  | k + 1, v_x19, o, h, q => by
    rw [G_box_Check_L2] at h
    by_cases h17 : v_x19 < (v_s18.length : Int)
    · rw [if_pos h17] at h
      obtain ⟨v_y29, h28, h⟩ := bind_some h
      obtain ⟨v_r32, h32, h⟩ := bind_some h
      by_cases h33 : v_r32 = true
      · rw [if_pos h33] at h
        cases h
        exact pkk_sound TTok mix hF 19 (hs := [.t true, .y (eS_box_Range v_y29), .c, .c, .c, .c, .c, .r (eB v_r32), .t true, .c, .c, .c, .c, .c, .c, .c, .c, .c]) (ts := []) (s := []) (l := [2]) (by kernel_rfl) (by kernel_rfl) (.cons (dt h17) (.cons (getI_ob (f := eS_box_Range) h28) (.cons (show 0 + 3 ≤ 3 by decide) (.cons (G_box_meet_ok n v_y8.fIn v_y8.fN v_y29.fIn v_y29.fN _ h32) (.cons h33 .nil))))) q
      · rw [if_neg h33] at h
        obtain ⟨v_r34, h34, h⟩ := bind_some h
        by_cases h35 : v_r34 = true
        · rw [if_pos h35] at h
          cases h
          exact pkk_sound TTok mix hF 19 (hs := [.t true, .y (eS_box_Range v_y29), .c, .c, .c, .c, .c, .r (eB v_r32), .t false, .c, .c, .c, .c, .c, .c, .c, .c, .c, .c, .c, .c, .r (eB v_r34), .t true]) (ts := []) (s := []) (l := [2]) (by kernel_rfl) (by kernel_rfl) (.cons (dt h17) (.cons (getI_ob (f := eS_box_Range) h28) (.cons (show 0 + 3 ≤ 3 by decide) (.cons (G_box_meet_ok n v_y8.fIn v_y8.fN v_y29.fIn v_y29.fN _ h32) (.cons (vf h33) (.cons (G_box_meet_ok n v_y8.fOut v_y8.fN v_y29.fOut v_y29.fN _ h34) (.cons h35 .nil))))))) q
        · rw [if_neg h35] at h
          exact pkk_sound TTok mix hF 16 (hs := [.t true, .y (eS_box_Range v_y29), .c, .c, .c, .c, .c, .r (eB v_r32), .t false, .c, .c, .c, .c, .c, .c, .c, .c, .c, .c, .c, .c, .r (eB v_r34), .t false]) (ts := []) (s := [0]) (l := [0, 4, 10, 11, 12, 53, 54, 55]) (by kernel_rfl) (by kernel_rfl) (.cons (dt h17) (.cons (getI_ob (f := eS_box_Range) h28) (.cons (show 0 + 3 ≤ 3 by decide) (.cons (G_box_meet_ok n v_y8.fIn v_y8.fN v_y29.fIn v_y29.fN _ h32) (.cons (vf h33) (.cons (G_box_meet_ok n v_y8.fOut v_y8.fN v_y29.fOut v_y29.fN _ h34) (.cons (vf h35) .nil))))))) (G_box_Check_L2_ok hF ks n v_l6 v_x7 v_s18 v_y8 k (wi .i64 (v_x19 + 1)) _ h q)
    · rw [if_neg h17] at h
      cases h
      exact pkk_sound TTok mix hF 8 (hs := [.t false]) (ts := []) (s := []) (l := [0, 10, 11, 12]) (by kernel_rfl) (by kernel_rfl) (.cons (df h17) .nil) q
inductive G_box_Check_L3_R where
  | x0 (v_x17 : Int)
  | x1 
def G_box_Check_L3_ex : G_box_Check_L3_R → Ex
  | .x0 _ => .ret
  | .x1  => .exit 0
def G_box_Check_L3_st (v_l6 : (List S_box_Range)) : G_box_Check_L3_R → PS
  | .x0 v_x17 => ⟨[dd, dd, .d (.v (.int .i64 v_x17)), dd, dd, dd, dd, dd, dd, dd, dd, dd, dd, dd, dd, dd, dd, dd, dd, dd, dd, dd, dd, dd, dd, dd, dd, dd, dd, dd, dd, dd, dd, dd, dd, dd, dd, dd, dd, dd, dd, dd, dd, dd, dd, dd, dd, dd, dd, dd, dd, dd, dd, dd, dd, dd, dd, dd, dd, dd, dd, dd, dd, dd, dd, dd, dd, dd, dd, dd, dd, dd, dd, dd, dd, dd, dd, dd, dd, dd, dd], []⟩
  | .x1  => ⟨[dd, dd, dd, dd, dd, dd, dd, dd, dd, dd, dd, dd, dd, dd, dd, dd, dd, dd, dd, dd, dd, dd, dd, dd, dd, dd, dd, dd, dd, dd, dd, dd, dd, dd, dd, dd, dd, dd, dd, dd, dd, dd, dd, dd, dd, dd, dd, dd, dd, dd, dd, dd, dd, dd, dd, dd, dd, dd, dd, dd, dd, dd, dd, dd, dd, dd, dd, dd, dd, dd, dd, dd, dd, dd, dd, dd, dd, dd, dd, dd, dd], []⟩
def G_box_Check_L3_hd (v_l6 : (List S_box_Range)) (v_x7 : Int) : PS := ⟨[.d (.sl (v_l6.map eS_box_Range)), dd, dd, dd, dd, dd, dd, dd, dd, dd, .d (.sl (v_l6.map eS_box_Range)), .d (.v (.int .i64 (v_l6.length : Int))), .d (.v (.int .i64 v_x7)), dd, dd, dd, dd, dd, dd, dd, dd, dd, dd, dd, dd, dd, dd, dd, dd, dd, dd, dd, dd, dd, dd, dd, dd, dd, dd, dd, dd, dd, dd, dd, dd, dd, dd, dd, dd, dd, dd, dd, dd, dd, dd, dd, dd, dd, dd, dd, dd, dd, dd, dd, dd, dd, dd, dd, dd, dd, dd, dd, dd, dd, dd, dd, dd, dd, dd, dd, dd], []⟩
def G_box_Check_L3 (n : Nat) (v_l6 : (List S_box_Range)) : Nat → Int → Option G_box_Check_L3_R
  | 0, _ => none
  | k + 1, v_x7 =>
    if v_x7 < (v_l6.length : Int) then
     (getI v_l6 v_x7).bind fun (v_y8 : S_box_Range) =>
     (G_box_Check_C1 n v_l6 v_x7 v_y8).bind fun v_o15 => match v_o15 with
     | .x0 v_z16 =>
       if v_z16 = true then
        some (.x0 1)
       else
        (sub v_l6 0 v_x7).bind fun (v_s18 : (List S_box_Range)) =>
        (G_box_Check_L2 n v_l6 v_x7 v_s18 v_y8 n 0).bind fun v_o36 => match v_o36 with
        | .x0 v_z37 =>
          some (.x0 v_z37)
        | .x1  =>
          G_box_Check_L3 n v_l6 k (wi .i64 (v_x7 + 1))
    else
     some (.x1 )
theorem G_box_Check_L3_ok {Fi : Ex → PS → Prop} (hF : KC 81 Fi) (ks : List Fr) (n : Nat) (v_l6 : (List S_box_Range))  : ∀ (k : Nat) (v_x7 : Int) (o : G_box_Check_L3_R), G_box_Check_L3 n v_l6 k v_x7 = some o → RunE Try.prog 81 Fi ks (G_box_Check_L3_ex o) (G_box_Check_L3_st v_l6 o) → RunE Try.prog 81 Fi (.l k (cP (cB (cR (cL (cR (cR (bodyOf Try.f32))))))) :: ks) .normal (G_box_Check_L3_hd v_l6 v_x7)
  | 0, v_x7, o, h, q => by rw [G_box_Check_L3] at h; cases h
  | k + 1, v_x7, o, h, q => by
    rw [G_box_Check_L3] at h
    by_cases h2 : v_x7 < (v_l6.length : Int)
    · rw [if_pos h2] at h
      obtain ⟨v_y8, h3, h⟩ := bind_some h
      obtain ⟨v_o15, h14, h⟩ := bind_some h
      refine pkk_sound TTok mix hF 12 (hs := [.t true, .y (eS_box_Range v_y8), .c]) (ts := []) (s := [12]) (l := [0, 3, 4, 10, 11, 12]) (by kernel_rfl) (by kernel_rfl) (.cons (dt h2) (.cons (getI_ob (f := eS_box_Range) h3) (.cons (show 0 + 3 ≤ 3 by decide) .nil))) (G_box_Check_C1_ok hF (.s (cR (cL (cR (cB (cL (cR (cR (cP (cB (cR (cL (cR (cR (bodyOf Try.f32)))))))))))))) :: .s (cR (cR (cB (cL (cR (cR (cP (cB (cR (cL (cR (cR (bodyOf Try.f32))))))))))))) :: .b 1 :: .s (cR (cR (cR (cP (cB (cR (cL (cR (cR (bodyOf Try.f32)))))))))) :: .l k (cP (cB (cR (cL (cR (cR (bodyOf Try.f32))))))) :: ks) n v_l6 v_x7 v_y8 _ h14 ?_)
      cases v_o15 with
      | x0 v_z16 =>
        try dsimp only at h
        by_cases h15 : v_z16 = true
        · rw [if_pos h15] at h
          cases h
          exact pkk_sound TTok mix hF 8 (hs := [.t true]) (ts := []) (s := []) (l := [2]) (by kernel_rfl) (by kernel_rfl) (.cons h15 .nil) q
        · rw [if_neg h15] at h
          obtain ⟨v_s18, h16, h⟩ := bind_some h
          obtain ⟨v_o36, h36, h⟩ := bind_some h
          refine pkk_sound TTok mix hF 6 (hs := [.t false, .w (v_s18.map eS_box_Range), .u (.d (.v (.int .i64 (v_s18.length : Int)))), .n n]) (ts := []) (s := [0]) (l := [0, 4, 10, 11, 12, 53, 54, 55]) (by kernel_rfl) (by kernel_rfl) (.cons (vf h15) (.cons (sub_ob (f := eS_box_Range) (s := 3) h16 (fun _ => rfl)).1 (.cons (sub_ob (f := eS_box_Range) (s := 3) h16 (fun _ => rfl)).2.1 (.cons (sub_ob (f := eS_box_Range) (s := 3) h16 (fun _ => rfl)).2.2.1 (.cons (sub_ob (f := eS_box_Range) (s := 3) h16 (fun _ => rfl)).2.2.2.1 (.cons (sub_ob (f := eS_box_Range) (s := 3) h16 (fun _ => rfl)).2.2.2.2 (.cons (len_ob (f := eS_box_Range) (l := v_s18)) .nil))))))) (G_box_Check_L2_ok hF (.b 2 :: .b 1 :: .s (cR (cR (cR (cP (cB (cR (cL (cR (cR (bodyOf Try.f32)))))))))) :: .l k (cP (cB (cR (cL (cR (cR (bodyOf Try.f32))))))) :: ks) n v_l6 v_x7 v_s18 v_y8 n 0 _ h36 ?_)
          cases v_o36 with
          | x0 v_z37 =>
            try dsimp only at h
            cases h
            exact pkk_sound TTok mix hF 4 (hs := []) (ts := []) (s := []) (l := [2]) (by kernel_rfl) (by kernel_rfl) .nil q
          | x1  =>
            try dsimp only at h
            exact pkk_sound TTok mix hF 3 (hs := []) (ts := []) (s := []) (l := [0, 10, 11, 12]) (by kernel_rfl) (by kernel_rfl) .nil (G_box_Check_L3_ok hF ks n v_l6 k (wi .i64 (v_x7 + 1)) _ h q)
    · rw [if_neg h2] at h
      cases h
      exact pkk_sound TTok mix hF 8 (hs := [.t false]) (ts := []) (s := []) (l := []) (by kernel_rfl) (by kernel_rfl) (.cons (df h2) .nil) q
/- ringhall/box.Check -/
def G_box_Check (n : Nat) (v_l6 : (List S_box_Range)) : Option (Int) :=
  if (v_l6.length : Int) > 4 then
   some 2
  else
   (G_box_Check_L3 n v_l6 n 0).bind fun v_o39 => match v_o39 with
   | .x0 v_z40 =>
     some v_z40
   | .x1  =>
     some 0
theorem G_box_Check_ok (n : Nat) (v_l6 : (List S_box_Range)) (r : Int) (h : G_box_Check n v_l6 = some r) : Ret Try.prog 32 [(eL eS_box_Range) v_l6] ((eI .i64) r) := by
  refine ret_run (n := 81) (fn := Try.f32) (c := bodyOf Try.f32) (by kernel_rfl) (by kernel_rfl) (by kernel_rfl) (by kernel_rfl) ?_
  have hF : KC 81 (FinR Try.prog Try.f32 ((eI .i64) r)) := FinR.kc' (by kernel_rfl)
  unfold G_box_Check at h
  by_cases h1 : (v_l6.length : Int) > 4
  · rw [if_pos h1] at h
    obtain rfl := Option.some.inj h
    exact pend_sound TTok mix 10 (hs := [.u (.d (.v (.int .i64 (v_l6.length : Int)))), .t true]) (by kernel_rfl) (by kernel_rfl) (by kernel_rfl) (.cons (len_ob (f := eS_box_Range) (l := v_l6)) (.cons (dt h1) .nil))
  · rw [if_neg h1] at h
    obtain ⟨v_o39, h37, h⟩ := bind_some h
    refine pkk_sound TTok mix hF 12 (hs := [.u (.d (.v (.int .i64 (v_l6.length : Int)))), .t false, .u (.d (.v (.int .i64 (v_l6.length : Int)))), .n n]) (ts := []) (s := []) (l := [0, 10, 11, 12]) (by kernel_rfl) (by kernel_rfl) (.cons (len_ob (f := eS_box_Range) (l := v_l6)) (.cons (df h1) (.cons (len_ob (f := eS_box_Range) (l := v_l6)) .nil))) (G_box_Check_L3_ok hF (.b 0 :: .s (cR (cR (cR (bodyOf Try.f32)))) :: []) n v_l6 n 0 _ h37 ?_)
    cases v_o39 with
    | x0 v_z40 =>
      try dsimp only at h
      obtain rfl := Option.some.inj h
      exact pend_sound TTok mix 2 (hs := []) (by kernel_rfl) (by kernel_rfl) (by kernel_rfl) .nil
    | x1  =>
      try dsimp only at h
      obtain rfl := Option.some.inj h
      exact pend_sound TTok mix 4 (hs := []) (by kernel_rfl) (by kernel_rfl) (by kernel_rfl) .nil
inductive G_box_To_L1_R where
  | x0 (v_x45 : Int) (v_x46 : Int)
  | x1 
def G_box_To_L1_ex : G_box_To_L1_R → Ex
  | .x0 _ _ => .ret
  | .x1  => .exit 0
def G_box_To_L1_st (v_in5 : Int) (v_l4 : (List S_box_Range)) : G_box_To_L1_R → PS
  | .x0 v_x45 v_x46 => ⟨[dd, dd, dd, dd, .d (.v (.int .i64 v_x45)), .d (.v (.int .i64 v_x46)), dd, dd, dd, dd, dd, dd, dd, dd, dd, dd, dd, dd, dd, dd, dd, dd, dd, dd, dd, dd, dd, dd, dd, dd, dd, dd, dd, dd, dd, dd, dd, dd, dd, dd, dd], []⟩
  | .x1  => ⟨[dd, dd, dd, dd, dd, dd, dd, dd, dd, dd, dd, dd, dd, dd, dd, dd, dd, dd, dd, dd, dd, dd, dd, dd, dd, dd, dd, dd, dd, dd, dd, dd, dd, dd, dd, dd, dd, dd, dd, dd, dd], []⟩
def G_box_To_L1_hd (v_in5 : Int) (v_l4 : (List S_box_Range)) (v_x42 : Int) : PS := ⟨[dd, .d (.v (.int .i64 v_in5)), dd, dd, dd, dd, dd, dd, dd, dd, dd, dd, dd, dd, .d (.sl (v_l4.map eS_box_Range)), .d (.v (.int .i64 (v_l4.length : Int))), .d (.v (.int .i64 v_x42)), dd, dd, dd, dd, dd, dd, dd, dd, dd, dd, dd, dd, dd, dd, dd, dd, dd, dd, dd, dd, dd, dd, dd, dd], []⟩
def G_box_To_L1 (n : Nat) (v_in5 : Int) (v_l4 : (List S_box_Range)) : Nat → Int → Option G_box_To_L1_R
  | 0, _ => none
  | k + 1, v_x42 =>
    if v_x42 < (v_l4.length : Int) then
     (getI v_l4 v_x42).bind fun (v_y44 : S_box_Range) =>
     if v_in5 ≥ v_y44.fIn then
      if v_in5 < (wi .i64 (v_y44.fIn + v_y44.fN)) then
       some (.x0 (wi .i64 ((wi .i64 (v_y44.fOut + v_in5)) - v_y44.fIn)) 0)
      else
       G_box_To_L1 n v_in5 v_l4 k (wi .i64 (v_x42 + 1))
     else
      G_box_To_L1 n v_in5 v_l4 k (wi .i64 (v_x42 + 1))
    else
     some (.x1 )
theorem G_box_To_L1_ok {Fi : Ex → PS → Prop} (hF : KC 41 Fi) (ks : List Fr) (n : Nat) (v_in5 : Int) (v_l4 : (List S_box_Range))  : ∀ (k : Nat) (v_x42 : Int) (o : G_box_To_L1_R), G_box_To_L1 n v_in5 v_l4 k v_x42 = some o → RunE Try.prog 41 Fi ks (G_box_To_L1_ex o) (G_box_To_L1_st v_in5 v_l4 o) → RunE Try.prog 41 Fi (.l k (cP (cB (cR (cL (cR (cR (bodyOf Try.f27))))))) :: ks) .normal (G_box_To_L1_hd v_in5 v_l4 v_x42)
  | 0, v_x42, o, h, q => by rw [G_box_To_L1] at h; cases h
  | k + 1, v_x42, o, h, q => by
    rw [G_box_To_L1] at h
    by_cases h41 : v_x42 < (v_l4.length : Int)
    · rw [if_pos h41] at h
      obtain ⟨v_y44, h47, h⟩ := bind_some h
      by_cases h49 : v_in5 ≥ v_y44.fIn
      · rw [if_pos h49] at h
        by_cases h51 : v_in5 < (wi .i64 (v_y44.fIn + v_y44.fN))
        · rw [if_pos h51] at h
          cases h
          exact pkk_sound TTok mix hF 19 (hs := [.t true, .y (eS_box_Range v_y44), .c, .c, .t true, .c, .c, .c, .c, .c, .c, .c, .c, .t true, .c, .c]) (ts := []) (s := []) (l := [4, 5]) (by kernel_rfl) (by kernel_rfl) (.cons (dt h41) (.cons (getI_ob (f := eS_box_Range) h47) (.cons (show 0 + 3 ≤ 3 by decide) (.cons (dt h49) (.cons (dt h51) .nil))))) q
        · rw [if_neg h51] at h
          exact pkk_sound TTok mix hF 16 (hs := [.t true, .y (eS_box_Range v_y44), .c, .c, .t true, .c, .c, .c, .c, .c, .c, .c, .c, .t false]) (ts := []) (s := []) (l := [1, 14, 15, 16]) (by kernel_rfl) (by kernel_rfl) (.cons (dt h41) (.cons (getI_ob (f := eS_box_Range) h47) (.cons (show 0 + 3 ≤ 3 by decide) (.cons (dt h49) (.cons (df h51) .nil))))) (G_box_To_L1_ok hF ks n v_in5 v_l4 k (wi .i64 (v_x42 + 1)) _ h q)
      · rw [if_neg h49] at h
        exact pkk_sound TTok mix hF 16 (hs := [.t true, .y (eS_box_Range v_y44), .c, .c, .t false, .c, .c, .c, .c, .c, .c, .c]) (ts := []) (s := []) (l := [1, 14, 15, 16]) (by kernel_rfl) (by kernel_rfl) (.cons (dt h41) (.cons (getI_ob (f := eS_box_Range) h47) (.cons (show 0 + 3 ≤ 3 by decide) (.cons (df h49) .nil)))) (G_box_To_L1_ok hF ks n v_in5 v_l4 k (wi .i64 (v_x42 + 1)) _ h q)
    · rw [if_neg h41] at h
      cases h
      exact pkk_sound TTok mix hF 8 (hs := [.t false]) (ts := []) (s := []) (l := []) (by kernel_rfl) (by kernel_rfl) (.cons (df h41) .nil) q
/- ringhall/box.To -/
def G_box_To (n : Nat) (v_l4 : (List S_box_Range)) (v_in5 : Int) : Option (Int × Int) :=
  (G_box_Check n v_l4).bind fun (v_r41 : (Int)) =>
  if v_r41 = 0 then
   (G_box_To_L1 n v_in5 v_l4 n 0).bind fun v_o47 => match v_o47 with
   | .x0 v_z48 v_z49 =>
     some (v_z48, v_z49)
   | .x1  =>
     some (0, 4)
  else
   some (0, v_r41)
theorem G_box_To_ok (n : Nat) (v_l4 : (List S_box_Range)) (v_in5 : Int) (r : Int × Int) (h : G_box_To n v_l4 v_in5 = some r) : Ret Try.prog 27 [(eL eS_box_Range) v_l4, (eI .i64) v_in5] (.tup [(eI .i64) r.1, (eI .i64) r.2]) := by
  refine ret_run (n := 41) (fn := Try.f27) (c := bodyOf Try.f27) (by kernel_rfl) (by kernel_rfl) (by kernel_rfl) (by kernel_rfl) ?_
  have hF : KC 41 (FinR Try.prog Try.f27 (.tup [(eI .i64) r.1, (eI .i64) r.2])) := FinR.kc' (by kernel_rfl)
  unfold G_box_To at h
  obtain ⟨v_r41, h38, h⟩ := bind_some h
  by_cases h40 : v_r41 = 0
  · rw [if_pos h40] at h
    obtain ⟨v_o47, h52, h⟩ := bind_some h
    refine pkk_sound TTok mix hF 14 (hs := [.r ((eI .i64) v_r41), .t false, .u (.d (.v (.int .i64 (v_l4.length : Int)))), .n n]) (ts := []) (s := []) (l := [1, 14, 15, 16]) (by kernel_rfl) (by kernel_rfl) (.cons (G_box_Check_ok n v_l4 _ h38) (.cons (nf h40) (.cons (len_ob (f := eS_box_Range) (l := v_l4)) .nil))) (G_box_To_L1_ok hF (.b 0 :: .s (cR (cR (cR (bodyOf Try.f27)))) :: []) n v_in5 v_l4 n 0 _ h52 ?_)
    cases v_o47 with
    | x0 v_z48 v_z49 =>
      try dsimp only at h
      obtain rfl := Option.some.inj h
      exact pend_sound TTok mix 2 (hs := []) (by kernel_rfl) (by kernel_rfl) (by kernel_rfl) .nil
    | x1  =>
      try dsimp only at h
      obtain rfl := Option.some.inj h
      exact pend_sound TTok mix 4 (hs := []) (by kernel_rfl) (by kernel_rfl) (by kernel_rfl) .nil
  · rw [if_neg h40] at h
    obtain rfl := Option.some.inj h
    exact pend_sound TTok mix 12 (hs := [.r ((eI .i64) v_r41), .t true]) (by kernel_rfl) (by kernel_rfl) (by kernel_rfl) (.cons (G_box_Check_ok n v_l4 _ h38) (.cons (nt h40) .nil))
inductive G_box_Nest_L1_R where
  | x0 (v_m66 : Int) (v_w67 : (List S_box_Range))
def G_box_Nest_L1_ex : G_box_Nest_L1_R → Ex
  | .x0 _ _ => .exit 4
def G_box_Nest_L1_st (v_outer51 : (List S_box_Range)) (v_k58 : Int) (v_r60 : (Int × Int)) (v_inner52 : (List S_box_Range)) (v_x55 : Int) (v_y57 : S_box_Range) : G_box_Nest_L1_R → PS
  | .x0 v_m66 v_w67 => ⟨[.d (.sl (v_outer51.map eS_box_Range)), dd, dd, dd, dd, dd, dd, dd, .srf 0, dd, .ref 1 0, .d (.v (.int .i64 v_k58)), .d (.v (.int .i64 v_r60.1)), dd, .d (.v (.int .i64 v_m66)), dd, dd, dd, dd, dd, dd, dd, dd, dd, dd, dd, dd, .d (.sl (v_inner52.map eS_box_Range)), .d (.v (.int .i64 (v_inner52.length : Int))), .d (.v (.int .i64 v_x55)), dd, dd, dd, dd, dd, dd, dd, dd, dd, dd, dd, dd, dd, dd, dd, dd, dd, dd, dd, dd, dd, dd, dd, dd, dd, dd, dd, dd, dd, dd, dd, dd, dd, dd, dd, dd, dd, dd, dd, dd, dd, dd, dd, dd, dd, dd, dd, dd, dd, dd, dd, dd, dd, dd, dd, dd, dd, dd, dd, dd, dd, dd, dd, dd, dd], [.row 211 3 (v_w67.map eS_box_Range), .box [.d (.v (.int .i64 v_y57.fIn)), .d (.v (.int .i64 v_y57.fOut)), .d (.v (.int .i64 v_y57.fN))]]⟩
def G_box_Nest_L1_hd (v_outer51 : (List S_box_Range)) (v_k58 : Int) (v_r60 : (Int × Int)) (v_inner52 : (List S_box_Range)) (v_x55 : Int) (v_y57 : S_box_Range) (v_m62 : Int) (v_w63 : (List S_box_Range)) : PS := ⟨[.d (.sl (v_outer51.map eS_box_Range)), dd, dd, dd, dd, dd, dd, dd, .srf 0, dd, .ref 1 0, .d (.v (.int .i64 v_k58)), .d (.v (.int .i64 v_r60.1)), dd, .d (.v (.int .i64 v_m62)), dd, dd, dd, dd, dd, dd, dd, dd, dd, dd, dd, dd, .d (.sl (v_inner52.map eS_box_Range)), .d (.v (.int .i64 (v_inner52.length : Int))), .d (.v (.int .i64 v_x55)), dd, dd, dd, dd, dd, dd, dd, dd, dd, dd, dd, dd, dd, dd, dd, dd, dd, dd, dd, dd, dd, dd, dd, dd, dd, dd, dd, dd, dd, dd, dd, dd, dd, dd, dd, dd, dd, dd, dd, dd, dd, dd, dd, dd, dd, dd, dd, dd, dd, dd, dd, dd, dd, dd, dd, dd, dd, dd, dd, dd, dd, dd, dd, dd, dd], [.row 211 3 (v_w63.map eS_box_Range), .box [.d (.v (.int .i64 v_y57.fIn)), .d (.v (.int .i64 v_y57.fOut)), .d (.v (.int .i64 v_y57.fN))]]⟩
def G_box_Nest_L1 (n : Nat) (v_outer51 : (List S_box_Range)) (v_k58 : Int) (v_r60 : (Int × Int)) (v_inner52 : (List S_box_Range)) (v_x55 : Int) (v_y57 : S_box_Range) : Nat → Int → (List S_box_Range) → Option G_box_Nest_L1_R
  | 0, _, _ => none
  | k + 1, v_m62, v_w63 =>
    if (wi .i64 (v_k58 + v_m62)) < v_y57.fN then
     (G_box_To n v_outer51 (wi .i64 ((wi .i64 (v_y57.fOut + v_k58)) + v_m62))).bind fun (v_r65 : (Int × Int)) =>
     if v_r65.2 = 0 then
      if v_r65.1 = (wi .i64 (v_r60.1 + v_m62)) then
       G_box_Nest_L1 n v_outer51 v_k58 v_r60 v_inner52 v_x55 v_y57 k (wi .i64 (v_m62 + 1)) v_w63
      else
       some (.x0 v_m62 v_w63)
     else
      some (.x0 v_m62 v_w63)
    else
     some (.x0 v_m62 v_w63)
theorem G_box_Nest_L1_ok {Fi : Ex → PS → Prop} (hF : KC 95 Fi) (ks : List Fr) (n : Nat) (v_outer51 : (List S_box_Range)) (v_k58 : Int) (v_r60 : (Int × Int)) (v_inner52 : (List S_box_Range)) (v_x55 : Int) (v_y57 : S_box_Range)  : ∀ (k : Nat) (v_m62 : Int) (v_w63 : (List S_box_Range)) (o : G_box_Nest_L1_R), G_box_Nest_L1 n v_outer51 v_k58 v_r60 v_inner52 v_x55 v_y57 k v_m62 v_w63 = some o → RunE Try.prog 95 Fi ks (G_box_Nest_L1_ex o) (G_box_Nest_L1_st v_outer51 v_k58 v_r60 v_inner52 v_x55 v_y57 o) → RunE Try.prog 95 Fi (.l k (cP (cB (cL (cR (cR (cR (cB (cR (cP (cB (cR (cR (cB (cL (cR (cR (cP (cB (cR (cL (cR (cR (cR (cR (bodyOf Try.f122))))))))))))))))))))))))) :: ks) .normal (G_box_Nest_L1_hd v_outer51 v_k58 v_r60 v_inner52 v_x55 v_y57 v_m62 v_w63)
  | 0, v_m62, v_w63, o, h, q => by rw [G_box_Nest_L1] at h; cases h
  | k + 1, v_m62, v_w63, o, h, q => by
    rw [G_box_Nest_L1] at h
    by_cases h66 : (wi .i64 (v_k58 + v_m62)) < v_y57.fN
    · rw [if_pos h66] at h
      obtain ⟨v_r65, h71, h⟩ := bind_some h
      by_cases h73 : v_r65.2 = 0
      · rw [if_pos h73] at h
        by_cases h74 : v_r65.1 = (wi .i64 (v_r60.1 + v_m62))
        · rw [if_pos h74] at h
          exact pkk_sound TTok mix hF 16 (hs := [.c, .t true, .c, .r (.tup [(eI .i64) v_r65.1, (eI .i64) v_r65.2]), .t false, .c, .c, .c, .c, .t false]) (ts := []) (s := [0, 1]) (l := [0, 8, 10, 11, 12, 14, 27, 28, 29]) (by kernel_rfl) (by kernel_rfl) (.cons (dt h66) (.cons (G_box_To_ok n v_outer51 (wi .i64 ((wi .i64 (v_y57.fOut + v_k58)) + v_m62)) _ h71) (.cons (nf h73) (.cons (nf h74) .nil)))) (G_box_Nest_L1_ok hF ks n v_outer51 v_k58 v_r60 v_inner52 v_x55 v_y57 k (wi .i64 (v_m62 + 1)) v_w63 _ h q)
        · rw [if_neg h74] at h
          cases h
          exact pkk_sound TTok mix hF 17 (hs := [.c, .t true, .c, .r (.tup [(eI .i64) v_r65.1, (eI .i64) v_r65.2]), .t false, .c, .c, .c, .c, .t true]) (ts := []) (s := [0, 1]) (l := [0, 8, 10, 11, 12, 14, 27, 28, 29]) (by kernel_rfl) (by kernel_rfl) (.cons (dt h66) (.cons (G_box_To_ok n v_outer51 (wi .i64 ((wi .i64 (v_y57.fOut + v_k58)) + v_m62)) _ h71) (.cons (nf h73) (.cons (nt h74) .nil)))) q
      · rw [if_neg h73] at h
        cases h
        exact pkk_sound TTok mix hF 17 (hs := [.c, .t true, .c, .r (.tup [(eI .i64) v_r65.1, (eI .i64) v_r65.2]), .t true, .c, .c, .c, .c, .c]) (ts := []) (s := [0, 1]) (l := [0, 8, 10, 11, 12, 14, 27, 28, 29]) (by kernel_rfl) (by kernel_rfl) (.cons (dt h66) (.cons (G_box_To_ok n v_outer51 (wi .i64 ((wi .i64 (v_y57.fOut + v_k58)) + v_m62)) _ h71) (.cons (nt h73) .nil))) q
    · rw [if_neg h66] at h
      cases h
      exact pkk_sound TTok mix hF 8 (hs := [.c, .t false]) (ts := []) (s := [0, 1]) (l := [0, 8, 10, 11, 12, 14, 27, 28, 29]) (by kernel_rfl) (by kernel_rfl) (.cons (df h66) .nil) q
inductive G_box_Nest_L2_R where
  | x0 (v_x61 : Int)
  | x1 (v_w76 : (List S_box_Range))
def G_box_Nest_L2_ex : G_box_Nest_L2_R → Ex
  | .x0 _ => .ret
  | .x1 _ => .exit 2
def G_box_Nest_L2_st (v_outer51 : (List S_box_Range)) (v_inner52 : (List S_box_Range)) (v_x55 : Int) (v_y57 : S_box_Range) : G_box_Nest_L2_R → PS
  | .x0 v_x61 => ⟨[dd, dd, dd, dd, .d (vnil), .d (.v (.int .i64 v_x61)), dd, dd, dd, dd, dd, dd, dd, dd, dd, dd, dd, dd, dd, dd, dd, dd, dd, dd, dd, dd, dd, dd, dd, dd, dd, dd, dd, dd, dd, dd, dd, dd, dd, dd, dd, dd, dd, dd, dd, dd, dd, dd, dd, dd, dd, dd, dd, dd, dd, dd, dd, dd, dd, dd, dd, dd, dd, dd, dd, dd, dd, dd, dd, dd, dd, dd, dd, dd, dd, dd, dd, dd, dd, dd, dd, dd, dd, dd, dd, dd, dd, dd, dd, dd, dd, dd, dd, dd, dd], []⟩
  | .x1 v_w76 => ⟨[.d (.sl (v_outer51.map eS_box_Range)), dd, dd, dd, dd, dd, dd, dd, .srf 0, dd, dd, dd, dd, dd, dd, dd, dd, dd, dd, dd, dd, dd, dd, dd, dd, dd, dd, .d (.sl (v_inner52.map eS_box_Range)), .d (.v (.int .i64 (v_inner52.length : Int))), .d (.v (.int .i64 v_x55)), dd, dd, dd, dd, dd, dd, dd, dd, dd, dd, dd, dd, dd, dd, dd, dd, dd, dd, dd, dd, dd, dd, dd, dd, dd, dd, dd, dd, dd, dd, dd, dd, dd, dd, dd, dd, dd, dd, dd, dd, dd, dd, dd, dd, dd, dd, dd, dd, dd, dd, dd, dd, dd, dd, dd, dd, dd, dd, dd, dd, dd, dd, dd, dd, dd], [.row 211 3 (v_w76.map eS_box_Range)]⟩
def G_box_Nest_L2_hd (v_outer51 : (List S_box_Range)) (v_inner52 : (List S_box_Range)) (v_x55 : Int) (v_y57 : S_box_Range) (v_k58 : Int) (v_w59 : (List S_box_Range)) : PS := ⟨[.d (.sl (v_outer51.map eS_box_Range)), dd, dd, dd, dd, dd, dd, dd, .srf 0, dd, .ref 1 0, .d (.v (.int .i64 v_k58)), dd, dd, dd, dd, dd, dd, dd, dd, dd, dd, dd, dd, dd, dd, dd, .d (.sl (v_inner52.map eS_box_Range)), .d (.v (.int .i64 (v_inner52.length : Int))), .d (.v (.int .i64 v_x55)), dd, dd, dd, dd, dd, dd, dd, dd, dd, dd, dd, dd, dd, dd, dd, dd, dd, dd, dd, dd, dd, dd, dd, dd, dd, dd, dd, dd, dd, dd, dd, dd, dd, dd, dd, dd, dd, dd, dd, dd, dd, dd, dd, dd, dd, dd, dd, dd, dd, dd, dd, dd, dd, dd, dd, dd, dd, dd, dd, dd, dd, dd, dd, dd, dd], [.row 211 3 (v_w59.map eS_box_Range), .box [.d (.v (.int .i64 v_y57.fIn)), .d (.v (.int .i64 v_y57.fOut)), .d (.v (.int .i64 v_y57.fN))]]⟩
def G_box_Nest_L2 (n : Nat) (v_outer51 : (List S_box_Range)) (v_inner52 : (List S_box_Range)) (v_x55 : Int) (v_y57 : S_box_Range) : Nat → Int → (List S_box_Range) → Option G_box_Nest_L2_R
  | 0, _, _ => none
  | k + 1, v_k58, v_w59 =>
    if v_k58 < v_y57.fN then
     (G_box_To n v_outer51 (wi .i64 (v_y57.fOut + v_k58))).bind fun (v_r60 : (Int × Int)) =>
     if v_r60.2 = 0 then
      (G_box_Nest_L1 n v_outer51 v_k58 v_r60 v_inner52 v_x55 v_y57 n 1 v_w59).bind fun v_o72 => match v_o72 with
      | .x0 v_z73 v_z74 =>
        (app 24 v_z74 ([(S_box_Range.mk (wi .i64 (v_y57.fIn + v_k58)) v_r60.1 v_z73)])).bind fun (v_a75 : (List S_box_Range)) =>
        G_box_Nest_L2 n v_outer51 v_inner52 v_x55 v_y57 k (wi .i64 (v_k58 + v_z73)) v_a75
     else
      some (.x0 v_r60.2)
    else
     some (.x1 v_w59)
theorem G_box_Nest_L2_ok {Fi : Ex → PS → Prop} (hF : KC 95 Fi) (ks : List Fr) (n : Nat) (v_outer51 : (List S_box_Range)) (v_inner52 : (List S_box_Range)) (v_x55 : Int) (v_y57 : S_box_Range)  : ∀ (k : Nat) (v_k58 : Int) (v_w59 : (List S_box_Range)) (o : G_box_Nest_L2_R), G_box_Nest_L2 n v_outer51 v_inner52 v_x55 v_y57 k v_k58 v_w59 = some o → RunE Try.prog 95 Fi ks (G_box_Nest_L2_ex o) (G_box_Nest_L2_st v_outer51 v_inner52 v_x55 v_y57 o) → RunE Try.prog 95 Fi (.l k (cP (cB (cR (cR (cB (cL (cR (cR (cP (cB (cR (cL (cR (cR (cR (cR (bodyOf Try.f122))))))))))))))))) :: ks) .normal (G_box_Nest_L2_hd v_outer51 v_inner52 v_x55 v_y57 v_k58 v_w59)
  | 0, v_k58, v_w59, o, h, q => by rw [G_box_Nest_L2] at h; cases h
  | k + 1, v_k58, v_w59, o, h, q => by
    rw [G_box_Nest_L2] at h
    by_cases h62 : v_k58 < v_y57.fN
    · rw [if_pos h62] at h
      obtain ⟨v_r60, h63, h⟩ := bind_some h
      by_cases h65 : v_r60.2 = 0
      · rw [if_pos h65] at h
        obtain ⟨v_o72, h75, h⟩ := bind_some h
        refine pkk_sound TTok mix hF 19 (hs := [.c, .t true, .c, .r (.tup [(eI .i64) v_r60.1, (eI .i64) v_r60.2]), .t false, .n n]) (ts := []) (s := [0, 1]) (l := [0, 8, 10, 11, 12, 14, 27, 28, 29]) (by kernel_rfl) (by kernel_rfl) (.cons (dt h62) (.cons (G_box_To_ok n v_outer51 (wi .i64 (v_y57.fOut + v_k58)) _ h63) (.cons (nf h65) .nil))) (G_box_Nest_L1_ok hF (.b 4 :: .s (cR (cR (cR (cR (cB (cR (cP (cB (cR (cR (cB (cL (cR (cR (cP (cB (cR (cL (cR (cR (cR (cR (bodyOf Try.f122))))))))))))))))))))))) :: .b 3 :: .l k (cP (cB (cR (cR (cB (cL (cR (cR (cP (cB (cR (cL (cR (cR (cR (cR (bodyOf Try.f122))))))))))))))))) :: ks) n v_outer51 v_k58 v_r60 v_inner52 v_x55 v_y57 n 1 v_w59 _ h75 ?_)
        cases v_o72 with
        | x0 v_z73 v_z74 =>
          try dsimp only at h
          obtain ⟨v_a75, h76, h⟩ := bind_some h
          exact pkk_sound TTok mix hF 5 (hs := [.c, .bd, .w (v_a75.map eS_box_Range)]) (ts := []) (s := [29, 1]) (l := [0, 8, 10, 11, 27, 28, 29]) (by kernel_rfl) (by kernel_rfl) (.cons (app_ob (f := eS_box_Range) (s := 3) h76 (fun _ => rfl)).1 (.cons (app_ob (f := eS_box_Range) (s := 3) h76 (fun _ => rfl)).2.1 (.cons (app_ob (f := eS_box_Range) (s := 3) h76 (fun _ => rfl)).2.2.1 (.cons (app_ob (f := eS_box_Range) (s := 3) h76 (fun _ => rfl)).2.2.2 .nil)))) (G_box_Nest_L2_ok hF ks n v_outer51 v_inner52 v_x55 v_y57 k (wi .i64 (v_k58 + v_z73)) v_a75 _ h q)
      · rw [if_neg h65] at h
        cases h
        exact pkk_sound TTok mix hF 19 (hs := [.c, .t true, .c, .r (.tup [(eI .i64) v_r60.1, (eI .i64) v_r60.2]), .t true]) (ts := []) (s := []) (l := [4, 5]) (by kernel_rfl) (by kernel_rfl) (.cons (dt h62) (.cons (G_box_To_ok n v_outer51 (wi .i64 (v_y57.fOut + v_k58)) _ h63) (.cons (nt h65) .nil))) q
    · rw [if_neg h62] at h
      cases h
      exact pkk_sound TTok mix hF 8 (hs := [.c, .t false]) (ts := []) (s := [0]) (l := [0, 8, 27, 28, 29]) (by kernel_rfl) (by kernel_rfl) (.cons (df h62) .nil) q
inductive G_box_Nest_L3_R where
  | x0 (v_x79 : Int)
  | x1 (v_w81 : (List S_box_Range))
def G_box_Nest_L3_ex : G_box_Nest_L3_R → Ex
  | .x0 _ => .ret
  | .x1 _ => .exit 0
def G_box_Nest_L3_st (v_outer51 : (List S_box_Range)) (v_inner52 : (List S_box_Range)) : G_box_Nest_L3_R → PS
  | .x0 v_x79 => ⟨[dd, dd, dd, dd, .d (vnil), .d (.v (.int .i64 v_x79)), dd, dd, dd, dd, dd, dd, dd, dd, dd, dd, dd, dd, dd, dd, dd, dd, dd, dd, dd, dd, dd, dd, dd, dd, dd, dd, dd, dd, dd, dd, dd, dd, dd, dd, dd, dd, dd, dd, dd, dd, dd, dd, dd, dd, dd, dd, dd, dd, dd, dd, dd, dd, dd, dd, dd, dd, dd, dd, dd, dd, dd, dd, dd, dd, dd, dd, dd, dd, dd, dd, dd, dd, dd, dd, dd, dd, dd, dd, dd, dd, dd, dd, dd, dd, dd, dd, dd, dd, dd], []⟩
  | .x1 v_w81 => ⟨[dd, dd, dd, dd, dd, dd, dd, dd, .srf 0, dd, dd, dd, dd, dd, dd, dd, dd, dd, dd, dd, dd, dd, dd, dd, dd, dd, dd, dd, dd, dd, dd, dd, dd, dd, dd, dd, dd, dd, dd, dd, dd, dd, dd, dd, dd, dd, dd, dd, dd, dd, dd, dd, dd, dd, dd, dd, dd, dd, dd, dd, dd, dd, dd, dd, dd, dd, dd, dd, dd, dd, dd, dd, dd, dd, dd, dd, dd, dd, dd, dd, dd, dd, dd, dd, dd, dd, dd, dd, dd, dd, dd, dd, dd, dd, dd], [.row 211 3 (v_w81.map eS_box_Range)]⟩
def G_box_Nest_L3_hd (v_outer51 : (List S_box_Range)) (v_inner52 : (List S_box_Range)) (v_x55 : Int) (v_w56 : (List S_box_Range)) : PS := ⟨[.d (.sl (v_outer51.map eS_box_Range)), dd, dd, dd, dd, dd, dd, dd, .srf 0, dd, dd, dd, dd, dd, dd, dd, dd, dd, dd, dd, dd, dd, dd, dd, dd, dd, dd, .d (.sl (v_inner52.map eS_box_Range)), .d (.v (.int .i64 (v_inner52.length : Int))), .d (.v (.int .i64 v_x55)), dd, dd, dd, dd, dd, dd, dd, dd, dd, dd, dd, dd, dd, dd, dd, dd, dd, dd, dd, dd, dd, dd, dd, dd, dd, dd, dd, dd, dd, dd, dd, dd, dd, dd, dd, dd, dd, dd, dd, dd, dd, dd, dd, dd, dd, dd, dd, dd, dd, dd, dd, dd, dd, dd, dd, dd, dd, dd, dd, dd, dd, dd, dd, dd, dd], [.row 211 3 (v_w56.map eS_box_Range)]⟩
def G_box_Nest_L3 (n : Nat) (v_outer51 : (List S_box_Range)) (v_inner52 : (List S_box_Range)) : Nat → Int → (List S_box_Range) → Option G_box_Nest_L3_R
  | 0, _, _ => none
  | k + 1, v_x55, v_w56 =>
    if v_x55 < (v_inner52.length : Int) then
     (getI v_inner52 v_x55).bind fun (v_y57 : S_box_Range) =>
     (G_box_Nest_L2 n v_outer51 v_inner52 v_x55 v_y57 n 0 v_w56).bind fun v_o77 => match v_o77 with
     | .x0 v_z78 =>
       some (.x0 v_z78)
     | .x1 v_z80 =>
       G_box_Nest_L3 n v_outer51 v_inner52 k (wi .i64 (v_x55 + 1)) v_z80
    else
     some (.x1 v_w56)
theorem G_box_Nest_L3_ok {Fi : Ex → PS → Prop} (hF : KC 95 Fi) (ks : List Fr) (n : Nat) (v_outer51 : (List S_box_Range)) (v_inner52 : (List S_box_Range))  : ∀ (k : Nat) (v_x55 : Int) (v_w56 : (List S_box_Range)) (o : G_box_Nest_L3_R), G_box_Nest_L3 n v_outer51 v_inner52 k v_x55 v_w56 = some o → RunE Try.prog 95 Fi ks (G_box_Nest_L3_ex o) (G_box_Nest_L3_st v_outer51 v_inner52 o) → RunE Try.prog 95 Fi (.l k (cP (cB (cR (cL (cR (cR (cR (cR (bodyOf Try.f122))))))))) :: ks) .normal (G_box_Nest_L3_hd v_outer51 v_inner52 v_x55 v_w56)
  | 0, v_x55, v_w56, o, h, q => by rw [G_box_Nest_L3] at h; cases h
  | k + 1, v_x55, v_w56, o, h, q => by
    rw [G_box_Nest_L3] at h
    by_cases h60 : v_x55 < (v_inner52.length : Int)
    · rw [if_pos h60] at h
      obtain ⟨v_y57, h61, h⟩ := bind_some h
      obtain ⟨v_o77, h77, h⟩ := bind_some h
      refine pkk_sound TTok mix hF 14 (hs := [.t true, .y (eS_box_Range v_y57), .c, .n n]) (ts := []) (s := [0, 10]) (l := [0, 8, 10, 11, 27, 28, 29]) (by kernel_rfl) (by kernel_rfl) (.cons (dt h60) (.cons (getI_ob (f := eS_box_Range) h61) (.cons (show 0 + 3 ≤ 3 by decide) .nil))) (G_box_Nest_L2_ok hF (.b 2 :: .b 1 :: .s (cR (cR (cR (cP (cB (cR (cL (cR (cR (cR (cR (bodyOf Try.f122)))))))))))) :: .l k (cP (cB (cR (cL (cR (cR (cR (cR (bodyOf Try.f122))))))))) :: ks) n v_outer51 v_inner52 v_x55 v_y57 n 0 v_w56 _ h77 ?_)
      cases v_o77 with
      | x0 v_z78 =>
        try dsimp only at h
        cases h
        exact pkk_sound TTok mix hF 4 (hs := []) (ts := []) (s := []) (l := [4, 5]) (by kernel_rfl) (by kernel_rfl) .nil q
      | x1 v_z80 =>
        try dsimp only at h
        exact pkk_sound TTok mix hF 3 (hs := []) (ts := []) (s := [0]) (l := [0, 8, 27, 28, 29]) (by kernel_rfl) (by kernel_rfl) .nil (G_box_Nest_L3_ok hF ks n v_outer51 v_inner52 k (wi .i64 (v_x55 + 1)) v_z80 _ h q)
    · rw [if_neg h60] at h
      cases h
      exact pkk_sound TTok mix hF 8 (hs := [.t false]) (ts := []) (s := [0]) (l := [8]) (by kernel_rfl) (by kernel_rfl) (.cons (df h60) .nil) q
/- ringhall/box.Nest -/
def G_box_Nest (n : Nat) (v_outer51 : (List S_box_Range)) (v_inner52 : (List S_box_Range)) : Option ((List S_box_Range) × Int) :=
  (G_box_Check n v_outer51).bind fun (v_r53 : (Int)) =>
  if v_r53 = 0 then
   (G_box_Check n v_inner52).bind fun (v_r54 : (Int)) =>
   if v_r54 = 0 then
    (G_box_Nest_L3 n v_outer51 v_inner52 n 0 ([] : List S_box_Range)).bind fun v_o82 => match v_o82 with
    | .x0 v_z83 =>
      some (([] : (List S_box_Range)), v_z83)
    | .x1 v_z84 =>
      if (v_z84.length : Int) > 4 then
       some (([] : (List S_box_Range)), 6)
      else
       some (v_z84, 0)
   else
    some (([] : (List S_box_Range)), v_r54)
  else
   some (([] : (List S_box_Range)), v_r53)
theorem G_box_Nest_ok (n : Nat) (v_outer51 : (List S_box_Range)) (v_inner52 : (List S_box_Range)) (r : (List S_box_Range) × Int) (h : G_box_Nest n v_outer51 v_inner52 = some r) : Ret Try.prog 122 [(eL eS_box_Range) v_outer51, (eL eS_box_Range) v_inner52] (.tup [(eL eS_box_Range) r.1, (eI .i64) r.2]) := by
  refine ret_run (n := 95) (fn := Try.f122) (c := bodyOf Try.f122) (by kernel_rfl) (by kernel_rfl) (by kernel_rfl) (by kernel_rfl) ?_
  have hF : KC 95 (FinR Try.prog Try.f122 (.tup [(eL eS_box_Range) r.1, (eI .i64) r.2])) := FinR.kc' (by kernel_rfl)
  unfold G_box_Nest at h
  obtain ⟨v_r53, h54, h⟩ := bind_some h
  by_cases h56 : v_r53 = 0
  · rw [if_pos h56] at h
    obtain ⟨v_r54, h57, h⟩ := bind_some h
    by_cases h59 : v_r54 = 0
    · rw [if_pos h59] at h
      obtain ⟨v_o82, h78, h⟩ := bind_some h
      refine pkk_sound TTok mix hF 23 (hs := [.r ((eI .i64) v_r53), .t false, .r ((eI .i64) v_r54), .t false, .u (.d (.v (.int .i64 (v_inner52.length : Int)))), .n n]) (ts := [(8, 211, 3)]) (s := [48]) (l := [0, 8, 27, 28, 29]) (by kernel_rfl) (by kernel_rfl) (.cons (G_box_Check_ok n v_outer51 _ h54) (.cons (nf h56) (.cons (G_box_Check_ok n v_inner52 _ h57) (.cons (nf h59) (.cons (len_ob (f := eS_box_Range) (l := v_inner52)) .nil))))) (G_box_Nest_L3_ok hF (.b 0 :: .s (cR (cR (cR (cR (cR (bodyOf Try.f122)))))) :: []) n v_outer51 v_inner52 n 0 ([] : List S_box_Range) _ h78 ?_)
      cases v_o82 with
      | x0 v_z83 =>
        try dsimp only at h
        obtain rfl := Option.some.inj h
        exact pend_sound TTok mix 2 (hs := []) (by kernel_rfl) (by kernel_rfl) (by kernel_rfl) .nil
      | x1 v_z84 =>
        try dsimp only at h
        by_cases h79 : (v_z84.length : Int) > 4
        · rw [if_pos h79] at h
          obtain rfl := Option.some.inj h
          exact pend_sound TTok mix 9 (hs := [.u (.d (.v (.int .i64 (v_z84.length : Int)))), .t true]) (by kernel_rfl) (by kernel_rfl) (by kernel_rfl) (.cons (len_ob (f := eS_box_Range) (l := v_z84)) (.cons (dt h79) .nil))
        · rw [if_neg h79] at h
          obtain rfl := Option.some.inj h
          exact pend_sound TTok mix 9 (hs := [.u (.d (.v (.int .i64 (v_z84.length : Int)))), .t false]) (by kernel_rfl) (by kernel_rfl) (by kernel_rfl) (.cons (len_ob (f := eS_box_Range) (l := v_z84)) (.cons (df h79) .nil))
    · rw [if_neg h59] at h
      obtain rfl := Option.some.inj h
      exact pend_sound TTok mix 19 (hs := [.r ((eI .i64) v_r53), .t false, .r ((eI .i64) v_r54), .t true]) (by kernel_rfl) (by kernel_rfl) (by kernel_rfl) (.cons (G_box_Check_ok n v_outer51 _ h54) (.cons (nf h56) (.cons (G_box_Check_ok n v_inner52 _ h57) (.cons (nt h59) .nil))))
  · rw [if_neg h56] at h
    obtain rfl := Option.some.inj h
    exact pend_sound TTok mix 12 (hs := [.r ((eI .i64) v_r53), .t true]) (by kernel_rfl) (by kernel_rfl) (by kernel_rfl) (.cons (G_box_Check_ok n v_outer51 _ h54) (.cons (nt h56) .nil))
inductive G_slices_Equal_box_Range_box_Range_L1_R where
  | x0 (v_x93 : Bool)
  | x1 
def G_slices_Equal_box_Range_box_Range_L1_ex : G_slices_Equal_box_Range_box_Range_L1_R → Ex
  | .x0 _ => .ret
  | .x1  => .exit 0
def G_slices_Equal_box_Range_box_Range_L1_st (v_s86 : (List S_box_Range)) (v_s87 : (List S_box_Range)) : G_slices_Equal_box_Range_box_Range_L1_R → PS
  | .x0 v_x93 => ⟨[dd, dd, dd, dd, .d (.v (.bool v_x93)), dd, dd, dd, dd, dd, dd, dd, dd, dd, dd, dd, dd, dd, dd, dd, dd, dd, dd, dd, dd, dd], []⟩
  | .x1  => ⟨[dd, dd, dd, dd, dd, dd, dd, dd, dd, dd, dd, dd, dd, dd, dd, dd, dd, dd, dd, dd, dd, dd, dd, dd, dd, dd], []⟩
def G_slices_Equal_box_Range_box_Range_L1_hd (v_s86 : (List S_box_Range)) (v_s87 : (List S_box_Range)) (v_x88 : Int) : PS := ⟨[.d (.sl (v_s86.map eS_box_Range)), .d (.sl (v_s87.map eS_box_Range)), dd, dd, dd, dd, dd, dd, dd, dd, dd, dd, .d (.v (.int .i64 (v_s86.length : Int))), .d (.v (.int .i64 v_x88)), dd, dd, dd, dd, dd, dd, dd, dd, dd, dd, dd, dd], []⟩
def G_slices_Equal_box_Range_box_Range_L1 (n : Nat) (v_s86 : (List S_box_Range)) (v_s87 : (List S_box_Range)) : Nat → Int → Option G_slices_Equal_box_Range_box_Range_L1_R
  | 0, _ => none
  | k + 1, v_x88 =>
    if v_x88 < (v_s86.length : Int) then
     (getI v_s86 v_x88).bind fun (v_y91 : S_box_Range) =>
     (getI v_s87 v_x88).bind fun (v_y92 : S_box_Range) =>
     if (eqRes .neq (eqS_box_Range v_y91 v_y92)) = true then
      some (.x0 false)
     else
      G_slices_Equal_box_Range_box_Range_L1 n v_s86 v_s87 k (wi .i64 (v_x88 + 1))
    else
     some (.x1 )
theorem G_slices_Equal_box_Range_box_Range_L1_ok {Fi : Ex → PS → Prop} (hF : KC 26 Fi) (ks : List Fr) (n : Nat) (v_s86 : (List S_box_Range)) (v_s87 : (List S_box_Range))  : ∀ (k : Nat) (v_x88 : Int) (o : G_slices_Equal_box_Range_box_Range_L1_R), G_slices_Equal_box_Range_box_Range_L1 n v_s86 v_s87 k v_x88 = some o → RunE Try.prog 26 Fi ks (G_slices_Equal_box_Range_box_Range_L1_ex o) (G_slices_Equal_box_Range_box_Range_L1_st v_s86 v_s87 o) → RunE Try.prog 26 Fi (.l k (cP (cB (cR (cL (cR (cR (bodyOf Try.f123))))))) :: ks) .normal (G_slices_Equal_box_Range_box_Range_L1_hd v_s86 v_s87 v_x88)
  | 0, v_x88, o, h, q => by rw [G_slices_Equal_box_Range_box_Range_L1] at h; cases h
  | k + 1, v_x88, o, h, q => by
    rw [G_slices_Equal_box_Range_box_Range_L1] at h
    by_cases h85 : v_x88 < (v_s86.length : Int)
    · rw [if_pos h85] at h
      obtain ⟨v_y91, h89, h⟩ := bind_some h
      obtain ⟨v_y92, h90, h⟩ := bind_some h
      by_cases h91 : (eqRes .neq (eqS_box_Range v_y91 v_y92)) = true
      · rw [if_pos h91] at h
        cases h
        exact pkk_sound TTok mix hF 19 (hs := [.t true, .y (eS_box_Range v_y91), .y (eS_box_Range v_y92), .q (eqS_box_Range v_y91 v_y92), .t true]) (ts := []) (s := []) (l := [4]) (by kernel_rfl) (by kernel_rfl) (.cons (dt h85) (.cons (getI_ob (f := eS_box_Range) h89) (.cons (getI_ob (f := eS_box_Range) h90) (.cons (eqS_box_Range_ok v_y91 v_y92) (.cons h91 .nil))))) q
      · rw [if_neg h91] at h
        exact pkk_sound TTok mix hF 16 (hs := [.t true, .y (eS_box_Range v_y91), .y (eS_box_Range v_y92), .q (eqS_box_Range v_y91 v_y92), .t false]) (ts := []) (s := []) (l := [0, 1, 12, 13]) (by kernel_rfl) (by kernel_rfl) (.cons (dt h85) (.cons (getI_ob (f := eS_box_Range) h89) (.cons (getI_ob (f := eS_box_Range) h90) (.cons (eqS_box_Range_ok v_y91 v_y92) (.cons (vf h91) .nil))))) (G_slices_Equal_box_Range_box_Range_L1_ok hF ks n v_s86 v_s87 k (wi .i64 (v_x88 + 1)) _ h q)
    · rw [if_neg h85] at h
      cases h
      exact pkk_sound TTok mix hF 8 (hs := [.t false]) (ts := []) (s := []) (l := []) (by kernel_rfl) (by kernel_rfl) (.cons (df h85) .nil) q
/- slices.Equal[[]ringhall/box.Range,ringhall/box.Range] -/
def G_slices_Equal_box_Range_box_Range (n : Nat) (v_s86 : (List S_box_Range)) (v_s87 : (List S_box_Range)) : Option (Bool) :=
  if (v_s86.length : Int) = (v_s87.length : Int) then
   (G_slices_Equal_box_Range_box_Range_L1 n v_s86 v_s87 n 0).bind fun v_o94 => match v_o94 with
   | .x0 v_z95 =>
     some v_z95
   | .x1  =>
     some true
  else
   some false
theorem G_slices_Equal_box_Range_box_Range_ok (n : Nat) (v_s86 : (List S_box_Range)) (v_s87 : (List S_box_Range)) (r : Bool) (h : G_slices_Equal_box_Range_box_Range n v_s86 v_s87 = some r) : Ret Try.prog 123 [(eL eS_box_Range) v_s86, (eL eS_box_Range) v_s87] (eB r) := by
  refine ret_run (n := 26) (fn := Try.f123) (c := bodyOf Try.f123) (by kernel_rfl) (by kernel_rfl) (by kernel_rfl) (by kernel_rfl) ?_
  have hF : KC 26 (FinR Try.prog Try.f123 (eB r)) := FinR.kc' (by kernel_rfl)
  unfold G_slices_Equal_box_Range_box_Range at h
  by_cases h84 : (v_s86.length : Int) = (v_s87.length : Int)
  · rw [if_pos h84] at h
    obtain ⟨v_o94, h92, h⟩ := bind_some h
    refine pkk_sound TTok mix hF 12 (hs := [.u (.d (.v (.int .i64 (v_s86.length : Int)))), .u (.d (.v (.int .i64 (v_s87.length : Int)))), .t false, .u (.d (.v (.int .i64 (v_s86.length : Int)))), .n n]) (ts := []) (s := []) (l := [0, 1, 12, 13]) (by kernel_rfl) (by kernel_rfl) (.cons (len_ob (f := eS_box_Range) (l := v_s86)) (.cons (len_ob (f := eS_box_Range) (l := v_s87)) (.cons (nf h84) (.cons (len_ob (f := eS_box_Range) (l := v_s86)) .nil)))) (G_slices_Equal_box_Range_box_Range_L1_ok hF (.b 0 :: .s (cR (cR (cR (bodyOf Try.f123)))) :: []) n v_s86 v_s87 n 0 _ h92 ?_)
    cases v_o94 with
    | x0 v_z95 =>
      try dsimp only at h
      obtain rfl := Option.some.inj h
      exact pend_sound TTok mix 2 (hs := []) (by kernel_rfl) (by kernel_rfl) (by kernel_rfl) .nil
    | x1  =>
      try dsimp only at h
      obtain rfl := Option.some.inj h
      exact pend_sound TTok mix 4 (hs := []) (by kernel_rfl) (by kernel_rfl) (by kernel_rfl) .nil
  · rw [if_neg h84] at h
    obtain rfl := Option.some.inj h
    exact pend_sound TTok mix 10 (hs := [.u (.d (.v (.int .i64 (v_s86.length : Int)))), .u (.d (.v (.int .i64 (v_s87.length : Int)))), .t true]) (by kernel_rfl) (by kernel_rfl) (by kernel_rfl) (.cons (len_ob (f := eS_box_Range) (l := v_s86)) (.cons (len_ob (f := eS_box_Range) (l := v_s87)) (.cons (nt h84) .nil)))
inductive G_ringlaw5_boxes_C1_R where
  | x0 (v_x98 : Bool)
def G_ringlaw5_boxes_C1_ex : G_ringlaw5_boxes_C1_R → Ex
  | .x0 _ => .normal
def G_ringlaw5_boxes_C1_st (v_r50 : (Int × Int)) (v_r85 : ((List S_box_Range) × Int)) : G_ringlaw5_boxes_C1_R → PS
  | .x0 v_x98 => ⟨[.d (.v (.bool v_x98)), dd, dd, dd, dd, dd, dd, dd, dd, dd, dd, dd, dd, dd, dd, dd, dd, dd, dd, dd, dd, dd, dd, dd, dd, dd, dd, dd, dd, dd, dd, dd, dd, dd, dd], []⟩
def G_ringlaw5_boxes_C1_hd (v_r50 : (Int × Int)) (v_r85 : ((List S_box_Range) × Int))  : PS := ⟨[dd, .d (.v (.int .i64 v_r50.1)), .d (.v (.int .i64 v_r50.2)), .d (.sl (v_r85.1.map eS_box_Range)), .d (.v (.int .i64 v_r85.2)), dd, dd, dd, dd, dd, dd, dd, dd, dd, dd, dd, dd, dd, dd, dd, dd, dd, dd, dd, dd, dd, dd, dd, dd, dd, dd, dd, dd, dd, dd], []⟩
def G_ringlaw5_boxes_C1 (n : Nat) (v_r50 : (Int × Int)) (v_r85 : ((List S_box_Range) × Int)) : Option G_ringlaw5_boxes_C1_R :=
  if v_r50.2 = 0 then
   if v_r85.2 = 0 then
    if v_r50.1 = 53 then
     (G_slices_Equal_box_Range_box_Range n v_r85.1 ([(S_box_Range.mk 5 53 2)])).bind fun (v_r97 : (Bool)) =>
     some (.x0 v_r97)
    else
     some (.x0 false)
   else
    some (.x0 false)
  else
   some (.x0 false)
theorem G_ringlaw5_boxes_C1_ok {Fi : Ex → PS → Prop} (hF : KC 35 Fi) (ks : List Fr) (n : Nat) (v_r50 : (Int × Int)) (v_r85 : ((List S_box_Range) × Int))  (o : G_ringlaw5_boxes_C1_R) (h : G_ringlaw5_boxes_C1 n v_r50 v_r85 = some o) (q : RunE Try.prog 35 Fi ks (G_ringlaw5_boxes_C1_ex o) (G_ringlaw5_boxes_C1_st v_r50 v_r85 o)) : RunE Try.prog 35 Fi (.s (cL (cR (cR (cR (bodyOf Try.f26))))) :: ks) .normal (G_ringlaw5_boxes_C1_hd v_r50 v_r85) := by
  unfold G_ringlaw5_boxes_C1 at h
  by_cases h94 : v_r50.2 = 0
  · rw [if_pos h94] at h
    by_cases h95 : v_r85.2 = 0
    · rw [if_pos h95] at h
      by_cases h96 : v_r50.1 = 53
      · rw [if_pos h96] at h
        obtain ⟨v_r97, h97, h⟩ := bind_some h
        cases h
        exact pkk_sound TTok mix hF 1 (hs := [.t true, .c, .t true, .c, .t true, .c, .c, .bd, .c, .r (eB v_r97)]) (ts := []) (s := []) (l := [0]) (by kernel_rfl) (by kernel_rfl) (.cons (bt h94) (.cons (bt h95) (.cons (bt h96) (.cons (G_slices_Equal_box_Range_box_Range_ok n v_r85.1 ([(S_box_Range.mk 5 53 2)]) _ h97) .nil)))) q
      · rw [if_neg h96] at h
        cases h
        exact pkk_sound TTok mix hF 1 (hs := [.t true, .c, .t true, .c, .t false, .c, .c, .c]) (ts := []) (s := []) (l := [0]) (by kernel_rfl) (by kernel_rfl) (.cons (bt h94) (.cons (bt h95) (.cons (bf h96) .nil))) q
    · rw [if_neg h95] at h
      cases h
      exact pkk_sound TTok mix hF 1 (hs := [.t true, .c, .t false, .c, .c, .c, .c, .c]) (ts := []) (s := []) (l := [0]) (by kernel_rfl) (by kernel_rfl) (.cons (bt h94) (.cons (bf h95) .nil)) q
  · rw [if_neg h94] at h
    cases h
    exact pkk_sound TTok mix hF 1 (hs := [.t false, .c, .c, .c, .c, .c, .c, .c]) (ts := []) (s := []) (l := [0]) (by kernel_rfl) (by kernel_rfl) (.cons (bf h94) .nil) q
/- ringhall/ringlaw5.boxes -/
def G_ringlaw5_boxes (n : Nat)  : Option (Bool) :=
  (G_box_To n ([(S_box_Range.mk 0 50 10)]) 3).bind fun (v_r50 : (Int × Int)) =>
  (G_box_Nest n ([(S_box_Range.mk 0 50 10)]) ([(S_box_Range.mk 5 3 2)])).bind fun (v_r85 : ((List S_box_Range) × Int)) =>
  (G_ringlaw5_boxes_C1 n v_r50 v_r85).bind fun v_o102 => match v_o102 with
  | .x0 v_z103 =>
    some v_z103
theorem G_ringlaw5_boxes_ok (n : Nat)  (r : Bool) (h : G_ringlaw5_boxes n  = some r) : Ret Try.prog 26 [] (eB r) := by
  refine ret_run (n := 35) (fn := Try.f26) (c := bodyOf Try.f26) (by kernel_rfl) (by kernel_rfl) (by kernel_rfl) (by kernel_rfl) ?_
  have hF : KC 35 (FinR Try.prog Try.f26 (eB r)) := FinR.kc' (by kernel_rfl)
  unfold G_ringlaw5_boxes at h
  obtain ⟨v_r50, h53, h⟩ := bind_some h
  obtain ⟨v_r85, h80, h⟩ := bind_some h
  obtain ⟨v_o102, h98, h⟩ := bind_some h
  refine pkk_sound TTok mix hF 7 (hs := [.bd, .r (.tup [(eI .i64) v_r50.1, (eI .i64) v_r50.2]), .bd, .bd, .r (.tup [(eL eS_box_Range) v_r85.1, (eI .i64) v_r85.2])]) (ts := []) (s := []) (l := [1, 2, 3, 4]) (by kernel_rfl) (by kernel_rfl) (.cons (G_box_To_ok n ([(S_box_Range.mk 0 50 10)]) 3 _ h53) (.cons (G_box_Nest_ok n ([(S_box_Range.mk 0 50 10)]) ([(S_box_Range.mk 5 3 2)]) _ h80) .nil)) (G_ringlaw5_boxes_C1_ok hF (.s (cR (cR (cR (cR (bodyOf Try.f26))))) :: []) n v_r50 v_r85 _ h98 ?_)
  cases v_o102 with
  | x0 v_z103 =>
    try dsimp only at h
    obtain rfl := Option.some.inj h
    exact pend_sound TTok mix 1 (hs := []) (by kernel_rfl) (by kernel_rfl) (by kernel_rfl) .nil
inductive G_box_From_L1_R where
  | x0 (v_x112 : Int) (v_x113 : Int)
  | x1 
def G_box_From_L1_ex : G_box_From_L1_R → Ex
  | .x0 _ _ => .ret
  | .x1  => .exit 0
def G_box_From_L1_st (v_out107 : Int) (v_l106 : (List S_box_Range)) : G_box_From_L1_R → PS
  | .x0 v_x112 v_x113 => ⟨[dd, dd, dd, dd, .d (.v (.int .i64 v_x112)), .d (.v (.int .i64 v_x113)), dd, dd, dd, dd, dd, dd, dd, dd, dd, dd, dd, dd, dd, dd, dd, dd, dd, dd, dd, dd, dd, dd, dd, dd, dd, dd, dd, dd, dd, dd, dd, dd, dd, dd, dd], []⟩
  | .x1  => ⟨[dd, dd, dd, dd, dd, dd, dd, dd, dd, dd, dd, dd, dd, dd, dd, dd, dd, dd, dd, dd, dd, dd, dd, dd, dd, dd, dd, dd, dd, dd, dd, dd, dd, dd, dd, dd, dd, dd, dd, dd, dd], []⟩
def G_box_From_L1_hd (v_out107 : Int) (v_l106 : (List S_box_Range)) (v_x109 : Int) : PS := ⟨[dd, .d (.v (.int .i64 v_out107)), dd, dd, dd, dd, dd, dd, dd, dd, dd, dd, dd, dd, .d (.sl (v_l106.map eS_box_Range)), .d (.v (.int .i64 (v_l106.length : Int))), .d (.v (.int .i64 v_x109)), dd, dd, dd, dd, dd, dd, dd, dd, dd, dd, dd, dd, dd, dd, dd, dd, dd, dd, dd, dd, dd, dd, dd, dd], []⟩
def G_box_From_L1 (n : Nat) (v_out107 : Int) (v_l106 : (List S_box_Range)) : Nat → Int → Option G_box_From_L1_R
  | 0, _ => none
  | k + 1, v_x109 =>
    if v_x109 < (v_l106.length : Int) then
     (getI v_l106 v_x109).bind fun (v_y111 : S_box_Range) =>
     if v_out107 ≥ v_y111.fOut then
      if v_out107 < (wi .i64 (v_y111.fOut + v_y111.fN)) then
       some (.x0 (wi .i64 ((wi .i64 (v_y111.fIn + v_out107)) - v_y111.fOut)) 0)
      else
       G_box_From_L1 n v_out107 v_l106 k (wi .i64 (v_x109 + 1))
     else
      G_box_From_L1 n v_out107 v_l106 k (wi .i64 (v_x109 + 1))
    else
     some (.x1 )
theorem G_box_From_L1_ok {Fi : Ex → PS → Prop} (hF : KC 41 Fi) (ks : List Fr) (n : Nat) (v_out107 : Int) (v_l106 : (List S_box_Range))  : ∀ (k : Nat) (v_x109 : Int) (o : G_box_From_L1_R), G_box_From_L1 n v_out107 v_l106 k v_x109 = some o → RunE Try.prog 41 Fi ks (G_box_From_L1_ex o) (G_box_From_L1_st v_out107 v_l106 o) → RunE Try.prog 41 Fi (.l k (cP (cB (cR (cL (cR (cR (bodyOf Try.f28))))))) :: ks) .normal (G_box_From_L1_hd v_out107 v_l106 v_x109)
  | 0, v_x109, o, h, q => by rw [G_box_From_L1] at h; cases h
  | k + 1, v_x109, o, h, q => by
    rw [G_box_From_L1] at h
    by_cases h105 : v_x109 < (v_l106.length : Int)
    · rw [if_pos h105] at h
      obtain ⟨v_y111, h111, h⟩ := bind_some h
      by_cases h113 : v_out107 ≥ v_y111.fOut
      · rw [if_pos h113] at h
        by_cases h115 : v_out107 < (wi .i64 (v_y111.fOut + v_y111.fN))
        · rw [if_pos h115] at h
          cases h
          exact pkk_sound TTok mix hF 19 (hs := [.t true, .y (eS_box_Range v_y111), .c, .c, .t true, .c, .c, .c, .c, .c, .c, .c, .c, .t true, .c, .c]) (ts := []) (s := []) (l := [4, 5]) (by kernel_rfl) (by kernel_rfl) (.cons (dt h105) (.cons (getI_ob (f := eS_box_Range) h111) (.cons (show 0 + 3 ≤ 3 by decide) (.cons (dt h113) (.cons (dt h115) .nil))))) q
        · rw [if_neg h115] at h
          exact pkk_sound TTok mix hF 16 (hs := [.t true, .y (eS_box_Range v_y111), .c, .c, .t true, .c, .c, .c, .c, .c, .c, .c, .c, .t false]) (ts := []) (s := []) (l := [1, 14, 15, 16]) (by kernel_rfl) (by kernel_rfl) (.cons (dt h105) (.cons (getI_ob (f := eS_box_Range) h111) (.cons (show 0 + 3 ≤ 3 by decide) (.cons (dt h113) (.cons (df h115) .nil))))) (G_box_From_L1_ok hF ks n v_out107 v_l106 k (wi .i64 (v_x109 + 1)) _ h q)
      · rw [if_neg h113] at h
        exact pkk_sound TTok mix hF 16 (hs := [.t true, .y (eS_box_Range v_y111), .c, .c, .t false, .c, .c, .c, .c, .c, .c, .c]) (ts := []) (s := []) (l := [1, 14, 15, 16]) (by kernel_rfl) (by kernel_rfl) (.cons (dt h105) (.cons (getI_ob (f := eS_box_Range) h111) (.cons (show 0 + 3 ≤ 3 by decide) (.cons (df h113) .nil)))) (G_box_From_L1_ok hF ks n v_out107 v_l106 k (wi .i64 (v_x109 + 1)) _ h q)
    · rw [if_neg h105] at h
      cases h
      exact pkk_sound TTok mix hF 8 (hs := [.t false]) (ts := []) (s := []) (l := []) (by kernel_rfl) (by kernel_rfl) (.cons (df h105) .nil) q
/- ringhall/box.From -/
def G_box_From (n : Nat) (v_l106 : (List S_box_Range)) (v_out107 : Int) : Option (Int × Int) :=
  (G_box_Check n v_l106).bind fun (v_r108 : (Int)) =>
  if v_r108 = 0 then
   (G_box_From_L1 n v_out107 v_l106 n 0).bind fun v_o114 => match v_o114 with
   | .x0 v_z115 v_z116 =>
     some (v_z115, v_z116)
   | .x1  =>
     some (0, 4)
  else
   some (0, v_r108)
theorem G_box_From_ok (n : Nat) (v_l106 : (List S_box_Range)) (v_out107 : Int) (r : Int × Int) (h : G_box_From n v_l106 v_out107 = some r) : Ret Try.prog 28 [(eL eS_box_Range) v_l106, (eI .i64) v_out107] (.tup [(eI .i64) r.1, (eI .i64) r.2]) := by
  refine ret_run (n := 41) (fn := Try.f28) (c := bodyOf Try.f28) (by kernel_rfl) (by kernel_rfl) (by kernel_rfl) (by kernel_rfl) ?_
  have hF : KC 41 (FinR Try.prog Try.f28 (.tup [(eI .i64) r.1, (eI .i64) r.2])) := FinR.kc' (by kernel_rfl)
  unfold G_box_From at h
  obtain ⟨v_r108, h102, h⟩ := bind_some h
  by_cases h104 : v_r108 = 0
  · rw [if_pos h104] at h
    obtain ⟨v_o114, h116, h⟩ := bind_some h
    refine pkk_sound TTok mix hF 14 (hs := [.r ((eI .i64) v_r108), .t false, .u (.d (.v (.int .i64 (v_l106.length : Int)))), .n n]) (ts := []) (s := []) (l := [1, 14, 15, 16]) (by kernel_rfl) (by kernel_rfl) (.cons (G_box_Check_ok n v_l106 _ h102) (.cons (nf h104) (.cons (len_ob (f := eS_box_Range) (l := v_l106)) .nil))) (G_box_From_L1_ok hF (.b 0 :: .s (cR (cR (cR (bodyOf Try.f28)))) :: []) n v_out107 v_l106 n 0 _ h116 ?_)
    cases v_o114 with
    | x0 v_z115 v_z116 =>
      try dsimp only at h
      obtain rfl := Option.some.inj h
      exact pend_sound TTok mix 2 (hs := []) (by kernel_rfl) (by kernel_rfl) (by kernel_rfl) .nil
    | x1  =>
      try dsimp only at h
      obtain rfl := Option.some.inj h
      exact pend_sound TTok mix 4 (hs := []) (by kernel_rfl) (by kernel_rfl) (by kernel_rfl) .nil
  · rw [if_neg h104] at h
    obtain rfl := Option.some.inj h
    exact pend_sound TTok mix 12 (hs := [.r ((eI .i64) v_r108), .t true]) (by kernel_rfl) (by kernel_rfl) (by kernel_rfl) (.cons (G_box_Check_ok n v_l106 _ h102) (.cons (nt h104) .nil))
inductive G_cred_Check_L1_R where
  | x0 (v_x125 : Int)
  | x1 
def G_cred_Check_L1_ex : G_cred_Check_L1_R → Ex
  | .x0 _ => .ret
  | .x1  => .exit 0
def G_cred_Check_L1_st (v_c121 : S_api_Cred) : G_cred_Check_L1_R → PS
  | .x0 v_x125 => ⟨[dd, dd, .d (.v (.int .i64 v_x125)), dd, dd, dd, dd, dd, dd, dd, dd, dd, dd, dd, dd, dd, dd, dd, dd, dd, dd, dd, dd, dd, dd, dd, dd, dd, dd, dd, dd, dd, dd, dd, dd, dd, dd, dd, dd, dd, dd, dd, dd, dd, dd, dd, dd, dd, dd, dd, dd, dd, dd, dd, dd, dd, dd, dd, dd, dd, dd, dd, dd, dd, dd, dd, dd, dd, dd, dd, dd, dd, dd, dd, dd, dd, dd, dd, dd, dd, dd, dd, dd], []⟩
  | .x1  => ⟨[dd, .ref 0 0, dd, dd, dd, dd, dd, dd, dd, dd, dd, dd, dd, dd, dd, dd, dd, dd, dd, dd, dd, dd, dd, dd, dd, dd, dd, dd, dd, dd, dd, dd, dd, dd, dd, dd, dd, dd, dd, dd, dd, dd, dd, dd, dd, dd, dd, dd, dd, dd, dd, dd, dd, dd, dd, dd, dd, dd, dd, dd, dd, dd, dd, dd, dd, dd, dd, dd, dd, dd, dd, dd, dd, dd, dd, dd, dd, dd, dd, dd, dd, dd, dd], [.box [.d (.v (.int .i64 v_c121.fUser)), .d (.v (.int .i64 v_c121.fGroup)), .d (.sl (v_c121.fMore.map (eI .i64))), .d (.v (.int .i64 v_c121.fCaps)), .d (.v (.int .i64 v_c121.fLevel)), .d (.v (.int .i64 v_c121.fKind))]]⟩
def G_cred_Check_L1_hd (v_c121 : S_api_Cred) (v_x122 : Int) : PS := ⟨[dd, .ref 0 0, dd, dd, dd, dd, dd, dd, dd, dd, dd, .d (.sl (([v_c121.fUser, v_c121.fGroup]).map (eI .i64))), .d (.v (.int .i64 (([v_c121.fUser, v_c121.fGroup]).length : Int))), .d (.v (.int .i64 v_x122)), dd, dd, dd, dd, dd, dd, dd, dd, dd, dd, dd, dd, dd, dd, dd, dd, dd, dd, dd, dd, dd, dd, dd, dd, dd, dd, dd, dd, dd, dd, dd, dd, dd, dd, dd, dd, dd, dd, dd, dd, dd, dd, dd, dd, dd, dd, dd, dd, dd, dd, dd, dd, dd, dd, dd, dd, dd, dd, dd, dd, dd, dd, dd, dd, dd, dd, dd, dd, dd], [.box [.d (.v (.int .i64 v_c121.fUser)), .d (.v (.int .i64 v_c121.fGroup)), .d (.sl (v_c121.fMore.map (eI .i64))), .d (.v (.int .i64 v_c121.fCaps)), .d (.v (.int .i64 v_c121.fLevel)), .d (.v (.int .i64 v_c121.fKind))]]⟩
def G_cred_Check_L1 (n : Nat) (v_c121 : S_api_Cred) : Nat → Int → Option G_cred_Check_L1_R
  | 0, _ => none
  | k + 1, v_x122 =>
    if v_x122 < (([v_c121.fUser, v_c121.fGroup]).length : Int) then
     (getI ([v_c121.fUser, v_c121.fGroup]) v_x122).bind fun (v_y124 : Int) =>
     if v_y124 < 0 then
      some (.x0 1)
     else
      if v_y124 > 99 then
       some (.x0 1)
      else
       G_cred_Check_L1 n v_c121 k (wi .i64 (v_x122 + 1))
    else
     some (.x1 )
theorem G_cred_Check_L1_ok {Fi : Ex → PS → Prop} (hF : KC 83 Fi) (ks : List Fr) (n : Nat) (v_c121 : S_api_Cred)  : ∀ (k : Nat) (v_x122 : Int) (o : G_cred_Check_L1_R), G_cred_Check_L1 n v_c121 k v_x122 = some o → RunE Try.prog 83 Fi ks (G_cred_Check_L1_ex o) (G_cred_Check_L1_st v_c121 o) → RunE Try.prog 83 Fi (.l k (cP (cB (cR (cL (cR (bodyOf Try.f19)))))) :: ks) .normal (G_cred_Check_L1_hd v_c121 v_x122)
  | 0, v_x122, o, h, q => by rw [G_cred_Check_L1] at h; cases h
  | k + 1, v_x122, o, h, q => by
    rw [G_cred_Check_L1] at h
    by_cases h121 : v_x122 < (([v_c121.fUser, v_c121.fGroup]).length : Int)
    · rw [if_pos h121] at h
      obtain ⟨v_y124, h125, h⟩ := bind_some h
      by_cases h126 : v_y124 < 0
      · rw [if_pos h126] at h
        cases h
        exact pkk_sound TTok mix hF 19 (hs := [.t true, .y ((eI .i64) v_y124), .c, .t true, .c, .c]) (ts := []) (s := []) (l := [2]) (by kernel_rfl) (by kernel_rfl) (.cons (dt h121) (.cons (getI_ob (f := (eI .i64)) h125) (.cons (dt h126) .nil))) q
      · rw [if_neg h126] at h
        by_cases h127 : v_y124 > 99
        · rw [if_pos h127] at h
          cases h
          exact pkk_sound TTok mix hF 19 (hs := [.t true, .y ((eI .i64) v_y124), .c, .t false, .c, .t true]) (ts := []) (s := []) (l := [2]) (by kernel_rfl) (by kernel_rfl) (.cons (dt h121) (.cons (getI_ob (f := (eI .i64)) h125) (.cons (df h126) (.cons (dt h127) .nil)))) q
        · rw [if_neg h127] at h
          exact pkk_sound TTok mix hF 16 (hs := [.t true, .y ((eI .i64) v_y124), .c, .t false, .c, .t false]) (ts := []) (s := [0]) (l := [1, 11, 12, 13]) (by kernel_rfl) (by kernel_rfl) (.cons (dt h121) (.cons (getI_ob (f := (eI .i64)) h125) (.cons (df h126) (.cons (df h127) .nil)))) (G_cred_Check_L1_ok hF ks n v_c121 k (wi .i64 (v_x122 + 1)) _ h q)
    · rw [if_neg h121] at h
      cases h
      exact pkk_sound TTok mix hF 8 (hs := [.t false]) (ts := []) (s := [0]) (l := [1]) (by kernel_rfl) (by kernel_rfl) (.cons (df h121) .nil) q
inductive G_cred_Check_L2_R where
  | x0 (v_x134 : Int)
  | x1 
def G_cred_Check_L2_ex : G_cred_Check_L2_R → Ex
  | .x0 _ => .ret
  | .x1  => .exit 2
def G_cred_Check_L2_st (v_c121 : S_api_Cred) : G_cred_Check_L2_R → PS
  | .x0 v_x134 => ⟨[dd, dd, .d (.v (.int .i64 v_x134)), dd, dd, dd, dd, dd, dd, dd, dd, dd, dd, dd, dd, dd, dd, dd, dd, dd, dd, dd, dd, dd, dd, dd, dd, dd, dd, dd, dd, dd, dd, dd, dd, dd, dd, dd, dd, dd, dd, dd, dd, dd, dd, dd, dd, dd, dd, dd, dd, dd, dd, dd, dd, dd, dd, dd, dd, dd, dd, dd, dd, dd, dd, dd, dd, dd, dd, dd, dd, dd, dd, dd, dd, dd, dd, dd, dd, dd, dd, dd, dd], []⟩
  | .x1  => ⟨[dd, .ref 0 0, dd, dd, dd, dd, dd, dd, dd, dd, dd, dd, dd, dd, dd, dd, dd, dd, dd, dd, dd, dd, dd, dd, dd, dd, dd, dd, dd, dd, dd, dd, dd, dd, dd, dd, dd, dd, dd, dd, dd, dd, dd, dd, dd, dd, dd, dd, dd, dd, dd, dd, dd, dd, dd, dd, dd, dd, dd, dd, dd, dd, dd, dd, dd, dd, dd, dd, dd, dd, dd, dd, dd, dd, dd, dd, dd, dd, dd, dd, dd, dd, dd], [.box [.d (.v (.int .i64 v_c121.fUser)), .d (.v (.int .i64 v_c121.fGroup)), .d (.sl (v_c121.fMore.map (eI .i64))), .d (.v (.int .i64 v_c121.fCaps)), .d (.v (.int .i64 v_c121.fLevel)), .d (.v (.int .i64 v_c121.fKind))]]⟩
def G_cred_Check_L2_hd (v_c121 : S_api_Cred) (v_x129 : Int) : PS := ⟨[dd, .ref 0 0, dd, dd, dd, dd, dd, dd, dd, dd, dd, dd, dd, dd, dd, dd, dd, dd, dd, dd, dd, dd, dd, dd, dd, dd, dd, dd, dd, .d (.sl (v_c121.fMore.map (eI .i64))), .d (.v (.int .i64 (v_c121.fMore.length : Int))), .d (.v (.int .i64 v_x129)), dd, dd, dd, dd, dd, dd, dd, dd, dd, dd, dd, dd, dd, dd, dd, dd, dd, dd, dd, dd, dd, dd, dd, dd, dd, dd, dd, dd, dd, dd, dd, dd, dd, dd, dd, dd, dd, dd, dd, dd, dd, dd, dd, dd, dd, dd, dd, dd, dd, dd, dd], [.box [.d (.v (.int .i64 v_c121.fUser)), .d (.v (.int .i64 v_c121.fGroup)), .d (.sl (v_c121.fMore.map (eI .i64))), .d (.v (.int .i64 v_c121.fCaps)), .d (.v (.int .i64 v_c121.fLevel)), .d (.v (.int .i64 v_c121.fKind))]]⟩
def G_cred_Check_L2 (n : Nat) (v_c121 : S_api_Cred) : Nat → Int → Option G_cred_Check_L2_R
  | 0, _ => none
  | k + 1, v_x129 =>
    if v_x129 < (v_c121.fMore.length : Int) then
     (getI v_c121.fMore v_x129).bind fun (v_y133 : Int) =>
     if v_y133 < 0 then
      some (.x0 1)
     else
      if v_y133 > 99 then
       some (.x0 1)
      else
       if v_x129 > 0 then
        (getI v_c121.fMore (wi .i64 (v_x129 - 1))).bind fun (v_y137 : Int) =>
        if v_y133 ≤ v_y137 then
         some (.x0 3)
        else
         G_cred_Check_L2 n v_c121 k (wi .i64 (v_x129 + 1))
       else
        G_cred_Check_L2 n v_c121 k (wi .i64 (v_x129 + 1))
    else
     some (.x1 )
theorem G_cred_Check_L2_ok {Fi : Ex → PS → Prop} (hF : KC 83 Fi) (ks : List Fr) (n : Nat) (v_c121 : S_api_Cred)  : ∀ (k : Nat) (v_x129 : Int) (o : G_cred_Check_L2_R), G_cred_Check_L2 n v_c121 k v_x129 = some o → RunE Try.prog 83 Fi ks (G_cred_Check_L2_ex o) (G_cred_Check_L2_st v_c121 o) → RunE Try.prog 83 Fi (.l k (cP (cB (cR (cL (cR (cR (cR (bodyOf Try.f19)))))))) :: ks) .normal (G_cred_Check_L2_hd v_c121 v_x129)
  | 0, v_x129, o, h, q => by rw [G_cred_Check_L2] at h; cases h
  | k + 1, v_x129, o, h, q => by
    rw [G_cred_Check_L2] at h
    by_cases h130 : v_x129 < (v_c121.fMore.length : Int)
    · rw [if_pos h130] at h
      obtain ⟨v_y133, h139, h⟩ := bind_some h
      by_cases h140 : v_y133 < 0
      · rw [if_pos h140] at h
        cases h
        exact pkk_sound TTok mix hF 21 (hs := [.t true, .y ((eI .i64) v_y133), .c, .t true, .c, .c]) (ts := []) (s := []) (l := [2]) (by kernel_rfl) (by kernel_rfl) (.cons (dt h130) (.cons (getI_ob (f := (eI .i64)) h139) (.cons (dt h140) .nil))) q
      · rw [if_neg h140] at h
        by_cases h141 : v_y133 > 99
        · rw [if_pos h141] at h
          cases h
          exact pkk_sound TTok mix hF 21 (hs := [.t true, .y ((eI .i64) v_y133), .c, .t false, .c, .t true]) (ts := []) (s := []) (l := [2]) (by kernel_rfl) (by kernel_rfl) (.cons (dt h130) (.cons (getI_ob (f := (eI .i64)) h139) (.cons (df h140) (.cons (dt h141) .nil)))) q
        · rw [if_neg h141] at h
          by_cases h144 : v_x129 > 0
          · rw [if_pos h144] at h
            obtain ⟨v_y137, h145, h⟩ := bind_some h
            by_cases h146 : v_y133 ≤ v_y137
            · rw [if_pos h146] at h
              cases h
              exact pkk_sound TTok mix hF 24 (hs := [.t true, .y ((eI .i64) v_y133), .c, .t false, .c, .t false, .t true, .c, .c, .c, .c, .c, .c, .y ((eI .i64) v_y137), .c, .c, .c, .t true]) (ts := []) (s := []) (l := [2]) (by kernel_rfl) (by kernel_rfl) (.cons (dt h130) (.cons (getI_ob (f := (eI .i64)) h139) (.cons (df h140) (.cons (df h141) (.cons (dt h144) (.cons (getI_ob (f := (eI .i64)) h145) (.cons (dt h146) .nil))))))) q
            · rw [if_neg h146] at h
              exact pkk_sound TTok mix hF 21 (hs := [.t true, .y ((eI .i64) v_y133), .c, .t false, .c, .t false, .t true, .c, .c, .c, .c, .c, .c, .y ((eI .i64) v_y137), .c, .c, .c, .t false]) (ts := []) (s := [0]) (l := [1, 29, 30, 31]) (by kernel_rfl) (by kernel_rfl) (.cons (dt h130) (.cons (getI_ob (f := (eI .i64)) h139) (.cons (df h140) (.cons (df h141) (.cons (dt h144) (.cons (getI_ob (f := (eI .i64)) h145) (.cons (df h146) .nil))))))) (G_cred_Check_L2_ok hF ks n v_c121 k (wi .i64 (v_x129 + 1)) _ h q)
          · rw [if_neg h144] at h
            exact pkk_sound TTok mix hF 21 (hs := [.t true, .y ((eI .i64) v_y133), .c, .t false, .c, .t false, .t false, .c, .c, .c, .c, .c, .c, .c, .c]) (ts := []) (s := [0]) (l := [1, 29, 30, 31]) (by kernel_rfl) (by kernel_rfl) (.cons (dt h130) (.cons (getI_ob (f := (eI .i64)) h139) (.cons (df h140) (.cons (df h141) (.cons (df h144) .nil))))) (G_cred_Check_L2_ok hF ks n v_c121 k (wi .i64 (v_x129 + 1)) _ h q)
    · rw [if_neg h130] at h
      cases h
      exact pkk_sound TTok mix hF 8 (hs := [.t false]) (ts := []) (s := [0]) (l := [1]) (by kernel_rfl) (by kernel_rfl) (.cons (df h130) .nil) q
inductive G_cred_Check_C3_R where
  | x0 (v_x141 : Bool)
def G_cred_Check_C3_ex : G_cred_Check_C3_R → Ex
  | .x0 _ => .normal
def G_cred_Check_C3_st (v_c121 : S_api_Cred) : G_cred_Check_C3_R → PS
  | .x0 v_x141 => ⟨[dd, dd, dd, dd, dd, dd, dd, dd, dd, dd, dd, dd, dd, dd, dd, dd, dd, dd, dd, dd, dd, dd, dd, dd, dd, dd, dd, dd, dd, dd, dd, dd, dd, dd, dd, dd, dd, dd, dd, dd, dd, dd, dd, dd, dd, dd, dd, dd, dd, dd, dd, dd, dd, dd, dd, dd, dd, dd, dd, dd, dd, dd, dd, dd, dd, dd, dd, dd, dd, dd, dd, dd, dd, dd, dd, dd, dd, dd, dd, dd, dd, dd, .d (.v (.bool v_x141))], []⟩
def G_cred_Check_C3_hd (v_c121 : S_api_Cred)  : PS := ⟨[dd, .ref 0 0, dd, dd, dd, dd, dd, dd, dd, dd, dd, dd, dd, dd, dd, dd, dd, dd, dd, dd, dd, dd, dd, dd, dd, dd, dd, dd, dd, dd, dd, dd, dd, dd, dd, dd, dd, dd, dd, dd, dd, dd, dd, dd, dd, dd, dd, dd, dd, dd, dd, dd, dd, dd, dd, dd, dd, dd, dd, dd, dd, dd, dd, dd, dd, dd, dd, dd, dd, dd, dd, dd, dd, dd, dd, dd, dd, dd, dd, dd, dd, dd, dd], [.box [.d (.v (.int .i64 v_c121.fUser)), .d (.v (.int .i64 v_c121.fGroup)), .d (.sl (v_c121.fMore.map (eI .i64))), .d (.v (.int .i64 v_c121.fCaps)), .d (.v (.int .i64 v_c121.fLevel)), .d (.v (.int .i64 v_c121.fKind))]]⟩
def G_cred_Check_C3 (n : Nat) (v_c121 : S_api_Cred) : Option G_cred_Check_C3_R :=
  if v_c121.fCaps < 0 then
   some (.x0 true)
  else
   if v_c121.fCaps > 127 then
    some (.x0 true)
   else
    if v_c121.fLevel < 0 then
     some (.x0 true)
    else
     if v_c121.fLevel > 7 then
      some (.x0 true)
     else
      if v_c121.fKind < 0 then
       some (.x0 true)
      else
       some (.x0 (decide (v_c121.fKind > 255)))
theorem G_cred_Check_C3_ok {Fi : Ex → PS → Prop} (hF : KC 83 Fi) (ks : List Fr) (n : Nat) (v_c121 : S_api_Cred)  (o : G_cred_Check_C3_R) (h : G_cred_Check_C3 n v_c121 = some o) (q : RunE Try.prog 83 Fi ks (G_cred_Check_C3_ex o) (G_cred_Check_C3_st v_c121 o)) : RunE Try.prog 83 Fi (.s (cL (cL (cR (cR (cR (cR (bodyOf Try.f19))))))) :: ks) .normal (G_cred_Check_C3_hd v_c121) := by
  unfold G_cred_Check_C3 at h
  by_cases h153 : v_c121.fCaps < 0
  · rw [if_pos h153] at h
    cases h
    exact pkk_sound TTok mix hF 1 (hs := [.c, .t true, .c, .c, .c, .c, .c, .c, .c, .c, .c, .c, .c, .c, .c, .c]) (ts := []) (s := []) (l := [82]) (by kernel_rfl) (by kernel_rfl) (.cons (dt h153) .nil) q
  · rw [if_neg h153] at h
    by_cases h154 : v_c121.fCaps > 127
    · rw [if_pos h154] at h
      cases h
      exact pkk_sound TTok mix hF 1 (hs := [.c, .t false, .c, .c, .c, .t true, .c, .c, .c, .c, .c, .c, .c, .c, .c, .c, .c]) (ts := []) (s := []) (l := [82]) (by kernel_rfl) (by kernel_rfl) (.cons (df h153) (.cons (dt h154) .nil)) q
    · rw [if_neg h154] at h
      by_cases h155 : v_c121.fLevel < 0
      · rw [if_pos h155] at h
        cases h
        exact pkk_sound TTok mix hF 1 (hs := [.c, .t false, .c, .c, .c, .t false, .c, .c, .c, .t true, .c, .c, .c, .c, .c, .c, .c, .c]) (ts := []) (s := []) (l := [82]) (by kernel_rfl) (by kernel_rfl) (.cons (df h153) (.cons (df h154) (.cons (dt h155) .nil))) q
      · rw [if_neg h155] at h
        by_cases h156 : v_c121.fLevel > 7
        · rw [if_pos h156] at h
          cases h
          exact pkk_sound TTok mix hF 1 (hs := [.c, .t false, .c, .c, .c, .t false, .c, .c, .c, .t false, .c, .c, .c, .t true, .c, .c, .c, .c, .c]) (ts := []) (s := []) (l := [82]) (by kernel_rfl) (by kernel_rfl) (.cons (df h153) (.cons (df h154) (.cons (df h155) (.cons (dt h156) .nil)))) q
        · rw [if_neg h156] at h
          by_cases h157 : v_c121.fKind < 0
          · rw [if_pos h157] at h
            cases h
            exact pkk_sound TTok mix hF 1 (hs := [.c, .t false, .c, .c, .c, .t false, .c, .c, .c, .t false, .c, .c, .c, .t false, .c, .c, .c, .t true, .c, .c]) (ts := []) (s := []) (l := [82]) (by kernel_rfl) (by kernel_rfl) (.cons (df h153) (.cons (df h154) (.cons (df h155) (.cons (df h156) (.cons (dt h157) .nil))))) q
          · rw [if_neg h157] at h
            cases h
            exact pkk_sound TTok mix hF 1 (hs := [.c, .t false, .c, .c, .c, .t false, .c, .c, .c, .t false, .c, .c, .c, .t false, .c, .c, .c, .t false, .c, .c, .c]) (ts := []) (s := []) (l := [82]) (by kernel_rfl) (by kernel_rfl) (.cons (df h153) (.cons (df h154) (.cons (df h155) (.cons (df h156) (.cons (df h157) .nil))))) q
/- ringhall/cred.Check -/
def G_cred_Check (n : Nat) (v_c121 : S_api_Cred) : Option (Int) :=
  (G_cred_Check_L1 n v_c121 n 0).bind fun v_o127 => match v_o127 with
  | .x0 v_z128 =>
    some v_z128
  | .x1  =>
    if (v_c121.fMore.length : Int) > 4 then
     some 2
    else
     (G_cred_Check_L2 n v_c121 n 0).bind fun v_o139 => match v_o139 with
     | .x0 v_z140 =>
       some v_z140
     | .x1  =>
       (G_cred_Check_C3 n v_c121).bind fun v_o147 => match v_o147 with
       | .x0 v_z148 =>
         if v_z148 = true then
          some 1
         else
          some 0
theorem G_cred_Check_ok (n : Nat) (v_c121 : S_api_Cred) (r : Int) (h : G_cred_Check n v_c121 = some r) : Ret Try.prog 19 [eS_api_Cred v_c121] ((eI .i64) r) := by
  refine ret_run (n := 83) (fn := Try.f19) (c := bodyOf Try.f19) (by kernel_rfl) (by kernel_rfl) (by kernel_rfl) (by kernel_rfl) ?_
  have hF : KC 83 (FinR Try.prog Try.f19 ((eI .i64) r)) := FinR.kc' (by kernel_rfl)
  unfold G_cred_Check at h
  obtain ⟨v_o127, h128, h⟩ := bind_some h
  refine pkk_sound TTok mix hF 7 (hs := [.c, .c, .bd, .u (.d (.v (.int .i64 (([v_c121.fUser, v_c121.fGroup]).length : Int)))), .n n]) (ts := []) (s := [0]) (l := [1, 11, 12, 13]) (by kernel_rfl) (by kernel_rfl) (.cons (len_ob (f := (eI .i64)) (l := [v_c121.fUser, v_c121.fGroup])) .nil) (G_cred_Check_L1_ok hF (.b 0 :: .s (cR (cR (bodyOf Try.f19))) :: []) n v_c121 n 0 _ h128 ?_)
  cases v_o127 with
  | x0 v_z128 =>
    try dsimp only at h
    obtain rfl := Option.some.inj h
    exact pend_sound TTok mix 2 (hs := []) (by kernel_rfl) (by kernel_rfl) (by kernel_rfl) .nil
  | x1  =>
    try dsimp only at h
    by_cases h129 : (v_c121.fMore.length : Int) > 4
    · rw [if_pos h129] at h
      obtain rfl := Option.some.inj h
      exact pend_sound TTok mix 9 (hs := [.c, .u (.d (.v (.int .i64 (v_c121.fMore.length : Int)))), .t true]) (by kernel_rfl) (by kernel_rfl) (by kernel_rfl) (.cons (len_ob (f := (eI .i64)) (l := v_c121.fMore)) (.cons (dt h129) .nil))
    · rw [if_neg h129] at h
      obtain ⟨v_o139, h147, h⟩ := bind_some h
      refine pkk_sound TTok mix hF 11 (hs := [.c, .u (.d (.v (.int .i64 (v_c121.fMore.length : Int)))), .t false, .c, .u (.d (.v (.int .i64 (v_c121.fMore.length : Int)))), .n n]) (ts := []) (s := [0]) (l := [1, 29, 30, 31]) (by kernel_rfl) (by kernel_rfl) (.cons (len_ob (f := (eI .i64)) (l := v_c121.fMore)) (.cons (df h129) (.cons (len_ob (f := (eI .i64)) (l := v_c121.fMore)) .nil))) (G_cred_Check_L2_ok hF (.b 2 :: .s (cR (cR (cR (cR (bodyOf Try.f19))))) :: []) n v_c121 n 0 _ h147 ?_)
      cases v_o139 with
      | x0 v_z140 =>
        try dsimp only at h
        obtain rfl := Option.some.inj h
        exact pend_sound TTok mix 2 (hs := []) (by kernel_rfl) (by kernel_rfl) (by kernel_rfl) .nil
      | x1  =>
        try dsimp only at h
        obtain ⟨v_o147, h158, h⟩ := bind_some h
        refine pkk_sound TTok mix hF 3 (hs := []) (ts := []) (s := [0]) (l := [1]) (by kernel_rfl) (by kernel_rfl) .nil (G_cred_Check_C3_ok hF (.s (cR (cL (cR (cR (cR (cR (bodyOf Try.f19))))))) :: .s (cR (cR (cR (cR (cR (bodyOf Try.f19)))))) :: []) n v_c121 _ h158 ?_)
        cases v_o147 with
        | x0 v_z148 =>
          try dsimp only at h
          by_cases h159 : v_z148 = true
          · rw [if_pos h159] at h
            obtain rfl := Option.some.inj h
            exact pend_sound TTok mix 5 (hs := [.t true]) (by kernel_rfl) (by kernel_rfl) (by kernel_rfl) (.cons h159 .nil)
          · rw [if_neg h159] at h
            obtain rfl := Option.some.inj h
            exact pend_sound TTok mix 5 (hs := [.t false]) (by kernel_rfl) (by kernel_rfl) (by kernel_rfl) (.cons (vf h159) .nil)
/- math/bits.Len64 -/
def G_math_bits_Len64 (n : Nat) (v_x175 : Int) : Option (Int) :=
  if v_x175 ≥ 4294967296 then
   if (shrI .u64 v_x175 32) ≥ 65536 then
    if (shrI .u64 (shrI .u64 v_x175 32) 16) ≥ 256 then
     (getS (ByteArray.mk #[0, 1, 2, 2, 3, 3, 3, 3, 4, 4, 4, 4, 4, 4, 4, 4, 5, 5, 5, 5, 5, 5, 5, 5, 5, 5, 5, 5, 5, 5, 5, 5, 6, 6, 6, 6, 6, 6, 6, 6, 6, 6, 6, 6, 6, 6, 6, 6, 6, 6, 6, 6, 6, 6, 6, 6, 6, 6, 6, 6, 6, 6, 6, 6, 7, 7, 7, 7, 7, 7, 7, 7, 7, 7, 7, 7, 7, 7, 7, 7, 7, 7, 7, 7, 7, 7, 7, 7, 7, 7, 7, 7, 7, 7, 7, 7, 7, 7, 7, 7, 7, 7, 7, 7, 7, 7, 7, 7, 7, 7, 7, 7, 7, 7, 7, 7, 7, 7, 7, 7, 7, 7, 7, 7, 7, 7, 7, 7, 8, 8, 8, 8, 8, 8, 8, 8, 8, 8, 8, 8, 8, 8, 8, 8, 8, 8, 8, 8, 8, 8, 8, 8, 8, 8, 8, 8, 8, 8, 8, 8, 8, 8, 8, 8, 8, 8, 8, 8, 8, 8, 8, 8, 8, 8, 8, 8, 8, 8, 8, 8, 8, 8, 8, 8, 8, 8, 8, 8, 8, 8, 8, 8, 8, 8, 8, 8, 8, 8, 8, 8, 8, 8, 8, 8, 8, 8, 8, 8, 8, 8, 8, 8, 8, 8, 8, 8, 8, 8, 8, 8, 8, 8, 8, 8, 8, 8, 8, 8, 8, 8, 8, 8, 8, 8, 8, 8, 8, 8, 8, 8, 8, 8, 8, 8, 8, 8, 8, 8, 8, 8, 8, 8, 8, 8, 8, 8]) (wi .u8 (shrI .u64 (shrI .u64 (shrI .u64 v_x175 32) 16) 8))).bind fun (v_y176 : Int) =>
     some (wi .i64 ((wi .i64 ((wi .i64 (32 + 16)) + 8)) + (wi .i64 v_y176)))
    else
     (getS (ByteArray.mk #[0, 1, 2, 2, 3, 3, 3, 3, 4, 4, 4, 4, 4, 4, 4, 4, 5, 5, 5, 5, 5, 5, 5, 5, 5, 5, 5, 5, 5, 5, 5, 5, 6, 6, 6, 6, 6, 6, 6, 6, 6, 6, 6, 6, 6, 6, 6, 6, 6, 6, 6, 6, 6, 6, 6, 6, 6, 6, 6, 6, 6, 6, 6, 6, 7, 7, 7, 7, 7, 7, 7, 7, 7, 7, 7, 7, 7, 7, 7, 7, 7, 7, 7, 7, 7, 7, 7, 7, 7, 7, 7, 7, 7, 7, 7, 7, 7, 7, 7, 7, 7, 7, 7, 7, 7, 7, 7, 7, 7, 7, 7, 7, 7, 7, 7, 7, 7, 7, 7, 7, 7, 7, 7, 7, 7, 7, 7, 7, 8, 8, 8, 8, 8, 8, 8, 8, 8, 8, 8, 8, 8, 8, 8, 8, 8, 8, 8, 8, 8, 8, 8, 8, 8, 8, 8, 8, 8, 8, 8, 8, 8, 8, 8, 8, 8, 8, 8, 8, 8, 8, 8, 8, 8, 8, 8, 8, 8, 8, 8, 8, 8, 8, 8, 8, 8, 8, 8, 8, 8, 8, 8, 8, 8, 8, 8, 8, 8, 8, 8, 8, 8, 8, 8, 8, 8, 8, 8, 8, 8, 8, 8, 8, 8, 8, 8, 8, 8, 8, 8, 8, 8, 8, 8, 8, 8, 8, 8, 8, 8, 8, 8, 8, 8, 8, 8, 8, 8, 8, 8, 8, 8, 8, 8, 8, 8, 8, 8, 8, 8, 8, 8, 8, 8, 8, 8, 8]) (wi .u8 (shrI .u64 (shrI .u64 v_x175 32) 16))).bind fun (v_y177 : Int) =>
     some (wi .i64 ((wi .i64 (32 + 16)) + (wi .i64 v_y177)))
   else
    if (shrI .u64 v_x175 32) ≥ 256 then
     (getS (ByteArray.mk #[0, 1, 2, 2, 3, 3, 3, 3, 4, 4, 4, 4, 4, 4, 4, 4, 5, 5, 5, 5, 5, 5, 5, 5, 5, 5, 5, 5, 5, 5, 5, 5, 6, 6, 6, 6, 6, 6, 6, 6, 6, 6, 6, 6, 6, 6, 6, 6, 6, 6, 6, 6, 6, 6, 6, 6, 6, 6, 6, 6, 6, 6, 6, 6, 7, 7, 7, 7, 7, 7, 7, 7, 7, 7, 7, 7, 7, 7, 7, 7, 7, 7, 7, 7, 7, 7, 7, 7, 7, 7, 7, 7, 7, 7, 7, 7, 7, 7, 7, 7, 7, 7, 7, 7, 7, 7, 7, 7, 7, 7, 7, 7, 7, 7, 7, 7, 7, 7, 7, 7, 7, 7, 7, 7, 7, 7, 7, 7, 8, 8, 8, 8, 8, 8, 8, 8, 8, 8, 8, 8, 8, 8, 8, 8, 8, 8, 8, 8, 8, 8, 8, 8, 8, 8, 8, 8, 8, 8, 8, 8, 8, 8, 8, 8, 8, 8, 8, 8, 8, 8, 8, 8, 8, 8, 8, 8, 8, 8, 8, 8, 8, 8, 8, 8, 8, 8, 8, 8, 8, 8, 8, 8, 8, 8, 8, 8, 8, 8, 8, 8, 8, 8, 8, 8, 8, 8, 8, 8, 8, 8, 8, 8, 8, 8, 8, 8, 8, 8, 8, 8, 8, 8, 8, 8, 8, 8, 8, 8, 8, 8, 8, 8, 8, 8, 8, 8, 8, 8, 8, 8, 8, 8, 8, 8, 8, 8, 8, 8, 8, 8, 8, 8, 8, 8, 8, 8]) (wi .u8 (shrI .u64 (shrI .u64 v_x175 32) 8))).bind fun (v_y178 : Int) =>
     some (wi .i64 ((wi .i64 (32 + 8)) + (wi .i64 v_y178)))
    else
     (getS (ByteArray.mk #[0, 1, 2, 2, 3, 3, 3, 3, 4, 4, 4, 4, 4, 4, 4, 4, 5, 5, 5, 5, 5, 5, 5, 5, 5, 5, 5, 5, 5, 5, 5, 5, 6, 6, 6, 6, 6, 6, 6, 6, 6, 6, 6, 6, 6, 6, 6, 6, 6, 6, 6, 6, 6, 6, 6, 6, 6, 6, 6, 6, 6, 6, 6, 6, 7, 7, 7, 7, 7, 7, 7, 7, 7, 7, 7, 7, 7, 7, 7, 7, 7, 7, 7, 7, 7, 7, 7, 7, 7, 7, 7, 7, 7, 7, 7, 7, 7, 7, 7, 7, 7, 7, 7, 7, 7, 7, 7, 7, 7, 7, 7, 7, 7, 7, 7, 7, 7, 7, 7, 7, 7, 7, 7, 7, 7, 7, 7, 7, 8, 8, 8, 8, 8, 8, 8, 8, 8, 8, 8, 8, 8, 8, 8, 8, 8, 8, 8, 8, 8, 8, 8, 8, 8, 8, 8, 8, 8, 8, 8, 8, 8, 8, 8, 8, 8, 8, 8, 8, 8, 8, 8, 8, 8, 8, 8, 8, 8, 8, 8, 8, 8, 8, 8, 8, 8, 8, 8, 8, 8, 8, 8, 8, 8, 8, 8, 8, 8, 8, 8, 8, 8, 8, 8, 8, 8, 8, 8, 8, 8, 8, 8, 8, 8, 8, 8, 8, 8, 8, 8, 8, 8, 8, 8, 8, 8, 8, 8, 8, 8, 8, 8, 8, 8, 8, 8, 8, 8, 8, 8, 8, 8, 8, 8, 8, 8, 8, 8, 8, 8, 8, 8, 8, 8, 8, 8, 8]) (wi .u8 (shrI .u64 v_x175 32))).bind fun (v_y179 : Int) =>
     some (wi .i64 (32 + (wi .i64 v_y179)))
  else
   if v_x175 ≥ 65536 then
    if (shrI .u64 v_x175 16) ≥ 256 then
     (getS (ByteArray.mk #[0, 1, 2, 2, 3, 3, 3, 3, 4, 4, 4, 4, 4, 4, 4, 4, 5, 5, 5, 5, 5, 5, 5, 5, 5, 5, 5, 5, 5, 5, 5, 5, 6, 6, 6, 6, 6, 6, 6, 6, 6, 6, 6, 6, 6, 6, 6, 6, 6, 6, 6, 6, 6, 6, 6, 6, 6, 6, 6, 6, 6, 6, 6, 6, 7, 7, 7, 7, 7, 7, 7, 7, 7, 7, 7, 7, 7, 7, 7, 7, 7, 7, 7, 7, 7, 7, 7, 7, 7, 7, 7, 7, 7, 7, 7, 7, 7, 7, 7, 7, 7, 7, 7, 7, 7, 7, 7, 7, 7, 7, 7, 7, 7, 7, 7, 7, 7, 7, 7, 7, 7, 7, 7, 7, 7, 7, 7, 7, 8, 8, 8, 8, 8, 8, 8, 8, 8, 8, 8, 8, 8, 8, 8, 8, 8, 8, 8, 8, 8, 8, 8, 8, 8, 8, 8, 8, 8, 8, 8, 8, 8, 8, 8, 8, 8, 8, 8, 8, 8, 8, 8, 8, 8, 8, 8, 8, 8, 8, 8, 8, 8, 8, 8, 8, 8, 8, 8, 8, 8, 8, 8, 8, 8, 8, 8, 8, 8, 8, 8, 8, 8, 8, 8, 8, 8, 8, 8, 8, 8, 8, 8, 8, 8, 8, 8, 8, 8, 8, 8, 8, 8, 8, 8, 8, 8, 8, 8, 8, 8, 8, 8, 8, 8, 8, 8, 8, 8, 8, 8, 8, 8, 8, 8, 8, 8, 8, 8, 8, 8, 8, 8, 8, 8, 8, 8, 8]) (wi .u8 (shrI .u64 (shrI .u64 v_x175 16) 8))).bind fun (v_y180 : Int) =>
     some (wi .i64 ((wi .i64 ((wi .i64 (0 + 16)) + 8)) + (wi .i64 v_y180)))
    else
     (getS (ByteArray.mk #[0, 1, 2, 2, 3, 3, 3, 3, 4, 4, 4, 4, 4, 4, 4, 4, 5, 5, 5, 5, 5, 5, 5, 5, 5, 5, 5, 5, 5, 5, 5, 5, 6, 6, 6, 6, 6, 6, 6, 6, 6, 6, 6, 6, 6, 6, 6, 6, 6, 6, 6, 6, 6, 6, 6, 6, 6, 6, 6, 6, 6, 6, 6, 6, 7, 7, 7, 7, 7, 7, 7, 7, 7, 7, 7, 7, 7, 7, 7, 7, 7, 7, 7, 7, 7, 7, 7, 7, 7, 7, 7, 7, 7, 7, 7, 7, 7, 7, 7, 7, 7, 7, 7, 7, 7, 7, 7, 7, 7, 7, 7, 7, 7, 7, 7, 7, 7, 7, 7, 7, 7, 7, 7, 7, 7, 7, 7, 7, 8, 8, 8, 8, 8, 8, 8, 8, 8, 8, 8, 8, 8, 8, 8, 8, 8, 8, 8, 8, 8, 8, 8, 8, 8, 8, 8, 8, 8, 8, 8, 8, 8, 8, 8, 8, 8, 8, 8, 8, 8, 8, 8, 8, 8, 8, 8, 8, 8, 8, 8, 8, 8, 8, 8, 8, 8, 8, 8, 8, 8, 8, 8, 8, 8, 8, 8, 8, 8, 8, 8, 8, 8, 8, 8, 8, 8, 8, 8, 8, 8, 8, 8, 8, 8, 8, 8, 8, 8, 8, 8, 8, 8, 8, 8, 8, 8, 8, 8, 8, 8, 8, 8, 8, 8, 8, 8, 8, 8, 8, 8, 8, 8, 8, 8, 8, 8, 8, 8, 8, 8, 8, 8, 8, 8, 8, 8, 8]) (wi .u8 (shrI .u64 v_x175 16))).bind fun (v_y181 : Int) =>
     some (wi .i64 ((wi .i64 (0 + 16)) + (wi .i64 v_y181)))
   else
    if v_x175 ≥ 256 then
     (getS (ByteArray.mk #[0, 1, 2, 2, 3, 3, 3, 3, 4, 4, 4, 4, 4, 4, 4, 4, 5, 5, 5, 5, 5, 5, 5, 5, 5, 5, 5, 5, 5, 5, 5, 5, 6, 6, 6, 6, 6, 6, 6, 6, 6, 6, 6, 6, 6, 6, 6, 6, 6, 6, 6, 6, 6, 6, 6, 6, 6, 6, 6, 6, 6, 6, 6, 6, 7, 7, 7, 7, 7, 7, 7, 7, 7, 7, 7, 7, 7, 7, 7, 7, 7, 7, 7, 7, 7, 7, 7, 7, 7, 7, 7, 7, 7, 7, 7, 7, 7, 7, 7, 7, 7, 7, 7, 7, 7, 7, 7, 7, 7, 7, 7, 7, 7, 7, 7, 7, 7, 7, 7, 7, 7, 7, 7, 7, 7, 7, 7, 7, 8, 8, 8, 8, 8, 8, 8, 8, 8, 8, 8, 8, 8, 8, 8, 8, 8, 8, 8, 8, 8, 8, 8, 8, 8, 8, 8, 8, 8, 8, 8, 8, 8, 8, 8, 8, 8, 8, 8, 8, 8, 8, 8, 8, 8, 8, 8, 8, 8, 8, 8, 8, 8, 8, 8, 8, 8, 8, 8, 8, 8, 8, 8, 8, 8, 8, 8, 8, 8, 8, 8, 8, 8, 8, 8, 8, 8, 8, 8, 8, 8, 8, 8, 8, 8, 8, 8, 8, 8, 8, 8, 8, 8, 8, 8, 8, 8, 8, 8, 8, 8, 8, 8, 8, 8, 8, 8, 8, 8, 8, 8, 8, 8, 8, 8, 8, 8, 8, 8, 8, 8, 8, 8, 8, 8, 8, 8, 8]) (wi .u8 (shrI .u64 v_x175 8))).bind fun (v_y182 : Int) =>
     some (wi .i64 ((wi .i64 (0 + 8)) + (wi .i64 v_y182)))
    else
     (getS (ByteArray.mk #[0, 1, 2, 2, 3, 3, 3, 3, 4, 4, 4, 4, 4, 4, 4, 4, 5, 5, 5, 5, 5, 5, 5, 5, 5, 5, 5, 5, 5, 5, 5, 5, 6, 6, 6, 6, 6, 6, 6, 6, 6, 6, 6, 6, 6, 6, 6, 6, 6, 6, 6, 6, 6, 6, 6, 6, 6, 6, 6, 6, 6, 6, 6, 6, 7, 7, 7, 7, 7, 7, 7, 7, 7, 7, 7, 7, 7, 7, 7, 7, 7, 7, 7, 7, 7, 7, 7, 7, 7, 7, 7, 7, 7, 7, 7, 7, 7, 7, 7, 7, 7, 7, 7, 7, 7, 7, 7, 7, 7, 7, 7, 7, 7, 7, 7, 7, 7, 7, 7, 7, 7, 7, 7, 7, 7, 7, 7, 7, 8, 8, 8, 8, 8, 8, 8, 8, 8, 8, 8, 8, 8, 8, 8, 8, 8, 8, 8, 8, 8, 8, 8, 8, 8, 8, 8, 8, 8, 8, 8, 8, 8, 8, 8, 8, 8, 8, 8, 8, 8, 8, 8, 8, 8, 8, 8, 8, 8, 8, 8, 8, 8, 8, 8, 8, 8, 8, 8, 8, 8, 8, 8, 8, 8, 8, 8, 8, 8, 8, 8, 8, 8, 8, 8, 8, 8, 8, 8, 8, 8, 8, 8, 8, 8, 8, 8, 8, 8, 8, 8, 8, 8, 8, 8, 8, 8, 8, 8, 8, 8, 8, 8, 8, 8, 8, 8, 8, 8, 8, 8, 8, 8, 8, 8, 8, 8, 8, 8, 8, 8, 8, 8, 8, 8, 8, 8, 8]) (wi .u8 v_x175)).bind fun (v_y183 : Int) =>
     some (wi .i64 (0 + (wi .i64 v_y183)))
theorem G_math_bits_Len64_ok (n : Nat) (v_x175 : Int) (r : Int) (h : G_math_bits_Len64 n v_x175 = some r) : Ret Try.prog 185 [(eI .u64) v_x175] ((eI .i64) r) := by
  refine ret_run (n := 25) (fn := Try.f185) (c := bodyOf Try.f185) (by kernel_rfl) (by kernel_rfl) (by kernel_rfl) (by kernel_rfl) ?_
  have hF : KC 25 (FinR Try.prog Try.f185 ((eI .i64) r)) := FinR.kc' (by kernel_rfl)
  unfold G_math_bits_Len64 at h
  by_cases h194 : v_x175 ≥ 4294967296
  · rw [if_pos h194] at h
    by_cases h198 : (shrI .u64 v_x175 32) ≥ 65536
    · rw [if_pos h198] at h
      by_cases h202 : (shrI .u64 (shrI .u64 v_x175 32) 16) ≥ 256
      · rw [if_pos h202] at h
        obtain ⟨v_y176, h204, h⟩ := bind_some h
        obtain rfl := Option.some.inj h
        exact pend_sound TTok mix 26 (hs := [.t true, .t true, .t true, .l (.d (.v (.int .u8 v_y176)))]) (by kernel_rfl) (by kernel_rfl) (by kernel_rfl) (.cons (dt h194) (.cons (show (0 : Int) ≤ 32 by decide) (.cons (dt h198) (.cons (show (0 : Int) ≤ 16 by decide) (.cons (dt h202) (.cons (show (0 : Int) ≤ 8 by decide) (.cons (getS_ob h204) .nil)))))))
      · rw [if_neg h202] at h
        obtain ⟨v_y177, h205, h⟩ := bind_some h
        obtain rfl := Option.some.inj h
        exact pend_sound TTok mix 24 (hs := [.t true, .t true, .t false, .l (.d (.v (.int .u8 v_y177)))]) (by kernel_rfl) (by kernel_rfl) (by kernel_rfl) (.cons (dt h194) (.cons (show (0 : Int) ≤ 32 by decide) (.cons (dt h198) (.cons (show (0 : Int) ≤ 16 by decide) (.cons (df h202) (.cons (getS_ob h205) .nil))))))
    · rw [if_neg h198] at h
      by_cases h208 : (shrI .u64 v_x175 32) ≥ 256
      · rw [if_pos h208] at h
        obtain ⟨v_y178, h210, h⟩ := bind_some h
        obtain rfl := Option.some.inj h
        exact pend_sound TTok mix 24 (hs := [.t true, .t false, .t true, .l (.d (.v (.int .u8 v_y178)))]) (by kernel_rfl) (by kernel_rfl) (by kernel_rfl) (.cons (dt h194) (.cons (show (0 : Int) ≤ 32 by decide) (.cons (df h198) (.cons (dt h208) (.cons (show (0 : Int) ≤ 8 by decide) (.cons (getS_ob h210) .nil))))))
      · rw [if_neg h208] at h
        obtain ⟨v_y179, h211, h⟩ := bind_some h
        obtain rfl := Option.some.inj h
        exact pend_sound TTok mix 22 (hs := [.t true, .t false, .t false, .l (.d (.v (.int .u8 v_y179)))]) (by kernel_rfl) (by kernel_rfl) (by kernel_rfl) (.cons (dt h194) (.cons (show (0 : Int) ≤ 32 by decide) (.cons (df h198) (.cons (df h208) (.cons (getS_ob h211) .nil)))))
  · rw [if_neg h194] at h
    by_cases h214 : v_x175 ≥ 65536
    · rw [if_pos h214] at h
      by_cases h218 : (shrI .u64 v_x175 16) ≥ 256
      · rw [if_pos h218] at h
        obtain ⟨v_y180, h220, h⟩ := bind_some h
        obtain rfl := Option.some.inj h
        exact pend_sound TTok mix 24 (hs := [.t false, .t true, .t true, .l (.d (.v (.int .u8 v_y180)))]) (by kernel_rfl) (by kernel_rfl) (by kernel_rfl) (.cons (df h194) (.cons (dt h214) (.cons (show (0 : Int) ≤ 16 by decide) (.cons (dt h218) (.cons (show (0 : Int) ≤ 8 by decide) (.cons (getS_ob h220) .nil))))))
      · rw [if_neg h218] at h
        obtain ⟨v_y181, h221, h⟩ := bind_some h
        obtain rfl := Option.some.inj h
        exact pend_sound TTok mix 22 (hs := [.t false, .t true, .t false, .l (.d (.v (.int .u8 v_y181)))]) (by kernel_rfl) (by kernel_rfl) (by kernel_rfl) (.cons (df h194) (.cons (dt h214) (.cons (show (0 : Int) ≤ 16 by decide) (.cons (df h218) (.cons (getS_ob h221) .nil)))))
    · rw [if_neg h214] at h
      by_cases h224 : v_x175 ≥ 256
      · rw [if_pos h224] at h
        obtain ⟨v_y182, h226, h⟩ := bind_some h
        obtain rfl := Option.some.inj h
        exact pend_sound TTok mix 22 (hs := [.t false, .t false, .t true, .l (.d (.v (.int .u8 v_y182)))]) (by kernel_rfl) (by kernel_rfl) (by kernel_rfl) (.cons (df h194) (.cons (df h214) (.cons (dt h224) (.cons (show (0 : Int) ≤ 8 by decide) (.cons (getS_ob h226) .nil)))))
      · rw [if_neg h224] at h
        obtain ⟨v_y183, h227, h⟩ := bind_some h
        obtain rfl := Option.some.inj h
        exact pend_sound TTok mix 20 (hs := [.t false, .t false, .t false, .l (.d (.v (.int .u8 v_y183)))]) (by kernel_rfl) (by kernel_rfl) (by kernel_rfl) (.cons (df h194) (.cons (df h214) (.cons (df h224) (.cons (getS_ob h227) .nil))))
/- math/bits.Len -/
def G_math_bits_Len (n : Nat) (v_x174 : Int) : Option (Int) :=
  (G_math_bits_Len64 n v_x174).bind fun (v_r184 : (Int)) =>
  some v_r184
theorem G_math_bits_Len_ok (n : Nat) (v_x174 : Int) (r : Int) (h : G_math_bits_Len n v_x174 = some r) : Ret Try.prog 121 [(eI .u64) v_x174] ((eI .i64) r) := by
  refine ret_run (n := 8) (fn := Try.f121) (c := bodyOf Try.f121) (by kernel_rfl) (by kernel_rfl) (by kernel_rfl) (by kernel_rfl) ?_
  have hF : KC 8 (FinR Try.prog Try.f121 ((eI .i64) r)) := FinR.kc' (by kernel_rfl)
  unfold G_math_bits_Len at h
  obtain ⟨v_r184, h228, h⟩ := bind_some h
  obtain rfl := Option.some.inj h
  exact pend_sound TTok mix 8 (hs := [.c, .r ((eI .i64) v_r184)]) (by kernel_rfl) (by kernel_rfl) (by kernel_rfl) (.cons (G_math_bits_Len64_ok n v_x174 _ h228) .nil)
/- cmp.isNaN[int] -/
def G_cmp_isNaN_int (n : Nat) (v_x207 : Int) : Option (Bool) :=
  some (v_x207 != v_x207)
theorem G_cmp_isNaN_int_ok (n : Nat) (v_x207 : Int) (r : Bool) (h : G_cmp_isNaN_int n v_x207 = some r) : Ret Try.prog 212 [(eI .i64) v_x207] (eB r) := by
  refine ret_run (n := 6) (fn := Try.f212) (c := bodyOf Try.f212) (by kernel_rfl) (by kernel_rfl) (by kernel_rfl) (by kernel_rfl) ?_
  have hF : KC 6 (FinR Try.prog Try.f212 (eB r)) := FinR.kc' (by kernel_rfl)
  unfold G_cmp_isNaN_int at h
  obtain rfl := Option.some.inj h
  exact pend_sound TTok mix 5 (hs := []) (by kernel_rfl) (by kernel_rfl) (by kernel_rfl) .nil
inductive G_cmp_Less_int_C1_R where
  | x0 (v_x212 : Bool)
def G_cmp_Less_int_C1_ex : G_cmp_Less_int_C1_R → Ex
  | .x0 _ => .normal
def G_cmp_Less_int_C1_st (v_x205 : Int) (v_y206 : Int) : G_cmp_Less_int_C1_R → PS
  | .x0 v_x212 => ⟨[dd, dd, dd, dd, .d (.v (.bool v_x212)), dd, dd, dd, dd, dd, dd, dd, dd, dd, dd, dd, dd], []⟩
def G_cmp_Less_int_C1_hd (v_x205 : Int) (v_y206 : Int)  : PS := ⟨[.d (.v (.int .i64 v_x205)), .d (.v (.int .i64 v_y206)), dd, dd, dd, dd, dd, dd, dd, dd, dd, dd, dd, dd, dd, dd, dd], []⟩
def G_cmp_Less_int_C1 (n : Nat) (v_x205 : Int) (v_y206 : Int) : Option G_cmp_Less_int_C1_R :=
  (G_cmp_isNaN_int n v_x205).bind fun (v_r210 : (Bool)) =>
  if v_r210 = true then
   (G_cmp_isNaN_int n v_y206).bind fun (v_r211 : (Bool)) =>
   if v_r211 = true then
    some (.x0 (decide (v_x205 < v_y206)))
   else
    some (.x0 true)
  else
   some (.x0 (decide (v_x205 < v_y206)))
theorem G_cmp_Less_int_C1_ok {Fi : Ex → PS → Prop} (hF : KC 17 Fi) (ks : List Fr) (n : Nat) (v_x205 : Int) (v_y206 : Int)  (o : G_cmp_Less_int_C1_R) (h : G_cmp_Less_int_C1 n v_x205 v_y206 = some o) (q : RunE Try.prog 17 Fi ks (G_cmp_Less_int_C1_ex o) (G_cmp_Less_int_C1_st v_x205 v_y206 o)) : RunE Try.prog 17 Fi (.s (cL (cR (bodyOf Try.f181))) :: ks) .normal (G_cmp_Less_int_C1_hd v_x205 v_y206) := by
  unfold G_cmp_Less_int_C1 at h
  obtain ⟨v_r210, h241, h⟩ := bind_some h
  by_cases h242 : v_r210 = true
  · rw [if_pos h242] at h
    obtain ⟨v_r211, h243, h⟩ := bind_some h
    by_cases h244 : v_r211 = true
    · rw [if_pos h244] at h
      cases h
      exact pkk_sound TTok mix hF 1 (hs := [.r (eB v_r210), .t true, .c, .r (eB v_r211), .c, .t false, .c, .c]) (ts := []) (s := []) (l := [4]) (by kernel_rfl) (by kernel_rfl) (.cons (G_cmp_isNaN_int_ok n v_x205 _ h241) (.cons h242 (.cons (G_cmp_isNaN_int_ok n v_y206 _ h243) (.cons (bnf h244) .nil)))) q
    · rw [if_neg h244] at h
      cases h
      exact pkk_sound TTok mix hF 1 (hs := [.r (eB v_r210), .t true, .c, .r (eB v_r211), .c, .t true, .c, .c]) (ts := []) (s := []) (l := [4]) (by kernel_rfl) (by kernel_rfl) (.cons (G_cmp_isNaN_int_ok n v_x205 _ h241) (.cons h242 (.cons (G_cmp_isNaN_int_ok n v_y206 _ h243) (.cons (bnt (vf h244)) .nil)))) q
  · rw [if_neg h242] at h
    cases h
    exact pkk_sound TTok mix hF 1 (hs := [.r (eB v_r210), .t false, .c, .c, .c, .c, .c]) (ts := []) (s := []) (l := [4]) (by kernel_rfl) (by kernel_rfl) (.cons (G_cmp_isNaN_int_ok n v_x205 _ h241) (.cons (vf h242) .nil)) q
/- cmp.Less[int] -/
def G_cmp_Less_int (n : Nat) (v_x205 : Int) (v_y206 : Int) : Option (Bool) :=
  (G_cmp_Less_int_C1 n v_x205 v_y206).bind fun v_o215 => match v_o215 with
  | .x0 v_z216 =>
    some v_z216
theorem G_cmp_Less_int_ok (n : Nat) (v_x205 : Int) (v_y206 : Int) (r : Bool) (h : G_cmp_Less_int n v_x205 v_y206 = some r) : Ret Try.prog 181 [(eI .i64) v_x205, (eI .i64) v_y206] (eB r) := by
  refine ret_run (n := 17) (fn := Try.f181) (c := bodyOf Try.f181) (by kernel_rfl) (by kernel_rfl) (by kernel_rfl) (by kernel_rfl) ?_
  have hF : KC 17 (FinR Try.prog Try.f181 (eB r)) := FinR.kc' (by kernel_rfl)
  unfold G_cmp_Less_int at h
  obtain ⟨v_o215, h245, h⟩ := bind_some h
  refine pkk_sound TTok mix hF 3 (hs := []) (ts := []) (s := []) (l := [0, 1]) (by kernel_rfl) (by kernel_rfl) .nil (G_cmp_Less_int_C1_ok hF (.s (cR (cR (bodyOf Try.f181))) :: []) n v_x205 v_y206 _ h245 ?_)
  cases v_o215 with
  | x0 v_z216 =>
    try dsimp only at h
    obtain rfl := Option.some.inj h
    exact pend_sound TTok mix 1 (hs := []) (by kernel_rfl) (by kernel_rfl) (by kernel_rfl) .nil
inductive G_slices_insertionSortOrdered_int_h_L1_R where
  | x0 (v_w229 : (List Int))
def G_slices_insertionSortOrdered_int_h_L1_ex : G_slices_insertionSortOrdered_int_h_L1_R → Ex
  | .x0 _ => .exit 2
def G_slices_insertionSortOrdered_int_h_L1_st (v_a197 : Int) (v_b198 : Int) (v_i199 : Int) : G_slices_insertionSortOrdered_int_h_L1_R → PS
  | .x0 v_w229 => ⟨[.srf 1, .d (.v (.int .i64 v_a197)), .d (.v (.int .i64 v_b198)), dd, dd, dd, .d (.v (.int .i64 v_i199)), dd, dd, dd, dd, dd, dd, dd, dd, dd, dd, dd, dd, dd, dd, dd, dd, dd, dd, dd, dd, dd, dd, dd, dd, dd, dd, dd, dd, dd, dd, dd, dd, dd, dd, dd, dd, dd, dd, dd, dd, dd, dd], [.gh 0 (.srf 1), .row 3 1 (v_w229.map (eI .i64))]⟩
def G_slices_insertionSortOrdered_int_h_L1_hd (v_a197 : Int) (v_b198 : Int) (v_i199 : Int) (v_j201 : Int) (v_w202 : (List Int)) : PS := ⟨[.srf 1, .d (.v (.int .i64 v_a197)), .d (.v (.int .i64 v_b198)), dd, dd, dd, .d (.v (.int .i64 v_i199)), .d (.v (.int .i64 v_j201)), dd, dd, dd, dd, dd, dd, dd, dd, dd, dd, dd, dd, dd, dd, dd, dd, dd, dd, dd, dd, dd, dd, dd, dd, dd, dd, dd, dd, dd, dd, dd, dd, dd, dd, dd, dd, dd, dd, dd, dd, dd], [.gh 0 (.srf 1), .row 3 1 (v_w202.map (eI .i64))]⟩
def G_slices_insertionSortOrdered_int_h_L1 (n : Nat) (v_a197 : Int) (v_b198 : Int) (v_i199 : Int) : Nat → Int → (List Int) → Option G_slices_insertionSortOrdered_int_h_L1_R
  | 0, _, _ => none
  | k + 1, v_j201, v_w202 =>
    if v_j201 > v_a197 then
     if 0 ≤ v_j201 ∧ (v_j201).toNat < v_w202.length then
      (v_w202[(v_j201).toNat]?).bind fun (v_y218 : Int) =>
      if 0 ≤ (wi .i64 (v_j201 - 1)) ∧ ((wi .i64 (v_j201 - 1))).toNat < v_w202.length then
       (v_w202[((wi .i64 (v_j201 - 1))).toNat]?).bind fun (v_y219 : Int) =>
       (G_cmp_Less_int n v_y218 v_y219).bind fun (v_r220 : (Bool)) =>
       if v_r220 = true then
        if 0 ≤ (wi .i64 (v_j201 - 1)) ∧ ((wi .i64 (v_j201 - 1))).toNat < v_w202.length then
         (v_w202[((wi .i64 (v_j201 - 1))).toNat]?).bind fun (v_y225 : Int) =>
         if 0 ≤ v_j201 ∧ (v_j201).toNat < v_w202.length then
          (v_w202[(v_j201).toNat]?).bind fun (v_y226 : Int) =>
          if 0 ≤ v_j201 ∧ (v_j201).toNat < v_w202.length then
           (v_w202[(v_j201).toNat]?).bind fun (v_y227 : Int) =>
           if 0 ≤ (wi .i64 (v_j201 - 1)) ∧ ((wi .i64 (v_j201 - 1))).toNat < (v_w202.set (v_j201).toNat v_y225).length then
            ((v_w202.set (v_j201).toNat v_y225)[((wi .i64 (v_j201 - 1))).toNat]?).bind fun (v_y228 : Int) =>
            G_slices_insertionSortOrdered_int_h_L1 n v_a197 v_b198 v_i199 k (wi .i64 (v_j201 - 1)) ((v_w202.set (v_j201).toNat v_y225).set ((wi .i64 (v_j201 - 1))).toNat v_y226)
           else none
          else none
         else none
        else none
       else
        some (.x0 v_w202)
      else none
     else none
    else
     some (.x0 v_w202)
theorem G_slices_insertionSortOrdered_int_h_L1_ok {Fi : Ex → PS → Prop} (hF : KC 49 Fi) (ks : List Fr) (n : Nat) (v_a197 : Int) (v_b198 : Int) (v_i199 : Int)  : ∀ (k : Nat) (v_j201 : Int) (v_w202 : (List Int)) (o : G_slices_insertionSortOrdered_int_h_L1_R), G_slices_insertionSortOrdered_int_h_L1 n v_a197 v_b198 v_i199 k v_j201 v_w202 = some o → RunE Try.prog 49 Fi ks (G_slices_insertionSortOrdered_int_h_L1_ex o) (G_slices_insertionSortOrdered_int_h_L1_st v_a197 v_b198 v_i199 o) → RunE Try.prog 49 Fi (.l k (cP (cB (cR (cB (cL (cR (cP (cB (cR (bodyOf Try.f175)))))))))) :: ks) .normal (G_slices_insertionSortOrdered_int_h_L1_hd v_a197 v_b198 v_i199 v_j201 v_w202)
  | 0, v_j201, v_w202, o, h, q => by rw [G_slices_insertionSortOrdered_int_h_L1] at h; cases h
  | k + 1, v_j201, v_w202, o, h, q => by
    rw [G_slices_insertionSortOrdered_int_h_L1] at h
    by_cases h247 : v_j201 > v_a197
    · rw [if_pos h247] at h
      by_cases h248 : 0 ≤ v_j201 ∧ (v_j201).toNat < v_w202.length
      · rw [if_pos h248] at h
        obtain ⟨v_y218, h249, h⟩ := bind_some h
        by_cases h250 : 0 ≤ (wi .i64 (v_j201 - 1)) ∧ ((wi .i64 (v_j201 - 1))).toNat < v_w202.length
        · rw [if_pos h250] at h
          obtain ⟨v_y219, h251, h⟩ := bind_some h
          obtain ⟨v_r220, h252, h⟩ := bind_some h
          by_cases h253 : v_r220 = true
          · rw [if_pos h253] at h
            by_cases h262 : 0 ≤ (wi .i64 (v_j201 - 1)) ∧ ((wi .i64 (v_j201 - 1))).toNat < v_w202.length
            · rw [if_pos h262] at h
              obtain ⟨v_y225, h263, h⟩ := bind_some h
              by_cases h264 : 0 ≤ v_j201 ∧ (v_j201).toNat < v_w202.length
              · rw [if_pos h264] at h
                obtain ⟨v_y226, h265, h⟩ := bind_some h
                by_cases h266 : 0 ≤ v_j201 ∧ (v_j201).toNat < v_w202.length
                · rw [if_pos h266] at h
                  obtain ⟨v_y227, h267, h⟩ := bind_some h
                  by_cases h268 : 0 ≤ (wi .i64 (v_j201 - 1)) ∧ ((wi .i64 (v_j201 - 1))).toNat < (v_w202.set (v_j201).toNat v_y225).length
                  · rw [if_pos h268] at h
                    obtain ⟨v_y228, h269, h⟩ := bind_some h
                    exact pkk_sound TTok mix hF 11 (hs := [.t true, .c, .c, .c, .y ((eI .i64) v_y218), .c, .c, .c, .c, .c, .y ((eI .i64) v_y219), .c, .r (eB v_r220), .t true, .y ((eI .i64) v_y225), .y ((eI .i64) v_y226), .w ((v_w202.set (v_j201).toNat v_y225).map (eI .i64)), .y ((eI .i64) v_y227), .w (((v_w202.set (v_j201).toNat v_y225).set ((wi .i64 (v_j201 - 1))).toNat v_y226).map (eI .i64)), .y ((eI .i64) v_y228)]) (ts := []) (s := [0, 1]) (l := [0, 1, 2, 6, 7]) (by kernel_rfl) (by kernel_rfl) (.cons (dt h247) (.cons (idx_ob (f := (eI .i64)) h248) (.cons (get_ob (f := (eI .i64)) h249) (.cons (idx_ob (f := (eI .i64)) h250) (.cons (get_ob (f := (eI .i64)) h251) (.cons (G_cmp_Less_int_ok n v_y218 v_y219 _ h252) (.cons h253 (.cons (idx_ob (f := (eI .i64)) h262) (.cons (get_ob (f := (eI .i64)) h263) (.cons (idx_ob (f := (eI .i64)) h264) (.cons (get_ob (f := (eI .i64)) h265) (.cons (idx_ob (f := (eI .i64)) h266) (.cons (get_ob (f := (eI .i64)) h267) (.cons (Eq.refl (pcells (.v (.int .i64 v_y225)))) (.cons (set_ob (f := (eI .i64)) (l := v_w202) (k := (v_j201).toNat) (z := v_y225) (p := .v (.int .i64 v_y225)) rfl) (.cons (idx_ob (f := (eI .i64)) h268) (.cons (get_ob (f := (eI .i64)) h269) (.cons (Eq.refl (pcells (.v (.int .i64 v_y226)))) (.cons (set_ob (f := (eI .i64)) (l := (v_w202.set (v_j201).toNat v_y225)) (k := ((wi .i64 (v_j201 - 1))).toNat) (z := v_y226) (p := .v (.int .i64 v_y226)) rfl) .nil))))))))))))))))))) (G_slices_insertionSortOrdered_int_h_L1_ok hF ks n v_a197 v_b198 v_i199 k (wi .i64 (v_j201 - 1)) ((v_w202.set (v_j201).toNat v_y225).set ((wi .i64 (v_j201 - 1))).toNat v_y226) _ h q)
                  · rw [if_neg h268] at h; cases h
                · rw [if_neg h266] at h; cases h
              · rw [if_neg h264] at h; cases h
            · rw [if_neg h262] at h; cases h
          · rw [if_neg h253] at h
            cases h
            exact pkk_sound TTok mix hF 8 (hs := [.t true, .c, .c, .c, .y ((eI .i64) v_y218), .c, .c, .c, .c, .c, .y ((eI .i64) v_y219), .c, .r (eB v_r220), .t false]) (ts := []) (s := [0, 1]) (l := [0, 1, 2, 6]) (by kernel_rfl) (by kernel_rfl) (.cons (dt h247) (.cons (idx_ob (f := (eI .i64)) h248) (.cons (get_ob (f := (eI .i64)) h249) (.cons (idx_ob (f := (eI .i64)) h250) (.cons (get_ob (f := (eI .i64)) h251) (.cons (G_cmp_Less_int_ok n v_y218 v_y219 _ h252) (.cons (vf h253) .nil))))))) q
        · rw [if_neg h250] at h; cases h
      · rw [if_neg h248] at h; cases h
    · rw [if_neg h247] at h
      cases h
      exact pkk_sound TTok mix hF 8 (hs := [.t false, .c, .c, .c, .c, .c, .c, .c, .c, .c, .c]) (ts := []) (s := [0, 1]) (l := [0, 1, 2, 6]) (by kernel_rfl) (by kernel_rfl) (.cons (df h247) .nil) q
inductive G_slices_insertionSortOrdered_int_h_L2_R where
  | x0 (v_w233 : (List Int))
def G_slices_insertionSortOrdered_int_h_L2_ex : G_slices_insertionSortOrdered_int_h_L2_R → Ex
  | .x0 _ => .exit 0
def G_slices_insertionSortOrdered_int_h_L2_st (v_a197 : Int) (v_b198 : Int) : G_slices_insertionSortOrdered_int_h_L2_R → PS
  | .x0 v_w233 => ⟨[dd, dd, dd, dd, dd, dd, dd, dd, dd, dd, dd, dd, dd, dd, dd, dd, dd, dd, dd, dd, dd, dd, dd, dd, dd, dd, dd, dd, dd, dd, dd, dd, dd, dd, dd, dd, dd, dd, dd, dd, dd, dd, dd, dd, dd, dd, dd, dd, dd], [.gh 0 (.srf 1), .row 3 1 (v_w233.map (eI .i64))]⟩
def G_slices_insertionSortOrdered_int_h_L2_hd (v_a197 : Int) (v_b198 : Int) (v_i199 : Int) (v_w200 : (List Int)) : PS := ⟨[.srf 1, .d (.v (.int .i64 v_a197)), .d (.v (.int .i64 v_b198)), dd, dd, dd, .d (.v (.int .i64 v_i199)), dd, dd, dd, dd, dd, dd, dd, dd, dd, dd, dd, dd, dd, dd, dd, dd, dd, dd, dd, dd, dd, dd, dd, dd, dd, dd, dd, dd, dd, dd, dd, dd, dd, dd, dd, dd, dd, dd, dd, dd, dd, dd], [.gh 0 (.srf 1), .row 3 1 (v_w200.map (eI .i64))]⟩
def G_slices_insertionSortOrdered_int_h_L2 (n : Nat) (v_a197 : Int) (v_b198 : Int) : Nat → Int → (List Int) → Option G_slices_insertionSortOrdered_int_h_L2_R
  | 0, _, _ => none
  | k + 1, v_i199, v_w200 =>
    if v_i199 < v_b198 then
     (G_slices_insertionSortOrdered_int_h_L1 n v_a197 v_b198 v_i199 n v_i199 v_w200).bind fun v_o231 => match v_o231 with
     | .x0 v_z232 =>
       G_slices_insertionSortOrdered_int_h_L2 n v_a197 v_b198 k (wi .i64 (v_i199 + 1)) v_z232
    else
     some (.x0 v_w200)
theorem G_slices_insertionSortOrdered_int_h_L2_ok {Fi : Ex → PS → Prop} (hF : KC 49 Fi) (ks : List Fr) (n : Nat) (v_a197 : Int) (v_b198 : Int)  : ∀ (k : Nat) (v_i199 : Int) (v_w200 : (List Int)) (o : G_slices_insertionSortOrdered_int_h_L2_R), G_slices_insertionSortOrdered_int_h_L2 n v_a197 v_b198 k v_i199 v_w200 = some o → RunE Try.prog 49 Fi ks (G_slices_insertionSortOrdered_int_h_L2_ex o) (G_slices_insertionSortOrdered_int_h_L2_st v_a197 v_b198 o) → RunE Try.prog 49 Fi (.l k (cP (cB (cR (bodyOf Try.f175)))) :: ks) .normal (G_slices_insertionSortOrdered_int_h_L2_hd v_a197 v_b198 v_i199 v_w200)
  | 0, v_i199, v_w200, o, h, q => by rw [G_slices_insertionSortOrdered_int_h_L2] at h; cases h
  | k + 1, v_i199, v_w200, o, h, q => by
    rw [G_slices_insertionSortOrdered_int_h_L2] at h
    by_cases h231 : v_i199 < v_b198
    · rw [if_pos h231] at h
      obtain ⟨v_o231, h270, h⟩ := bind_some h
      refine pkk_sound TTok mix hF 12 (hs := [.t true, .n n]) (ts := []) (s := [0, 1]) (l := [0, 1, 2, 6, 7]) (by kernel_rfl) (by kernel_rfl) (.cons (dt h231) .nil) (G_slices_insertionSortOrdered_int_h_L1_ok hF (.b 2 :: .b 1 :: .s (cR (cR (cP (cB (cR (bodyOf Try.f175)))))) :: .l k (cP (cB (cR (bodyOf Try.f175)))) :: ks) n v_a197 v_b198 v_i199 n v_i199 v_w200 _ h270 ?_)
      cases v_o231 with
      | x0 v_z232 =>
        try dsimp only at h
        exact pkk_sound TTok mix hF 3 (hs := []) (ts := []) (s := [0, 1]) (l := [0, 1, 2, 6]) (by kernel_rfl) (by kernel_rfl) .nil (G_slices_insertionSortOrdered_int_h_L2_ok hF ks n v_a197 v_b198 k (wi .i64 (v_i199 + 1)) v_z232 _ h q)
    · rw [if_neg h231] at h
      cases h
      exact pkk_sound TTok mix hF 8 (hs := [.t false]) (ts := []) (s := [0, 1]) (l := []) (by kernel_rfl) (by kernel_rfl) (.cons (df h231) .nil) q
/- slices.insertionSortOrdered[int] -/
def G_slices_insertionSortOrdered_int_h (n : Nat) (v_data196 : (List Int)) (v_a197 : Int) (v_b198 : Int) : Option ((List Int)) :=
  (G_slices_insertionSortOrdered_int_h_L2 n v_a197 v_b198 n (wi .i64 (v_a197 + 1)) v_data196).bind fun v_o234 => match v_o234 with
  | .x0 v_z235 =>
    some v_z235
theorem G_slices_insertionSortOrdered_int_h_ok (n : Nat) (v_data196 : (List Int)) (v_a197 : Int) (v_b198 : Int) (r : (List Int)) (h : G_slices_insertionSortOrdered_int_h n v_data196 v_a197 v_b198 = some r) : RetH Try.prog 175 [.srf 0, .d ((eI .i64) v_a197), .d ((eI .i64) v_b198)] [.row 3 1 (v_data196.map (eI .i64))] (.tup []) [.row 3 1 (r.map (eI .i64))] := by
  refine retH_run (n := 49) (fn := Try.f175) (c := bodyOf Try.f175) (by kernel_rfl) (by kernel_rfl) (by kernel_rfl) (by kernel_rfl) ?_
  have hF : KC 49 (FinH Try.prog Try.f175 [.row 3 1 (v_data196.map (eI .i64))] (.tup []) [.row 3 1 (r.map (eI .i64))]) := FinH.kc' (by kernel_rfl)
  unfold G_slices_insertionSortOrdered_int_h at h
  obtain ⟨v_o234, h271, h⟩ := bind_some h
  refine pkk_sound TTok mix hF 4 (hs := [.n n]) (ts := []) (s := [1, 0]) (l := [0, 1, 2, 6]) (by kernel_rfl) (by kernel_rfl) .nil (G_slices_insertionSortOrdered_int_h_L2_ok hF (.b 0 :: []) n v_a197 v_b198 n (wi .i64 (v_a197 + 1)) v_data196 _ h271 ?_)
  cases v_o234 with
  | x0 v_z235 =>
    try dsimp only at h
    obtain rfl := Option.some.inj h
    exact pendH_sound TTok mix 1 (hs := []) [1] (by kernel_rfl) (by kernel_rfl) (by kernel_rfl) .nil
inductive G_slices_pdqsortOrdered_int_h_L1_R where
  | x0 (v_w240 : (List Int))
def G_slices_pdqsortOrdered_int_h_L1_ex : G_slices_pdqsortOrdered_int_h_L1_R → Ex
  | .x0 _ => .ret
def G_slices_pdqsortOrdered_int_h_L1_st  : G_slices_pdqsortOrdered_int_h_L1_R → PS
  | .x0 v_w240 => ⟨[dd, dd, dd, dd, dd, dd, dd, dd, dd, dd, dd, dd, dd, dd, dd, dd, dd, dd, dd, dd, dd, dd, dd, dd, dd, dd, dd, dd, dd, dd, dd, dd, dd, dd, dd, dd, dd, dd, dd, dd, dd, dd, dd, dd, dd, dd, dd, dd, dd, dd, dd, dd, dd, dd, dd, dd, dd, dd, dd, dd, dd, dd, dd, dd, dd, dd, dd, dd, dd, dd, dd, dd, dd, dd, dd, dd, dd, dd, dd, dd, dd, dd, dd, dd, dd, dd, dd, dd, dd, dd, dd, dd, dd, dd, dd, dd, dd, dd, dd, dd, dd, dd, dd, dd, dd, dd, dd, dd, dd, dd, dd, dd, dd, dd, dd, dd, dd, dd, dd, dd, dd, dd, dd, dd, dd, dd, dd, dd, dd, dd, dd, dd, dd, dd], [.gh 0 (.srf 1), .row 3 1 (v_w240.map (eI .i64))]⟩
def G_slices_pdqsortOrdered_int_h_L1_hd  (v_a190 : Int) (v_b191 : Int) (v_limit192 : Int) (v_wasBalanced193 : Bool) (v_wasPartitioned194 : Bool) (v_w195 : (List Int)) : PS := ⟨[.srf 1, .d (.v (.int .i64 v_a190)), .d (.v (.int .i64 v_b191)), .d (.v (.int .i64 v_limit192)), dd, dd, dd, dd, .d (.v (.bool v_wasBalanced193)), .d (.v (.bool v_wasPartitioned194)), dd, dd, dd, dd, dd, dd, dd, dd, dd, dd, dd, dd, dd, dd, dd, dd, dd, dd, dd, dd, dd, dd, dd, dd, dd, dd, dd, dd, dd, dd, dd, dd, dd, dd, dd, dd, dd, dd, dd, dd, dd, dd, dd, dd, dd, dd, dd, dd, dd, dd, dd, dd, dd, dd, dd, dd, dd, dd, dd, dd, dd, dd, dd, dd, dd, dd, dd, dd, dd, dd, dd, dd, dd, dd, dd, dd, dd, dd, dd, dd, dd, dd, dd, dd, dd, dd, dd, dd, dd, dd, dd, dd, dd, dd, dd, dd, dd, dd, dd, dd, dd, dd, dd, dd, dd, dd, dd, dd, dd, dd, dd, dd, dd, dd, dd, dd, dd, dd, dd, dd, dd, dd, dd, dd], [.gh 0 (.srf 1), .row 3 1 (v_w195.map (eI .i64))]⟩
def G_slices_pdqsortOrdered_int_h_L1 (n : Nat)  : Nat → Int → Int → Int → Bool → Bool → (List Int) → Option G_slices_pdqsortOrdered_int_h_L1_R
  | 0, _, _, _, _, _, _ => none
  | k + 1, v_a190, v_b191, v_limit192, v_wasBalanced193, v_wasPartitioned194, v_w195 =>
    if (wi .i64 (v_b191 - v_a190)) ≤ 12 then
     (G_slices_insertionSortOrdered_int_h n v_w195 v_a190 v_b191).bind fun (v_r239 : ((List Int))) =>
     some (.x0 v_r239)
    else
     none
theorem G_slices_pdqsortOrdered_int_h_L1_ok {Fi : Ex → PS → Prop} (hF : KC 134 Fi) (ks : List Fr) (n : Nat)   : ∀ (k : Nat) (v_a190 : Int) (v_b191 : Int) (v_limit192 : Int) (v_wasBalanced193 : Bool) (v_wasPartitioned194 : Bool) (v_w195 : (List Int)) (o : G_slices_pdqsortOrdered_int_h_L1_R), G_slices_pdqsortOrdered_int_h_L1 n  k v_a190 v_b191 v_limit192 v_wasBalanced193 v_wasPartitioned194 v_w195 = some o → RunE Try.prog 134 Fi ks (G_slices_pdqsortOrdered_int_h_L1_ex o) (G_slices_pdqsortOrdered_int_h_L1_st  o) → RunE Try.prog 134 Fi (.l k (cP (cB (cR (cR (bodyOf Try.f120))))) :: ks) .normal (G_slices_pdqsortOrdered_int_h_L1_hd  v_a190 v_b191 v_limit192 v_wasBalanced193 v_wasPartitioned194 v_w195)
  | 0, v_a190, v_b191, v_limit192, v_wasBalanced193, v_wasPartitioned194, v_w195, o, h, q => by rw [G_slices_pdqsortOrdered_int_h_L1] at h; cases h
  | k + 1, v_a190, v_b191, v_limit192, v_wasBalanced193, v_wasPartitioned194, v_w195, o, h, q => by
    rw [G_slices_pdqsortOrdered_int_h_L1] at h
    by_cases h277 : (wi .i64 (v_b191 - v_a190)) ≤ 12
    · rw [if_pos h277] at h
      obtain ⟨v_r239, h278, h⟩ := bind_some h
      cases h
      exact pkk_sound TTok mix hF 14 (hs := [.t true, .h [1] [] [.row 3 1 (v_r239.map (eI .i64))] (.tup [])]) (ts := []) (s := [0, 1]) (l := []) (by kernel_rfl) (by kernel_rfl) (.cons (dt h277) (.cons (G_slices_insertionSortOrdered_int_h_ok n v_w195 v_a190 v_b191 _ h278) .nil)) q
    · rw [if_neg h277] at h
      cases h
/- slices.pdqsortOrdered[int] -/
def G_slices_pdqsortOrdered_int_h (n : Nat) (v_data186 : (List Int)) (v_a187 : Int) (v_b188 : Int) (v_limit189 : Int) : Option ((List Int)) :=
  (G_slices_pdqsortOrdered_int_h_L1 n  n v_a187 v_b188 v_limit189 true true v_data186).bind fun v_o241 => match v_o241 with
  | .x0 v_z242 =>
    some v_z242
theorem G_slices_pdqsortOrdered_int_h_ok (n : Nat) (v_data186 : (List Int)) (v_a187 : Int) (v_b188 : Int) (v_limit189 : Int) (r : (List Int)) (h : G_slices_pdqsortOrdered_int_h n v_data186 v_a187 v_b188 v_limit189 = some r) : RetH Try.prog 120 [.srf 0, .d ((eI .i64) v_a187), .d ((eI .i64) v_b188), .d ((eI .i64) v_limit189)] [.row 3 1 (v_data186.map (eI .i64))] (.tup []) [.row 3 1 (r.map (eI .i64))] := by
  refine retH_run (n := 134) (fn := Try.f120) (c := bodyOf Try.f120) (by kernel_rfl) (by kernel_rfl) (by kernel_rfl) (by kernel_rfl) ?_
  have hF : KC 134 (FinH Try.prog Try.f120 [.row 3 1 (v_data186.map (eI .i64))] (.tup []) [.row 3 1 (r.map (eI .i64))]) := FinH.kc' (by kernel_rfl)
  unfold G_slices_pdqsortOrdered_int_h at h
  obtain ⟨v_o241, h279, h⟩ := bind_some h
  refine pkk_sound TTok mix hF 6 (hs := [.n n]) (ts := []) (s := [1, 0]) (l := [0, 1, 2, 3, 8, 9]) (by kernel_rfl) (by kernel_rfl) .nil (G_slices_pdqsortOrdered_int_h_L1_ok hF (.b 0 :: []) n  n v_a187 v_b188 v_limit189 true true v_data186 _ h279 ?_)
  cases v_o241 with
  | x0 v_z242 =>
    try dsimp only at h
    obtain rfl := Option.some.inj h
    exact pendH_sound TTok mix 1 (hs := []) [1] (by kernel_rfl) (by kernel_rfl) (by kernel_rfl) .nil
/- slices.Sort[[]int,int] -/
def G_slices_Sort_int_int_h (n : Nat) (v_x173 : (List Int)) : Option ((List Int)) :=
  (G_math_bits_Len n (wi .u64 (v_x173.length : Int))).bind fun (v_r185 : (Int)) =>
  (G_slices_pdqsortOrdered_int_h n v_x173 0 (v_x173.length : Int) v_r185).bind fun (v_r243 : ((List Int))) =>
  some v_r243
theorem G_slices_Sort_int_int_h_ok (n : Nat) (v_x173 : (List Int)) (r : (List Int)) (h : G_slices_Sort_int_int_h n v_x173 = some r) : RetH Try.prog 24 [.srf 0] [.row 3 1 (v_x173.map (eI .i64))] (.tup []) [.row 3 1 (r.map (eI .i64))] := by
  refine retH_run (n := 11) (fn := Try.f24) (c := bodyOf Try.f24) (by kernel_rfl) (by kernel_rfl) (by kernel_rfl) (by kernel_rfl) ?_
  have hF : KC 11 (FinH Try.prog Try.f24 [.row 3 1 (v_x173.map (eI .i64))] (.tup []) [.row 3 1 (r.map (eI .i64))]) := FinH.kc' (by kernel_rfl)
  unfold G_slices_Sort_int_int_h at h
  obtain ⟨v_r185, h229, h⟩ := bind_some h
  obtain ⟨v_r243, h280, h⟩ := bind_some h
  obtain rfl := Option.some.inj h
  exact pendH_sound TTok mix 3 (hs := [.u (.d (.v (.int .i64 (v_x173.length : Int)))), .r ((eI .i64) v_r185), .h [0] [] [.row 3 1 (v_r243.map (eI .i64))] (.tup [])]) [0] (by kernel_rfl) (by kernel_rfl) (by kernel_rfl) (.cons (len_ob (f := (eI .i64)) (l := v_x173)) (.cons (G_math_bits_Len_ok n (wi .u64 (v_x173.length : Int)) _ h229) (.cons (G_slices_pdqsortOrdered_int_h_ok n v_x173 0 (v_x173.length : Int) v_r185 _ h280) .nil)))
inductive G_box_Cred_L1_R where
  | x0 (v_x167 : Int)
  | x1 (v_w169 : (List Int))
def G_box_Cred_L1_ex : G_box_Cred_L1_R → Ex
  | .x0 _ => .ret
  | .x1 _ => .exit 0
def G_box_Cred_L1_st (v_l118 : (List S_box_Range)) (v_c119 : S_api_Cred) (v_r150 : (Int × Int)) (v_r151 : (Int × Int)) : G_box_Cred_L1_R → PS
  | .x0 v_x167 => ⟨[dd, dd, dd, dd, .ref 0 0, .d (.v (.int .i64 v_x167)), dd, dd, dd, dd, dd, dd, dd, dd, dd, dd, dd, dd, dd, dd, dd, dd, dd, dd, dd, dd, dd, dd, dd, dd, dd, dd, dd, dd, dd, dd, dd, dd, dd, dd, dd, dd, dd, dd, dd, dd, dd, dd, dd, dd, dd, dd, dd, dd, dd, dd, dd, dd, dd, dd, dd, dd, dd, dd, dd, dd, dd, dd, dd, dd, dd, dd, dd, dd, dd, dd, dd, dd, dd, dd], [.box [.d (.v (.int .i64 0)), .d (.v (.int .i64 0)), .d (vnil), .d (.v (.int .i64 0)), .d (.v (.int .i64 0)), .d (.v (.int .i64 0))]]⟩
  | .x1 v_w169 => ⟨[dd, dd, dd, dd, .ref 0 0, dd, dd, dd, .ref 1 0, dd, dd, dd, dd, dd, dd, dd, dd, dd, dd, dd, dd, dd, dd, dd, dd, dd, dd, dd, dd, dd, dd, dd, dd, dd, dd, dd, dd, dd, dd, dd, dd, dd, dd, dd, dd, dd, dd, dd, dd, dd, dd, dd, dd, dd, dd, dd, dd, dd, dd, dd, dd, dd, dd, dd, dd, dd, dd, dd, dd, dd, dd, dd, dd, dd, dd, dd, dd, dd, dd, dd], [.box [.d (.v (.int .i64 0)), .d (.v (.int .i64 0)), .d (vnil), .d (.v (.int .i64 0)), .d (.v (.int .i64 0)), .d (.v (.int .i64 0))], .box [.d (.v (.int .i64 v_r150.1)), .d (.v (.int .i64 v_r151.1)), .srf 2, .d (.v (.int .i64 v_c119.fCaps)), .d (.v (.int .i64 v_c119.fLevel)), .d (.v (.int .i64 v_c119.fKind))], .row 3 1 (v_w169.map (eI .i64))]⟩
def G_box_Cred_L1_hd (v_l118 : (List S_box_Range)) (v_c119 : S_api_Cred) (v_r150 : (Int × Int)) (v_r151 : (Int × Int)) (v_x160 : Int) (v_w161 : (List Int)) : PS := ⟨[.d (.sl (v_l118.map eS_box_Range)), dd, dd, dd, .ref 0 0, dd, dd, dd, .ref 1 0, dd, dd, dd, dd, dd, dd, dd, dd, dd, dd, dd, dd, dd, dd, dd, dd, dd, dd, dd, dd, dd, dd, dd, dd, dd, dd, dd, dd, dd, dd, dd, dd, dd, dd, dd, dd, dd, dd, dd, dd, dd, dd, dd, dd, .d (.sl (v_c119.fMore.map (eI .i64))), .d (.v (.int .i64 (v_c119.fMore.length : Int))), .d (.v (.int .i64 v_x160)), dd, dd, dd, dd, dd, dd, dd, dd, dd, dd, dd, dd, dd, dd, dd, dd, dd, dd, dd, dd, dd, dd, dd, dd], [.box [.d (.v (.int .i64 0)), .d (.v (.int .i64 0)), .d (vnil), .d (.v (.int .i64 0)), .d (.v (.int .i64 0)), .d (.v (.int .i64 0))], .box [.d (.v (.int .i64 v_r150.1)), .d (.v (.int .i64 v_r151.1)), .srf 2, .d (.v (.int .i64 v_c119.fCaps)), .d (.v (.int .i64 v_c119.fLevel)), .d (.v (.int .i64 v_c119.fKind))], .row 3 1 (v_w161.map (eI .i64))]⟩
def G_box_Cred_L1 (n : Nat) (v_l118 : (List S_box_Range)) (v_c119 : S_api_Cred) (v_r150 : (Int × Int)) (v_r151 : (Int × Int)) : Nat → Int → (List Int) → Option G_box_Cred_L1_R
  | 0, _, _ => none
  | k + 1, v_x160, v_w161 =>
    if v_x160 < (v_c119.fMore.length : Int) then
     (getI v_c119.fMore v_x160).bind fun (v_y165 : Int) =>
     (G_box_To n v_l118 v_y165).bind fun (v_r166 : (Int × Int)) =>
     if v_r166.2 = 0 then
      (app 8 v_w161 ([v_r166.1])).bind fun (v_a168 : (List Int)) =>
      G_box_Cred_L1 n v_l118 v_c119 v_r150 v_r151 k (wi .i64 (v_x160 + 1)) v_a168
     else
      some (.x0 v_r166.2)
    else
     some (.x1 v_w161)
theorem G_box_Cred_L1_ok {Fi : Ex → PS → Prop} (hF : KC 80 Fi) (ks : List Fr) (n : Nat) (v_l118 : (List S_box_Range)) (v_c119 : S_api_Cred) (v_r150 : (Int × Int)) (v_r151 : (Int × Int))  : ∀ (k : Nat) (v_x160 : Int) (v_w161 : (List Int)) (o : G_box_Cred_L1_R), G_box_Cred_L1 n v_l118 v_c119 v_r150 v_r151 k v_x160 v_w161 = some o → RunE Try.prog 80 Fi ks (G_box_Cred_L1_ex o) (G_box_Cred_L1_st v_l118 v_c119 v_r150 v_r151 o) → RunE Try.prog 80 Fi (.l k (cP (cB (cR (cL (cR (cR (cR (cR (cR (cR (cR (cR (bodyOf Try.f29))))))))))))) :: ks) .normal (G_box_Cred_L1_hd v_l118 v_c119 v_r150 v_r151 v_x160 v_w161)
  | 0, v_x160, v_w161, o, h, q => by rw [G_box_Cred_L1] at h; cases h
  | k + 1, v_x160, v_w161, o, h, q => by
    rw [G_box_Cred_L1] at h
    by_cases h180 : v_x160 < (v_c119.fMore.length : Int)
    · rw [if_pos h180] at h
      obtain ⟨v_y165, h186, h⟩ := bind_some h
      obtain ⟨v_r166, h187, h⟩ := bind_some h
      by_cases h189 : v_r166.2 = 0
      · rw [if_pos h189] at h
        obtain ⟨v_a168, h190, h⟩ := bind_some h
        exact pkk_sound TTok mix hF 20 (hs := [.t true, .y ((eI .i64) v_y165), .c, .r (.tup [(eI .i64) v_r166.1, (eI .i64) v_r166.2]), .t false, .c, .bd, .w (v_a168.map (eI .i64)), .c]) (ts := []) (s := [0, 1, 57]) (l := [0, 4, 8, 53, 54, 55]) (by kernel_rfl) (by kernel_rfl) (.cons (dt h180) (.cons (getI_ob (f := (eI .i64)) h186) (.cons (G_box_To_ok n v_l118 v_y165 _ h187) (.cons (nf h189) (.cons (app_ob (f := (eI .i64)) (s := 1) h190 (fun _ => rfl)).1 (.cons (app_ob (f := (eI .i64)) (s := 1) h190 (fun _ => rfl)).2.1 (.cons (app_ob (f := (eI .i64)) (s := 1) h190 (fun _ => rfl)).2.2.1 (.cons (app_ob (f := (eI .i64)) (s := 1) h190 (fun _ => rfl)).2.2.2 (.cons (show 2 + 1 ≤ 6 by decide) .nil))))))))) (G_box_Cred_L1_ok hF ks n v_l118 v_c119 v_r150 v_r151 k (wi .i64 (v_x160 + 1)) v_a168 _ h q)
      · rw [if_neg h189] at h
        cases h
        exact pkk_sound TTok mix hF 23 (hs := [.t true, .y ((eI .i64) v_y165), .c, .r (.tup [(eI .i64) v_r166.1, (eI .i64) v_r166.2]), .t true, .c]) (ts := []) (s := [0]) (l := [4, 5]) (by kernel_rfl) (by kernel_rfl) (.cons (dt h180) (.cons (getI_ob (f := (eI .i64)) h186) (.cons (G_box_To_ok n v_l118 v_y165 _ h187) (.cons (nt h189) (.cons (show 0 + 6 ≤ 6 by decide) .nil))))) q
    · rw [if_neg h180] at h
      cases h
      exact pkk_sound TTok mix hF 8 (hs := [.t false]) (ts := []) (s := [0, 1, 2]) (l := [4, 8]) (by kernel_rfl) (by kernel_rfl) (.cons (df h180) .nil) q
/- ringhall/box.Cred -/
def G_box_Cred (n : Nat) (v_l118 : (List S_box_Range)) (v_c119 : S_api_Cred) : Option (S_api_Cred × Int) :=
  (G_box_Check n v_l118).bind fun (v_r120 : (Int)) =>
  if v_r120 = 0 then
   (G_cred_Check n v_c119).bind fun (v_r149 : (Int)) =>
   if v_r149 = 0 then
    (G_box_To n v_l118 v_c119.fUser).bind fun (v_r150 : (Int × Int)) =>
    if v_r150.2 = 0 then
     (G_box_To n v_l118 v_c119.fGroup).bind fun (v_r151 : (Int × Int)) =>
     if v_r151.2 = 0 then
      (G_box_Cred_L1 n v_l118 v_c119 v_r150 v_r151 n 0 ([] : List Int)).bind fun v_o170 => match v_o170 with
      | .x0 v_z171 =>
        some ((S_api_Cred.mk 0 0 ([] : (List Int)) 0 0 0), v_z171)
      | .x1 v_z172 =>
        (G_slices_Sort_int_int_h n v_z172).bind fun (v_r244 : ((List Int))) =>
        some ((S_api_Cred.mk v_r150.1 v_r151.1 v_r244 v_c119.fCaps v_c119.fLevel v_c119.fKind), 0)
     else
      some ((S_api_Cred.mk 0 0 ([] : (List Int)) 0 0 0), v_r151.2)
    else
     some ((S_api_Cred.mk 0 0 ([] : (List Int)) 0 0 0), v_r150.2)
   else
    some ((S_api_Cred.mk 0 0 ([] : (List Int)) 0 0 0), v_r149)
  else
   some ((S_api_Cred.mk 0 0 ([] : (List Int)) 0 0 0), v_r120)
theorem G_box_Cred_ok (n : Nat) (v_l118 : (List S_box_Range)) (v_c119 : S_api_Cred) (r : S_api_Cred × Int) (h : G_box_Cred n v_l118 v_c119 = some r) : Ret Try.prog 29 [(eL eS_box_Range) v_l118, eS_api_Cred v_c119] (.tup [eS_api_Cred r.1, (eI .i64) r.2]) := by
  refine ret_run (n := 80) (fn := Try.f29) (c := bodyOf Try.f29) (by kernel_rfl) (by kernel_rfl) (by kernel_rfl) (by kernel_rfl) ?_
  have hF : KC 80 (FinR Try.prog Try.f29 (.tup [eS_api_Cred r.1, (eI .i64) r.2])) := FinR.kc' (by kernel_rfl)
  unfold G_box_Cred at h
  obtain ⟨v_r120, h118, h⟩ := bind_some h
  by_cases h120 : v_r120 = 0
  · rw [if_pos h120] at h
    obtain ⟨v_r149, h160, h⟩ := bind_some h
    by_cases h162 : v_r149 = 0
    · rw [if_pos h162] at h
      obtain ⟨v_r150, h163, h⟩ := bind_some h
      by_cases h165 : v_r150.2 = 0
      · rw [if_pos h165] at h
        obtain ⟨v_r151, h166, h⟩ := bind_some h
        by_cases h168 : v_r151.2 = 0
        · rw [if_pos h168] at h
          obtain ⟨v_o170, h191, h⟩ := bind_some h
          refine pkk_sound TTok mix hF 42 (hs := [.r ((eI .i64) v_r120), .t false, .c, .r ((eI .i64) v_r149), .t false, .c, .c, .c, .c, .r (.tup [(eI .i64) v_r150.1, (eI .i64) v_r150.2]), .c, .t false, .c, .r (.tup [(eI .i64) v_r151.1, (eI .i64) v_r151.2]), .c, .t false, .c, .u (.d (.v (.int .i64 (v_c119.fMore.length : Int)))), .dl 1, .tb 42 2 3 1, .n n]) (ts := []) (s := [3, 42, 141]) (l := [0, 4, 8, 53, 54, 55]) (by kernel_rfl) (by kernel_rfl) (.cons (G_box_Check_ok n v_l118 _ h118) (.cons (nf h120) (.cons (G_cred_Check_ok n v_c119 _ h160) (.cons (nf h162) (.cons (show 0 + 6 ≤ 6 by decide) (.cons (show 2 + 1 ≤ 6 by decide) (.cons (G_box_To_ok n v_l118 v_c119.fUser _ h163) (.cons (show 0 + 1 ≤ 6 by decide) (.cons (nf h165) (.cons (G_box_To_ok n v_l118 v_c119.fGroup _ h166) (.cons (show 1 + 1 ≤ 6 by decide) (.cons (nf h168) (.cons (len_ob (f := (eI .i64)) (l := v_c119.fMore)) .nil))))))))))))) (G_box_Cred_L1_ok hF (.b 0 :: .s (cR (cR (cR (cR (cR (cR (cR (cR (cR (bodyOf Try.f29)))))))))) :: []) n v_l118 v_c119 v_r150 v_r151 n 0 ([] : List Int) _ h191 ?_)
          cases v_o170 with
          | x0 v_z171 =>
            try dsimp only at h
            obtain rfl := Option.some.inj h
            exact pend_sound TTok mix 2 (hs := []) (by kernel_rfl) (by kernel_rfl) (by kernel_rfl) .nil
          | x1 v_z172 =>
            try dsimp only at h
            obtain ⟨v_r244, h281, h⟩ := bind_some h
            obtain rfl := Option.some.inj h
            exact pend_sound TTok mix 6 (hs := [.c, .h [2] [] [.row 3 1 (v_r244.map (eI .i64))] (.tup []), .c, .c]) (by kernel_rfl) (by kernel_rfl) (by kernel_rfl) (.cons (G_slices_Sort_int_int_h_ok n v_z172 _ h281) (.cons (show 0 + 6 ≤ 6 by decide) .nil))
        · rw [if_neg h168] at h
          obtain rfl := Option.some.inj h
          exact pend_sound TTok mix 39 (hs := [.r ((eI .i64) v_r120), .t false, .c, .r ((eI .i64) v_r149), .t false, .c, .c, .c, .c, .r (.tup [(eI .i64) v_r150.1, (eI .i64) v_r150.2]), .c, .t false, .c, .r (.tup [(eI .i64) v_r151.1, (eI .i64) v_r151.2]), .c, .t true, .c]) (by kernel_rfl) (by kernel_rfl) (by kernel_rfl) (.cons (G_box_Check_ok n v_l118 _ h118) (.cons (nf h120) (.cons (G_cred_Check_ok n v_c119 _ h160) (.cons (nf h162) (.cons (show 0 + 6 ≤ 6 by decide) (.cons (show 2 + 1 ≤ 6 by decide) (.cons (G_box_To_ok n v_l118 v_c119.fUser _ h163) (.cons (show 0 + 1 ≤ 6 by decide) (.cons (nf h165) (.cons (G_box_To_ok n v_l118 v_c119.fGroup _ h166) (.cons (show 1 + 1 ≤ 6 by decide) (.cons (nt h168) (.cons (show 0 + 6 ≤ 6 by decide) .nil)))))))))))))
      · rw [if_neg h165] at h
        obtain rfl := Option.some.inj h
        exact pend_sound TTok mix 32 (hs := [.r ((eI .i64) v_r120), .t false, .c, .r ((eI .i64) v_r149), .t false, .c, .c, .c, .c, .r (.tup [(eI .i64) v_r150.1, (eI .i64) v_r150.2]), .c, .t true, .c]) (by kernel_rfl) (by kernel_rfl) (by kernel_rfl) (.cons (G_box_Check_ok n v_l118 _ h118) (.cons (nf h120) (.cons (G_cred_Check_ok n v_c119 _ h160) (.cons (nf h162) (.cons (show 0 + 6 ≤ 6 by decide) (.cons (show 2 + 1 ≤ 6 by decide) (.cons (G_box_To_ok n v_l118 v_c119.fUser _ h163) (.cons (show 0 + 1 ≤ 6 by decide) (.cons (nt h165) (.cons (show 0 + 6 ≤ 6 by decide) .nil))))))))))
    · rw [if_neg h162] at h
      obtain rfl := Option.some.inj h
      exact pend_sound TTok mix 19 (hs := [.r ((eI .i64) v_r120), .t false, .c, .r ((eI .i64) v_r149), .t true, .c]) (by kernel_rfl) (by kernel_rfl) (by kernel_rfl) (.cons (G_box_Check_ok n v_l118 _ h118) (.cons (nf h120) (.cons (G_cred_Check_ok n v_c119 _ h160) (.cons (nt h162) (.cons (show 0 + 6 ≤ 6 by decide) .nil)))))
  · rw [if_neg h120] at h
    obtain rfl := Option.some.inj h
    exact pend_sound TTok mix 12 (hs := [.r ((eI .i64) v_r120), .t true, .c]) (by kernel_rfl) (by kernel_rfl) (by kernel_rfl) (.cons (G_box_Check_ok n v_l118 _ h118) (.cons (nt h120) (.cons (show 0 + 6 ≤ 6 by decide) .nil)))
inductive G_ringlaw5_triples_L1_R where
  | x0 (v_w253 : (List (Fin 3 → Int)))
def G_ringlaw5_triples_L1_ex : G_ringlaw5_triples_L1_R → Ex
  | .x0 _ => .exit 0
def G_ringlaw5_triples_L1_st (v_l246 : (List S_box_Range)) : G_ringlaw5_triples_L1_R → PS
  | .x0 v_w253 => ⟨[dd, dd, dd, .srf 0, dd, dd, dd, dd, dd, dd, dd, dd, dd, dd, dd, dd, dd, dd, dd, dd, dd, dd, dd, dd], [.row 47 3 (v_w253.map (fun x => PV.agg [.v (.int .i64 (x 0)), .v (.int .i64 (x 1)), .v (.int .i64 (x 2))]))]⟩
def G_ringlaw5_triples_L1_hd (v_l246 : (List S_box_Range)) (v_x247 : Int) (v_w248 : (List (Fin 3 → Int))) : PS := ⟨[dd, dd, dd, .srf 0, dd, dd, .d (.sl (v_l246.map eS_box_Range)), .d (.v (.int .i64 (v_l246.length : Int))), .d (.v (.int .i64 v_x247)), dd, dd, dd, dd, dd, dd, dd, dd, dd, dd, dd, dd, dd, dd, dd], [.row 47 3 (v_w248.map (fun x => PV.agg [.v (.int .i64 (x 0)), .v (.int .i64 (x 1)), .v (.int .i64 (x 2))]))]⟩
def G_ringlaw5_triples_L1 (n : Nat) (v_l246 : (List S_box_Range)) : Nat → Int → (List (Fin 3 → Int)) → Option G_ringlaw5_triples_L1_R
  | 0, _, _ => none
  | k + 1, v_x247, v_w248 =>
    if v_x247 < (v_l246.length : Int) then
     (getI v_l246 v_x247).bind fun (v_y251 : S_box_Range) =>
     (app 24 v_w248 ([(fun i : Fin 3 => [v_y251.fIn, v_y251.fOut, v_y251.fN].get i)])).bind fun (v_a252 : (List (Fin 3 → Int))) =>
     G_ringlaw5_triples_L1 n v_l246 k (wi .i64 (v_x247 + 1)) v_a252
    else
     some (.x0 v_w248)
theorem G_ringlaw5_triples_L1_ok {Fi : Ex → PS → Prop} (hF : KC 24 Fi) (ks : List Fr) (n : Nat) (v_l246 : (List S_box_Range))  : ∀ (k : Nat) (v_x247 : Int) (v_w248 : (List (Fin 3 → Int))) (o : G_ringlaw5_triples_L1_R), G_ringlaw5_triples_L1 n v_l246 k v_x247 v_w248 = some o → RunE Try.prog 24 Fi ks (G_ringlaw5_triples_L1_ex o) (G_ringlaw5_triples_L1_st v_l246 o) → RunE Try.prog 24 Fi (.l k (cP (cB (cR (cL (cR (cR (bodyOf Try.f30))))))) :: ks) .normal (G_ringlaw5_triples_L1_hd v_l246 v_x247 v_w248)
  | 0, v_x247, v_w248, o, h, q => by rw [G_ringlaw5_triples_L1] at h; cases h
  | k + 1, v_x247, v_w248, o, h, q => by
    rw [G_ringlaw5_triples_L1] at h
    by_cases h283 : v_x247 < (v_l246.length : Int)
    · rw [if_pos h283] at h
      obtain ⟨v_y251, h286, h⟩ := bind_some h
      obtain ⟨v_a252, h287, h⟩ := bind_some h
      exact pkk_sound TTok mix hF 13 (hs := [.t true, .y (eS_box_Range v_y251), .c, .c, .c, .c, .bd, .w (v_a252.map (fun x => PV.agg [.v (.int .i64 (x 0)), .v (.int .i64 (x 1)), .v (.int .i64 (x 2))]))]) (ts := []) (s := [43]) (l := [3, 6, 7, 8]) (by kernel_rfl) (by kernel_rfl) (.cons (dt h283) (.cons (getI_ob (f := eS_box_Range) h286) (.cons (show 0 + 3 ≤ 3 by decide) (.cons (app_ob (f := (fun x => PV.agg [.v (.int .i64 (x 0)), .v (.int .i64 (x 1)), .v (.int .i64 (x 2))])) (s := 3) h287 (fun _ => rfl)).1 (.cons (app_ob (f := (fun x => PV.agg [.v (.int .i64 (x 0)), .v (.int .i64 (x 1)), .v (.int .i64 (x 2))])) (s := 3) h287 (fun _ => rfl)).2.1 (.cons (app_ob (f := (fun x => PV.agg [.v (.int .i64 (x 0)), .v (.int .i64 (x 1)), .v (.int .i64 (x 2))])) (s := 3) h287 (fun _ => rfl)).2.2.1 (.cons (app_ob (f := (fun x => PV.agg [.v (.int .i64 (x 0)), .v (.int .i64 (x 1)), .v (.int .i64 (x 2))])) (s := 3) h287 (fun _ => rfl)).2.2.2 .nil))))))) (G_ringlaw5_triples_L1_ok hF ks n v_l246 k (wi .i64 (v_x247 + 1)) v_a252 _ h q)
    · rw [if_neg h283] at h
      cases h
      exact pkk_sound TTok mix hF 8 (hs := [.t false]) (ts := []) (s := [0]) (l := [3]) (by kernel_rfl) (by kernel_rfl) (.cons (df h283) .nil) q
/- ringhall/ringlaw5.triples -/
def G_ringlaw5_triples (n : Nat) (v_l246 : (List S_box_Range)) : Option ((List (Fin 3 → Int))) :=
  (G_ringlaw5_triples_L1 n v_l246 n 0 ([] : List (Fin 3 → Int))).bind fun v_o254 => match v_o254 with
  | .x0 v_z255 =>
    some v_z255
theorem G_ringlaw5_triples_ok (n : Nat) (v_l246 : (List S_box_Range)) (r : (List (Fin 3 → Int))) (h : G_ringlaw5_triples n v_l246 = some r) : Ret Try.prog 30 [(eL eS_box_Range) v_l246] ((eL (fun x => PV.agg [.v (.int .i64 (x 0)), .v (.int .i64 (x 1)), .v (.int .i64 (x 2))])) r) := by
  refine ret_run (n := 24) (fn := Try.f30) (c := bodyOf Try.f30) (by kernel_rfl) (by kernel_rfl) (by kernel_rfl) (by kernel_rfl) ?_
  have hF : KC 24 (FinR Try.prog Try.f30 ((eL (fun x => PV.agg [.v (.int .i64 (x 0)), .v (.int .i64 (x 1)), .v (.int .i64 (x 2))])) r)) := FinR.kc' (by kernel_rfl)
  unfold G_ringlaw5_triples at h
  obtain ⟨v_o254, h288, h⟩ := bind_some h
  refine pkk_sound TTok mix hF 9 (hs := [.u (.d (.v (.int .i64 (v_l246.length : Int)))), .n n]) (ts := [(3, 47, 3)]) (s := [15]) (l := [3, 6, 7, 8]) (by kernel_rfl) (by kernel_rfl) (.cons (len_ob (f := eS_box_Range) (l := v_l246)) .nil) (G_ringlaw5_triples_L1_ok hF (.b 0 :: .s (cR (cR (cR (bodyOf Try.f30)))) :: []) n v_l246 n 0 ([] : List (Fin 3 → Int)) _ h288 ?_)
  cases v_o254 with
  | x0 v_z255 =>
    try dsimp only at h
    obtain rfl := Option.some.inj h
    exact pend_sound TTok mix 4 (hs := []) (by kernel_rfl) (by kernel_rfl) (by kernel_rfl) .nil
inductive G_ringref5_BoxErr_C1_R where
  | x0 (v_x260 : Bool)
def G_ringref5_BoxErr_C1_ex : G_ringref5_BoxErr_C1_R → Ex
  | .x0 _ => .normal
def G_ringref5_BoxErr_C1_st (v_l257 : (List (Fin 3 → Int))) (v_x258 : Int) (v_y259 : (Fin 3 → Int)) : G_ringref5_BoxErr_C1_R → PS
  | .x0 v_x260 => ⟨[dd, dd, dd, .ref 0 0, .ref 1 0, dd, .ref 2 0, dd, dd, dd, dd, dd, .d (.sl (v_l257.map (fun x => PV.agg [.v (.int .i64 (x 0)), .v (.int .i64 (x 1)), .v (.int .i64 (x 2))]))), .d (.v (.int .i64 (v_l257.length : Int))), .d (.v (.int .i64 v_x258)), dd, dd, dd, dd, dd, dd, dd, dd, dd, dd, dd, dd, dd, dd, dd, dd, dd, dd, dd, dd, dd, dd, dd, dd, dd, dd, dd, dd, dd, dd, dd, dd, dd, dd, dd, dd, .d (.v (.bool v_x260)), dd, dd, dd, dd, dd, dd, dd, dd, dd, dd, dd, dd, dd, dd, dd, dd, dd, dd, dd, dd, dd, dd, dd, dd, dd, dd, dd, dd, dd, dd, dd, dd, dd, dd, dd, dd, dd], [.box ((cA_t215 (fun (_ : Fin 100) => false)).map FV.d), .box ((cA_t215 (fun (_ : Fin 100) => false)).map FV.d), .box [.d (.v (.int .i64 (v_y259 0))), .d (.v (.int .i64 (v_y259 1))), .d (.v (.int .i64 (v_y259 2)))]]⟩
def G_ringref5_BoxErr_C1_hd (v_l257 : (List (Fin 3 → Int))) (v_x258 : Int) (v_y259 : (Fin 3 → Int))  : PS := ⟨[dd, dd, dd, .ref 0 0, .ref 1 0, dd, .ref 2 0, dd, dd, dd, dd, dd, .d (.sl (v_l257.map (fun x => PV.agg [.v (.int .i64 (x 0)), .v (.int .i64 (x 1)), .v (.int .i64 (x 2))]))), .d (.v (.int .i64 (v_l257.length : Int))), .d (.v (.int .i64 v_x258)), dd, dd, dd, dd, dd, dd, dd, dd, dd, dd, dd, dd, dd, dd, dd, dd, dd, dd, dd, dd, dd, dd, dd, dd, dd, dd, dd, dd, dd, dd, dd, dd, dd, dd, dd, dd, dd, dd, dd, dd, dd, dd, dd, dd, dd, dd, dd, dd, dd, dd, dd, dd, dd, dd, dd, dd, dd, dd, dd, dd, dd, dd, dd, dd, dd, dd, dd, dd, dd, dd, dd, dd, dd, dd], [.box ((cA_t215 (fun (_ : Fin 100) => false)).map FV.d), .box ((cA_t215 (fun (_ : Fin 100) => false)).map FV.d), .box [.d (.v (.int .i64 (v_y259 0))), .d (.v (.int .i64 (v_y259 1))), .d (.v (.int .i64 (v_y259 2)))]]⟩
def G_ringref5_BoxErr_C1 (n : Nat) (v_l257 : (List (Fin 3 → Int))) (v_x258 : Int) (v_y259 : (Fin 3 → Int)) : Option G_ringref5_BoxErr_C1_R :=
  if (v_y259 2) < 1 then
   some (.x0 true)
  else
   if (v_y259 2) > 100 then
    some (.x0 true)
   else
    if (v_y259 0) < 0 then
     some (.x0 true)
    else
     if (v_y259 1) < 0 then
      some (.x0 true)
     else
      if (v_y259 0) > (wi .i64 (100 - (v_y259 2))) then
       some (.x0 true)
      else
       some (.x0 (decide ((v_y259 1) > (wi .i64 (100 - (v_y259 2))))))
theorem G_ringref5_BoxErr_C1_ok {Fi : Ex → PS → Prop} (hF : KC 89 Fi) (ks : List Fr) (n : Nat) (v_l257 : (List (Fin 3 → Int))) (v_x258 : Int) (v_y259 : (Fin 3 → Int))  (o : G_ringref5_BoxErr_C1_R) (h : G_ringref5_BoxErr_C1 n v_l257 v_x258 v_y259 = some o) (q : RunE Try.prog 89 Fi ks (G_ringref5_BoxErr_C1_ex o) (G_ringref5_BoxErr_C1_st v_l257 v_x258 v_y259 o)) : RunE Try.prog 89 Fi (.s (cL (cL (cR (cB (cL (cR (cR (cP (cB (cR (cL (cR (cR (cR (bodyOf Try.f31))))))))))))))) :: ks) .normal (G_ringref5_BoxErr_C1_hd v_l257 v_x258 v_y259) := by
  unfold G_ringref5_BoxErr_C1 at h
  by_cases h298 : (v_y259 2) < 1
  · rw [if_pos h298] at h
    cases h
    exact pkk_sound TTok mix hF 1 (hs := [.c, .t true, .c, .c, .c, .c, .c, .c, .c, .c, .c, .c, .c, .c, .c, .c, .c, .c, .c, .c, .c, .c]) (ts := []) (s := [0, 1, 2]) (l := [3, 4, 6, 12, 13, 14, 51]) (by kernel_rfl) (by kernel_rfl) (.cons (show (0 : Int) ≤ 2 ∧ (2 : Int) < 3 by decide) (.cons (dt h298) .nil)) q
  · rw [if_neg h298] at h
    by_cases h299 : (v_y259 2) > 100
    · rw [if_pos h299] at h
      cases h
      exact pkk_sound TTok mix hF 1 (hs := [.c, .t false, .c, .c, .c, .t true, .c, .c, .c, .c, .c, .c, .c, .c, .c, .c, .c, .c, .c, .c, .c, .c, .c]) (ts := []) (s := [0, 1, 2]) (l := [3, 4, 6, 12, 13, 14, 51]) (by kernel_rfl) (by kernel_rfl) (.cons (show (0 : Int) ≤ 2 ∧ (2 : Int) < 3 by decide) (.cons (df h298) (.cons (show (0 : Int) ≤ 2 ∧ (2 : Int) < 3 by decide) (.cons (dt h299) .nil)))) q
    · rw [if_neg h299] at h
      by_cases h300 : (v_y259 0) < 0
      · rw [if_pos h300] at h
        cases h
        exact pkk_sound TTok mix hF 1 (hs := [.c, .t false, .c, .c, .c, .t false, .c, .c, .c, .t true, .c, .c, .c, .c, .c, .c, .c, .c, .c, .c, .c, .c, .c, .c]) (ts := []) (s := [0, 1, 2]) (l := [3, 4, 6, 12, 13, 14, 51]) (by kernel_rfl) (by kernel_rfl) (.cons (show (0 : Int) ≤ 2 ∧ (2 : Int) < 3 by decide) (.cons (df h298) (.cons (show (0 : Int) ≤ 2 ∧ (2 : Int) < 3 by decide) (.cons (df h299) (.cons (show (0 : Int) ≤ 0 ∧ (0 : Int) < 3 by decide) (.cons (dt h300) .nil)))))) q
      · rw [if_neg h300] at h
        by_cases h301 : (v_y259 1) < 0
        · rw [if_pos h301] at h
          cases h
          exact pkk_sound TTok mix hF 1 (hs := [.c, .t false, .c, .c, .c, .t false, .c, .c, .c, .t false, .c, .c, .c, .t true, .c, .c, .c, .c, .c, .c, .c, .c, .c, .c, .c]) (ts := []) (s := [0, 1, 2]) (l := [3, 4, 6, 12, 13, 14, 51]) (by kernel_rfl) (by kernel_rfl) (.cons (show (0 : Int) ≤ 2 ∧ (2 : Int) < 3 by decide) (.cons (df h298) (.cons (show (0 : Int) ≤ 2 ∧ (2 : Int) < 3 by decide) (.cons (df h299) (.cons (show (0 : Int) ≤ 0 ∧ (0 : Int) < 3 by decide) (.cons (df h300) (.cons (show (0 : Int) ≤ 1 ∧ (1 : Int) < 3 by decide) (.cons (dt h301) .nil)))))))) q
        · rw [if_neg h301] at h
          by_cases h302 : (v_y259 0) > (wi .i64 (100 - (v_y259 2)))
          · rw [if_pos h302] at h
            cases h
            exact pkk_sound TTok mix hF 1 (hs := [.c, .t false, .c, .c, .c, .t false, .c, .c, .c, .t false, .c, .c, .c, .t false, .c, .c, .c, .c, .c, .c, .c, .t true, .c, .c, .c, .c, .c]) (ts := []) (s := [0, 1, 2]) (l := [3, 4, 6, 12, 13, 14, 51]) (by kernel_rfl) (by kernel_rfl) (.cons (show (0 : Int) ≤ 2 ∧ (2 : Int) < 3 by decide) (.cons (df h298) (.cons (show (0 : Int) ≤ 2 ∧ (2 : Int) < 3 by decide) (.cons (df h299) (.cons (show (0 : Int) ≤ 0 ∧ (0 : Int) < 3 by decide) (.cons (df h300) (.cons (show (0 : Int) ≤ 1 ∧ (1 : Int) < 3 by decide) (.cons (df h301) (.cons (show (0 : Int) ≤ 0 ∧ (0 : Int) < 3 by decide) (.cons (show (0 : Int) ≤ 2 ∧ (2 : Int) < 3 by decide) (.cons (dt h302) .nil))))))))))) q
          · rw [if_neg h302] at h
            cases h
            exact pkk_sound TTok mix hF 1 (hs := [.c, .t false, .c, .c, .c, .t false, .c, .c, .c, .t false, .c, .c, .c, .t false, .c, .c, .c, .c, .c, .c, .c, .t false, .c, .c, .c, .c, .c, .c, .c]) (ts := []) (s := [0, 1, 2]) (l := [3, 4, 6, 12, 13, 14, 51]) (by kernel_rfl) (by kernel_rfl) (.cons (show (0 : Int) ≤ 2 ∧ (2 : Int) < 3 by decide) (.cons (df h298) (.cons (show (0 : Int) ≤ 2 ∧ (2 : Int) < 3 by decide) (.cons (df h299) (.cons (show (0 : Int) ≤ 0 ∧ (0 : Int) < 3 by decide) (.cons (df h300) (.cons (show (0 : Int) ≤ 1 ∧ (1 : Int) < 3 by decide) (.cons (df h301) (.cons (show (0 : Int) ≤ 0 ∧ (0 : Int) < 3 by decide) (.cons (show (0 : Int) ≤ 2 ∧ (2 : Int) < 3 by decide) (.cons (df h302) (.cons (show (0 : Int) ≤ 1 ∧ (1 : Int) < 3 by decide) (.cons (show (0 : Int) ≤ 2 ∧ (2 : Int) < 3 by decide) .nil))))))))))))) q
inductive G_ringref5_BoxErr_L2_R where
  | x0 (v_x277 : Int)
  | x1 
def G_ringref5_BoxErr_L2_ex : G_ringref5_BoxErr_L2_R → Ex
  | .x0 _ => .ret
  | .x1  => .exit 2
def G_ringref5_BoxErr_L2_st (v_l257 : (List (Fin 3 → Int))) (v_x258 : Int) (v_y259 : (Fin 3 → Int)) : G_ringref5_BoxErr_L2_R → PS
  | .x0 v_x277 => ⟨[dd, dd, .d (.v (.int .i64 v_x277)), dd, dd, dd, dd, dd, dd, dd, dd, dd, dd, dd, dd, dd, dd, dd, dd, dd, dd, dd, dd, dd, dd, dd, dd, dd, dd, dd, dd, dd, dd, dd, dd, dd, dd, dd, dd, dd, dd, dd, dd, dd, dd, dd, dd, dd, dd, dd, dd, dd, dd, dd, dd, dd, dd, dd, dd, dd, dd, dd, dd, dd, dd, dd, dd, dd, dd, dd, dd, dd, dd, dd, dd, dd, dd, dd, dd, dd, dd, dd, dd, dd, dd, dd, dd, dd, dd], []⟩
  | .x1  => ⟨[dd, dd, dd, .ref 0 0, .ref 1 0, dd, .ref 2 0, dd, dd, dd, dd, dd, .d (.sl (v_l257.map (fun x => PV.agg [.v (.int .i64 (x 0)), .v (.int .i64 (x 1)), .v (.int .i64 (x 2))]))), .d (.v (.int .i64 (v_l257.length : Int))), .d (.v (.int .i64 v_x258)), dd, dd, dd, dd, dd, dd, dd, dd, dd, dd, dd, dd, dd, dd, dd, dd, dd, dd, dd, dd, dd, dd, dd, dd, dd, dd, dd, dd, dd, dd, dd, dd, dd, dd, dd, dd, dd, dd, dd, dd, dd, dd, dd, dd, dd, dd, dd, dd, dd, dd, dd, dd, dd, dd, dd, dd, dd, dd, dd, dd, dd, dd, dd, dd, dd, dd, dd, dd, dd, dd, dd, dd, dd, dd], [.box ((cA_t215 (fun (_ : Fin 100) => false)).map FV.d), .box ((cA_t215 (fun (_ : Fin 100) => false)).map FV.d), .box [.d (.v (.int .i64 (v_y259 0))), .d (.v (.int .i64 (v_y259 1))), .d (.v (.int .i64 (v_y259 2)))]]⟩
def G_ringref5_BoxErr_L2_hd (v_l257 : (List (Fin 3 → Int))) (v_x258 : Int) (v_y259 : (Fin 3 → Int)) (v_x269 : Int) : PS := ⟨[dd, dd, dd, .ref 0 0, .ref 1 0, dd, .ref 2 0, dd, dd, dd, dd, dd, .d (.sl (v_l257.map (fun x => PV.agg [.v (.int .i64 (x 0)), .v (.int .i64 (x 1)), .v (.int .i64 (x 2))]))), .d (.v (.int .i64 (v_l257.length : Int))), .d (.v (.int .i64 v_x258)), dd, dd, dd, dd, dd, dd, dd, dd, dd, dd, dd, dd, dd, dd, dd, dd, dd, dd, dd, dd, dd, dd, dd, dd, dd, dd, dd, dd, dd, dd, dd, dd, dd, dd, dd, dd, dd, dd, .d (.v (.int .i64 (v_y259 2))), .d (.v (.int .i64 v_x269)), dd, dd, dd, dd, dd, dd, dd, dd, dd, dd, dd, dd, dd, dd, dd, dd, dd, dd, dd, dd, dd, dd, dd, dd, dd, dd, dd, dd, dd, dd, dd, dd, dd, dd], [.box ((cA_t215 (fun (_ : Fin 100) => false)).map FV.d), .box ((cA_t215 (fun (_ : Fin 100) => false)).map FV.d), .box [.d (.v (.int .i64 (v_y259 0))), .d (.v (.int .i64 (v_y259 1))), .d (.v (.int .i64 (v_y259 2)))]]⟩
def G_ringref5_BoxErr_L2 (n : Nat) (v_l257 : (List (Fin 3 → Int))) (v_x258 : Int) (v_y259 : (Fin 3 → Int)) : Nat → Int → Option G_ringref5_BoxErr_L2_R
  | 0, _ => none
  | k + 1, v_x269 =>
    if v_x269 < (v_y259 2) then
     if 0 ≤ (wi .i64 ((v_y259 0) + v_x269)) ∧ (wi .i64 ((v_y259 0) + v_x269)) < (100 : Int) then
      (getA (fun (_ : Fin 100) => false) (wi .i64 ((v_y259 0) + v_x269))).bind fun (v_y276 : Bool) =>
      if v_y276 = true then
       some (.x0 5)
      else
       if 0 ≤ (wi .i64 ((v_y259 1) + v_x269)) ∧ (wi .i64 ((v_y259 1) + v_x269)) < (100 : Int) then
        (getA (fun (_ : Fin 100) => false) (wi .i64 ((v_y259 1) + v_x269))).bind fun (v_y278 : Bool) =>
        if v_y278 = true then
         some (.x0 5)
        else
         G_ringref5_BoxErr_L2 n v_l257 v_x258 v_y259 k (wi .i64 (v_x269 + 1))
       else none
     else none
    else
     some (.x1 )
theorem G_ringref5_BoxErr_L2_ok {Fi : Ex → PS → Prop} (hF : KC 89 Fi) (ks : List Fr) (n : Nat) (v_l257 : (List (Fin 3 → Int))) (v_x258 : Int) (v_y259 : (Fin 3 → Int))  : ∀ (k : Nat) (v_x269 : Int) (o : G_ringref5_BoxErr_L2_R), G_ringref5_BoxErr_L2 n v_l257 v_x258 v_y259 k v_x269 = some o → RunE Try.prog 89 Fi ks (G_ringref5_BoxErr_L2_ex o) (G_ringref5_BoxErr_L2_st v_l257 v_x258 v_y259 o) → RunE Try.prog 89 Fi (.l k (cP (cB (cR (cL (cR (cR (cB (cL (cR (cR (cP (cB (cR (cL (cR (cR (cR (bodyOf Try.f31)))))))))))))))))) :: ks) .normal (G_ringref5_BoxErr_L2_hd v_l257 v_x258 v_y259 v_x269)
  | 0, v_x269, o, h, q => by rw [G_ringref5_BoxErr_L2] at h; cases h
  | k + 1, v_x269, o, h, q => by
    rw [G_ringref5_BoxErr_L2] at h
    by_cases h305 : v_x269 < (v_y259 2)
    · rw [if_pos h305] at h
      by_cases h322 : 0 ≤ (wi .i64 ((v_y259 0) + v_x269)) ∧ (wi .i64 ((v_y259 0) + v_x269)) < (100 : Int)
      · rw [if_pos h322] at h
        obtain ⟨v_y276, h323, h⟩ := bind_some h
        by_cases h324 : v_y276 = true
        · rw [if_pos h324] at h
          cases h
          exact pkk_sound TTok mix hF 19 (hs := [.t true, .c, .l (.d (.v (.bool v_y276))), .t true, .c, .c, .c, .c, .c, .c]) (ts := []) (s := []) (l := [2]) (by kernel_rfl) (by kernel_rfl) (.cons (dt h305) (.cons (show (0 : Int) ≤ 0 ∧ (0 : Int) < 3 by decide) (.cons h322 (.cons (arr_cell (γ := FV) (sz := 1) (g := (fun x => [.d (.v (.bool x))])) (pre := []) (post := []) (o := 0) (fun _ => rfl) h323 rfl) (.cons h324 .nil))))) q
        · rw [if_neg h324] at h
          by_cases h325 : 0 ≤ (wi .i64 ((v_y259 1) + v_x269)) ∧ (wi .i64 ((v_y259 1) + v_x269)) < (100 : Int)
          · rw [if_pos h325] at h
            obtain ⟨v_y278, h326, h⟩ := bind_some h
            by_cases h327 : v_y278 = true
            · rw [if_pos h327] at h
              cases h
              exact pkk_sound TTok mix hF 19 (hs := [.t true, .c, .l (.d (.v (.bool v_y276))), .t false, .c, .c, .c, .c, .c, .c, .l (.d (.v (.bool v_y278))), .t true]) (ts := []) (s := []) (l := [2]) (by kernel_rfl) (by kernel_rfl) (.cons (dt h305) (.cons (show (0 : Int) ≤ 0 ∧ (0 : Int) < 3 by decide) (.cons h322 (.cons (arr_cell (γ := FV) (sz := 1) (g := (fun x => [.d (.v (.bool x))])) (pre := []) (post := []) (o := 0) (fun _ => rfl) h323 rfl) (.cons (vf h324) (.cons (show (0 : Int) ≤ 1 ∧ (1 : Int) < 3 by decide) (.cons h325 (.cons (arr_cell (γ := FV) (sz := 1) (g := (fun x => [.d (.v (.bool x))])) (pre := []) (post := []) (o := 0) (fun _ => rfl) h326 rfl) (.cons h327 .nil))))))))) q
            · rw [if_neg h327] at h
              exact pkk_sound TTok mix hF 16 (hs := [.t true, .c, .l (.d (.v (.bool v_y276))), .t false, .c, .c, .c, .c, .c, .c, .l (.d (.v (.bool v_y278))), .t false]) (ts := []) (s := [0, 1, 2]) (l := [3, 4, 6, 12, 13, 14, 53, 54]) (by kernel_rfl) (by kernel_rfl) (.cons (dt h305) (.cons (show (0 : Int) ≤ 0 ∧ (0 : Int) < 3 by decide) (.cons h322 (.cons (arr_cell (γ := FV) (sz := 1) (g := (fun x => [.d (.v (.bool x))])) (pre := []) (post := []) (o := 0) (fun _ => rfl) h323 rfl) (.cons (vf h324) (.cons (show (0 : Int) ≤ 1 ∧ (1 : Int) < 3 by decide) (.cons h325 (.cons (arr_cell (γ := FV) (sz := 1) (g := (fun x => [.d (.v (.bool x))])) (pre := []) (post := []) (o := 0) (fun _ => rfl) h326 rfl) (.cons (vf h327) .nil))))))))) (G_ringref5_BoxErr_L2_ok hF ks n v_l257 v_x258 v_y259 k (wi .i64 (v_x269 + 1)) _ h q)
          · rw [if_neg h325] at h; cases h
      · rw [if_neg h322] at h; cases h
    · rw [if_neg h305] at h
      cases h
      exact pkk_sound TTok mix hF 8 (hs := [.t false]) (ts := []) (s := [0, 1, 2]) (l := [3, 4, 6, 12, 13, 14]) (by kernel_rfl) (by kernel_rfl) (.cons (df h305) .nil) q
inductive G_ringref5_BoxErr_L3_R where
  | x0 (v_b295 : (Fin 100 → Bool)) (v_b296 : (Fin 100 → Bool))
def G_ringref5_BoxErr_L3_ex : G_ringref5_BoxErr_L3_R → Ex
  | .x0 _ _ => .exit 4
def G_ringref5_BoxErr_L3_st (v_l257 : (List (Fin 3 → Int))) (v_x258 : Int) (v_y259 : (Fin 3 → Int)) : G_ringref5_BoxErr_L3_R → PS
  | .x0 v_b295 v_b296 => ⟨[dd, dd, dd, .ref 0 0, .ref 1 0, dd, dd, dd, dd, dd, dd, dd, .d (.sl (v_l257.map (fun x => PV.agg [.v (.int .i64 (x 0)), .v (.int .i64 (x 1)), .v (.int .i64 (x 2))]))), .d (.v (.int .i64 (v_l257.length : Int))), .d (.v (.int .i64 v_x258)), dd, dd, dd, dd, dd, dd, dd, dd, dd, dd, dd, dd, dd, dd, dd, dd, dd, dd, dd, dd, dd, dd, dd, dd, dd, dd, dd, dd, dd, dd, dd, dd, dd, dd, dd, dd, dd, dd, dd, dd, dd, dd, dd, dd, dd, dd, dd, dd, dd, dd, dd, dd, dd, dd, dd, dd, dd, dd, dd, dd, dd, dd, dd, dd, dd, dd, dd, dd, dd, dd, dd, dd, dd, dd], [.box ((cA_t215 v_b295).map FV.d), .box ((cA_t215 v_b296).map FV.d)]⟩
def G_ringref5_BoxErr_L3_hd (v_l257 : (List (Fin 3 → Int))) (v_x258 : Int) (v_y259 : (Fin 3 → Int)) (v_x288 : Int) (v_b289 : (Fin 100 → Bool)) (v_b290 : (Fin 100 → Bool)) : PS := ⟨[dd, dd, dd, .ref 0 0, .ref 1 0, dd, .ref 2 0, dd, dd, dd, dd, dd, .d (.sl (v_l257.map (fun x => PV.agg [.v (.int .i64 (x 0)), .v (.int .i64 (x 1)), .v (.int .i64 (x 2))]))), .d (.v (.int .i64 (v_l257.length : Int))), .d (.v (.int .i64 v_x258)), dd, dd, dd, dd, dd, dd, dd, dd, dd, dd, dd, dd, dd, dd, dd, dd, dd, dd, dd, dd, dd, dd, dd, dd, dd, dd, dd, dd, dd, dd, dd, dd, dd, dd, dd, dd, dd, dd, dd, dd, dd, dd, dd, dd, dd, dd, dd, dd, dd, dd, dd, dd, dd, dd, dd, dd, dd, dd, .d (.v (.int .i64 (v_y259 2))), .d (.v (.int .i64 v_x288)), dd, dd, dd, dd, dd, dd, dd, dd, dd, dd, dd, dd, dd, dd], [.box ((cA_t215 v_b289).map FV.d), .box ((cA_t215 v_b290).map FV.d), .box [.d (.v (.int .i64 (v_y259 0))), .d (.v (.int .i64 (v_y259 1))), .d (.v (.int .i64 (v_y259 2)))]]⟩
def G_ringref5_BoxErr_L3 (n : Nat) (v_l257 : (List (Fin 3 → Int))) (v_x258 : Int) (v_y259 : (Fin 3 → Int)) : Nat → Int → (Fin 100 → Bool) → (Fin 100 → Bool) → Option G_ringref5_BoxErr_L3_R
  | 0, _, _, _ => none
  | k + 1, v_x288, v_b289, v_b290 =>
    if v_x288 < (v_y259 2) then
     if 0 ≤ (wi .i64 ((v_y259 0) + v_x288)) ∧ (wi .i64 ((v_y259 0) + v_x288)) < (100 : Int) then
      (getA v_b289 (wi .i64 ((v_y259 0) + v_x288))).bind fun (v_y293 : Bool) =>
      if 0 ≤ (wi .i64 ((v_y259 1) + v_x288)) ∧ (wi .i64 ((v_y259 1) + v_x288)) < (100 : Int) then
       (getA v_b290 (wi .i64 ((v_y259 1) + v_x288))).bind fun (v_y294 : Bool) =>
       G_ringref5_BoxErr_L3 n v_l257 v_x258 v_y259 k (wi .i64 (v_x288 + 1)) (setA v_b289 (wi .i64 ((v_y259 0) + v_x288)) true) (setA v_b290 (wi .i64 ((v_y259 1) + v_x288)) true)
      else none
     else none
    else
     some (.x0 v_b289 v_b290)
theorem G_ringref5_BoxErr_L3_ok {Fi : Ex → PS → Prop} (hF : KC 89 Fi) (ks : List Fr) (n : Nat) (v_l257 : (List (Fin 3 → Int))) (v_x258 : Int) (v_y259 : (Fin 3 → Int))  : ∀ (k : Nat) (v_x288 : Int) (v_b289 : (Fin 100 → Bool)) (v_b290 : (Fin 100 → Bool)) (o : G_ringref5_BoxErr_L3_R), G_ringref5_BoxErr_L3 n v_l257 v_x258 v_y259 k v_x288 v_b289 v_b290 = some o → RunE Try.prog 89 Fi ks (G_ringref5_BoxErr_L3_ex o) (G_ringref5_BoxErr_L3_st v_l257 v_x258 v_y259 o) → RunE Try.prog 89 Fi (.l k (cP (cB (cR (cR (cR (cR (cB (cL (cR (cR (cP (cB (cR (cL (cR (cR (cR (bodyOf Try.f31)))))))))))))))))) :: ks) .normal (G_ringref5_BoxErr_L3_hd v_l257 v_x258 v_y259 v_x288 v_b289 v_b290)
  | 0, v_x288, v_b289, v_b290, o, h, q => by rw [G_ringref5_BoxErr_L3] at h; cases h
  | k + 1, v_x288, v_b289, v_b290, o, h, q => by
    rw [G_ringref5_BoxErr_L3] at h
    by_cases h338 : v_x288 < (v_y259 2)
    · rw [if_pos h338] at h
      by_cases h343 : 0 ≤ (wi .i64 ((v_y259 0) + v_x288)) ∧ (wi .i64 ((v_y259 0) + v_x288)) < (100 : Int)
      · rw [if_pos h343] at h
        obtain ⟨v_y293, h344, h⟩ := bind_some h
        by_cases h345 : 0 ≤ (wi .i64 ((v_y259 1) + v_x288)) ∧ (wi .i64 ((v_y259 1) + v_x288)) < (100 : Int)
        · rw [if_pos h345] at h
          obtain ⟨v_y294, h346, h⟩ := bind_some h
          exact pkk_sound TTok mix hF 13 (hs := [.t true, .c, .c, .x ((cA_t215 (setA v_b289 (wi .i64 ((v_y259 0) + v_x288)) true)).map FV.d), .c, .x ((cA_t215 (setA v_b290 (wi .i64 ((v_y259 1) + v_x288)) true)).map FV.d), .c]) (ts := []) (s := [0, 1, 2]) (l := [3, 4, 6, 12, 13, 14, 73, 74]) (by kernel_rfl) (by kernel_rfl) (.cons (dt h338) (.cons (show (0 : Int) ≤ 0 ∧ (0 : Int) < 3 by decide) (.cons (show (0 : Int) ≤ 1 ∧ (1 : Int) < 3 by decide) (.cons h343 (.cons (arr_store (γ := FV) (sz := 1) (g := (fun x => [.d (.v (.bool x))])) (pre := []) (post := []) (o := 0) (y := true) (zs := [.d (.v (.bool true))]) (fun _ => rfl) h344 rfl (Nat.le_of_ble_eq_true rfl)).1 (.cons (arr_store (γ := FV) (sz := 1) (g := (fun x => [.d (.v (.bool x))])) (pre := []) (post := []) (o := 0) (y := true) (zs := [.d (.v (.bool true))]) (fun _ => rfl) h344 rfl (Nat.le_of_ble_eq_true rfl)).2 (.cons h345 (.cons (arr_store (γ := FV) (sz := 1) (g := (fun x => [.d (.v (.bool x))])) (pre := []) (post := []) (o := 0) (y := true) (zs := [.d (.v (.bool true))]) (fun _ => rfl) h346 rfl (Nat.le_of_ble_eq_true rfl)).1 (.cons (arr_store (γ := FV) (sz := 1) (g := (fun x => [.d (.v (.bool x))])) (pre := []) (post := []) (o := 0) (y := true) (zs := [.d (.v (.bool true))]) (fun _ => rfl) h346 rfl (Nat.le_of_ble_eq_true rfl)).2 .nil))))))))) (G_ringref5_BoxErr_L3_ok hF ks n v_l257 v_x258 v_y259 k (wi .i64 (v_x288 + 1)) (setA v_b289 (wi .i64 ((v_y259 0) + v_x288)) true) (setA v_b290 (wi .i64 ((v_y259 1) + v_x288)) true) _ h q)
        · rw [if_neg h345] at h; cases h
      · rw [if_neg h343] at h; cases h
    · rw [if_neg h338] at h
      cases h
      exact pkk_sound TTok mix hF 8 (hs := [.t false]) (ts := []) (s := [0, 1]) (l := [3, 4, 12, 13, 14]) (by kernel_rfl) (by kernel_rfl) (.cons (df h338) .nil) q
inductive G_ringref5_BoxErr_C4_R where
  | x0 (v_x304 : Bool)
def G_ringref5_BoxErr_C4_ex : G_ringref5_BoxErr_C4_R → Ex
  | .x0 _ => .normal
def G_ringref5_BoxErr_C4_st (v_l257 : (List (Fin 3 → Int))) (v_x300 : Int) (v_b301 : (Fin 100 → Bool)) (v_b302 : (Fin 100 → Bool)) (v_y303 : (Fin 3 → Int)) : G_ringref5_BoxErr_C4_R → PS
  | .x0 v_x304 => ⟨[dd, dd, dd, .ref 0 0, .ref 1 0, dd, .ref 2 0, dd, dd, dd, dd, dd, .d (.sl (v_l257.map (fun x => PV.agg [.v (.int .i64 (x 0)), .v (.int .i64 (x 1)), .v (.int .i64 (x 2))]))), .d (.v (.int .i64 (v_l257.length : Int))), .d (.v (.int .i64 v_x300)), dd, dd, dd, dd, dd, dd, dd, dd, dd, dd, dd, dd, dd, dd, dd, dd, dd, dd, dd, dd, dd, dd, dd, dd, dd, dd, dd, dd, dd, dd, dd, dd, dd, dd, dd, dd, .d (.v (.bool v_x304)), dd, dd, dd, dd, dd, dd, dd, dd, dd, dd, dd, dd, dd, dd, dd, dd, dd, dd, dd, dd, dd, dd, dd, dd, dd, dd, dd, dd, dd, dd, dd, dd, dd, dd, dd, dd, dd], [.box ((cA_t215 v_b301).map FV.d), .box ((cA_t215 v_b302).map FV.d), .box [.d (.v (.int .i64 (v_y303 0))), .d (.v (.int .i64 (v_y303 1))), .d (.v (.int .i64 (v_y303 2)))]]⟩
def G_ringref5_BoxErr_C4_hd (v_l257 : (List (Fin 3 → Int))) (v_x300 : Int) (v_b301 : (Fin 100 → Bool)) (v_b302 : (Fin 100 → Bool)) (v_y303 : (Fin 3 → Int))  : PS := ⟨[dd, dd, dd, .ref 0 0, .ref 1 0, dd, .ref 2 0, dd, dd, dd, dd, dd, .d (.sl (v_l257.map (fun x => PV.agg [.v (.int .i64 (x 0)), .v (.int .i64 (x 1)), .v (.int .i64 (x 2))]))), .d (.v (.int .i64 (v_l257.length : Int))), .d (.v (.int .i64 v_x300)), dd, dd, dd, dd, dd, dd, dd, dd, dd, dd, dd, dd, dd, dd, dd, dd, dd, dd, dd, dd, dd, dd, dd, dd, dd, dd, dd, dd, dd, dd, dd, dd, dd, dd, dd, dd, dd, dd, dd, dd, dd, dd, dd, dd, dd, dd, dd, dd, dd, dd, dd, dd, dd, dd, dd, dd, dd, dd, dd, dd, dd, dd, dd, dd, dd, dd, dd, dd, dd, dd, dd, dd, dd, dd], [.box ((cA_t215 v_b301).map FV.d), .box ((cA_t215 v_b302).map FV.d), .box [.d (.v (.int .i64 (v_y303 0))), .d (.v (.int .i64 (v_y303 1))), .d (.v (.int .i64 (v_y303 2)))]]⟩
def G_ringref5_BoxErr_C4 (n : Nat) (v_l257 : (List (Fin 3 → Int))) (v_x300 : Int) (v_b301 : (Fin 100 → Bool)) (v_b302 : (Fin 100 → Bool)) (v_y303 : (Fin 3 → Int)) : Option G_ringref5_BoxErr_C4_R :=
  if (v_y303 2) < 1 then
   some (.x0 true)
  else
   if (v_y303 2) > 100 then
    some (.x0 true)
   else
    if (v_y303 0) < 0 then
     some (.x0 true)
    else
     if (v_y303 1) < 0 then
      some (.x0 true)
     else
      if (v_y303 0) > (wi .i64 (100 - (v_y303 2))) then
       some (.x0 true)
      else
       some (.x0 (decide ((v_y303 1) > (wi .i64 (100 - (v_y303 2))))))
theorem G_ringref5_BoxErr_C4_ok {Fi : Ex → PS → Prop} (hF : KC 89 Fi) (ks : List Fr) (n : Nat) (v_l257 : (List (Fin 3 → Int))) (v_x300 : Int) (v_b301 : (Fin 100 → Bool)) (v_b302 : (Fin 100 → Bool)) (v_y303 : (Fin 3 → Int))  (o : G_ringref5_BoxErr_C4_R) (h : G_ringref5_BoxErr_C4 n v_l257 v_x300 v_b301 v_b302 v_y303 = some o) (q : RunE Try.prog 89 Fi ks (G_ringref5_BoxErr_C4_ex o) (G_ringref5_BoxErr_C4_st v_l257 v_x300 v_b301 v_b302 v_y303 o)) : RunE Try.prog 89 Fi (.s (cL (cL (cR (cB (cL (cR (cR (cP (cB (cR (cL (cR (cR (cR (bodyOf Try.f31))))))))))))))) :: ks) .normal (G_ringref5_BoxErr_C4_hd v_l257 v_x300 v_b301 v_b302 v_y303) := by
  unfold G_ringref5_BoxErr_C4 at h
  by_cases h355 : (v_y303 2) < 1
  · rw [if_pos h355] at h
    cases h
    exact pkk_sound TTok mix hF 1 (hs := [.c, .t true, .c, .c, .c, .c, .c, .c, .c, .c, .c, .c, .c, .c, .c, .c, .c, .c, .c, .c, .c, .c]) (ts := []) (s := [0, 1, 2]) (l := [3, 4, 6, 12, 13, 14, 51]) (by kernel_rfl) (by kernel_rfl) (.cons (show (0 : Int) ≤ 2 ∧ (2 : Int) < 3 by decide) (.cons (dt h355) .nil)) q
  · rw [if_neg h355] at h
    by_cases h356 : (v_y303 2) > 100
    · rw [if_pos h356] at h
      cases h
      exact pkk_sound TTok mix hF 1 (hs := [.c, .t false, .c, .c, .c, .t true, .c, .c, .c, .c, .c, .c, .c, .c, .c, .c, .c, .c, .c, .c, .c, .c, .c]) (ts := []) (s := [0, 1, 2]) (l := [3, 4, 6, 12, 13, 14, 51]) (by kernel_rfl) (by kernel_rfl) (.cons (show (0 : Int) ≤ 2 ∧ (2 : Int) < 3 by decide) (.cons (df h355) (.cons (show (0 : Int) ≤ 2 ∧ (2 : Int) < 3 by decide) (.cons (dt h356) .nil)))) q
    · rw [if_neg h356] at h
      by_cases h357 : (v_y303 0) < 0
      · rw [if_pos h357] at h
        cases h
        exact pkk_sound TTok mix hF 1 (hs := [.c, .t false, .c, .c, .c, .t false, .c, .c, .c, .t true, .c, .c, .c, .c, .c, .c, .c, .c, .c, .c, .c, .c, .c, .c]) (ts := []) (s := [0, 1, 2]) (l := [3, 4, 6, 12, 13, 14, 51]) (by kernel_rfl) (by kernel_rfl) (.cons (show (0 : Int) ≤ 2 ∧ (2 : Int) < 3 by decide) (.cons (df h355) (.cons (show (0 : Int) ≤ 2 ∧ (2 : Int) < 3 by decide) (.cons (df h356) (.cons (show (0 : Int) ≤ 0 ∧ (0 : Int) < 3 by decide) (.cons (dt h357) .nil)))))) q
      · rw [if_neg h357] at h
        by_cases h358 : (v_y303 1) < 0
        · rw [if_pos h358] at h
          cases h
          exact pkk_sound TTok mix hF 1 (hs := [.c, .t false, .c, .c, .c, .t false, .c, .c, .c, .t false, .c, .c, .c, .t true, .c, .c, .c, .c, .c, .c, .c, .c, .c, .c, .c]) (ts := []) (s := [0, 1, 2]) (l := [3, 4, 6, 12, 13, 14, 51]) (by kernel_rfl) (by kernel_rfl) (.cons (show (0 : Int) ≤ 2 ∧ (2 : Int) < 3 by decide) (.cons (df h355) (.cons (show (0 : Int) ≤ 2 ∧ (2 : Int) < 3 by decide) (.cons (df h356) (.cons (show (0 : Int) ≤ 0 ∧ (0 : Int) < 3 by decide) (.cons (df h357) (.cons (show (0 : Int) ≤ 1 ∧ (1 : Int) < 3 by decide) (.cons (dt h358) .nil)))))))) q
        · rw [if_neg h358] at h
          by_cases h359 : (v_y303 0) > (wi .i64 (100 - (v_y303 2)))
          · rw [if_pos h359] at h
            cases h
            exact pkk_sound TTok mix hF 1 (hs := [.c, .t false, .c, .c, .c, .t false, .c, .c, .c, .t false, .c, .c, .c, .t false, .c, .c, .c, .c, .c, .c, .c, .t true, .c, .c, .c, .c, .c]) (ts := []) (s := [0, 1, 2]) (l := [3, 4, 6, 12, 13, 14, 51]) (by kernel_rfl) (by kernel_rfl) (.cons (show (0 : Int) ≤ 2 ∧ (2 : Int) < 3 by decide) (.cons (df h355) (.cons (show (0 : Int) ≤ 2 ∧ (2 : Int) < 3 by decide) (.cons (df h356) (.cons (show (0 : Int) ≤ 0 ∧ (0 : Int) < 3 by decide) (.cons (df h357) (.cons (show (0 : Int) ≤ 1 ∧ (1 : Int) < 3 by decide) (.cons (df h358) (.cons (show (0 : Int) ≤ 0 ∧ (0 : Int) < 3 by decide) (.cons (show (0 : Int) ≤ 2 ∧ (2 : Int) < 3 by decide) (.cons (dt h359) .nil))))))))))) q
          · rw [if_neg h359] at h
            cases h
            exact pkk_sound TTok mix hF 1 (hs := [.c, .t false, .c, .c, .c, .t false, .c, .c, .c, .t false, .c, .c, .c, .t false, .c, .c, .c, .c, .c, .c, .c, .t false, .c, .c, .c, .c, .c, .c, .c]) (ts := []) (s := [0, 1, 2]) (l := [3, 4, 6, 12, 13, 14, 51]) (by kernel_rfl) (by kernel_rfl) (.cons (show (0 : Int) ≤ 2 ∧ (2 : Int) < 3 by decide) (.cons (df h355) (.cons (show (0 : Int) ≤ 2 ∧ (2 : Int) < 3 by decide) (.cons (df h356) (.cons (show (0 : Int) ≤ 0 ∧ (0 : Int) < 3 by decide) (.cons (df h357) (.cons (show (0 : Int) ≤ 1 ∧ (1 : Int) < 3 by decide) (.cons (df h358) (.cons (show (0 : Int) ≤ 0 ∧ (0 : Int) < 3 by decide) (.cons (show (0 : Int) ≤ 2 ∧ (2 : Int) < 3 by decide) (.cons (df h359) (.cons (show (0 : Int) ≤ 1 ∧ (1 : Int) < 3 by decide) (.cons (show (0 : Int) ≤ 2 ∧ (2 : Int) < 3 by decide) .nil))))))))))))) q
inductive G_ringref5_BoxErr_L5_R where
  | x0 (v_x321 : Int)
  | x1 
def G_ringref5_BoxErr_L5_ex : G_ringref5_BoxErr_L5_R → Ex
  | .x0 _ => .ret
  | .x1  => .exit 2
def G_ringref5_BoxErr_L5_st (v_l257 : (List (Fin 3 → Int))) (v_x300 : Int) (v_y303 : (Fin 3 → Int)) (v_b301 : (Fin 100 → Bool)) (v_b302 : (Fin 100 → Bool)) : G_ringref5_BoxErr_L5_R → PS
  | .x0 v_x321 => ⟨[dd, dd, .d (.v (.int .i64 v_x321)), dd, dd, dd, dd, dd, dd, dd, dd, dd, dd, dd, dd, dd, dd, dd, dd, dd, dd, dd, dd, dd, dd, dd, dd, dd, dd, dd, dd, dd, dd, dd, dd, dd, dd, dd, dd, dd, dd, dd, dd, dd, dd, dd, dd, dd, dd, dd, dd, dd, dd, dd, dd, dd, dd, dd, dd, dd, dd, dd, dd, dd, dd, dd, dd, dd, dd, dd, dd, dd, dd, dd, dd, dd, dd, dd, dd, dd, dd, dd, dd, dd, dd, dd, dd, dd, dd], []⟩
  | .x1  => ⟨[dd, dd, dd, .ref 0 0, .ref 1 0, dd, .ref 2 0, dd, dd, dd, dd, dd, .d (.sl (v_l257.map (fun x => PV.agg [.v (.int .i64 (x 0)), .v (.int .i64 (x 1)), .v (.int .i64 (x 2))]))), .d (.v (.int .i64 (v_l257.length : Int))), .d (.v (.int .i64 v_x300)), dd, dd, dd, dd, dd, dd, dd, dd, dd, dd, dd, dd, dd, dd, dd, dd, dd, dd, dd, dd, dd, dd, dd, dd, dd, dd, dd, dd, dd, dd, dd, dd, dd, dd, dd, dd, dd, dd, dd, dd, dd, dd, dd, dd, dd, dd, dd, dd, dd, dd, dd, dd, dd, dd, dd, dd, dd, dd, dd, dd, dd, dd, dd, dd, dd, dd, dd, dd, dd, dd, dd, dd, dd, dd], [.box ((cA_t215 v_b301).map FV.d), .box ((cA_t215 v_b302).map FV.d), .box [.d (.v (.int .i64 (v_y303 0))), .d (.v (.int .i64 (v_y303 1))), .d (.v (.int .i64 (v_y303 2)))]]⟩
def G_ringref5_BoxErr_L5_hd (v_l257 : (List (Fin 3 → Int))) (v_x300 : Int) (v_y303 : (Fin 3 → Int)) (v_b301 : (Fin 100 → Bool)) (v_b302 : (Fin 100 → Bool)) (v_x313 : Int) : PS := ⟨[dd, dd, dd, .ref 0 0, .ref 1 0, dd, .ref 2 0, dd, dd, dd, dd, dd, .d (.sl (v_l257.map (fun x => PV.agg [.v (.int .i64 (x 0)), .v (.int .i64 (x 1)), .v (.int .i64 (x 2))]))), .d (.v (.int .i64 (v_l257.length : Int))), .d (.v (.int .i64 v_x300)), dd, dd, dd, dd, dd, dd, dd, dd, dd, dd, dd, dd, dd, dd, dd, dd, dd, dd, dd, dd, dd, dd, dd, dd, dd, dd, dd, dd, dd, dd, dd, dd, dd, dd, dd, dd, dd, dd, .d (.v (.int .i64 (v_y303 2))), .d (.v (.int .i64 v_x313)), dd, dd, dd, dd, dd, dd, dd, dd, dd, dd, dd, dd, dd, dd, dd, dd, dd, dd, dd, dd, dd, dd, dd, dd, dd, dd, dd, dd, dd, dd, dd, dd, dd, dd], [.box ((cA_t215 v_b301).map FV.d), .box ((cA_t215 v_b302).map FV.d), .box [.d (.v (.int .i64 (v_y303 0))), .d (.v (.int .i64 (v_y303 1))), .d (.v (.int .i64 (v_y303 2)))]]⟩
def G_ringref5_BoxErr_L5 (n : Nat) (v_l257 : (List (Fin 3 → Int))) (v_x300 : Int) (v_y303 : (Fin 3 → Int)) (v_b301 : (Fin 100 → Bool)) (v_b302 : (Fin 100 → Bool)) : Nat → Int → Option G_ringref5_BoxErr_L5_R
  | 0, _ => none
  | k + 1, v_x313 =>
    if v_x313 < (v_y303 2) then
     if 0 ≤ (wi .i64 ((v_y303 0) + v_x313)) ∧ (wi .i64 ((v_y303 0) + v_x313)) < (100 : Int) then
      (getA v_b301 (wi .i64 ((v_y303 0) + v_x313))).bind fun (v_y320 : Bool) =>
      if v_y320 = true then
       some (.x0 5)
      else
       if 0 ≤ (wi .i64 ((v_y303 1) + v_x313)) ∧ (wi .i64 ((v_y303 1) + v_x313)) < (100 : Int) then
        (getA v_b302 (wi .i64 ((v_y303 1) + v_x313))).bind fun (v_y322 : Bool) =>
        if v_y322 = true then
         some (.x0 5)
        else
         G_ringref5_BoxErr_L5 n v_l257 v_x300 v_y303 v_b301 v_b302 k (wi .i64 (v_x313 + 1))
       else none
     else none
    else
     some (.x1 )
theorem G_ringref5_BoxErr_L5_ok {Fi : Ex → PS → Prop} (hF : KC 89 Fi) (ks : List Fr) (n : Nat) (v_l257 : (List (Fin 3 → Int))) (v_x300 : Int) (v_y303 : (Fin 3 → Int)) (v_b301 : (Fin 100 → Bool)) (v_b302 : (Fin 100 → Bool))  : ∀ (k : Nat) (v_x313 : Int) (o : G_ringref5_BoxErr_L5_R), G_ringref5_BoxErr_L5 n v_l257 v_x300 v_y303 v_b301 v_b302 k v_x313 = some o → RunE Try.prog 89 Fi ks (G_ringref5_BoxErr_L5_ex o) (G_ringref5_BoxErr_L5_st v_l257 v_x300 v_y303 v_b301 v_b302 o) → RunE Try.prog 89 Fi (.l k (cP (cB (cR (cL (cR (cR (cB (cL (cR (cR (cP (cB (cR (cL (cR (cR (cR (bodyOf Try.f31)))))))))))))))))) :: ks) .normal (G_ringref5_BoxErr_L5_hd v_l257 v_x300 v_y303 v_b301 v_b302 v_x313)
  | 0, v_x313, o, h, q => by rw [G_ringref5_BoxErr_L5] at h; cases h
  | k + 1, v_x313, o, h, q => by
    rw [G_ringref5_BoxErr_L5] at h
    by_cases h362 : v_x313 < (v_y303 2)
    · rw [if_pos h362] at h
      by_cases h379 : 0 ≤ (wi .i64 ((v_y303 0) + v_x313)) ∧ (wi .i64 ((v_y303 0) + v_x313)) < (100 : Int)
      · rw [if_pos h379] at h
        obtain ⟨v_y320, h380, h⟩ := bind_some h
        by_cases h381 : v_y320 = true
        · rw [if_pos h381] at h
          cases h
          exact pkk_sound TTok mix hF 19 (hs := [.t true, .c, .l (.d (.v (.bool v_y320))), .t true, .c, .c, .c, .c, .c, .c]) (ts := []) (s := []) (l := [2]) (by kernel_rfl) (by kernel_rfl) (.cons (dt h362) (.cons (show (0 : Int) ≤ 0 ∧ (0 : Int) < 3 by decide) (.cons h379 (.cons (arr_cell (γ := FV) (sz := 1) (g := (fun x => [.d (.v (.bool x))])) (pre := []) (post := []) (o := 0) (fun _ => rfl) h380 rfl) (.cons h381 .nil))))) q
        · rw [if_neg h381] at h
          by_cases h382 : 0 ≤ (wi .i64 ((v_y303 1) + v_x313)) ∧ (wi .i64 ((v_y303 1) + v_x313)) < (100 : Int)
          · rw [if_pos h382] at h
            obtain ⟨v_y322, h383, h⟩ := bind_some h
            by_cases h384 : v_y322 = true
            · rw [if_pos h384] at h
              cases h
              exact pkk_sound TTok mix hF 19 (hs := [.t true, .c, .l (.d (.v (.bool v_y320))), .t false, .c, .c, .c, .c, .c, .c, .l (.d (.v (.bool v_y322))), .t true]) (ts := []) (s := []) (l := [2]) (by kernel_rfl) (by kernel_rfl) (.cons (dt h362) (.cons (show (0 : Int) ≤ 0 ∧ (0 : Int) < 3 by decide) (.cons h379 (.cons (arr_cell (γ := FV) (sz := 1) (g := (fun x => [.d (.v (.bool x))])) (pre := []) (post := []) (o := 0) (fun _ => rfl) h380 rfl) (.cons (vf h381) (.cons (show (0 : Int) ≤ 1 ∧ (1 : Int) < 3 by decide) (.cons h382 (.cons (arr_cell (γ := FV) (sz := 1) (g := (fun x => [.d (.v (.bool x))])) (pre := []) (post := []) (o := 0) (fun _ => rfl) h383 rfl) (.cons h384 .nil))))))))) q
            · rw [if_neg h384] at h
              exact pkk_sound TTok mix hF 16 (hs := [.t true, .c, .l (.d (.v (.bool v_y320))), .t false, .c, .c, .c, .c, .c, .c, .l (.d (.v (.bool v_y322))), .t false]) (ts := []) (s := [0, 1, 2]) (l := [3, 4, 6, 12, 13, 14, 53, 54]) (by kernel_rfl) (by kernel_rfl) (.cons (dt h362) (.cons (show (0 : Int) ≤ 0 ∧ (0 : Int) < 3 by decide) (.cons h379 (.cons (arr_cell (γ := FV) (sz := 1) (g := (fun x => [.d (.v (.bool x))])) (pre := []) (post := []) (o := 0) (fun _ => rfl) h380 rfl) (.cons (vf h381) (.cons (show (0 : Int) ≤ 1 ∧ (1 : Int) < 3 by decide) (.cons h382 (.cons (arr_cell (γ := FV) (sz := 1) (g := (fun x => [.d (.v (.bool x))])) (pre := []) (post := []) (o := 0) (fun _ => rfl) h383 rfl) (.cons (vf h384) .nil))))))))) (G_ringref5_BoxErr_L5_ok hF ks n v_l257 v_x300 v_y303 v_b301 v_b302 k (wi .i64 (v_x313 + 1)) _ h q)
          · rw [if_neg h382] at h; cases h
      · rw [if_neg h379] at h; cases h
    · rw [if_neg h362] at h
      cases h
      exact pkk_sound TTok mix hF 8 (hs := [.t false]) (ts := []) (s := [0, 1, 2]) (l := [3, 4, 6, 12, 13, 14]) (by kernel_rfl) (by kernel_rfl) (.cons (df h362) .nil) q
inductive G_ringref5_BoxErr_L6_R where
  | x0 (v_b339 : (Fin 100 → Bool)) (v_b340 : (Fin 100 → Bool))
def G_ringref5_BoxErr_L6_ex : G_ringref5_BoxErr_L6_R → Ex
  | .x0 _ _ => .exit 4
def G_ringref5_BoxErr_L6_st (v_l257 : (List (Fin 3 → Int))) (v_x300 : Int) (v_y303 : (Fin 3 → Int)) : G_ringref5_BoxErr_L6_R → PS
  | .x0 v_b339 v_b340 => ⟨[dd, dd, dd, .ref 0 0, .ref 1 0, dd, dd, dd, dd, dd, dd, dd, .d (.sl (v_l257.map (fun x => PV.agg [.v (.int .i64 (x 0)), .v (.int .i64 (x 1)), .v (.int .i64 (x 2))]))), .d (.v (.int .i64 (v_l257.length : Int))), .d (.v (.int .i64 v_x300)), dd, dd, dd, dd, dd, dd, dd, dd, dd, dd, dd, dd, dd, dd, dd, dd, dd, dd, dd, dd, dd, dd, dd, dd, dd, dd, dd, dd, dd, dd, dd, dd, dd, dd, dd, dd, dd, dd, dd, dd, dd, dd, dd, dd, dd, dd, dd, dd, dd, dd, dd, dd, dd, dd, dd, dd, dd, dd, dd, dd, dd, dd, dd, dd, dd, dd, dd, dd, dd, dd, dd, dd, dd, dd], [.box ((cA_t215 v_b339).map FV.d), .box ((cA_t215 v_b340).map FV.d)]⟩
def G_ringref5_BoxErr_L6_hd (v_l257 : (List (Fin 3 → Int))) (v_x300 : Int) (v_y303 : (Fin 3 → Int)) (v_x332 : Int) (v_b333 : (Fin 100 → Bool)) (v_b334 : (Fin 100 → Bool)) : PS := ⟨[dd, dd, dd, .ref 0 0, .ref 1 0, dd, .ref 2 0, dd, dd, dd, dd, dd, .d (.sl (v_l257.map (fun x => PV.agg [.v (.int .i64 (x 0)), .v (.int .i64 (x 1)), .v (.int .i64 (x 2))]))), .d (.v (.int .i64 (v_l257.length : Int))), .d (.v (.int .i64 v_x300)), dd, dd, dd, dd, dd, dd, dd, dd, dd, dd, dd, dd, dd, dd, dd, dd, dd, dd, dd, dd, dd, dd, dd, dd, dd, dd, dd, dd, dd, dd, dd, dd, dd, dd, dd, dd, dd, dd, dd, dd, dd, dd, dd, dd, dd, dd, dd, dd, dd, dd, dd, dd, dd, dd, dd, dd, dd, dd, .d (.v (.int .i64 (v_y303 2))), .d (.v (.int .i64 v_x332)), dd, dd, dd, dd, dd, dd, dd, dd, dd, dd, dd, dd, dd, dd], [.box ((cA_t215 v_b333).map FV.d), .box ((cA_t215 v_b334).map FV.d), .box [.d (.v (.int .i64 (v_y303 0))), .d (.v (.int .i64 (v_y303 1))), .d (.v (.int .i64 (v_y303 2)))]]⟩
def G_ringref5_BoxErr_L6 (n : Nat) (v_l257 : (List (Fin 3 → Int))) (v_x300 : Int) (v_y303 : (Fin 3 → Int)) : Nat → Int → (Fin 100 → Bool) → (Fin 100 → Bool) → Option G_ringref5_BoxErr_L6_R
  | 0, _, _, _ => none
  | k + 1, v_x332, v_b333, v_b334 =>
    if v_x332 < (v_y303 2) then
     if 0 ≤ (wi .i64 ((v_y303 0) + v_x332)) ∧ (wi .i64 ((v_y303 0) + v_x332)) < (100 : Int) then
      (getA v_b333 (wi .i64 ((v_y303 0) + v_x332))).bind fun (v_y337 : Bool) =>
      if 0 ≤ (wi .i64 ((v_y303 1) + v_x332)) ∧ (wi .i64 ((v_y303 1) + v_x332)) < (100 : Int) then
       (getA v_b334 (wi .i64 ((v_y303 1) + v_x332))).bind fun (v_y338 : Bool) =>
       G_ringref5_BoxErr_L6 n v_l257 v_x300 v_y303 k (wi .i64 (v_x332 + 1)) (setA v_b333 (wi .i64 ((v_y303 0) + v_x332)) true) (setA v_b334 (wi .i64 ((v_y303 1) + v_x332)) true)
      else none
     else none
    else
     some (.x0 v_b333 v_b334)
theorem G_ringref5_BoxErr_L6_ok {Fi : Ex → PS → Prop} (hF : KC 89 Fi) (ks : List Fr) (n : Nat) (v_l257 : (List (Fin 3 → Int))) (v_x300 : Int) (v_y303 : (Fin 3 → Int))  : ∀ (k : Nat) (v_x332 : Int) (v_b333 : (Fin 100 → Bool)) (v_b334 : (Fin 100 → Bool)) (o : G_ringref5_BoxErr_L6_R), G_ringref5_BoxErr_L6 n v_l257 v_x300 v_y303 k v_x332 v_b333 v_b334 = some o → RunE Try.prog 89 Fi ks (G_ringref5_BoxErr_L6_ex o) (G_ringref5_BoxErr_L6_st v_l257 v_x300 v_y303 o) → RunE Try.prog 89 Fi (.l k (cP (cB (cR (cR (cR (cR (cB (cL (cR (cR (cP (cB (cR (cL (cR (cR (cR (bodyOf Try.f31)))))))))))))))))) :: ks) .normal (G_ringref5_BoxErr_L6_hd v_l257 v_x300 v_y303 v_x332 v_b333 v_b334)
  | 0, v_x332, v_b333, v_b334, o, h, q => by rw [G_ringref5_BoxErr_L6] at h; cases h
  | k + 1, v_x332, v_b333, v_b334, o, h, q => by
    rw [G_ringref5_BoxErr_L6] at h
    by_cases h395 : v_x332 < (v_y303 2)
    · rw [if_pos h395] at h
      by_cases h400 : 0 ≤ (wi .i64 ((v_y303 0) + v_x332)) ∧ (wi .i64 ((v_y303 0) + v_x332)) < (100 : Int)
      · rw [if_pos h400] at h
        obtain ⟨v_y337, h401, h⟩ := bind_some h
        by_cases h402 : 0 ≤ (wi .i64 ((v_y303 1) + v_x332)) ∧ (wi .i64 ((v_y303 1) + v_x332)) < (100 : Int)
        · rw [if_pos h402] at h
          obtain ⟨v_y338, h403, h⟩ := bind_some h
          exact pkk_sound TTok mix hF 13 (hs := [.t true, .c, .c, .x ((cA_t215 (setA v_b333 (wi .i64 ((v_y303 0) + v_x332)) true)).map FV.d), .c, .x ((cA_t215 (setA v_b334 (wi .i64 ((v_y303 1) + v_x332)) true)).map FV.d), .c]) (ts := []) (s := [0, 1, 2]) (l := [3, 4, 6, 12, 13, 14, 73, 74]) (by kernel_rfl) (by kernel_rfl) (.cons (dt h395) (.cons (show (0 : Int) ≤ 0 ∧ (0 : Int) < 3 by decide) (.cons (show (0 : Int) ≤ 1 ∧ (1 : Int) < 3 by decide) (.cons h400 (.cons (arr_store (γ := FV) (sz := 1) (g := (fun x => [.d (.v (.bool x))])) (pre := []) (post := []) (o := 0) (y := true) (zs := [.d (.v (.bool true))]) (fun _ => rfl) h401 rfl (Nat.le_of_ble_eq_true rfl)).1 (.cons (arr_store (γ := FV) (sz := 1) (g := (fun x => [.d (.v (.bool x))])) (pre := []) (post := []) (o := 0) (y := true) (zs := [.d (.v (.bool true))]) (fun _ => rfl) h401 rfl (Nat.le_of_ble_eq_true rfl)).2 (.cons h402 (.cons (arr_store (γ := FV) (sz := 1) (g := (fun x => [.d (.v (.bool x))])) (pre := []) (post := []) (o := 0) (y := true) (zs := [.d (.v (.bool true))]) (fun _ => rfl) h403 rfl (Nat.le_of_ble_eq_true rfl)).1 (.cons (arr_store (γ := FV) (sz := 1) (g := (fun x => [.d (.v (.bool x))])) (pre := []) (post := []) (o := 0) (y := true) (zs := [.d (.v (.bool true))]) (fun _ => rfl) h403 rfl (Nat.le_of_ble_eq_true rfl)).2 .nil))))))))) (G_ringref5_BoxErr_L6_ok hF ks n v_l257 v_x300 v_y303 k (wi .i64 (v_x332 + 1)) (setA v_b333 (wi .i64 ((v_y303 0) + v_x332)) true) (setA v_b334 (wi .i64 ((v_y303 1) + v_x332)) true) _ h q)
        · rw [if_neg h402] at h; cases h
      · rw [if_neg h400] at h; cases h
    · rw [if_neg h395] at h
      cases h
      exact pkk_sound TTok mix hF 8 (hs := [.t false]) (ts := []) (s := [0, 1]) (l := [3, 4, 12, 13, 14]) (by kernel_rfl) (by kernel_rfl) (.cons (df h395) .nil) q
inductive G_ringref5_BoxErr_L7_R where
  | x0 (v_x312 : Int)
  | x1 
def G_ringref5_BoxErr_L7_ex : G_ringref5_BoxErr_L7_R → Ex
  | .x0 _ => .ret
  | .x1  => .exit 0
def G_ringref5_BoxErr_L7_st (v_l257 : (List (Fin 3 → Int))) : G_ringref5_BoxErr_L7_R → PS
  | .x0 v_x312 => ⟨[dd, dd, .d (.v (.int .i64 v_x312)), dd, dd, dd, dd, dd, dd, dd, dd, dd, dd, dd, dd, dd, dd, dd, dd, dd, dd, dd, dd, dd, dd, dd, dd, dd, dd, dd, dd, dd, dd, dd, dd, dd, dd, dd, dd, dd, dd, dd, dd, dd, dd, dd, dd, dd, dd, dd, dd, dd, dd, dd, dd, dd, dd, dd, dd, dd, dd, dd, dd, dd, dd, dd, dd, dd, dd, dd, dd, dd, dd, dd, dd, dd, dd, dd, dd, dd, dd, dd, dd, dd, dd, dd, dd, dd, dd], []⟩
  | .x1  => ⟨[dd, dd, dd, dd, dd, dd, dd, dd, dd, dd, dd, dd, dd, dd, dd, dd, dd, dd, dd, dd, dd, dd, dd, dd, dd, dd, dd, dd, dd, dd, dd, dd, dd, dd, dd, dd, dd, dd, dd, dd, dd, dd, dd, dd, dd, dd, dd, dd, dd, dd, dd, dd, dd, dd, dd, dd, dd, dd, dd, dd, dd, dd, dd, dd, dd, dd, dd, dd, dd, dd, dd, dd, dd, dd, dd, dd, dd, dd, dd, dd, dd, dd, dd, dd, dd, dd, dd, dd, dd], []⟩
def G_ringref5_BoxErr_L7_hd (v_l257 : (List (Fin 3 → Int))) (v_x300 : Int) (v_b301 : (Fin 100 → Bool)) (v_b302 : (Fin 100 → Bool)) : PS := ⟨[dd, dd, dd, .ref 0 0, .ref 1 0, dd, dd, dd, dd, dd, dd, dd, .d (.sl (v_l257.map (fun x => PV.agg [.v (.int .i64 (x 0)), .v (.int .i64 (x 1)), .v (.int .i64 (x 2))]))), .d (.v (.int .i64 (v_l257.length : Int))), .d (.v (.int .i64 v_x300)), dd, dd, dd, dd, dd, dd, dd, dd, dd, dd, dd, dd, dd, dd, dd, dd, dd, dd, dd, dd, dd, dd, dd, dd, dd, dd, dd, dd, dd, dd, dd, dd, dd, dd, dd, dd, dd, dd, dd, dd, dd, dd, dd, dd, dd, dd, dd, dd, dd, dd, dd, dd, dd, dd, dd, dd, dd, dd, dd, dd, dd, dd, dd, dd, dd, dd, dd, dd, dd, dd, dd, dd, dd, dd], [.box ((cA_t215 v_b301).map FV.d), .box ((cA_t215 v_b302).map FV.d)]⟩
def G_ringref5_BoxErr_L7 (n : Nat) (v_l257 : (List (Fin 3 → Int))) : Nat → Int → (Fin 100 → Bool) → (Fin 100 → Bool) → Option G_ringref5_BoxErr_L7_R
  | 0, _, _, _ => none
  | k + 1, v_x300, v_b301, v_b302 =>
    if v_x300 < (v_l257.length : Int) then
     (getI v_l257 v_x300).bind fun (v_y303 : (Fin 3 → Int)) =>
     (G_ringref5_BoxErr_C4 n v_l257 v_x300 v_b301 v_b302 v_y303).bind fun v_o310 => match v_o310 with
     | .x0 v_z311 =>
       if v_z311 = true then
        some (.x0 1)
       else
        (G_ringref5_BoxErr_L5 n v_l257 v_x300 v_y303 v_b301 v_b302 n 0).bind fun v_o324 => match v_o324 with
        | .x0 v_z325 =>
          some (.x0 v_z325)
        | .x1  =>
          (G_ringref5_BoxErr_L6 n v_l257 v_x300 v_y303 n 0 v_b301 v_b302).bind fun v_o341 => match v_o341 with
          | .x0 v_z342 v_z343 =>
            G_ringref5_BoxErr_L7 n v_l257 k (wi .i64 (v_x300 + 1)) v_z342 v_z343
    else
     some (.x1 )
theorem G_ringref5_BoxErr_L7_ok {Fi : Ex → PS → Prop} (hF : KC 89 Fi) (ks : List Fr) (n : Nat) (v_l257 : (List (Fin 3 → Int)))  : ∀ (k : Nat) (v_x300 : Int) (v_b301 : (Fin 100 → Bool)) (v_b302 : (Fin 100 → Bool)) (o : G_ringref5_BoxErr_L7_R), G_ringref5_BoxErr_L7 n v_l257 k v_x300 v_b301 v_b302 = some o → RunE Try.prog 89 Fi ks (G_ringref5_BoxErr_L7_ex o) (G_ringref5_BoxErr_L7_st v_l257 o) → RunE Try.prog 89 Fi (.l k (cP (cB (cR (cL (cR (cR (cR (bodyOf Try.f31)))))))) :: ks) .normal (G_ringref5_BoxErr_L7_hd v_l257 v_x300 v_b301 v_b302)
  | 0, v_x300, v_b301, v_b302, o, h, q => by rw [G_ringref5_BoxErr_L7] at h; cases h
  | k + 1, v_x300, v_b301, v_b302, o, h, q => by
    rw [G_ringref5_BoxErr_L7] at h
    by_cases h348 : v_x300 < (v_l257.length : Int)
    · rw [if_pos h348] at h
      obtain ⟨v_y303, h349, h⟩ := bind_some h
      obtain ⟨v_o310, h360, h⟩ := bind_some h
      refine pkk_sound TTok mix hF 12 (hs := [.t true, .y ((fun x => PV.agg [.v (.int .i64 (x 0)), .v (.int .i64 (x 1)), .v (.int .i64 (x 2))]) v_y303), .c]) (ts := []) (s := [0, 1, 11]) (l := [3, 4, 6, 12, 13, 14]) (by kernel_rfl) (by kernel_rfl) (.cons (dt h348) (.cons (getI_ob (f := (fun x => PV.agg [.v (.int .i64 (x 0)), .v (.int .i64 (x 1)), .v (.int .i64 (x 2))])) h349) (.cons (show 0 + 3 ≤ 3 by decide) .nil))) (G_ringref5_BoxErr_C4_ok hF (.s (cR (cL (cR (cB (cL (cR (cR (cP (cB (cR (cL (cR (cR (cR (bodyOf Try.f31))))))))))))))) :: .s (cR (cR (cB (cL (cR (cR (cP (cB (cR (cL (cR (cR (cR (bodyOf Try.f31)))))))))))))) :: .b 1 :: .s (cR (cR (cR (cP (cB (cR (cL (cR (cR (cR (bodyOf Try.f31))))))))))) :: .l k (cP (cB (cR (cL (cR (cR (cR (bodyOf Try.f31)))))))) :: ks) n v_l257 v_x300 v_b301 v_b302 v_y303 _ h360 ?_)
      cases v_o310 with
      | x0 v_z311 =>
        try dsimp only at h
        by_cases h361 : v_z311 = true
        · rw [if_pos h361] at h
          cases h
          exact pkk_sound TTok mix hF 8 (hs := [.t true]) (ts := []) (s := []) (l := [2]) (by kernel_rfl) (by kernel_rfl) (.cons h361 .nil) q
        · rw [if_neg h361] at h
          obtain ⟨v_o324, h385, h⟩ := bind_some h
          refine pkk_sound TTok mix hF 7 (hs := [.t false, .c, .n n]) (ts := []) (s := [0, 1, 2]) (l := [3, 4, 6, 12, 13, 14, 53, 54]) (by kernel_rfl) (by kernel_rfl) (.cons (vf h361) (.cons (show (0 : Int) ≤ 2 ∧ (2 : Int) < 3 by decide) .nil)) (G_ringref5_BoxErr_L5_ok hF (.b 2 :: .s (cR (cR (cR (cB (cL (cR (cR (cP (cB (cR (cL (cR (cR (cR (bodyOf Try.f31))))))))))))))) :: .b 1 :: .s (cR (cR (cR (cP (cB (cR (cL (cR (cR (cR (bodyOf Try.f31))))))))))) :: .l k (cP (cB (cR (cL (cR (cR (cR (bodyOf Try.f31)))))))) :: ks) n v_l257 v_x300 v_y303 v_b301 v_b302 n 0 _ h385 ?_)
          cases v_o324 with
          | x0 v_z325 =>
            try dsimp only at h
            cases h
            exact pkk_sound TTok mix hF 5 (hs := []) (ts := []) (s := []) (l := [2]) (by kernel_rfl) (by kernel_rfl) .nil q
          | x1  =>
            try dsimp only at h
            obtain ⟨v_o341, h404, h⟩ := bind_some h
            refine pkk_sound TTok mix hF 5 (hs := [.c, .n n]) (ts := []) (s := [0, 1, 2]) (l := [3, 4, 6, 12, 13, 14, 73, 74]) (by kernel_rfl) (by kernel_rfl) (.cons (show (0 : Int) ≤ 2 ∧ (2 : Int) < 3 by decide) .nil) (G_ringref5_BoxErr_L6_ok hF (.b 4 :: .b 1 :: .s (cR (cR (cR (cP (cB (cR (cL (cR (cR (cR (bodyOf Try.f31))))))))))) :: .l k (cP (cB (cR (cL (cR (cR (cR (bodyOf Try.f31)))))))) :: ks) n v_l257 v_x300 v_y303 n 0 v_b301 v_b302 _ h404 ?_)
            cases v_o341 with
            | x0 v_z342 v_z343 =>
              try dsimp only at h
              exact pkk_sound TTok mix hF 3 (hs := []) (ts := []) (s := [0, 1]) (l := [3, 4, 12, 13, 14]) (by kernel_rfl) (by kernel_rfl) .nil (G_ringref5_BoxErr_L7_ok hF ks n v_l257 k (wi .i64 (v_x300 + 1)) v_z342 v_z343 _ h q)
    · rw [if_neg h348] at h
      cases h
      exact pkk_sound TTok mix hF 8 (hs := [.t false]) (ts := []) (s := []) (l := []) (by kernel_rfl) (by kernel_rfl) (.cons (df h348) .nil) q
/- ringhall/ringref5.BoxErr -/
def G_ringref5_BoxErr (n : Nat) (v_l257 : (List (Fin 3 → Int))) : Option (Int) :=
  if (v_l257.length : Int) > 4 then
   some 2
  else
   (G_ringref5_BoxErr_L7 n v_l257 n 0 (fun (_ : Fin 100) => false) (fun (_ : Fin 100) => false)).bind fun v_o344 => match v_o344 with
   | .x0 v_z345 =>
     some v_z345
   | .x1  =>
     some 0
theorem G_ringref5_BoxErr_ok (n : Nat) (v_l257 : (List (Fin 3 → Int))) (r : Int) (h : G_ringref5_BoxErr n v_l257 = some r) : Ret Try.prog 31 [(eL (fun x => PV.agg [.v (.int .i64 (x 0)), .v (.int .i64 (x 1)), .v (.int .i64 (x 2))])) v_l257] ((eI .i64) r) := by
  refine ret_run (n := 89) (fn := Try.f31) (c := bodyOf Try.f31) (by kernel_rfl) (by kernel_rfl) (by kernel_rfl) (by kernel_rfl) ?_
  have hF : KC 89 (FinR Try.prog Try.f31 ((eI .i64) r)) := FinR.kc' (by kernel_rfl)
  unfold G_ringref5_BoxErr at h
  by_cases h290 : (v_l257.length : Int) > 4
  · rw [if_pos h290] at h
    obtain rfl := Option.some.inj h
    exact pend_sound TTok mix 10 (hs := [.u (.d (.v (.int .i64 (v_l257.length : Int)))), .t true]) (by kernel_rfl) (by kernel_rfl) (by kernel_rfl) (.cons (len_ob (f := (fun x => PV.agg [.v (.int .i64 (x 0)), .v (.int .i64 (x 1)), .v (.int .i64 (x 2))])) (l := v_l257)) (.cons (dt h290) .nil))
  · rw [if_neg h290] at h
    obtain ⟨v_o344, h405, h⟩ := bind_some h
    refine pkk_sound TTok mix hF 14 (hs := [.u (.d (.v (.int .i64 (v_l257.length : Int)))), .t false, .u (.d (.v (.int .i64 (v_l257.length : Int)))), .n n]) (ts := []) (s := [12, 15]) (l := [3, 4, 12, 13, 14]) (by kernel_rfl) (by kernel_rfl) (.cons (len_ob (f := (fun x => PV.agg [.v (.int .i64 (x 0)), .v (.int .i64 (x 1)), .v (.int .i64 (x 2))])) (l := v_l257)) (.cons (df h290) (.cons (len_ob (f := (fun x => PV.agg [.v (.int .i64 (x 0)), .v (.int .i64 (x 1)), .v (.int .i64 (x 2))])) (l := v_l257)) .nil))) (G_ringref5_BoxErr_L7_ok hF (.b 0 :: .s (cR (cR (cR (cR (bodyOf Try.f31))))) :: []) n v_l257 n 0 (fun (_ : Fin 100) => false) (fun (_ : Fin 100) => false) _ h405 ?_)
    cases v_o344 with
    | x0 v_z345 =>
      try dsimp only at h
      obtain rfl := Option.some.inj h
      exact pend_sound TTok mix 2 (hs := []) (by kernel_rfl) (by kernel_rfl) (by kernel_rfl) .nil
    | x1  =>
      try dsimp only at h
      obtain rfl := Option.some.inj h
      exact pend_sound TTok mix 4 (hs := []) (by kernel_rfl) (by kernel_rfl) (by kernel_rfl) .nil
inductive G_slices_Equal_int_int_L1_R where
  | x0 (v_x357 : Bool)
  | x1 
def G_slices_Equal_int_int_L1_ex : G_slices_Equal_int_int_L1_R → Ex
  | .x0 _ => .ret
  | .x1  => .exit 0
def G_slices_Equal_int_int_L1_st (v_s350 : (List Int)) (v_s351 : (List Int)) : G_slices_Equal_int_int_L1_R → PS
  | .x0 v_x357 => ⟨[dd, dd, dd, dd, .d (.v (.bool v_x357)), dd, dd, dd, dd, dd, dd, dd, dd, dd, dd, dd, dd, dd, dd, dd, dd, dd, dd, dd, dd, dd], []⟩
  | .x1  => ⟨[dd, dd, dd, dd, dd, dd, dd, dd, dd, dd, dd, dd, dd, dd, dd, dd, dd, dd, dd, dd, dd, dd, dd, dd, dd, dd], []⟩
def G_slices_Equal_int_int_L1_hd (v_s350 : (List Int)) (v_s351 : (List Int)) (v_x352 : Int) : PS := ⟨[.d (.sl (v_s350.map (eI .i64))), .d (.sl (v_s351.map (eI .i64))), dd, dd, dd, dd, dd, dd, dd, dd, dd, dd, .d (.v (.int .i64 (v_s350.length : Int))), .d (.v (.int .i64 v_x352)), dd, dd, dd, dd, dd, dd, dd, dd, dd, dd, dd, dd], []⟩
def G_slices_Equal_int_int_L1 (n : Nat) (v_s350 : (List Int)) (v_s351 : (List Int)) : Nat → Int → Option G_slices_Equal_int_int_L1_R
  | 0, _ => none
  | k + 1, v_x352 =>
    if v_x352 < (v_s350.length : Int) then
     (getI v_s350 v_x352).bind fun (v_y355 : Int) =>
     (getI v_s351 v_x352).bind fun (v_y356 : Int) =>
     if v_y355 = v_y356 then
      G_slices_Equal_int_int_L1 n v_s350 v_s351 k (wi .i64 (v_x352 + 1))
     else
      some (.x0 false)
    else
     some (.x1 )
theorem G_slices_Equal_int_int_L1_ok {Fi : Ex → PS → Prop} (hF : KC 26 Fi) (ks : List Fr) (n : Nat) (v_s350 : (List Int)) (v_s351 : (List Int))  : ∀ (k : Nat) (v_x352 : Int) (o : G_slices_Equal_int_int_L1_R), G_slices_Equal_int_int_L1 n v_s350 v_s351 k v_x352 = some o → RunE Try.prog 26 Fi ks (G_slices_Equal_int_int_L1_ex o) (G_slices_Equal_int_int_L1_st v_s350 v_s351 o) → RunE Try.prog 26 Fi (.l k (cP (cB (cR (cL (cR (cR (bodyOf Try.f43))))))) :: ks) .normal (G_slices_Equal_int_int_L1_hd v_s350 v_s351 v_x352)
  | 0, v_x352, o, h, q => by rw [G_slices_Equal_int_int_L1] at h; cases h
  | k + 1, v_x352, o, h, q => by
    rw [G_slices_Equal_int_int_L1] at h
    by_cases h418 : v_x352 < (v_s350.length : Int)
    · rw [if_pos h418] at h
      obtain ⟨v_y355, h422, h⟩ := bind_some h
      obtain ⟨v_y356, h423, h⟩ := bind_some h
      by_cases h424 : v_y355 = v_y356
      · rw [if_pos h424] at h
        exact pkk_sound TTok mix hF 16 (hs := [.t true, .y ((eI .i64) v_y355), .c, .y ((eI .i64) v_y356), .c, .t false]) (ts := []) (s := []) (l := [0, 1, 12, 13]) (by kernel_rfl) (by kernel_rfl) (.cons (dt h418) (.cons (getI_ob (f := (eI .i64)) h422) (.cons (getI_ob (f := (eI .i64)) h423) (.cons (nf h424) .nil)))) (G_slices_Equal_int_int_L1_ok hF ks n v_s350 v_s351 k (wi .i64 (v_x352 + 1)) _ h q)
      · rw [if_neg h424] at h
        cases h
        exact pkk_sound TTok mix hF 19 (hs := [.t true, .y ((eI .i64) v_y355), .c, .y ((eI .i64) v_y356), .c, .t true]) (ts := []) (s := []) (l := [4]) (by kernel_rfl) (by kernel_rfl) (.cons (dt h418) (.cons (getI_ob (f := (eI .i64)) h422) (.cons (getI_ob (f := (eI .i64)) h423) (.cons (nt h424) .nil)))) q
    · rw [if_neg h418] at h
      cases h
      exact pkk_sound TTok mix hF 8 (hs := [.t false]) (ts := []) (s := []) (l := []) (by kernel_rfl) (by kernel_rfl) (.cons (df h418) .nil) q
/- slices.Equal[[]int,int] -/
def G_slices_Equal_int_int (n : Nat) (v_s350 : (List Int)) (v_s351 : (List Int)) : Option (Bool) :=
  if (v_s350.length : Int) = (v_s351.length : Int) then
   (G_slices_Equal_int_int_L1 n v_s350 v_s351 n 0).bind fun v_o358 => match v_o358 with
   | .x0 v_z359 =>
     some v_z359
   | .x1  =>
     some true
  else
   some false
theorem G_slices_Equal_int_int_ok (n : Nat) (v_s350 : (List Int)) (v_s351 : (List Int)) (r : Bool) (h : G_slices_Equal_int_int n v_s350 v_s351 = some r) : Ret Try.prog 43 [(eL (eI .i64)) v_s350, (eL (eI .i64)) v_s351] (eB r) := by
  refine ret_run (n := 26) (fn := Try.f43) (c := bodyOf Try.f43) (by kernel_rfl) (by kernel_rfl) (by kernel_rfl) (by kernel_rfl) ?_
  have hF : KC 26 (FinR Try.prog Try.f43 (eB r)) := FinR.kc' (by kernel_rfl)
  unfold G_slices_Equal_int_int at h
  by_cases h417 : (v_s350.length : Int) = (v_s351.length : Int)
  · rw [if_pos h417] at h
    obtain ⟨v_o358, h425, h⟩ := bind_some h
    refine pkk_sound TTok mix hF 12 (hs := [.u (.d (.v (.int .i64 (v_s350.length : Int)))), .u (.d (.v (.int .i64 (v_s351.length : Int)))), .t false, .u (.d (.v (.int .i64 (v_s350.length : Int)))), .n n]) (ts := []) (s := []) (l := [0, 1, 12, 13]) (by kernel_rfl) (by kernel_rfl) (.cons (len_ob (f := (eI .i64)) (l := v_s350)) (.cons (len_ob (f := (eI .i64)) (l := v_s351)) (.cons (nf h417) (.cons (len_ob (f := (eI .i64)) (l := v_s350)) .nil)))) (G_slices_Equal_int_int_L1_ok hF (.b 0 :: .s (cR (cR (cR (bodyOf Try.f43)))) :: []) n v_s350 v_s351 n 0 _ h425 ?_)
    cases v_o358 with
    | x0 v_z359 =>
      try dsimp only at h
      obtain rfl := Option.some.inj h
      exact pend_sound TTok mix 2 (hs := []) (by kernel_rfl) (by kernel_rfl) (by kernel_rfl) .nil
    | x1  =>
      try dsimp only at h
      obtain rfl := Option.some.inj h
      exact pend_sound TTok mix 4 (hs := []) (by kernel_rfl) (by kernel_rfl) (by kernel_rfl) .nil
  · rw [if_neg h417] at h
    obtain rfl := Option.some.inj h
    exact pend_sound TTok mix 10 (hs := [.u (.d (.v (.int .i64 (v_s350.length : Int)))), .u (.d (.v (.int .i64 (v_s351.length : Int)))), .t true]) (by kernel_rfl) (by kernel_rfl) (by kernel_rfl) (.cons (len_ob (f := (eI .i64)) (l := v_s350)) (.cons (len_ob (f := (eI .i64)) (l := v_s351)) (.cons (nt h417) .nil)))
inductive G_ringref5_SameCred_C1_R where
  | x0 (v_x362 : Bool)
def G_ringref5_SameCred_C1_ex : G_ringref5_SameCred_C1_R → Ex
  | .x0 _ => .normal
def G_ringref5_SameCred_C1_st (v_a348 : S_api_Cred) (v_b349 : S_api_Cred) : G_ringref5_SameCred_C1_R → PS
  | .x0 v_x362 => ⟨[dd, dd, dd, dd, .d (.v (.bool v_x362)), dd, dd, dd, dd, dd, dd, dd, dd, dd, dd, dd, dd, dd, dd, dd, dd, dd, dd, dd, dd, dd, dd, dd, dd, dd, dd, dd, dd, dd, dd, dd, dd, dd, dd, dd, dd, dd, dd, dd, dd], []⟩
def G_ringref5_SameCred_C1_hd (v_a348 : S_api_Cred) (v_b349 : S_api_Cred)  : PS := ⟨[dd, dd, .ref 0 0, .ref 1 0, dd, dd, dd, dd, dd, dd, dd, dd, dd, dd, dd, dd, dd, dd, dd, dd, dd, dd, dd, dd, dd, dd, dd, dd, dd, dd, dd, dd, dd, dd, dd, dd, dd, dd, dd, dd, dd, dd, dd, dd, dd], [.box [.d (.v (.int .i64 v_a348.fUser)), .d (.v (.int .i64 v_a348.fGroup)), .d (.sl (v_a348.fMore.map (eI .i64))), .d (.v (.int .i64 v_a348.fCaps)), .d (.v (.int .i64 v_a348.fLevel)), .d (.v (.int .i64 v_a348.fKind))], .box [.d (.v (.int .i64 v_b349.fUser)), .d (.v (.int .i64 v_b349.fGroup)), .d (.sl (v_b349.fMore.map (eI .i64))), .d (.v (.int .i64 v_b349.fCaps)), .d (.v (.int .i64 v_b349.fLevel)), .d (.v (.int .i64 v_b349.fKind))]]⟩
def G_ringref5_SameCred_C1 (n : Nat) (v_a348 : S_api_Cred) (v_b349 : S_api_Cred) : Option G_ringref5_SameCred_C1_R :=
  if v_a348.fUser = v_b349.fUser then
   if v_a348.fGroup = v_b349.fGroup then
    (G_slices_Equal_int_int n v_a348.fMore v_b349.fMore).bind fun (v_r361 : (Bool)) =>
    if v_r361 = true then
     if v_a348.fCaps = v_b349.fCaps then
      if v_a348.fLevel = v_b349.fLevel then
       some (.x0 (v_a348.fKind == v_b349.fKind))
      else
       some (.x0 false)
     else
      some (.x0 false)
    else
     some (.x0 false)
   else
    some (.x0 false)
  else
   some (.x0 false)
theorem G_ringref5_SameCred_C1_ok {Fi : Ex → PS → Prop} (hF : KC 45 Fi) (ks : List Fr) (n : Nat) (v_a348 : S_api_Cred) (v_b349 : S_api_Cred)  (o : G_ringref5_SameCred_C1_R) (h : G_ringref5_SameCred_C1 n v_a348 v_b349 = some o) (q : RunE Try.prog 45 Fi ks (G_ringref5_SameCred_C1_ex o) (G_ringref5_SameCred_C1_st v_a348 v_b349 o)) : RunE Try.prog 45 Fi (.s (cL (cR (bodyOf Try.f20))) :: ks) .normal (G_ringref5_SameCred_C1_hd v_a348 v_b349) := by
  unfold G_ringref5_SameCred_C1 at h
  by_cases h430 : v_a348.fUser = v_b349.fUser
  · rw [if_pos h430] at h
    by_cases h431 : v_a348.fGroup = v_b349.fGroup
    · rw [if_pos h431] at h
      obtain ⟨v_r361, h432, h⟩ := bind_some h
      by_cases h433 : v_r361 = true
      · rw [if_pos h433] at h
        by_cases h434 : v_a348.fCaps = v_b349.fCaps
        · rw [if_pos h434] at h
          by_cases h435 : v_a348.fLevel = v_b349.fLevel
          · rw [if_pos h435] at h
            cases h
            exact pkk_sound TTok mix hF 1 (hs := [.c, .c, .t true, .c, .c, .c, .c, .c, .c, .t true, .c, .c, .c, .c, .c, .c, .r (eB v_r361), .t true, .c, .c, .c, .c, .c, .c, .t true, .c, .c, .c, .c, .c, .c, .t true, .c, .c, .c, .c, .c, .c]) (ts := []) (s := []) (l := [4]) (by kernel_rfl) (by kernel_rfl) (.cons (bt h430) (.cons (bt h431) (.cons (G_slices_Equal_int_int_ok n v_a348.fMore v_b349.fMore _ h432) (.cons h433 (.cons (bt h434) (.cons (bt h435) .nil)))))) q
          · rw [if_neg h435] at h
            cases h
            exact pkk_sound TTok mix hF 1 (hs := [.c, .c, .t true, .c, .c, .c, .c, .c, .c, .t true, .c, .c, .c, .c, .c, .c, .r (eB v_r361), .t true, .c, .c, .c, .c, .c, .c, .t true, .c, .c, .c, .c, .c, .c, .t false, .c, .c, .c, .c]) (ts := []) (s := []) (l := [4]) (by kernel_rfl) (by kernel_rfl) (.cons (bt h430) (.cons (bt h431) (.cons (G_slices_Equal_int_int_ok n v_a348.fMore v_b349.fMore _ h432) (.cons h433 (.cons (bt h434) (.cons (bf h435) .nil)))))) q
        · rw [if_neg h434] at h
          cases h
          exact pkk_sound TTok mix hF 1 (hs := [.c, .c, .t true, .c, .c, .c, .c, .c, .c, .t true, .c, .c, .c, .c, .c, .c, .r (eB v_r361), .t true, .c, .c, .c, .c, .c, .c, .t false, .c, .c, .c, .c, .c, .c, .c, .c, .c]) (ts := []) (s := []) (l := [4]) (by kernel_rfl) (by kernel_rfl) (.cons (bt h430) (.cons (bt h431) (.cons (G_slices_Equal_int_int_ok n v_a348.fMore v_b349.fMore _ h432) (.cons h433 (.cons (bf h434) .nil))))) q
      · rw [if_neg h433] at h
        cases h
        exact pkk_sound TTok mix hF 1 (hs := [.c, .c, .t true, .c, .c, .c, .c, .c, .c, .t true, .c, .c, .c, .c, .c, .c, .r (eB v_r361), .t false, .c, .c, .c, .c, .c, .c, .c, .c, .c, .c, .c, .c, .c, .c]) (ts := []) (s := []) (l := [4]) (by kernel_rfl) (by kernel_rfl) (.cons (bt h430) (.cons (bt h431) (.cons (G_slices_Equal_int_int_ok n v_a348.fMore v_b349.fMore _ h432) (.cons (vf h433) .nil)))) q
    · rw [if_neg h431] at h
      cases h
      exact pkk_sound TTok mix hF 1 (hs := [.c, .c, .t true, .c, .c, .c, .c, .c, .c, .t false, .c, .c, .c, .c, .c, .c, .c, .c, .c, .c, .c, .c, .c, .c, .c, .c, .c, .c, .c]) (ts := []) (s := []) (l := [4]) (by kernel_rfl) (by kernel_rfl) (.cons (bt h430) (.cons (bf h431) .nil)) q
  · rw [if_neg h430] at h
    cases h
    exact pkk_sound TTok mix hF 1 (hs := [.c, .c, .t false, .c, .c, .c, .c, .c, .c, .c, .c, .c, .c, .c, .c, .c, .c, .c, .c, .c, .c, .c, .c, .c, .c, .c, .c]) (ts := []) (s := []) (l := [4]) (by kernel_rfl) (by kernel_rfl) (.cons (bf h430) .nil) q
/- ringhall/ringref5.SameCred -/
def G_ringref5_SameCred (n : Nat) (v_a348 : S_api_Cred) (v_b349 : S_api_Cred) : Option (Bool) :=
  (G_ringref5_SameCred_C1 n v_a348 v_b349).bind fun v_o368 => match v_o368 with
  | .x0 v_z369 =>
    some v_z369
theorem G_ringref5_SameCred_ok (n : Nat) (v_a348 : S_api_Cred) (v_b349 : S_api_Cred) (r : Bool) (h : G_ringref5_SameCred n v_a348 v_b349 = some r) : Ret Try.prog 20 [eS_api_Cred v_a348, eS_api_Cred v_b349] (eB r) := by
  refine ret_run (n := 45) (fn := Try.f20) (c := bodyOf Try.f20) (by kernel_rfl) (by kernel_rfl) (by kernel_rfl) (by kernel_rfl) ?_
  have hF : KC 45 (FinR Try.prog Try.f20 (eB r)) := FinR.kc' (by kernel_rfl)
  unfold G_ringref5_SameCred at h
  obtain ⟨v_o368, h436, h⟩ := bind_some h
  refine pkk_sound TTok mix hF 3 (hs := []) (ts := []) (s := [0, 3]) (l := [2, 3]) (by kernel_rfl) (by kernel_rfl) .nil (G_ringref5_SameCred_C1_ok hF (.s (cR (cR (bodyOf Try.f20))) :: []) n v_a348 v_b349 _ h436 ?_)
  cases v_o368 with
  | x0 v_z369 =>
    try dsimp only at h
    obtain rfl := Option.some.inj h
    exact pend_sound TTok mix 1 (hs := []) (by kernel_rfl) (by kernel_rfl) (by kernel_rfl) .nil
inductive G_ringref5_BoxTo_L1_R where
  | x0 (v_x404 : Int)
  | x1 
def G_ringref5_BoxTo_L1_ex : G_ringref5_BoxTo_L1_R → Ex
  | .x0 _ => .ret
  | .x1  => .exit 2
def G_ringref5_BoxTo_L1_st (v_n400 : Int) (v_l399 : (List (Fin 3 → Int))) (v_x401 : Int) (v_y402 : (Fin 3 → Int)) : G_ringref5_BoxTo_L1_R → PS
  | .x0 v_x404 => ⟨[dd, dd, dd, dd, .d (.v (.int .i64 v_x404)), dd, dd, dd, dd, dd, dd, dd, dd, dd, dd, dd, dd, dd, dd, dd, dd, dd, dd, dd, dd, dd, dd, dd, dd, dd, dd], []⟩
  | .x1  => ⟨[dd, .d (.v (.int .i64 v_n400)), dd, dd, dd, dd, dd, dd, .d (.sl (v_l399.map (fun x => PV.agg [.v (.int .i64 (x 0)), .v (.int .i64 (x 1)), .v (.int .i64 (x 2))]))), .d (.v (.int .i64 (v_l399.length : Int))), .d (.v (.int .i64 v_x401)), dd, dd, dd, dd, dd, dd, dd, dd, dd, dd, dd, dd, dd, dd, dd, dd, dd, dd, dd, dd], []⟩
def G_ringref5_BoxTo_L1_hd (v_n400 : Int) (v_l399 : (List (Fin 3 → Int))) (v_x401 : Int) (v_y402 : (Fin 3 → Int)) (v_x403 : Int) : PS := ⟨[dd, .d (.v (.int .i64 v_n400)), dd, dd, dd, dd, .ref 0 0, dd, .d (.sl (v_l399.map (fun x => PV.agg [.v (.int .i64 (x 0)), .v (.int .i64 (x 1)), .v (.int .i64 (x 2))]))), .d (.v (.int .i64 (v_l399.length : Int))), .d (.v (.int .i64 v_x401)), dd, dd, dd, dd, .d (.v (.int .i64 (v_y402 2))), .d (.v (.int .i64 v_x403)), dd, dd, dd, dd, dd, dd, dd, dd, dd, dd, dd, dd, dd, dd], [.box [.d (.v (.int .i64 (v_y402 0))), .d (.v (.int .i64 (v_y402 1))), .d (.v (.int .i64 (v_y402 2)))]]⟩
def G_ringref5_BoxTo_L1 (n : Nat) (v_n400 : Int) (v_l399 : (List (Fin 3 → Int))) (v_x401 : Int) (v_y402 : (Fin 3 → Int)) : Nat → Int → Option G_ringref5_BoxTo_L1_R
  | 0, _ => none
  | k + 1, v_x403 =>
    if v_x403 < (v_y402 2) then
     if (wi .i64 ((v_y402 0) + v_x403)) = v_n400 then
      some (.x0 (wi .i64 ((v_y402 1) + v_x403)))
     else
      G_ringref5_BoxTo_L1 n v_n400 v_l399 v_x401 v_y402 k (wi .i64 (v_x403 + 1))
    else
     some (.x1 )
theorem G_ringref5_BoxTo_L1_ok {Fi : Ex → PS → Prop} (hF : KC 31 Fi) (ks : List Fr) (n : Nat) (v_n400 : Int) (v_l399 : (List (Fin 3 → Int))) (v_x401 : Int) (v_y402 : (Fin 3 → Int))  : ∀ (k : Nat) (v_x403 : Int) (o : G_ringref5_BoxTo_L1_R), G_ringref5_BoxTo_L1 n v_n400 v_l399 v_x401 v_y402 k v_x403 = some o → RunE Try.prog 31 Fi ks (G_ringref5_BoxTo_L1_ex o) (G_ringref5_BoxTo_L1_st v_n400 v_l399 v_x401 v_y402 o) → RunE Try.prog 31 Fi (.l k (cP (cB (cR (cR (cB (cL (cR (cR (cP (cB (cR (cL (cR (bodyOf Try.f33)))))))))))))) :: ks) .normal (G_ringref5_BoxTo_L1_hd v_n400 v_l399 v_x401 v_y402 v_x403)
  | 0, v_x403, o, h, q => by rw [G_ringref5_BoxTo_L1] at h; cases h
  | k + 1, v_x403, o, h, q => by
    rw [G_ringref5_BoxTo_L1] at h
    by_cases h467 : v_x403 < (v_y402 2)
    · rw [if_pos h467] at h
      by_cases h471 : (wi .i64 ((v_y402 0) + v_x403)) = v_n400
      · rw [if_pos h471] at h
        cases h
        exact pkk_sound TTok mix hF 19 (hs := [.t true, .c, .t true, .c]) (ts := []) (s := []) (l := [4]) (by kernel_rfl) (by kernel_rfl) (.cons (dt h467) (.cons (show (0 : Int) ≤ 0 ∧ (0 : Int) < 3 by decide) (.cons (bt h471) (.cons (show (0 : Int) ≤ 1 ∧ (1 : Int) < 3 by decide) .nil)))) q
      · rw [if_neg h471] at h
        exact pkk_sound TTok mix hF 16 (hs := [.t true, .c, .t false]) (ts := []) (s := [0]) (l := [1, 6, 8, 9, 10, 15, 16]) (by kernel_rfl) (by kernel_rfl) (.cons (dt h467) (.cons (show (0 : Int) ≤ 0 ∧ (0 : Int) < 3 by decide) (.cons (bf h471) .nil))) (G_ringref5_BoxTo_L1_ok hF ks n v_n400 v_l399 v_x401 v_y402 k (wi .i64 (v_x403 + 1)) _ h q)
    · rw [if_neg h467] at h
      cases h
      exact pkk_sound TTok mix hF 8 (hs := [.t false]) (ts := []) (s := []) (l := [1, 8, 9, 10]) (by kernel_rfl) (by kernel_rfl) (.cons (df h467) .nil) q
inductive G_ringref5_BoxTo_L2_R where
  | x0 (v_x407 : Int)
  | x1 
def G_ringref5_BoxTo_L2_ex : G_ringref5_BoxTo_L2_R → Ex
  | .x0 _ => .ret
  | .x1  => .exit 0
def G_ringref5_BoxTo_L2_st (v_n400 : Int) (v_l399 : (List (Fin 3 → Int))) : G_ringref5_BoxTo_L2_R → PS
  | .x0 v_x407 => ⟨[dd, dd, dd, dd, .d (.v (.int .i64 v_x407)), dd, dd, dd, dd, dd, dd, dd, dd, dd, dd, dd, dd, dd, dd, dd, dd, dd, dd, dd, dd, dd, dd, dd, dd, dd, dd], []⟩
  | .x1  => ⟨[dd, dd, dd, dd, dd, dd, dd, dd, dd, dd, dd, dd, dd, dd, dd, dd, dd, dd, dd, dd, dd, dd, dd, dd, dd, dd, dd, dd, dd, dd, dd], []⟩
def G_ringref5_BoxTo_L2_hd (v_n400 : Int) (v_l399 : (List (Fin 3 → Int))) (v_x401 : Int) : PS := ⟨[dd, .d (.v (.int .i64 v_n400)), dd, dd, dd, dd, dd, dd, .d (.sl (v_l399.map (fun x => PV.agg [.v (.int .i64 (x 0)), .v (.int .i64 (x 1)), .v (.int .i64 (x 2))]))), .d (.v (.int .i64 (v_l399.length : Int))), .d (.v (.int .i64 v_x401)), dd, dd, dd, dd, dd, dd, dd, dd, dd, dd, dd, dd, dd, dd, dd, dd, dd, dd, dd, dd], []⟩
def G_ringref5_BoxTo_L2 (n : Nat) (v_n400 : Int) (v_l399 : (List (Fin 3 → Int))) : Nat → Int → Option G_ringref5_BoxTo_L2_R
  | 0, _ => none
  | k + 1, v_x401 =>
    if v_x401 < (v_l399.length : Int) then
     (getI v_l399 v_x401).bind fun (v_y402 : (Fin 3 → Int)) =>
     (G_ringref5_BoxTo_L1 n v_n400 v_l399 v_x401 v_y402 n 0).bind fun v_o405 => match v_o405 with
     | .x0 v_z406 =>
       some (.x0 v_z406)
     | .x1  =>
       G_ringref5_BoxTo_L2 n v_n400 v_l399 k (wi .i64 (v_x401 + 1))
    else
     some (.x1 )
theorem G_ringref5_BoxTo_L2_ok {Fi : Ex → PS → Prop} (hF : KC 31 Fi) (ks : List Fr) (n : Nat) (v_n400 : Int) (v_l399 : (List (Fin 3 → Int)))  : ∀ (k : Nat) (v_x401 : Int) (o : G_ringref5_BoxTo_L2_R), G_ringref5_BoxTo_L2 n v_n400 v_l399 k v_x401 = some o → RunE Try.prog 31 Fi ks (G_ringref5_BoxTo_L2_ex o) (G_ringref5_BoxTo_L2_st v_n400 v_l399 o) → RunE Try.prog 31 Fi (.l k (cP (cB (cR (cL (cR (bodyOf Try.f33)))))) :: ks) .normal (G_ringref5_BoxTo_L2_hd v_n400 v_l399 v_x401)
  | 0, v_x401, o, h, q => by rw [G_ringref5_BoxTo_L2] at h; cases h
  | k + 1, v_x401, o, h, q => by
    rw [G_ringref5_BoxTo_L2] at h
    by_cases h465 : v_x401 < (v_l399.length : Int)
    · rw [if_pos h465] at h
      obtain ⟨v_y402, h466, h⟩ := bind_some h
      obtain ⟨v_o405, h472, h⟩ := bind_some h
      refine pkk_sound TTok mix hF 14 (hs := [.t true, .y ((fun x => PV.agg [.v (.int .i64 (x 0)), .v (.int .i64 (x 1)), .v (.int .i64 (x 2))]) v_y402), .c, .c, .n n]) (ts := []) (s := [9]) (l := [1, 6, 8, 9, 10, 15, 16]) (by kernel_rfl) (by kernel_rfl) (.cons (dt h465) (.cons (getI_ob (f := (fun x => PV.agg [.v (.int .i64 (x 0)), .v (.int .i64 (x 1)), .v (.int .i64 (x 2))])) h466) (.cons (show 0 + 3 ≤ 3 by decide) (.cons (show (0 : Int) ≤ 2 ∧ (2 : Int) < 3 by decide) .nil)))) (G_ringref5_BoxTo_L1_ok hF (.b 2 :: .b 1 :: .s (cR (cR (cR (cP (cB (cR (cL (cR (bodyOf Try.f33))))))))) :: .l k (cP (cB (cR (cL (cR (bodyOf Try.f33)))))) :: ks) n v_n400 v_l399 v_x401 v_y402 n 0 _ h472 ?_)
      cases v_o405 with
      | x0 v_z406 =>
        try dsimp only at h
        cases h
        exact pkk_sound TTok mix hF 4 (hs := []) (ts := []) (s := []) (l := [4]) (by kernel_rfl) (by kernel_rfl) .nil q
      | x1  =>
        try dsimp only at h
        exact pkk_sound TTok mix hF 3 (hs := []) (ts := []) (s := []) (l := [1, 8, 9, 10]) (by kernel_rfl) (by kernel_rfl) .nil (G_ringref5_BoxTo_L2_ok hF ks n v_n400 v_l399 k (wi .i64 (v_x401 + 1)) _ h q)
    · rw [if_neg h465] at h
      cases h
      exact pkk_sound TTok mix hF 8 (hs := [.t false]) (ts := []) (s := []) (l := []) (by kernel_rfl) (by kernel_rfl) (.cons (df h465) .nil) q
/- ringhall/ringref5.BoxTo -/
def G_ringref5_BoxTo (n : Nat) (v_l399 : (List (Fin 3 → Int))) (v_n400 : Int) : Option (Int) :=
  (G_ringref5_BoxTo_L2 n v_n400 v_l399 n 0).bind fun v_o408 => match v_o408 with
  | .x0 v_z409 =>
    some v_z409
  | .x1  =>
    some (-1)
theorem G_ringref5_BoxTo_ok (n : Nat) (v_l399 : (List (Fin 3 → Int))) (v_n400 : Int) (r : Int) (h : G_ringref5_BoxTo n v_l399 v_n400 = some r) : Ret Try.prog 33 [(eL (fun x => PV.agg [.v (.int .i64 (x 0)), .v (.int .i64 (x 1)), .v (.int .i64 (x 2))])) v_l399, (eI .i64) v_n400] ((eI .i64) r) := by
  refine ret_run (n := 31) (fn := Try.f33) (c := bodyOf Try.f33) (by kernel_rfl) (by kernel_rfl) (by kernel_rfl) (by kernel_rfl) ?_
  have hF : KC 31 (FinR Try.prog Try.f33 ((eI .i64) r)) := FinR.kc' (by kernel_rfl)
  unfold G_ringref5_BoxTo at h
  obtain ⟨v_o408, h473, h⟩ := bind_some h
  refine pkk_sound TTok mix hF 7 (hs := [.u (.d (.v (.int .i64 (v_l399.length : Int)))), .n n]) (ts := []) (s := []) (l := [1, 8, 9, 10]) (by kernel_rfl) (by kernel_rfl) (.cons (len_ob (f := (fun x => PV.agg [.v (.int .i64 (x 0)), .v (.int .i64 (x 1)), .v (.int .i64 (x 2))])) (l := v_l399)) .nil) (G_ringref5_BoxTo_L2_ok hF (.b 0 :: .s (cR (cR (bodyOf Try.f33))) :: []) n v_n400 v_l399 n 0 _ h473 ?_)
  cases v_o408 with
  | x0 v_z409 =>
    try dsimp only at h
    obtain rfl := Option.some.inj h
    exact pend_sound TTok mix 2 (hs := []) (by kernel_rfl) (by kernel_rfl) (by kernel_rfl) .nil
  | x1  =>
    try dsimp only at h
    obtain rfl := Option.some.inj h
    exact pend_sound TTok mix 4 (hs := []) (by kernel_rfl) (by kernel_rfl) (by kernel_rfl) .nil
inductive G_ringref5_CredErr_C1_R where
  | x0 (v_x442 : Bool)
def G_ringref5_CredErr_C1_ex : G_ringref5_CredErr_C1_R → Ex
  | .x0 _ => .normal
def G_ringref5_CredErr_C1_st (v_c441 : S_api_Cred) : G_ringref5_CredErr_C1_R → PS
  | .x0 v_x442 => ⟨[dd, .ref 0 0, dd, dd, dd, dd, dd, dd, dd, dd, dd, dd, dd, dd, dd, dd, dd, dd, dd, .d (.v (.bool v_x442)), dd, dd, dd, dd, dd, dd, dd, dd, dd, dd, dd, dd, dd, dd, dd, dd, dd, dd, dd, dd, dd, dd, dd, dd, dd, dd, dd, dd, dd, dd, dd, dd, dd, dd, dd, dd, dd, dd, dd, dd, dd, dd, dd, dd, dd], [.box [.d (.v (.int .i64 v_c441.fUser)), .d (.v (.int .i64 v_c441.fGroup)), .d (.sl (v_c441.fMore.map (eI .i64))), .d (.v (.int .i64 v_c441.fCaps)), .d (.v (.int .i64 v_c441.fLevel)), .d (.v (.int .i64 v_c441.fKind))]]⟩
def G_ringref5_CredErr_C1_hd (v_c441 : S_api_Cred)  : PS := ⟨[dd, .ref 0 0, dd, dd, dd, dd, dd, dd, dd, dd, dd, dd, dd, dd, dd, dd, dd, dd, dd, dd, dd, dd, dd, dd, dd, dd, dd, dd, dd, dd, dd, dd, dd, dd, dd, dd, dd, dd, dd, dd, dd, dd, dd, dd, dd, dd, dd, dd, dd, dd, dd, dd, dd, dd, dd, dd, dd, dd, dd, dd, dd, dd, dd, dd, dd], [.box [.d (.v (.int .i64 v_c441.fUser)), .d (.v (.int .i64 v_c441.fGroup)), .d (.sl (v_c441.fMore.map (eI .i64))), .d (.v (.int .i64 v_c441.fCaps)), .d (.v (.int .i64 v_c441.fLevel)), .d (.v (.int .i64 v_c441.fKind))]]⟩
def G_ringref5_CredErr_C1 (n : Nat) (v_c441 : S_api_Cred) : Option G_ringref5_CredErr_C1_R :=
  if (minI v_c441.fUser v_c441.fGroup) < 0 then
   some (.x0 true)
  else
   some (.x0 (decide ((maxI v_c441.fUser v_c441.fGroup) > 99)))
theorem G_ringref5_CredErr_C1_ok {Fi : Ex → PS → Prop} (hF : KC 65 Fi) (ks : List Fr) (n : Nat) (v_c441 : S_api_Cred)  (o : G_ringref5_CredErr_C1_R) (h : G_ringref5_CredErr_C1 n v_c441 = some o) (q : RunE Try.prog 65 Fi ks (G_ringref5_CredErr_C1_ex o) (G_ringref5_CredErr_C1_st v_c441 o)) : RunE Try.prog 65 Fi (.s (cL (cL (cR (bodyOf Try.f18)))) :: ks) .normal (G_ringref5_CredErr_C1_hd v_c441) := by
  unfold G_ringref5_CredErr_C1 at h
  by_cases h509 : (minI v_c441.fUser v_c441.fGroup) < 0
  · rw [if_pos h509] at h
    cases h
    exact pkk_sound TTok mix hF 1 (hs := [.c, .c, .t true, .c, .c, .c, .c, .c]) (ts := []) (s := [0]) (l := [1, 19]) (by kernel_rfl) (by kernel_rfl) (.cons (dt h509) .nil) q
  · rw [if_neg h509] at h
    cases h
    exact pkk_sound TTok mix hF 1 (hs := [.c, .c, .t false, .c, .c, .c, .c, .c, .c, .c]) (ts := []) (s := [0]) (l := [1, 19]) (by kernel_rfl) (by kernel_rfl) (.cons (df h509) .nil) q
inductive G_ringref5_CredErr_L2_R where
  | x0 (v_x450 : Int)
  | x1 
def G_ringref5_CredErr_L2_ex : G_ringref5_CredErr_L2_R → Ex
  | .x0 _ => .ret
  | .x1  => .exit 0
def G_ringref5_CredErr_L2_st (v_c441 : S_api_Cred) : G_ringref5_CredErr_L2_R → PS
  | .x0 v_x450 => ⟨[dd, dd, .d (.v (.int .i64 v_x450)), dd, dd, dd, dd, dd, dd, dd, dd, dd, dd, dd, dd, dd, dd, dd, dd, dd, dd, dd, dd, dd, dd, dd, dd, dd, dd, dd, dd, dd, dd, dd, dd, dd, dd, dd, dd, dd, dd, dd, dd, dd, dd, dd, dd, dd, dd, dd, dd, dd, dd, dd, dd, dd, dd, dd, dd, dd, dd, dd, dd, dd, dd], []⟩
  | .x1  => ⟨[dd, .ref 0 0, dd, dd, dd, dd, dd, dd, dd, dd, dd, dd, dd, dd, dd, dd, dd, dd, dd, dd, dd, dd, dd, dd, dd, dd, dd, dd, dd, dd, dd, dd, dd, dd, dd, dd, dd, dd, dd, dd, dd, dd, dd, dd, dd, dd, dd, dd, dd, dd, dd, dd, dd, dd, dd, dd, dd, dd, dd, dd, dd, dd, dd, dd, dd], [.box [.d (.v (.int .i64 v_c441.fUser)), .d (.v (.int .i64 v_c441.fGroup)), .d (.sl (v_c441.fMore.map (eI .i64))), .d (.v (.int .i64 v_c441.fCaps)), .d (.v (.int .i64 v_c441.fLevel)), .d (.v (.int .i64 v_c441.fKind))]]⟩
def G_ringref5_CredErr_L2_hd (v_c441 : S_api_Cred) (v_last446 : Int) (v_x447 : Int) : PS := ⟨[dd, .ref 0 0, dd, .d (.v (.int .i64 v_last446)), dd, dd, dd, dd, dd, dd, dd, dd, dd, dd, dd, dd, dd, dd, dd, dd, dd, dd, dd, dd, dd, .d (.sl (v_c441.fMore.map (eI .i64))), .d (.v (.int .i64 (v_c441.fMore.length : Int))), .d (.v (.int .i64 v_x447)), dd, dd, dd, dd, dd, dd, dd, dd, dd, dd, dd, dd, dd, dd, dd, dd, dd, dd, dd, dd, dd, dd, dd, dd, dd, dd, dd, dd, dd, dd, dd, dd, dd, dd, dd, dd, dd], [.box [.d (.v (.int .i64 v_c441.fUser)), .d (.v (.int .i64 v_c441.fGroup)), .d (.sl (v_c441.fMore.map (eI .i64))), .d (.v (.int .i64 v_c441.fCaps)), .d (.v (.int .i64 v_c441.fLevel)), .d (.v (.int .i64 v_c441.fKind))]]⟩
def G_ringref5_CredErr_L2 (n : Nat) (v_c441 : S_api_Cred) : Nat → Int → Int → Option G_ringref5_CredErr_L2_R
  | 0, _, _ => none
  | k + 1, v_last446, v_x447 =>
    if v_x447 < (v_c441.fMore.length : Int) then
     (getI v_c441.fMore v_x447).bind fun (v_y449 : Int) =>
     if v_y449 < 0 then
      some (.x0 1)
     else
      if v_y449 > 99 then
       some (.x0 1)
      else
       if v_y449 ≤ v_last446 then
        some (.x0 3)
       else
        G_ringref5_CredErr_L2 n v_c441 k v_y449 (wi .i64 (v_x447 + 1))
    else
     some (.x1 )
theorem G_ringref5_CredErr_L2_ok {Fi : Ex → PS → Prop} (hF : KC 65 Fi) (ks : List Fr) (n : Nat) (v_c441 : S_api_Cred)  : ∀ (k : Nat) (v_last446 : Int) (v_x447 : Int) (o : G_ringref5_CredErr_L2_R), G_ringref5_CredErr_L2 n v_c441 k v_last446 v_x447 = some o → RunE Try.prog 65 Fi ks (G_ringref5_CredErr_L2_ex o) (G_ringref5_CredErr_L2_st v_c441 o) → RunE Try.prog 65 Fi (.l k (cP (cB (cR (cL (cR (cR (cR (cR (bodyOf Try.f18))))))))) :: ks) .normal (G_ringref5_CredErr_L2_hd v_c441 v_last446 v_x447)
  | 0, v_last446, v_x447, o, h, q => by rw [G_ringref5_CredErr_L2] at h; cases h
  | k + 1, v_last446, v_x447, o, h, q => by
    rw [G_ringref5_CredErr_L2] at h
    by_cases h513 : v_x447 < (v_c441.fMore.length : Int)
    · rw [if_pos h513] at h
      obtain ⟨v_y449, h518, h⟩ := bind_some h
      by_cases h519 : v_y449 < 0
      · rw [if_pos h519] at h
        cases h
        exact pkk_sound TTok mix hF 21 (hs := [.t true, .y ((eI .i64) v_y449), .c, .t true, .c, .c]) (ts := []) (s := []) (l := [2]) (by kernel_rfl) (by kernel_rfl) (.cons (dt h513) (.cons (getI_ob (f := (eI .i64)) h518) (.cons (dt h519) .nil))) q
      · rw [if_neg h519] at h
        by_cases h520 : v_y449 > 99
        · rw [if_pos h520] at h
          cases h
          exact pkk_sound TTok mix hF 21 (hs := [.t true, .y ((eI .i64) v_y449), .c, .t false, .c, .t true]) (ts := []) (s := []) (l := [2]) (by kernel_rfl) (by kernel_rfl) (.cons (dt h513) (.cons (getI_ob (f := (eI .i64)) h518) (.cons (df h519) (.cons (dt h520) .nil)))) q
        · rw [if_neg h520] at h
          by_cases h521 : v_y449 ≤ v_last446
          · rw [if_pos h521] at h
            cases h
            exact pkk_sound TTok mix hF 26 (hs := [.t true, .y ((eI .i64) v_y449), .c, .t false, .c, .t false, .t true]) (ts := []) (s := []) (l := [2]) (by kernel_rfl) (by kernel_rfl) (.cons (dt h513) (.cons (getI_ob (f := (eI .i64)) h518) (.cons (df h519) (.cons (df h520) (.cons (dt h521) .nil))))) q
          · rw [if_neg h521] at h
            exact pkk_sound TTok mix hF 23 (hs := [.t true, .y ((eI .i64) v_y449), .c, .t false, .c, .t false, .t false]) (ts := []) (s := [0]) (l := [1, 3, 25, 26, 27]) (by kernel_rfl) (by kernel_rfl) (.cons (dt h513) (.cons (getI_ob (f := (eI .i64)) h518) (.cons (df h519) (.cons (df h520) (.cons (df h521) .nil))))) (G_ringref5_CredErr_L2_ok hF ks n v_c441 k v_y449 (wi .i64 (v_x447 + 1)) _ h q)
    · rw [if_neg h513] at h
      cases h
      exact pkk_sound TTok mix hF 8 (hs := [.t false]) (ts := []) (s := [0]) (l := [1]) (by kernel_rfl) (by kernel_rfl) (.cons (df h513) .nil) q
inductive G_ringref5_CredErr_C3_R where
  | x0 (v_x455 : Bool)
def G_ringref5_CredErr_C3_ex : G_ringref5_CredErr_C3_R → Ex
  | .x0 _ => .normal
def G_ringref5_CredErr_C3_st (v_c441 : S_api_Cred) : G_ringref5_CredErr_C3_R → PS
  | .x0 v_x455 => ⟨[dd, dd, dd, dd, dd, dd, dd, dd, dd, dd, dd, dd, dd, dd, dd, dd, dd, dd, dd, dd, dd, dd, dd, dd, dd, dd, dd, dd, dd, dd, dd, dd, dd, dd, dd, dd, dd, dd, dd, dd, dd, dd, dd, dd, dd, dd, dd, dd, dd, dd, dd, dd, dd, dd, dd, dd, dd, dd, dd, dd, dd, dd, dd, dd, .d (.v (.bool v_x455))], []⟩
def G_ringref5_CredErr_C3_hd (v_c441 : S_api_Cred)  : PS := ⟨[dd, .ref 0 0, dd, dd, dd, dd, dd, dd, dd, dd, dd, dd, dd, dd, dd, dd, dd, dd, dd, dd, dd, dd, dd, dd, dd, dd, dd, dd, dd, dd, dd, dd, dd, dd, dd, dd, dd, dd, dd, dd, dd, dd, dd, dd, dd, dd, dd, dd, dd, dd, dd, dd, dd, dd, dd, dd, dd, dd, dd, dd, dd, dd, dd, dd, dd], [.box [.d (.v (.int .i64 v_c441.fUser)), .d (.v (.int .i64 v_c441.fGroup)), .d (.sl (v_c441.fMore.map (eI .i64))), .d (.v (.int .i64 v_c441.fCaps)), .d (.v (.int .i64 v_c441.fLevel)), .d (.v (.int .i64 v_c441.fKind))]]⟩
def G_ringref5_CredErr_C3 (n : Nat) (v_c441 : S_api_Cred) : Option G_ringref5_CredErr_C3_R :=
  if (minI (minI v_c441.fCaps v_c441.fLevel) v_c441.fKind) < 0 then
   some (.x0 true)
  else
   if v_c441.fCaps > 127 then
    some (.x0 true)
   else
    if v_c441.fLevel > 7 then
     some (.x0 true)
    else
     some (.x0 (decide (v_c441.fKind > 255)))
theorem G_ringref5_CredErr_C3_ok {Fi : Ex → PS → Prop} (hF : KC 65 Fi) (ks : List Fr) (n : Nat) (v_c441 : S_api_Cred)  (o : G_ringref5_CredErr_C3_R) (h : G_ringref5_CredErr_C3 n v_c441 = some o) (q : RunE Try.prog 65 Fi ks (G_ringref5_CredErr_C3_ex o) (G_ringref5_CredErr_C3_st v_c441 o)) : RunE Try.prog 65 Fi (.s (cL (cL (cR (cR (cR (cR (cR (bodyOf Try.f18)))))))) :: ks) .normal (G_ringref5_CredErr_C3_hd v_c441) := by
  unfold G_ringref5_CredErr_C3 at h
  by_cases h526 : (minI (minI v_c441.fCaps v_c441.fLevel) v_c441.fKind) < 0
  · rw [if_pos h526] at h
    cases h
    exact pkk_sound TTok mix hF 1 (hs := [.c, .c, .c, .e 19 [] (.d (.v (.int .i64 (minI (minI v_c441.fCaps v_c441.fLevel) v_c441.fKind)))) [], .t true, .c, .c, .c, .c, .c, .c, .c, .c]) (ts := []) (s := []) (l := [64]) (by kernel_rfl) (by kernel_rfl) (.cons (xmin3 (P := Try.prog) (T := TT) (x := (.tmp 43)) (y := (.tmp 45)) (z := (.tmp 47)) (t1 := 3) (t2 := 3) (t3 := 3) (k := .i64) (a := v_c441.fCaps) (b := v_c441.fLevel) (c := v_c441.fKind)) (.cons (dt h526) .nil)) q
  · rw [if_neg h526] at h
    by_cases h527 : v_c441.fCaps > 127
    · rw [if_pos h527] at h
      cases h
      exact pkk_sound TTok mix hF 1 (hs := [.c, .c, .c, .e 19 [] (.d (.v (.int .i64 (minI (minI v_c441.fCaps v_c441.fLevel) v_c441.fKind)))) [], .t false, .c, .c, .c, .t true, .c, .c, .c, .c, .c]) (ts := []) (s := []) (l := [64]) (by kernel_rfl) (by kernel_rfl) (.cons (xmin3 (P := Try.prog) (T := TT) (x := (.tmp 43)) (y := (.tmp 45)) (z := (.tmp 47)) (t1 := 3) (t2 := 3) (t3 := 3) (k := .i64) (a := v_c441.fCaps) (b := v_c441.fLevel) (c := v_c441.fKind)) (.cons (df h526) (.cons (dt h527) .nil))) q
    · rw [if_neg h527] at h
      by_cases h528 : v_c441.fLevel > 7
      · rw [if_pos h528] at h
        cases h
        exact pkk_sound TTok mix hF 1 (hs := [.c, .c, .c, .e 19 [] (.d (.v (.int .i64 (minI (minI v_c441.fCaps v_c441.fLevel) v_c441.fKind)))) [], .t false, .c, .c, .c, .t false, .c, .c, .c, .t true, .c, .c]) (ts := []) (s := []) (l := [64]) (by kernel_rfl) (by kernel_rfl) (.cons (xmin3 (P := Try.prog) (T := TT) (x := (.tmp 43)) (y := (.tmp 45)) (z := (.tmp 47)) (t1 := 3) (t2 := 3) (t3 := 3) (k := .i64) (a := v_c441.fCaps) (b := v_c441.fLevel) (c := v_c441.fKind)) (.cons (df h526) (.cons (df h527) (.cons (dt h528) .nil)))) q
      · rw [if_neg h528] at h
        cases h
        exact pkk_sound TTok mix hF 1 (hs := [.c, .c, .c, .e 19 [] (.d (.v (.int .i64 (minI (minI v_c441.fCaps v_c441.fLevel) v_c441.fKind)))) [], .t false, .c, .c, .c, .t false, .c, .c, .c, .t false, .c, .c, .c]) (ts := []) (s := []) (l := [64]) (by kernel_rfl) (by kernel_rfl) (.cons (xmin3 (P := Try.prog) (T := TT) (x := (.tmp 43)) (y := (.tmp 45)) (z := (.tmp 47)) (t1 := 3) (t2 := 3) (t3 := 3) (k := .i64) (a := v_c441.fCaps) (b := v_c441.fLevel) (c := v_c441.fKind)) (.cons (df h526) (.cons (df h527) (.cons (df h528) .nil)))) q
/- ringhall/ringref5.CredErr -/
def G_ringref5_CredErr (n : Nat) (v_c441 : S_api_Cred) : Option (Int) :=
  (G_ringref5_CredErr_C1 n v_c441).bind fun v_o444 => match v_o444 with
  | .x0 v_z445 =>
    if v_z445 = true then
     some 1
    else
     if (v_c441.fMore.length : Int) > 4 then
      some 2
     else
      (G_ringref5_CredErr_L2 n v_c441 n (-1) 0).bind fun v_o453 => match v_o453 with
      | .x0 v_z454 =>
        some v_z454
      | .x1  =>
        (G_ringref5_CredErr_C3 n v_c441).bind fun v_o459 => match v_o459 with
        | .x0 v_z460 =>
          if v_z460 = true then
           some 1
          else
           some 0
theorem G_ringref5_CredErr_ok (n : Nat) (v_c441 : S_api_Cred) (r : Int) (h : G_ringref5_CredErr n v_c441 = some r) : Ret Try.prog 18 [eS_api_Cred v_c441] ((eI .i64) r) := by
  refine ret_run (n := 65) (fn := Try.f18) (c := bodyOf Try.f18) (by kernel_rfl) (by kernel_rfl) (by kernel_rfl) (by kernel_rfl) ?_
  have hF : KC 65 (FinR Try.prog Try.f18 ((eI .i64) r)) := FinR.kc' (by kernel_rfl)
  unfold G_ringref5_CredErr at h
  obtain ⟨v_o444, h510, h⟩ := bind_some h
  refine pkk_sound TTok mix hF 4 (hs := []) (ts := []) (s := [0]) (l := [1]) (by kernel_rfl) (by kernel_rfl) .nil (G_ringref5_CredErr_C1_ok hF (.s (cR (cL (cR (bodyOf Try.f18)))) :: .s (cR (cR (bodyOf Try.f18))) :: []) n v_c441 _ h510 ?_)
  cases v_o444 with
  | x0 v_z445 =>
    try dsimp only at h
    by_cases h511 : v_z445 = true
    · rw [if_pos h511] at h
      obtain rfl := Option.some.inj h
      exact pend_sound TTok mix 5 (hs := [.t true]) (by kernel_rfl) (by kernel_rfl) (by kernel_rfl) (.cons h511 .nil)
    · rw [if_neg h511] at h
      by_cases h512 : (v_c441.fMore.length : Int) > 4
      · rw [if_pos h512] at h
        obtain rfl := Option.some.inj h
        exact pend_sound TTok mix 10 (hs := [.t false, .c, .u (.d (.v (.int .i64 (v_c441.fMore.length : Int)))), .t true]) (by kernel_rfl) (by kernel_rfl) (by kernel_rfl) (.cons (vf h511) (.cons (len_ob (f := (eI .i64)) (l := v_c441.fMore)) (.cons (dt h512) .nil)))
      · rw [if_neg h512] at h
        obtain ⟨v_o453, h522, h⟩ := bind_some h
        refine pkk_sound TTok mix hF 14 (hs := [.t false, .c, .u (.d (.v (.int .i64 (v_c441.fMore.length : Int)))), .t false, .c, .u (.d (.v (.int .i64 (v_c441.fMore.length : Int)))), .n n]) (ts := []) (s := [0]) (l := [1, 3, 25, 26, 27]) (by kernel_rfl) (by kernel_rfl) (.cons (vf h511) (.cons (len_ob (f := (eI .i64)) (l := v_c441.fMore)) (.cons (df h512) (.cons (len_ob (f := (eI .i64)) (l := v_c441.fMore)) .nil)))) (G_ringref5_CredErr_L2_ok hF (.b 0 :: .s (cR (cR (cR (cR (cR (bodyOf Try.f18)))))) :: []) n v_c441 n (-1) 0 _ h522 ?_)
        cases v_o453 with
        | x0 v_z454 =>
          try dsimp only at h
          obtain rfl := Option.some.inj h
          exact pend_sound TTok mix 2 (hs := []) (by kernel_rfl) (by kernel_rfl) (by kernel_rfl) .nil
        | x1  =>
          try dsimp only at h
          obtain ⟨v_o459, h529, h⟩ := bind_some h
          refine pkk_sound TTok mix hF 3 (hs := []) (ts := []) (s := [0]) (l := [1]) (by kernel_rfl) (by kernel_rfl) .nil (G_ringref5_CredErr_C3_ok hF (.s (cR (cL (cR (cR (cR (cR (cR (bodyOf Try.f18)))))))) :: .s (cR (cR (cR (cR (cR (cR (bodyOf Try.f18))))))) :: []) n v_c441 _ h529 ?_)
          cases v_o459 with
          | x0 v_z460 =>
            try dsimp only at h
            by_cases h530 : v_z460 = true
            · rw [if_pos h530] at h
              obtain rfl := Option.some.inj h
              exact pend_sound TTok mix 5 (hs := [.t true]) (by kernel_rfl) (by kernel_rfl) (by kernel_rfl) (.cons h530 .nil)
            · rw [if_neg h530] at h
              obtain rfl := Option.some.inj h
              exact pend_sound TTok mix 5 (hs := [.t false]) (by kernel_rfl) (by kernel_rfl) (by kernel_rfl) (.cons (vf h530) .nil)
inductive G_ringlaw5_BoxSays_C1_R where
  | x0 (v_x382 : Bool)
def G_ringlaw5_BoxSays_C1_ex : G_ringlaw5_BoxSays_C1_R → Ex
  | .x0 _ => .normal
def G_ringlaw5_BoxSays_C1_st (v_r105 : (Int × Int)) (v_r117 : (Int × Int)) (v_r245 : (S_api_Cred × Int)) (v_r346 : (Int)) : G_ringlaw5_BoxSays_C1_R → PS
  | .x0 v_x382 => ⟨[dd, dd, dd, dd, dd, dd, .d (.v (.bool v_x382)), dd, dd, dd, dd, dd, dd, dd, dd, dd, dd, dd, dd, dd, dd, dd, dd, dd, dd, dd, dd, dd, dd, dd, dd, dd, dd, dd, dd, dd, dd, dd, dd, dd, dd, dd, dd, dd, dd, dd, dd, dd, dd, dd, dd, dd, dd, dd, dd, dd, dd, dd, dd, dd, dd, dd, dd, dd, dd, dd, dd, dd, dd, dd, dd, dd, dd, dd, dd, dd, dd, dd, dd, dd, dd, dd, dd, dd, dd, dd, dd, dd, dd, dd, dd, dd, dd, dd, dd, dd, dd, dd, dd, dd, dd, dd, dd, dd, dd, dd, dd, dd, dd, dd, dd, dd, dd, dd, dd, dd, dd, dd, dd, dd, dd, dd, dd, dd, dd, dd, dd, dd, dd, dd, dd, dd, dd, dd, dd, dd, dd, dd, dd, dd, dd, dd, dd, dd, dd, dd, dd, dd, dd, dd, dd, dd, dd, dd, dd, dd, dd, dd, dd, dd, dd, dd, dd, dd, dd, dd, dd, dd, dd, dd, dd, dd, dd, dd, dd, dd, dd, dd, dd, dd, dd, dd, dd, dd, dd, dd, dd, dd, dd, dd, dd, dd, dd, dd, dd, dd, dd, dd, dd, dd, dd, dd, dd, dd, dd, dd, dd, dd, dd, dd, dd, dd, dd, dd, dd, dd, dd, dd, dd, dd, dd, dd, dd, dd], []⟩
def G_ringlaw5_BoxSays_C1_hd (v_r105 : (Int × Int)) (v_r117 : (Int × Int)) (v_r245 : (S_api_Cred × Int)) (v_r346 : (Int))  : PS := ⟨[dd, dd, dd, dd, dd, dd, dd, .d (.v (.int .i64 v_r105.1)), .d (.v (.int .i64 v_r105.2)), .d (.v (.int .i64 v_r117.1)), .d (.v (.int .i64 v_r117.2)), .ref 0 0, .d (.v (.int .i64 v_r245.2)), dd, .d (.v (.int .i64 v_r346)), dd, dd, dd, dd, dd, dd, dd, dd, dd, dd, dd, dd, dd, dd, dd, dd, dd, dd, dd, dd, dd, dd, dd, dd, dd, dd, dd, dd, dd, dd, dd, dd, dd, dd, dd, dd, dd, dd, dd, dd, dd, dd, dd, dd, dd, dd, dd, dd, dd, dd, dd, dd, dd, dd, dd, dd, dd, dd, dd, dd, dd, dd, dd, dd, dd, dd, dd, dd, dd, dd, dd, dd, dd, dd, dd, dd, dd, dd, dd, dd, dd, dd, dd, dd, dd, dd, dd, dd, dd, dd, dd, dd, dd, dd, dd, dd, dd, dd, dd, dd, dd, dd, dd, dd, dd, dd, dd, dd, dd, dd, dd, dd, dd, dd, dd, dd, dd, dd, dd, dd, dd, dd, dd, dd, dd, dd, dd, dd, dd, dd, dd, dd, dd, dd, dd, dd, dd, dd, dd, dd, dd, dd, dd, dd, dd, dd, dd, dd, dd, dd, dd, dd, dd, dd, dd, dd, dd, dd, dd, dd, dd, dd, dd, dd, dd, dd, dd, dd, dd, dd, dd, dd, dd, dd, dd, dd, dd, dd, dd, dd, dd, dd, dd, dd, dd, dd, dd, dd, dd, dd, dd, dd, dd, dd, dd, dd, dd, dd, dd, dd, dd, dd, dd, dd, dd, dd, dd, dd, dd], [.box [.d (.v (.int .i64 v_r245.1.fUser)), .d (.v (.int .i64 v_r245.1.fGroup)), .d (.sl (v_r245.1.fMore.map (eI .i64))), .d (.v (.int .i64 v_r245.1.fCaps)), .d (.v (.int .i64 v_r245.1.fLevel)), .d (.v (.int .i64 v_r245.1.fKind))]]⟩
def G_ringlaw5_BoxSays_C1 (n : Nat) (v_r105 : (Int × Int)) (v_r117 : (Int × Int)) (v_r245 : (S_api_Cred × Int)) (v_r346 : (Int)) : Option G_ringlaw5_BoxSays_C1_R :=
  if v_r105.2 = v_r346 then
   if v_r117.2 = v_r346 then
    if v_r245.2 = v_r346 then
     if v_r105.1 = 0 then
      if v_r117.1 = 0 then
       (G_ringref5_SameCred n v_r245.1 (S_api_Cred.mk 0 0 ([] : (List Int)) 0 0 0)).bind fun (v_r381 : (Bool)) =>
       some (.x0 v_r381)
      else
       some (.x0 false)
     else
      some (.x0 false)
    else
     some (.x0 false)
   else
    some (.x0 false)
  else
   some (.x0 false)
theorem G_ringlaw5_BoxSays_C1_ok {Fi : Ex → PS → Prop} (hF : KC 224 Fi) (ks : List Fr) (n : Nat) (v_r105 : (Int × Int)) (v_r117 : (Int × Int)) (v_r245 : (S_api_Cred × Int)) (v_r346 : (Int))  (o : G_ringlaw5_BoxSays_C1_R) (h : G_ringlaw5_BoxSays_C1 n v_r105 v_r117 v_r245 v_r346 = some o) (q : RunE Try.prog 224 Fi ks (G_ringlaw5_BoxSays_C1_ex o) (G_ringlaw5_BoxSays_C1_st v_r105 v_r117 v_r245 v_r346 o)) : RunE Try.prog 224 Fi (.s (cL (cT (cR (cL (cR (cR (cR (cR (cR (cR (cR (cR (bodyOf Try.f4))))))))))))) :: ks) .normal (G_ringlaw5_BoxSays_C1_hd v_r105 v_r117 v_r245 v_r346) := by
  unfold G_ringlaw5_BoxSays_C1 at h
  by_cases h452 : v_r105.2 = v_r346
  · rw [if_pos h452] at h
    by_cases h453 : v_r117.2 = v_r346
    · rw [if_pos h453] at h
      by_cases h454 : v_r245.2 = v_r346
      · rw [if_pos h454] at h
        by_cases h455 : v_r105.1 = 0
        · rw [if_pos h455] at h
          by_cases h456 : v_r117.1 = 0
          · rw [if_pos h456] at h
            obtain ⟨v_r381, h457, h⟩ := bind_some h
            cases h
            exact pkk_sound TTok mix hF 1 (hs := [.t true, .c, .c, .t true, .c, .c, .t true, .c, .t true, .c, .t true, .c, .c, .c, .r (eB v_r381)]) (ts := []) (s := []) (l := [6]) (by kernel_rfl) (by kernel_rfl) (.cons (bt h452) (.cons (bt h453) (.cons (bt h454) (.cons (bt h455) (.cons (bt h456) (.cons (G_ringref5_SameCred_ok n v_r245.1 (S_api_Cred.mk 0 0 ([] : (List Int)) 0 0 0) _ h457) .nil)))))) q
          · rw [if_neg h456] at h
            cases h
            exact pkk_sound TTok mix hF 1 (hs := [.t true, .c, .c, .t true, .c, .c, .t true, .c, .t true, .c, .t false, .c, .c]) (ts := []) (s := []) (l := [6]) (by kernel_rfl) (by kernel_rfl) (.cons (bt h452) (.cons (bt h453) (.cons (bt h454) (.cons (bt h455) (.cons (bf h456) .nil))))) q
        · rw [if_neg h455] at h
          cases h
          exact pkk_sound TTok mix hF 1 (hs := [.t true, .c, .c, .t true, .c, .c, .t true, .c, .t false, .c, .c, .c, .c]) (ts := []) (s := []) (l := [6]) (by kernel_rfl) (by kernel_rfl) (.cons (bt h452) (.cons (bt h453) (.cons (bt h454) (.cons (bf h455) .nil)))) q
      · rw [if_neg h454] at h
        cases h
        exact pkk_sound TTok mix hF 1 (hs := [.t true, .c, .c, .t true, .c, .c, .t false, .c, .c, .c, .c, .c, .c]) (ts := []) (s := []) (l := [6]) (by kernel_rfl) (by kernel_rfl) (.cons (bt h452) (.cons (bt h453) (.cons (bf h454) .nil))) q
    · rw [if_neg h453] at h
      cases h
      exact pkk_sound TTok mix hF 1 (hs := [.t true, .c, .c, .t false, .c, .c, .c, .c, .c, .c, .c, .c, .c]) (ts := []) (s := []) (l := [6]) (by kernel_rfl) (by kernel_rfl) (.cons (bt h452) (.cons (bf h453) .nil)) q
  · rw [if_neg h452] at h
    cases h
    exact pkk_sound TTok mix hF 1 (hs := [.t false, .c, .c, .c, .c, .c, .c, .c, .c, .c, .c, .c, .c]) (ts := []) (s := []) (l := [6]) (by kernel_rfl) (by kernel_rfl) (.cons (bf h452) .nil) q
inductive G_ringlaw5_BoxSays_L2_R where
  | x0 (v_w396 : (List (Fin 3 → Int)))
def G_ringlaw5_BoxSays_L2_ex : G_ringlaw5_BoxSays_L2_R → Ex
  | .x0 _ => .exit 0
def G_ringlaw5_BoxSays_L2_st (v_n2 : Int) (v_r105 : (Int × Int)) (v_r117 : (Int × Int)) (v_r245 : (S_api_Cred × Int)) (v_r256 : ((List (Fin 3 → Int)))) (v_c3 : S_api_Cred) : G_ringlaw5_BoxSays_L2_R → PS
  | .x0 v_w396 => ⟨[dd, .d (.v (.int .i64 v_n2)), dd, dd, dd, .ref 0 0, dd, .d (.v (.int .i64 v_r105.1)), .d (.v (.int .i64 v_r105.2)), .d (.v (.int .i64 v_r117.1)), .d (.v (.int .i64 v_r117.2)), .ref 1 0, .d (.v (.int .i64 v_r245.2)), .d (.sl (v_r256.map (fun x => PV.agg [.v (.int .i64 (x 0)), .v (.int .i64 (x 1)), .v (.int .i64 (x 2))]))), dd, .srf 2, dd, dd, dd, dd, dd, dd, dd, dd, dd, dd, dd, dd, dd, dd, dd, dd, dd, dd, dd, dd, dd, dd, dd, dd, dd, dd, dd, dd, dd, dd, dd, dd, dd, dd, dd, dd, dd, dd, dd, dd, dd, dd, dd, dd, dd, dd, dd, dd, dd, dd, dd, dd, dd, dd, dd, dd, dd, dd, dd, dd, dd, dd, dd, dd, dd, dd, dd, dd, dd, dd, dd, dd, dd, dd, dd, dd, dd, dd, dd, dd, dd, dd, dd, dd, dd, dd, dd, dd, dd, dd, dd, dd, dd, dd, dd, dd, dd, dd, dd, dd, dd, dd, dd, dd, dd, dd, dd, dd, dd, dd, dd, dd, dd, dd, dd, dd, dd, dd, dd, dd, dd, dd, dd, dd, dd, dd, dd, dd, dd, dd, dd, dd, dd, dd, dd, dd, dd, dd, dd, dd, dd, dd, dd, dd, dd, dd, dd, dd, dd, dd, dd, dd, dd, dd, dd, dd, dd, dd, dd, dd, dd, dd, dd, dd, dd, dd, dd, dd, dd, dd, dd, dd, dd, dd, dd, dd, dd, dd, dd, dd, dd, dd, dd, dd, dd, dd, dd, dd, dd, dd, dd, dd, dd, dd, dd, dd, dd, dd, dd, dd, dd, dd, dd, dd, dd, dd, dd, dd], [.box [.d (.v (.int .i64 v_c3.fUser)), .d (.v (.int .i64 v_c3.fGroup)), .d (.sl (v_c3.fMore.map (eI .i64))), .d (.v (.int .i64 v_c3.fCaps)), .d (.v (.int .i64 v_c3.fLevel)), .d (.v (.int .i64 v_c3.fKind))], .box [.d (.v (.int .i64 v_r245.1.fUser)), .d (.v (.int .i64 v_r245.1.fGroup)), .d (.sl (v_r245.1.fMore.map (eI .i64))), .d (.v (.int .i64 v_r245.1.fCaps)), .d (.v (.int .i64 v_r245.1.fLevel)), .d (.v (.int .i64 v_r245.1.fKind))], .row 47 3 (v_w396.map (fun x => PV.agg [.v (.int .i64 (x 0)), .v (.int .i64 (x 1)), .v (.int .i64 (x 2))]))]⟩
def G_ringlaw5_BoxSays_L2_hd (v_n2 : Int) (v_r105 : (Int × Int)) (v_r117 : (Int × Int)) (v_r245 : (S_api_Cred × Int)) (v_r256 : ((List (Fin 3 → Int)))) (v_c3 : S_api_Cred) (v_x390 : Int) (v_w391 : (List (Fin 3 → Int))) : PS := ⟨[dd, .d (.v (.int .i64 v_n2)), dd, dd, dd, .ref 0 0, dd, .d (.v (.int .i64 v_r105.1)), .d (.v (.int .i64 v_r105.2)), .d (.v (.int .i64 v_r117.1)), .d (.v (.int .i64 v_r117.2)), .ref 1 0, .d (.v (.int .i64 v_r245.2)), .d (.sl (v_r256.map (fun x => PV.agg [.v (.int .i64 (x 0)), .v (.int .i64 (x 1)), .v (.int .i64 (x 2))]))), dd, .srf 2, dd, dd, dd, dd, dd, dd, dd, dd, dd, dd, dd, dd, dd, dd, dd, dd, dd, dd, dd, dd, dd, dd, dd, dd, dd, dd, dd, dd, dd, dd, dd, dd, dd, dd, dd, dd, dd, dd, dd, dd, dd, dd, dd, dd, dd, dd, dd, dd, dd, dd, dd, dd, dd, dd, dd, dd, dd, dd, dd, dd, dd, dd, dd, .d (.sl (v_r256.map (fun x => PV.agg [.v (.int .i64 (x 0)), .v (.int .i64 (x 1)), .v (.int .i64 (x 2))]))), .d (.v (.int .i64 (v_r256.length : Int))), .d (.v (.int .i64 v_x390)), dd, dd, dd, dd, dd, dd, dd, dd, dd, dd, dd, dd, dd, dd, dd, dd, dd, dd, dd, dd, dd, dd, dd, dd, dd, dd, dd, dd, dd, dd, dd, dd, dd, dd, dd, dd, dd, dd, dd, dd, dd, dd, dd, dd, dd, dd, dd, dd, dd, dd, dd, dd, dd, dd, dd, dd, dd, dd, dd, dd, dd, dd, dd, dd, dd, dd, dd, dd, dd, dd, dd, dd, dd, dd, dd, dd, dd, dd, dd, dd, dd, dd, dd, dd, dd, dd, dd, dd, dd, dd, dd, dd, dd, dd, dd, dd, dd, dd, dd, dd, dd, dd, dd, dd, dd, dd, dd, dd, dd, dd, dd, dd, dd, dd, dd, dd, dd, dd, dd, dd, dd, dd, dd, dd, dd, dd, dd, dd, dd, dd, dd, dd, dd, dd, dd, dd, dd, dd, dd, dd, dd, dd], [.box [.d (.v (.int .i64 v_c3.fUser)), .d (.v (.int .i64 v_c3.fGroup)), .d (.sl (v_c3.fMore.map (eI .i64))), .d (.v (.int .i64 v_c3.fCaps)), .d (.v (.int .i64 v_c3.fLevel)), .d (.v (.int .i64 v_c3.fKind))], .box [.d (.v (.int .i64 v_r245.1.fUser)), .d (.v (.int .i64 v_r245.1.fGroup)), .d (.sl (v_r245.1.fMore.map (eI .i64))), .d (.v (.int .i64 v_r245.1.fCaps)), .d (.v (.int .i64 v_r245.1.fLevel)), .d (.v (.int .i64 v_r245.1.fKind))], .row 47 3 (v_w391.map (fun x => PV.agg [.v (.int .i64 (x 0)), .v (.int .i64 (x 1)), .v (.int .i64 (x 2))]))]⟩
def G_ringlaw5_BoxSays_L2 (n : Nat) (v_n2 : Int) (v_r105 : (Int × Int)) (v_r117 : (Int × Int)) (v_r245 : (S_api_Cred × Int)) (v_r256 : ((List (Fin 3 → Int)))) (v_c3 : S_api_Cred) : Nat → Int → (List (Fin 3 → Int)) → Option G_ringlaw5_BoxSays_L2_R
  | 0, _, _ => none
  | k + 1, v_x390, v_w391 =>
    if v_x390 < (v_r256.length : Int) then
     (getI v_r256 v_x390).bind fun (v_y394 : (Fin 3 → Int)) =>
     (app 24 v_w391 ([(fun i : Fin 3 => [(v_y394 1), (v_y394 0), (v_y394 2)].get i)])).bind fun (v_a395 : (List (Fin 3 → Int))) =>
     G_ringlaw5_BoxSays_L2 n v_n2 v_r105 v_r117 v_r245 v_r256 v_c3 k (wi .i64 (v_x390 + 1)) v_a395
    else
     some (.x0 v_w391)
theorem G_ringlaw5_BoxSays_L2_ok {Fi : Ex → PS → Prop} (hF : KC 224 Fi) (ks : List Fr) (n : Nat) (v_n2 : Int) (v_r105 : (Int × Int)) (v_r117 : (Int × Int)) (v_r245 : (S_api_Cred × Int)) (v_r256 : ((List (Fin 3 → Int)))) (v_c3 : S_api_Cred)  : ∀ (k : Nat) (v_x390 : Int) (v_w391 : (List (Fin 3 → Int))) (o : G_ringlaw5_BoxSays_L2_R), G_ringlaw5_BoxSays_L2 n v_n2 v_r105 v_r117 v_r245 v_r256 v_c3 k v_x390 v_w391 = some o → RunE Try.prog 224 Fi ks (G_ringlaw5_BoxSays_L2_ex o) (G_ringlaw5_BoxSays_L2_st v_n2 v_r105 v_r117 v_r245 v_r256 v_c3 o) → RunE Try.prog 224 Fi (.l k (cP (cB (cR (cL (cR (cR (cR (cR (cR (cR (cR (cR (cR (cR (bodyOf Try.f4))))))))))))))) :: ks) .normal (G_ringlaw5_BoxSays_L2_hd v_n2 v_r105 v_r117 v_r245 v_r256 v_c3 v_x390 v_w391)
  | 0, v_x390, v_w391, o, h, q => by rw [G_ringlaw5_BoxSays_L2] at h; cases h
  | k + 1, v_x390, v_w391, o, h, q => by
    rw [G_ringlaw5_BoxSays_L2] at h
    by_cases h459 : v_x390 < (v_r256.length : Int)
    · rw [if_pos h459] at h
      obtain ⟨v_y394, h462, h⟩ := bind_some h
      obtain ⟨v_a395, h463, h⟩ := bind_some h
      exact pkk_sound TTok mix hF 13 (hs := [.t true, .y ((fun x => PV.agg [.v (.int .i64 (x 0)), .v (.int .i64 (x 1)), .v (.int .i64 (x 2))]) v_y394), .c, .c, .c, .c, .bd, .w (v_a395.map (fun x => PV.agg [.v (.int .i64 (x 0)), .v (.int .i64 (x 1)), .v (.int .i64 (x 2))]))]) (ts := []) (s := [0, 1, 45]) (l := [1, 5, 7, 8, 9, 10, 11, 12, 13, 15, 79, 80, 81]) (by kernel_rfl) (by kernel_rfl) (.cons (dt h459) (.cons (getI_ob (f := (fun x => PV.agg [.v (.int .i64 (x 0)), .v (.int .i64 (x 1)), .v (.int .i64 (x 2))])) h462) (.cons (show 0 + 3 ≤ 3 by decide) (.cons (show (0 : Int) ≤ 1 ∧ (1 : Int) < 3 by decide) (.cons (show (0 : Int) ≤ 0 ∧ (0 : Int) < 3 by decide) (.cons (show (0 : Int) ≤ 2 ∧ (2 : Int) < 3 by decide) (.cons (app_ob (f := (fun x => PV.agg [.v (.int .i64 (x 0)), .v (.int .i64 (x 1)), .v (.int .i64 (x 2))])) (s := 3) h463 (fun _ => rfl)).1 (.cons (app_ob (f := (fun x => PV.agg [.v (.int .i64 (x 0)), .v (.int .i64 (x 1)), .v (.int .i64 (x 2))])) (s := 3) h463 (fun _ => rfl)).2.1 (.cons (app_ob (f := (fun x => PV.agg [.v (.int .i64 (x 0)), .v (.int .i64 (x 1)), .v (.int .i64 (x 2))])) (s := 3) h463 (fun _ => rfl)).2.2.1 (.cons (app_ob (f := (fun x => PV.agg [.v (.int .i64 (x 0)), .v (.int .i64 (x 1)), .v (.int .i64 (x 2))])) (s := 3) h463 (fun _ => rfl)).2.2.2 .nil)))))))))) (G_ringlaw5_BoxSays_L2_ok hF ks n v_n2 v_r105 v_r117 v_r245 v_r256 v_c3 k (wi .i64 (v_x390 + 1)) v_a395 _ h q)
    · rw [if_neg h459] at h
      cases h
      exact pkk_sound TTok mix hF 8 (hs := [.t false]) (ts := []) (s := [0, 1, 2]) (l := [1, 5, 7, 8, 9, 10, 11, 12, 13, 15]) (by kernel_rfl) (by kernel_rfl) (.cons (df h459) .nil) q
inductive G_ringlaw5_BoxSays_C3_R where
  | x0 (v_x411 : Bool) (v_w412 : (List (Fin 3 → Int)))
def G_ringlaw5_BoxSays_C3_ex : G_ringlaw5_BoxSays_C3_R → Ex
  | .x0 _ _ => .normal
def G_ringlaw5_BoxSays_C3_st (v_n2 : Int) (v_r105 : (Int × Int)) (v_r117 : (Int × Int)) (v_r245 : (S_api_Cred × Int)) (v_r256 : ((List (Fin 3 → Int)))) (v_r410 : (Int)) (v_c3 : S_api_Cred) (v_z398 : (List (Fin 3 → Int))) : G_ringlaw5_BoxSays_C3_R → PS
  | .x0 v_x411 v_w412 => ⟨[dd, .d (.v (.int .i64 v_n2)), dd, dd, dd, .ref 0 0, dd, dd, dd, .d (.v (.int .i64 v_r117.1)), .d (.v (.int .i64 v_r117.2)), .ref 1 0, .d (.v (.int .i64 v_r245.2)), .d (.sl (v_r256.map (fun x => PV.agg [.v (.int .i64 (x 0)), .v (.int .i64 (x 1)), .v (.int .i64 (x 2))]))), dd, .srf 2, dd, dd, dd, dd, dd, dd, dd, dd, dd, dd, dd, dd, dd, dd, dd, dd, dd, dd, dd, dd, dd, dd, dd, dd, dd, dd, dd, dd, dd, dd, dd, dd, dd, dd, dd, dd, dd, dd, dd, dd, dd, dd, dd, dd, dd, dd, dd, dd, dd, dd, dd, dd, dd, dd, dd, dd, dd, dd, dd, dd, dd, dd, dd, dd, dd, dd, dd, dd, dd, dd, dd, dd, dd, dd, dd, dd, dd, dd, dd, dd, dd, dd, dd, dd, dd, dd, dd, dd, dd, dd, dd, dd, dd, dd, dd, dd, dd, dd, dd, dd, dd, dd, dd, dd, dd, .d (.v (.bool v_x411)), dd, dd, dd, dd, dd, dd, dd, dd, dd, dd, dd, dd, dd, dd, dd, dd, dd, dd, dd, dd, dd, dd, dd, dd, dd, dd, dd, dd, dd, dd, dd, dd, dd, dd, dd, dd, dd, dd, dd, dd, dd, dd, dd, dd, dd, dd, dd, dd, dd, dd, dd, dd, dd, dd, dd, dd, dd, dd, dd, dd, dd, dd, dd, dd, dd, dd, dd, dd, dd, dd, dd, dd, dd, dd, dd, dd, dd, dd, dd, dd, dd, dd, dd, dd, dd, dd, dd, dd, dd, dd, dd, dd, dd, dd, dd, dd, dd, dd, dd, dd, dd, dd], [.box [.d (.v (.int .i64 v_c3.fUser)), .d (.v (.int .i64 v_c3.fGroup)), .d (.sl (v_c3.fMore.map (eI .i64))), .d (.v (.int .i64 v_c3.fCaps)), .d (.v (.int .i64 v_c3.fLevel)), .d (.v (.int .i64 v_c3.fKind))], .box [.d (.v (.int .i64 v_r245.1.fUser)), .d (.v (.int .i64 v_r245.1.fGroup)), .d (.sl (v_r245.1.fMore.map (eI .i64))), .d (.v (.int .i64 v_r245.1.fCaps)), .d (.v (.int .i64 v_r245.1.fLevel)), .d (.v (.int .i64 v_r245.1.fKind))], .row 47 3 (v_w412.map (fun x => PV.agg [.v (.int .i64 (x 0)), .v (.int .i64 (x 1)), .v (.int .i64 (x 2))]))]⟩
def G_ringlaw5_BoxSays_C3_hd (v_n2 : Int) (v_r105 : (Int × Int)) (v_r117 : (Int × Int)) (v_r245 : (S_api_Cred × Int)) (v_r256 : ((List (Fin 3 → Int)))) (v_r410 : (Int)) (v_c3 : S_api_Cred) (v_z398 : (List (Fin 3 → Int)))  : PS := ⟨[dd, .d (.v (.int .i64 v_n2)), dd, dd, dd, .ref 0 0, dd, .d (.v (.int .i64 v_r105.1)), .d (.v (.int .i64 v_r105.2)), .d (.v (.int .i64 v_r117.1)), .d (.v (.int .i64 v_r117.2)), .ref 1 0, .d (.v (.int .i64 v_r245.2)), .d (.sl (v_r256.map (fun x => PV.agg [.v (.int .i64 (x 0)), .v (.int .i64 (x 1)), .v (.int .i64 (x 2))]))), dd, .srf 2, dd, dd, .d (.v (.int .i64 v_r410)), dd, dd, dd, dd, dd, dd, dd, dd, dd, dd, dd, dd, dd, dd, dd, dd, dd, dd, dd, dd, dd, dd, dd, dd, dd, dd, dd, dd, dd, dd, dd, dd, dd, dd, dd, dd, dd, dd, dd, dd, dd, dd, dd, dd, dd, dd, dd, dd, dd, dd, dd, dd, dd, dd, dd, dd, dd, dd, dd, dd, dd, dd, dd, dd, dd, dd, dd, dd, dd, dd, dd, dd, dd, dd, dd, dd, dd, dd, dd, dd, dd, dd, dd, dd, dd, dd, dd, dd, dd, dd, dd, dd, dd, dd, dd, dd, dd, dd, dd, dd, dd, dd, dd, dd, dd, dd, dd, dd, dd, dd, dd, dd, dd, dd, dd, dd, dd, dd, dd, dd, dd, dd, dd, dd, dd, dd, dd, dd, dd, dd, dd, dd, dd, dd, dd, dd, dd, dd, dd, dd, dd, dd, dd, dd, dd, dd, dd, dd, dd, dd, dd, dd, dd, dd, dd, dd, dd, dd, dd, dd, dd, dd, dd, dd, dd, dd, dd, dd, dd, dd, dd, dd, dd, dd, dd, dd, dd, dd, dd, dd, dd, dd, dd, dd, dd, dd, dd, dd, dd, dd, dd, dd, dd, dd, dd, dd, dd, dd, dd, dd, dd, dd, dd, dd, dd], [.box [.d (.v (.int .i64 v_c3.fUser)), .d (.v (.int .i64 v_c3.fGroup)), .d (.sl (v_c3.fMore.map (eI .i64))), .d (.v (.int .i64 v_c3.fCaps)), .d (.v (.int .i64 v_c3.fLevel)), .d (.v (.int .i64 v_c3.fKind))], .box [.d (.v (.int .i64 v_r245.1.fUser)), .d (.v (.int .i64 v_r245.1.fGroup)), .d (.sl (v_r245.1.fMore.map (eI .i64))), .d (.v (.int .i64 v_r245.1.fCaps)), .d (.v (.int .i64 v_r245.1.fLevel)), .d (.v (.int .i64 v_r245.1.fKind))], .row 47 3 (v_z398.map (fun x => PV.agg [.v (.int .i64 (x 0)), .v (.int .i64 (x 1)), .v (.int .i64 (x 2))]))]⟩
def G_ringlaw5_BoxSays_C3 (n : Nat) (v_n2 : Int) (v_r105 : (Int × Int)) (v_r117 : (Int × Int)) (v_r245 : (S_api_Cred × Int)) (v_r256 : ((List (Fin 3 → Int)))) (v_r410 : (Int)) (v_c3 : S_api_Cred) (v_z398 : (List (Fin 3 → Int))) : Option G_ringlaw5_BoxSays_C3_R :=
  if v_r410 < 0 then
   if v_r105.2 = 4 then
    if v_r105.1 = 0 then
     if v_r410 ≥ 0 then
      if v_r105.2 = 0 then
       some (.x0 (v_r105.1 != v_r410) v_z398)
      else
       some (.x0 true v_z398)
     else
      some (.x0 false v_z398)
    else
     some (.x0 true v_z398)
   else
    some (.x0 true v_z398)
  else
   if v_r410 ≥ 0 then
    if v_r105.2 = 0 then
     some (.x0 (v_r105.1 != v_r410) v_z398)
    else
     some (.x0 true v_z398)
   else
    some (.x0 false v_z398)
theorem G_ringlaw5_BoxSays_C3_ok {Fi : Ex → PS → Prop} (hF : KC 224 Fi) (ks : List Fr) (n : Nat) (v_n2 : Int) (v_r105 : (Int × Int)) (v_r117 : (Int × Int)) (v_r245 : (S_api_Cred × Int)) (v_r256 : ((List (Fin 3 → Int)))) (v_r410 : (Int)) (v_c3 : S_api_Cred) (v_z398 : (List (Fin 3 → Int)))  (o : G_ringlaw5_BoxSays_C3_R) (h : G_ringlaw5_BoxSays_C3 n v_n2 v_r105 v_r117 v_r245 v_r256 v_r410 v_c3 v_z398 = some o) (q : RunE Try.prog 224 Fi ks (G_ringlaw5_BoxSays_C3_ex o) (G_ringlaw5_BoxSays_C3_st v_n2 v_r105 v_r117 v_r245 v_r256 v_r410 v_c3 v_z398 o)) : RunE Try.prog 224 Fi (.s (cL (cR (cL (cR (cR (cR (cR (cR (cR (cR (cR (cR (cR (cR (bodyOf Try.f4))))))))))))))) :: ks) .normal (G_ringlaw5_BoxSays_C3_hd v_n2 v_r105 v_r117 v_r245 v_r256 v_r410 v_c3 v_z398) := by
  unfold G_ringlaw5_BoxSays_C3 at h
  by_cases h482 : v_r410 < 0
  · rw [if_pos h482] at h
    by_cases h483 : v_r105.2 = 4
    · rw [if_pos h483] at h
      by_cases h484 : v_r105.1 = 0
      · rw [if_pos h484] at h
        by_cases h485 : v_r410 ≥ 0
        · rw [if_pos h485] at h
          by_cases h486 : v_r105.2 = 0
          · rw [if_pos h486] at h
            cases h
            exact pkk_sound TTok mix hF 1 (hs := [.t true, .c, .c, .t false, .c, .c, .t false, .c, .c, .t true, .c, .c, .t false, .c, .c, .c, .c]) (ts := []) (s := [0, 1, 2]) (l := [1, 5, 9, 10, 11, 12, 13, 15, 121]) (by kernel_rfl) (by kernel_rfl) (.cons (dt h482) (.cons (nf h483) (.cons (nf h484) (.cons (dt h485) (.cons (nf h486) .nil))))) q
          · rw [if_neg h486] at h
            cases h
            exact pkk_sound TTok mix hF 1 (hs := [.t true, .c, .c, .t false, .c, .c, .t false, .c, .c, .t true, .c, .c, .t true, .c, .c, .c, .c]) (ts := []) (s := [0, 1, 2]) (l := [1, 5, 9, 10, 11, 12, 13, 15, 121]) (by kernel_rfl) (by kernel_rfl) (.cons (dt h482) (.cons (nf h483) (.cons (nf h484) (.cons (dt h485) (.cons (nt h486) .nil))))) q
        · rw [if_neg h485] at h
          cases h
          exact pkk_sound TTok mix hF 1 (hs := [.t true, .c, .c, .t false, .c, .c, .t false, .c, .c, .t false, .c, .c, .c, .c]) (ts := []) (s := [0, 1, 2]) (l := [1, 5, 9, 10, 11, 12, 13, 15, 121]) (by kernel_rfl) (by kernel_rfl) (.cons (dt h482) (.cons (nf h483) (.cons (nf h484) (.cons (df h485) .nil)))) q
      · rw [if_neg h484] at h
        cases h
        exact pkk_sound TTok mix hF 1 (hs := [.t true, .c, .c, .t false, .c, .c, .t true, .c, .c, .c]) (ts := []) (s := [0, 1, 2]) (l := [1, 5, 9, 10, 11, 12, 13, 15, 121]) (by kernel_rfl) (by kernel_rfl) (.cons (dt h482) (.cons (nf h483) (.cons (nt h484) .nil))) q
    · rw [if_neg h483] at h
      cases h
      exact pkk_sound TTok mix hF 1 (hs := [.t true, .c, .c, .t true, .c, .c, .c, .c, .c, .c]) (ts := []) (s := [0, 1, 2]) (l := [1, 5, 9, 10, 11, 12, 13, 15, 121]) (by kernel_rfl) (by kernel_rfl) (.cons (dt h482) (.cons (nt h483) .nil)) q
  · rw [if_neg h482] at h
    by_cases h487 : v_r410 ≥ 0
    · rw [if_pos h487] at h
      by_cases h488 : v_r105.2 = 0
      · rw [if_pos h488] at h
        cases h
        exact pkk_sound TTok mix hF 1 (hs := [.t false, .c, .c, .c, .c, .c, .c, .t true, .c, .c, .t false, .c, .c, .c, .c]) (ts := []) (s := [0, 1, 2]) (l := [1, 5, 9, 10, 11, 12, 13, 15, 121]) (by kernel_rfl) (by kernel_rfl) (.cons (df h482) (.cons (dt h487) (.cons (nf h488) .nil))) q
      · rw [if_neg h488] at h
        cases h
        exact pkk_sound TTok mix hF 1 (hs := [.t false, .c, .c, .c, .c, .c, .c, .t true, .c, .c, .t true, .c, .c, .c, .c]) (ts := []) (s := [0, 1, 2]) (l := [1, 5, 9, 10, 11, 12, 13, 15, 121]) (by kernel_rfl) (by kernel_rfl) (.cons (df h482) (.cons (dt h487) (.cons (nt h488) .nil))) q
    · rw [if_neg h487] at h
      cases h
      exact pkk_sound TTok mix hF 1 (hs := [.t false, .c, .c, .c, .c, .c, .c, .t false, .c, .c, .c, .c]) (ts := []) (s := [0, 1, 2]) (l := [1, 5, 9, 10, 11, 12, 13, 15, 121]) (by kernel_rfl) (by kernel_rfl) (.cons (df h482) (.cons (df h487) .nil)) q
inductive G_ringlaw5_BoxSays_C4_R where
  | x0 (v_x431 : Bool)
def G_ringlaw5_BoxSays_C4_ex : G_ringlaw5_BoxSays_C4_R → Ex
  | .x0 _ => .normal
def G_ringlaw5_BoxSays_C4_st (v_r117 : (Int × Int)) (v_r245 : (S_api_Cred × Int)) (v_r256 : ((List (Fin 3 → Int)))) (v_r430 : (Int)) (v_c3 : S_api_Cred) : G_ringlaw5_BoxSays_C4_R → PS
  | .x0 v_x431 => ⟨[dd, dd, dd, dd, dd, .ref 0 0, dd, dd, dd, dd, dd, .ref 1 0, .d (.v (.int .i64 v_r245.2)), .d (.sl (v_r256.map (fun x => PV.agg [.v (.int .i64 (x 0)), .v (.int .i64 (x 1)), .v (.int .i64 (x 2))]))), dd, dd, dd, dd, dd, dd, dd, dd, dd, dd, dd, dd, dd, dd, dd, dd, dd, dd, dd, dd, dd, dd, dd, dd, dd, dd, dd, dd, dd, dd, dd, dd, dd, dd, dd, dd, dd, dd, dd, dd, dd, dd, dd, dd, dd, dd, dd, dd, dd, dd, dd, dd, dd, dd, dd, dd, dd, dd, dd, dd, dd, dd, dd, dd, dd, dd, dd, dd, dd, dd, dd, dd, dd, dd, dd, dd, dd, dd, dd, dd, dd, dd, dd, dd, dd, dd, dd, dd, dd, dd, dd, dd, dd, dd, dd, dd, dd, dd, dd, dd, dd, dd, dd, dd, dd, dd, dd, dd, dd, dd, dd, dd, dd, dd, dd, dd, dd, dd, dd, dd, dd, dd, dd, dd, dd, dd, dd, dd, dd, dd, dd, dd, dd, .d (.v (.bool v_x431)), dd, dd, dd, dd, dd, dd, dd, dd, dd, dd, dd, dd, dd, dd, dd, dd, dd, dd, dd, dd, dd, dd, dd, dd, dd, dd, dd, dd, dd, dd, dd, dd, dd, dd, dd, dd, dd, dd, dd, dd, dd, dd, dd, dd, dd, dd, dd, dd, dd, dd, dd, dd, dd, dd, dd, dd, dd, dd, dd, dd, dd, dd, dd, dd, dd, dd, dd, dd, dd, dd, dd, dd, dd, dd, dd, dd], [.box [.d (.v (.int .i64 v_c3.fUser)), .d (.v (.int .i64 v_c3.fGroup)), .d (.sl (v_c3.fMore.map (eI .i64))), .d (.v (.int .i64 v_c3.fCaps)), .d (.v (.int .i64 v_c3.fLevel)), .d (.v (.int .i64 v_c3.fKind))], .box [.d (.v (.int .i64 v_r245.1.fUser)), .d (.v (.int .i64 v_r245.1.fGroup)), .d (.sl (v_r245.1.fMore.map (eI .i64))), .d (.v (.int .i64 v_r245.1.fCaps)), .d (.v (.int .i64 v_r245.1.fLevel)), .d (.v (.int .i64 v_r245.1.fKind))]]⟩
def G_ringlaw5_BoxSays_C4_hd (v_r117 : (Int × Int)) (v_r245 : (S_api_Cred × Int)) (v_r256 : ((List (Fin 3 → Int)))) (v_r430 : (Int)) (v_c3 : S_api_Cred)  : PS := ⟨[dd, dd, dd, dd, dd, .ref 0 0, dd, dd, dd, .d (.v (.int .i64 v_r117.1)), .d (.v (.int .i64 v_r117.2)), .ref 1 0, .d (.v (.int .i64 v_r245.2)), .d (.sl (v_r256.map (fun x => PV.agg [.v (.int .i64 (x 0)), .v (.int .i64 (x 1)), .v (.int .i64 (x 2))]))), dd, dd, dd, dd, dd, .d (.v (.int .i64 v_r430)), dd, dd, dd, dd, dd, dd, dd, dd, dd, dd, dd, dd, dd, dd, dd, dd, dd, dd, dd, dd, dd, dd, dd, dd, dd, dd, dd, dd, dd, dd, dd, dd, dd, dd, dd, dd, dd, dd, dd, dd, dd, dd, dd, dd, dd, dd, dd, dd, dd, dd, dd, dd, dd, dd, dd, dd, dd, dd, dd, dd, dd, dd, dd, dd, dd, dd, dd, dd, dd, dd, dd, dd, dd, dd, dd, dd, dd, dd, dd, dd, dd, dd, dd, dd, dd, dd, dd, dd, dd, dd, dd, dd, dd, dd, dd, dd, dd, dd, dd, dd, dd, dd, dd, dd, dd, dd, dd, dd, dd, dd, dd, dd, dd, dd, dd, dd, dd, dd, dd, dd, dd, dd, dd, dd, dd, dd, dd, dd, dd, dd, dd, dd, dd, dd, dd, dd, dd, dd, dd, dd, dd, dd, dd, dd, dd, dd, dd, dd, dd, dd, dd, dd, dd, dd, dd, dd, dd, dd, dd, dd, dd, dd, dd, dd, dd, dd, dd, dd, dd, dd, dd, dd, dd, dd, dd, dd, dd, dd, dd, dd, dd, dd, dd, dd, dd, dd, dd, dd, dd, dd, dd, dd, dd, dd, dd, dd, dd, dd, dd, dd, dd, dd, dd, dd], [.box [.d (.v (.int .i64 v_c3.fUser)), .d (.v (.int .i64 v_c3.fGroup)), .d (.sl (v_c3.fMore.map (eI .i64))), .d (.v (.int .i64 v_c3.fCaps)), .d (.v (.int .i64 v_c3.fLevel)), .d (.v (.int .i64 v_c3.fKind))], .box [.d (.v (.int .i64 v_r245.1.fUser)), .d (.v (.int .i64 v_r245.1.fGroup)), .d (.sl (v_r245.1.fMore.map (eI .i64))), .d (.v (.int .i64 v_r245.1.fCaps)), .d (.v (.int .i64 v_r245.1.fLevel)), .d (.v (.int .i64 v_r245.1.fKind))]]⟩
def G_ringlaw5_BoxSays_C4 (n : Nat) (v_r117 : (Int × Int)) (v_r245 : (S_api_Cred × Int)) (v_r256 : ((List (Fin 3 → Int)))) (v_r430 : (Int)) (v_c3 : S_api_Cred) : Option G_ringlaw5_BoxSays_C4_R :=
  if v_r430 < 0 then
   if v_r117.2 = 4 then
    if v_r117.1 = 0 then
     if v_r430 ≥ 0 then
      if v_r117.2 = 0 then
       some (.x0 (v_r117.1 != v_r430))
      else
       some (.x0 true)
     else
      some (.x0 false)
    else
     some (.x0 true)
   else
    some (.x0 true)
  else
   if v_r430 ≥ 0 then
    if v_r117.2 = 0 then
     some (.x0 (v_r117.1 != v_r430))
    else
     some (.x0 true)
   else
    some (.x0 false)
theorem G_ringlaw5_BoxSays_C4_ok {Fi : Ex → PS → Prop} (hF : KC 224 Fi) (ks : List Fr) (n : Nat) (v_r117 : (Int × Int)) (v_r245 : (S_api_Cred × Int)) (v_r256 : ((List (Fin 3 → Int)))) (v_r430 : (Int)) (v_c3 : S_api_Cred)  (o : G_ringlaw5_BoxSays_C4_R) (h : G_ringlaw5_BoxSays_C4 n v_r117 v_r245 v_r256 v_r430 v_c3 = some o) (q : RunE Try.prog 224 Fi ks (G_ringlaw5_BoxSays_C4_ex o) (G_ringlaw5_BoxSays_C4_st v_r117 v_r245 v_r256 v_r430 v_c3 o)) : RunE Try.prog 224 Fi (.s (cL (cR (cL (cR (cR (cR (cR (cR (cR (cR (cR (cR (cR (cR (cR (bodyOf Try.f4)))))))))))))))) :: ks) .normal (G_ringlaw5_BoxSays_C4_hd v_r117 v_r245 v_r256 v_r430 v_c3) := by
  unfold G_ringlaw5_BoxSays_C4 at h
  by_cases h499 : v_r430 < 0
  · rw [if_pos h499] at h
    by_cases h500 : v_r117.2 = 4
    · rw [if_pos h500] at h
      by_cases h501 : v_r117.1 = 0
      · rw [if_pos h501] at h
        by_cases h502 : v_r430 ≥ 0
        · rw [if_pos h502] at h
          by_cases h503 : v_r117.2 = 0
          · rw [if_pos h503] at h
            cases h
            exact pkk_sound TTok mix hF 1 (hs := [.t true, .c, .c, .t false, .c, .c, .t false, .c, .c, .t true, .c, .c, .t false, .c, .c, .c, .c]) (ts := []) (s := [0, 1]) (l := [5, 11, 12, 13, 147]) (by kernel_rfl) (by kernel_rfl) (.cons (dt h499) (.cons (nf h500) (.cons (nf h501) (.cons (dt h502) (.cons (nf h503) .nil))))) q
          · rw [if_neg h503] at h
            cases h
            exact pkk_sound TTok mix hF 1 (hs := [.t true, .c, .c, .t false, .c, .c, .t false, .c, .c, .t true, .c, .c, .t true, .c, .c, .c, .c]) (ts := []) (s := [0, 1]) (l := [5, 11, 12, 13, 147]) (by kernel_rfl) (by kernel_rfl) (.cons (dt h499) (.cons (nf h500) (.cons (nf h501) (.cons (dt h502) (.cons (nt h503) .nil))))) q
        · rw [if_neg h502] at h
          cases h
          exact pkk_sound TTok mix hF 1 (hs := [.t true, .c, .c, .t false, .c, .c, .t false, .c, .c, .t false, .c, .c, .c, .c]) (ts := []) (s := [0, 1]) (l := [5, 11, 12, 13, 147]) (by kernel_rfl) (by kernel_rfl) (.cons (dt h499) (.cons (nf h500) (.cons (nf h501) (.cons (df h502) .nil)))) q
      · rw [if_neg h501] at h
        cases h
        exact pkk_sound TTok mix hF 1 (hs := [.t true, .c, .c, .t false, .c, .c, .t true, .c, .c, .c]) (ts := []) (s := [0, 1]) (l := [5, 11, 12, 13, 147]) (by kernel_rfl) (by kernel_rfl) (.cons (dt h499) (.cons (nf h500) (.cons (nt h501) .nil))) q
    · rw [if_neg h500] at h
      cases h
      exact pkk_sound TTok mix hF 1 (hs := [.t true, .c, .c, .t true, .c, .c, .c, .c, .c, .c]) (ts := []) (s := [0, 1]) (l := [5, 11, 12, 13, 147]) (by kernel_rfl) (by kernel_rfl) (.cons (dt h499) (.cons (nt h500) .nil)) q
  · rw [if_neg h499] at h
    by_cases h504 : v_r430 ≥ 0
    · rw [if_pos h504] at h
      by_cases h505 : v_r117.2 = 0
      · rw [if_pos h505] at h
        cases h
        exact pkk_sound TTok mix hF 1 (hs := [.t false, .c, .c, .c, .c, .c, .c, .t true, .c, .c, .t false, .c, .c, .c, .c]) (ts := []) (s := [0, 1]) (l := [5, 11, 12, 13, 147]) (by kernel_rfl) (by kernel_rfl) (.cons (df h499) (.cons (dt h504) (.cons (nf h505) .nil))) q
      · rw [if_neg h505] at h
        cases h
        exact pkk_sound TTok mix hF 1 (hs := [.t false, .c, .c, .c, .c, .c, .c, .t true, .c, .c, .t true, .c, .c, .c, .c]) (ts := []) (s := [0, 1]) (l := [5, 11, 12, 13, 147]) (by kernel_rfl) (by kernel_rfl) (.cons (df h499) (.cons (dt h504) (.cons (nt h505) .nil))) q
    · rw [if_neg h504] at h
      cases h
      exact pkk_sound TTok mix hF 1 (hs := [.t false, .c, .c, .c, .c, .c, .c, .t false, .c, .c, .c, .c]) (ts := []) (s := [0, 1]) (l := [5, 11, 12, 13, 147]) (by kernel_rfl) (by kernel_rfl) (.cons (df h499) (.cons (df h504) .nil)) q
inductive G_ringlaw5_BoxSays_L5_R where
  | x0 (v_w481 : (List Int))
def G_ringlaw5_BoxSays_L5_ex : G_ringlaw5_BoxSays_L5_R → Ex
  | .x0 _ => .exit 2

end Go.Proofs.Ytjjjaakefnnbpaa.pv
