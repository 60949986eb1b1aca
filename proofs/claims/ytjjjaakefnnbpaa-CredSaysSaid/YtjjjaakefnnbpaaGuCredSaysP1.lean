/- What the functions compute, as functions over plain data, with their contracts: written by gen.py. -/
import Derived.Test.YtjjjaakefnnbpaaProg
import Derived.Test.YtjjjaakefnnbpaaQr
import Derived.Test.YtjjjaakefnnbpaaSg
set_option maxRecDepth 100000
set_option linter.all false
namespace Go.Proofs.Ytjjjaakefnnbpaa.pv
open Go.RowKit
def TT : List TI := [
⟨1, 0, .oth, []⟩,
⟨1, 8, .oth, [.nf]⟩,
⟨1, 8, .int .i64, [.i .i64]⟩,
⟨1, 8, .int .i64, [.i .i64]⟩,
⟨1, 1, .bool, [.b]⟩,
⟨1, 1, .int .u8, [.i .u8]⟩,
⟨1, 1, .int .u8, [.i .u8]⟩,
⟨4, 24, .st [(0, 2), (1, 3), (2, 4), (3, 6)], [.i .i64, .i .i64, .b, .i .u8]⟩,
⟨4, 24, .st [(0, 2), (1, 3), (2, 4), (3, 6)], [.i .i64, .i .i64, .b, .i .u8]⟩,
⟨1, 16, .str, [.s]⟩,
⟨1, 16, .str, [.s]⟩,
⟨1, 16, .str, [.s]⟩,
⟨1, 8, .int .u64, [.i .u64]⟩,
⟨2, 24, .st [(0, 9), (1, 12)], [.s, .i .u64]⟩,
⟨2, 24, .st [(0, 9), (1, 12)], [.s, .i .u64]⟩,
⟨1, 8, .ptr 333, [.np]⟩,
⟨1, 8, .ptr 336, [.np]⟩,
⟨1, 8, .ptr 343, [.np]⟩,
⟨1, 8, .st [(0, 17)], [.np]⟩,
⟨1, 8, .st [(0, 17)], [.np]⟩,
⟨1, 16, .oth, [.ni]⟩,
⟨1, 4, .int .i32, [.i .i32]⟩,
⟨1, 24, .sl 3, [.sl]⟩,
⟨6, 64, .st [(0, 3), (1, 3), (2, 22), (3, 3), (4, 3), (5, 3)], [.i .i64, .i .i64, .sl, .i .i64, .i .i64, .i .i64]⟩,
⟨6, 64, .st [(0, 3), (1, 3), (2, 22), (3, 3), (4, 3), (5, 3)], [.i .i64, .i .i64, .sl, .i .i64, .i .i64, .i .i64]⟩,
⟨1, 8, .int .i64, [.i .i64]⟩,
⟨1, 0, .oth, []⟩,
⟨1, 8, .oth, [.nf]⟩,
⟨1, 0, .oth, []⟩,
⟨1, 8, .oth, [.nf]⟩,
⟨1, 8, .oth, [.nf]⟩,
⟨1, 8, .oth, [.nf]⟩,
⟨1, 8, .oth, [.nf]⟩,
⟨1, 8, .oth, [.nf]⟩,
⟨1, 8, .oth, [.nf]⟩,
⟨1, 8, .oth, [.nf]⟩,
⟨1, 8, .oth, [.nf]⟩,
⟨1, 8, .oth, [.nf]⟩,
⟨1, 24, .sl 211, [.sl]⟩,
⟨1, 8, .oth, [.nf]⟩,
⟨1, 0, .oth, []⟩,
⟨1, 8, .oth, [.nf]⟩,
⟨1, 8, .oth, [.nf]⟩,
⟨1, 24, .sl 47, [.sl]⟩,
⟨1, 8, .oth, [.nf]⟩,
⟨1, 8, .oth, [.nf]⟩,
⟨1, 8, .oth, [.nf]⟩,
⟨3, 24, .arr 3 3, [.i .i64, .i .i64, .i .i64]⟩,
⟨1, 8, .oth, [.nf]⟩,
⟨1, 8, .oth, [.nf]⟩,
⟨1, 24, .sl 59, [.sl]⟩,
⟨1, 24, .sl 65, [.sl]⟩,
⟨1, 24, .sl 4, [.sl]⟩,
⟨1, 0, .oth, []⟩,
⟨1, 8, .oth, [.nf]⟩,
⟨1, 0, .oth, []⟩,
⟨1, 8, .oth, [.nf]⟩,
⟨1, 8, .oth, [.nf]⟩,
⟨2, 16, .st [(0, 3), (1, 3)], [.i .i64, .i .i64]⟩,
⟨2, 16, .st [(0, 3), (1, 3)], [.i .i64, .i .i64]⟩,
⟨1, 8, .oth, [.nf]⟩,
⟨1, 8, .oth, [.nf]⟩,
⟨1, 8, .oth, [.nf]⟩,
⟨1, 8, .oth, [.nf]⟩,
⟨3, 24, .st [(0, 3), (1, 3), (2, 4)], [.i .i64, .i .i64, .b]⟩,
⟨3, 24, .st [(0, 3), (1, 3), (2, 4)], [.i .i64, .i .i64, .b]⟩,
⟨1, 8, .oth, [.nf]⟩,
⟨1, 8, .oth, [.nf]⟩,
⟨1, 8, .oth, [.nf]⟩,
⟨1, 8, .oth, [.nf]⟩,
⟨8, 80, .st [(0, 3), (1, 3), (2, 3), (3, 3), (4, 3), (5, 3), (6, 3), (7, 22)], [.i .i64, .i .i64, .i .i64, .i .i64, .i .i64, .i .i64, .i .i64, .sl]⟩,
⟨8, 80, .st [(0, 3), (1, 3), (2, 3), (3, 3), (4, 3), (5, 3), (6, 3), (7, 22)], [.i .i64, .i .i64, .i .i64, .i .i64, .i .i64, .i .i64, .i .i64, .sl]⟩,
⟨1, 24, .sl 71, [.sl]⟩,
⟨1, 24, .sl 83, [.sl]⟩,
⟨1, 8, .oth, [.nf]⟩,
⟨8, 80, .st [(0, 3), (1, 3), (2, 3), (3, 3), (4, 3), (5, 3), (6, 3), (7, 22)], [.i .i64, .i .i64, .i .i64, .i .i64, .i .i64, .i .i64, .i .i64, .sl]⟩,
⟨1, 8, .oth, [.nf]⟩,
⟨1, 0, .oth, []⟩,
⟨1, 8, .oth, [.nf]⟩,
⟨1, 8, .oth, [.nf]⟩,
⟨1, 0, .oth, []⟩,
⟨1, 8, .oth, [.nf]⟩,
⟨2, 24, .st [(0, 9), (1, 3)], [.s, .i .i64]⟩,
⟨2, 24, .st [(0, 9), (1, 3)], [.s, .i .i64]⟩,
⟨1, 8, .oth, [.nf]⟩,
⟨1, 8, .oth, [.nf]⟩,
⟨1, 8, .oth, [.nf]⟩,
⟨16, 128, .arr 16 3, List.replicate 16 (.i .i64)⟩,
⟨18, 144, .st [(0, 3), (1, 3), (2, 87)], List.replicate 18 (.i .i64)⟩,
⟨18, 144, .st [(0, 3), (1, 3), (2, 87)], List.replicate 18 (.i .i64)⟩,
⟨1, 0, .oth, []⟩,
⟨1, 8, .oth, [.nf]⟩,
⟨1, 8, .oth, [.nf]⟩,
⟨1, 8, .oth, [.nf]⟩,
⟨1, 0, .oth, []⟩,
⟨1, 8, .oth, [.nf]⟩,
⟨1, 8, .oth, [.nf]⟩,
⟨1, 8, .oth, [.nf]⟩,
⟨1, 8, .oth, [.nf]⟩,
⟨18, 176, .st [(0, 22), (1, 22), (2, 87)], (List.replicate 2 (.sl) ++ List.replicate 16 (.i .i64))⟩,
⟨18, 176, .st [(0, 22), (1, 22), (2, 87)], (List.replicate 2 (.sl) ++ List.replicate 16 (.i .i64))⟩,
⟨1, 8, .oth, [.nf]⟩,
⟨1, 8, .oth, [.nf]⟩,
⟨1, 8, .oth, [.nf]⟩,
⟨1, 8, .oth, [.nf]⟩,
⟨1, 8, .oth, [.nf]⟩,
⟨1, 24, .sl 229, [.sl]⟩,
⟨1, 24, .sl 5, [.sl]⟩,
⟨1, 8, .oth, [.nf]⟩,
⟨1, 0, .oth, []⟩,
⟨1, 8, .oth, [.nf]⟩,
⟨1, 0, .oth, []⟩,
⟨1, 8, .oth, [.nf]⟩,
⟨1, 0, .oth, []⟩,
⟨1, 8, .oth, [.nf]⟩,
⟨1, 8, .oth, [.nf]⟩,
⟨1, 24, .sl 121, [.sl]⟩,
⟨1, 8, .oth, [.nf]⟩,
⟨1, 8, .oth, [.nf]⟩,
⟨1, 8, .oth, [.nf]⟩,
⟨1, 8, .oth, [.nf]⟩,
⟨2, 16, .arr 2 3, [.i .i64, .i .i64]⟩,
⟨1, 8, .oth, [.nf]⟩,
⟨1, 8, .oth, [.nf]⟩,
⟨1, 8, .oth, [.nf]⟩,
⟨1, 8, .oth, [.nf]⟩,
⟨1, 8, .oth, [.nf]⟩,
⟨1, 0, .oth, []⟩,
⟨1, 8, .oth, [.nf]⟩,
⟨1, 0, .oth, []⟩,
⟨1, 8, .oth, [.nf]⟩,
⟨1, 8, .oth, [.nf]⟩,
⟨1, 8, .oth, [.nf]⟩,
⟨6, 48, .st [(0, 3), (1, 3), (2, 3), (3, 3), (4, 3), (5, 3)], [.i .i64, .i .i64, .i .i64, .i .i64, .i .i64, .i .i64]⟩,
⟨6, 48, .st [(0, 3), (1, 3), (2, 3), (3, 3), (4, 3), (5, 3)], [.i .i64, .i .i64, .i .i64, .i .i64, .i .i64, .i .i64]⟩,
⟨1, 8, .oth, [.nf]⟩,
⟨1, 8, .oth, [.nf]⟩,
⟨1, 8, .oth, [.nf]⟩,
⟨1, 8, .oth, [.nf]⟩,
⟨1, 24, .sl 233, [.sl]⟩,
⟨1, 24, .sl 155, [.sl]⟩,
⟨1, 8, .oth, [.nf]⟩,
⟨1, 8, .oth, [.nf]⟩,
⟨1, 0, .oth, []⟩,
⟨1, 8, .oth, [.nf]⟩,
⟨1, 0, .oth, []⟩,
⟨1, 8, .oth, [.nf]⟩,
⟨1, 8, .oth, [.nf]⟩,
⟨1, 8, .oth, [.nf]⟩,
⟨1, 8, .oth, [.nf]⟩,
⟨1, 8, .oth, [.nf]⟩,
⟨1, 8, .oth, [.nf]⟩,
⟨1, 8, .oth, [.nf]⟩,
⟨1, 8, .oth, [.nf]⟩,
⟨2, 16, .st [(0, 3), (1, 3)], [.i .i64, .i .i64]⟩,
⟨2, 16, .st [(0, 3), (1, 3)], [.i .i64, .i .i64]⟩,
⟨1, 8, .oth, [.nf]⟩,
⟨1, 8, .oth, [.nf]⟩,
⟨1, 8, .oth, [.nf]⟩,
⟨1, 24, .sl 166, [.sl]⟩,
⟨1, 8, .ptr 245, [.np]⟩,
⟨1, 8, .oth, [.nf]⟩,
⟨1, 24, .sl 180, [.sl]⟩,
⟨1, 24, .sl 180, [.sl]⟩,
⟨1, 8, .oth, [.nf]⟩,
⟨3, 24, .st [(0, 3), (1, 3), (2, 3)], [.i .i64, .i .i64, .i .i64]⟩,
⟨3, 24, .st [(0, 3), (1, 3), (2, 3)], [.i .i64, .i .i64, .i .i64]⟩,
⟨1, 8, .oth, [.nf]⟩,
⟨1, 8, .oth, [.nf]⟩,
⟨1, 8, .oth, [.nf]⟩,
⟨1, 0, .oth, []⟩,
⟨1, 8, .oth, [.nf]⟩,
⟨1, 8, .oth, [.nf]⟩,
⟨1, 8, .oth, [.nf]⟩,
⟨1, 0, .oth, []⟩,
⟨1, 8, .oth, [.nf]⟩,
⟨1, 0, .oth, []⟩,
⟨1, 8, .oth, [.nf]⟩,
⟨1, 8, .oth, [.nf]⟩,
⟨5, 40, .st [(0, 3), (1, 3), (2, 3), (3, 3), (4, 4)], [.i .i64, .i .i64, .i .i64, .i .i64, .b]⟩,
⟨5, 40, .st [(0, 3), (1, 3), (2, 3), (3, 3), (4, 4)], [.i .i64, .i .i64, .i .i64, .i .i64, .b]⟩,
⟨1, 8, .oth, [.nf]⟩,
⟨1, 8, .oth, [.nf]⟩,
⟨1, 8, .oth, [.nf]⟩,
⟨1, 8, .oth, [.nf]⟩,
⟨1, 24, .sl 202, [.sl]⟩,
⟨1, 8, .ptr 256, [.np]⟩,
⟨1, 8, .oth, [.nf]⟩,
⟨1, 8, .oth, [.nf]⟩,
⟨5, 40, .st [(0, 3), (1, 3), (2, 3), (3, 4), (4, 3)], [.i .i64, .i .i64, .i .i64, .b, .i .i64]⟩,
⟨5, 40, .st [(0, 3), (1, 3), (2, 3), (3, 4), (4, 3)], [.i .i64, .i .i64, .i .i64, .b, .i .i64]⟩,
⟨1, 24, .sl 190, [.sl]⟩,
⟨1, 0, .oth, []⟩,
⟨1, 8, .oth, [.nf]⟩,
⟨1, 8, .ptr 199, [.np]⟩,
⟨1, 24, .sl 200, [.sl]⟩,
⟨8, 64, .arr 8 3, [.i .i64, .i .i64, .i .i64, .i .i64, .i .i64, .i .i64, .i .i64, .i .i64]⟩,
⟨136, 1088, .arr 17 196, List.replicate 136 (.i .i64)⟩,
⟨137, 1112, .st [(0, 195), (1, 197)], (List.replicate 1 (.sl) ++ List.replicate 136 (.i .i64))⟩,
⟨137, 1112, .st [(0, 195), (1, 197)], (List.replicate 1 (.sl) ++ List.replicate 136 (.i .i64))⟩,
⟨5, 40, .st [(0, 3), (1, 3), (2, 3), (3, 4), (4, 3)], [.i .i64, .i .i64, .i .i64, .b, .i .i64]⟩,
⟨9, 72, .st [(0, 3), (1, 3), (2, 3), (3, 3), (4, 200)], [.i .i64, .i .i64, .i .i64, .i .i64, .i .i64, .i .i64, .i .i64, .b, .i .i64]⟩,
⟨9, 72, .st [(0, 3), (1, 3), (2, 3), (3, 3), (4, 200)], [.i .i64, .i .i64, .i .i64, .i .i64, .i .i64, .i .i64, .i .i64, .b, .i .i64]⟩,
⟨1, 8, .oth, [.nf]⟩,
⟨1, 8, .oth, [.nf]⟩,
⟨1, 8, .oth, [.nf]⟩,
⟨1, 8, .oth, [.nf]⟩,
⟨1, 8, .oth, [.nf]⟩,
⟨1, 8, .oth, [.nf]⟩,
⟨1, 8, .int .u64, [.i .u64]⟩,
⟨3, 24, .st [(0, 3), (1, 3), (2, 3)], [.i .i64, .i .i64, .i .i64]⟩,
⟨3, 24, .st [(0, 3), (1, 3), (2, 3)], [.i .i64, .i .i64, .i .i64]⟩,
⟨1, 0, .oth, []⟩,
⟨1, 8, .oth, [.nf]⟩,
⟨1, 8, .oth, [.nf]⟩,
⟨100, 100, .arr 100 4, List.replicate 100 (.b)⟩,
⟨1, 24, .sl 50, [.sl]⟩,
⟨1, 8, .oth, [.nf]⟩,
⟨6, 6, .arr 6 4, [.b, .b, .b, .b, .b, .b]⟩,
⟨1, 8, .oth, [.nf]⟩,
⟨1, 8, .oth, [.nf]⟩,
⟨1, 8, .oth, [.nf]⟩,
⟨1, 8, .oth, [.nf]⟩,
⟨1, 8, .oth, [.nf]⟩,
⟨1, 8, .oth, [.nf]⟩,
⟨1, 8, .oth, [.nf]⟩,
⟨1, 8, .oth, [.nf]⟩,
⟨1, 8, .oth, [.nf]⟩,
⟨2, 16, .st [(0, 3), (1, 3)], [.i .i64, .i .i64]⟩,
⟨2, 16, .st [(0, 3), (1, 3)], [.i .i64, .i .i64]⟩,
⟨1, 8, .oth, [.nf]⟩,
⟨1, 8, .oth, [.nf]⟩,
⟨1, 8, .oth, [.nf]⟩,
⟨2, 16, .st [(0, 3), (1, 3)], [.i .i64, .i .i64]⟩,
⟨1, 8, .oth, [.nf]⟩,
⟨1, 8, .oth, [.nf]⟩,
⟨1, 8, .oth, [.nf]⟩,
⟨1, 8, .oth, [.nf]⟩,
⟨1, 8, .oth, [.nm]⟩,
⟨1, 0, .oth, []⟩,
⟨1, 8, .oth, [.nf]⟩,
⟨4, 32, .st [(0, 3), (1, 3), (2, 3), (3, 3)], [.i .i64, .i .i64, .i .i64, .i .i64]⟩,
⟨4, 32, .st [(0, 3), (1, 3), (2, 3), (3, 3)], [.i .i64, .i .i64, .i .i64, .i .i64]⟩,
⟨68, 544, .arr 17 242, List.replicate 68 (.i .i64)⟩,
⟨68, 544, .st [(0, 243)], List.replicate 68 (.i .i64)⟩,
⟨68, 544, .st [(0, 243)], List.replicate 68 (.i .i64)⟩,
⟨1, 8, .oth, [.nf]⟩,
⟨1, 8, .oth, [.nf]⟩,
⟨1, 8, .oth, [.nf]⟩,
⟨1, 8, .oth, [.nf]⟩,
⟨1, 8, .oth, [.nf]⟩,
⟨1, 8, .oth, [.nf]⟩,
⟨6, 48, .st [(0, 190), (5, 3)], [.i .i64, .i .i64, .i .i64, .b, .i .i64, .i .i64]⟩,
⟨6, 48, .st [(0, 190), (5, 3)], [.i .i64, .i .i64, .i .i64, .b, .i .i64, .i .i64]⟩,
⟨192, 1536, .arr 32 253, (List.replicate 32 [.i .i64, .i .i64, .i .i64, .b, .i .i64, .i .i64]).flatten⟩,
⟨328, 2624, .st [(0, 254), (192, 197)], [.i .i64, .i .i64, .i .i64, .b, .i .i64, .i .i64, .i .i64, .i .i64, .i .i64, .b, .i .i64, .i .i64, .i .i64, .i .i64, .i .i64, .b, .i .i64, .i .i64, .i .i64, .i .i64, .i .i64, .b, .i .i64, .i .i64, .i .i64, .i .i64, .i .i64, .b, .i .i64, .i .i64, .i .i64, .i .i64, .i .i64, .b, .i .i64, .i .i64, .i .i64, .i .i64, .i .i64, .b, .i .i64, .i .i64, .i .i64, .i .i64, .i .i64, .b, .i .i64, .i .i64, .i .i64, .i .i64, .i .i64, .b, .i .i64, .i .i64, .i .i64, .i .i64, .i .i64, .b, .i .i64, .i .i64, .i .i64, .i .i64, .i .i64, .b, .i .i64, .i .i64, .i .i64, .i .i64, .i .i64, .b, .i .i64, .i .i64, .i .i64, .i .i64, .i .i64, .b, .i .i64, .i .i64, .i .i64, .i .i64, .i .i64, .b, .i .i64, .i .i64, .i .i64, .i .i64, .i .i64, .b, .i .i64, .i .i64, .i .i64, .i .i64, .i .i64, .b, .i .i64, .i .i64, .i .i64, .i .i64, .i .i64, .b, .i .i64, .i .i64, .i .i64, .i .i64, .i .i64, .b, .i .i64, .i .i64, .i .i64, .i .i64, .i .i64, .b, .i .i64, .i .i64, .i .i64, .i .i64, .i .i64, .b, .i .i64, .i .i64, .i .i64, .i .i64, .i .i64, .b, .i .i64, .i .i64, .i .i64, .i .i64, .i .i64, .b, .i .i64, .i .i64, .i .i64, .i .i64, .i .i64, .b, .i .i64, .i .i64, .i .i64, .i .i64, .i .i64, .b, .i .i64, .i .i64, .i .i64, .i .i64, .i .i64, .b, .i .i64, .i .i64, .i .i64, .i .i64, .i .i64, .b, .i .i64, .i .i64, .i .i64, .i .i64, .i .i64, .b, .i .i64, .i .i64, .i .i64, .i .i64, .i .i64, .b, .i .i64, .i .i64, .i .i64, .i .i64, .i .i64, .b, .i .i64, .i .i64, .i .i64, .i .i64, .i .i64, .b, .i .i64, .i .i64, .i .i64, .i .i64, .i .i64, .b, .i .i64, .i .i64, .i .i64, .i .i64, .i .i64, .b, .i .i64, .i .i64, .i .i64, .i .i64, .i .i64, .i .i64, .i .i64, .i .i64, .i .i64, .i .i64, .i .i64, .i .i64, .i .i64, .i .i64, .i .i64, .i .i64, .i .i64, .i .i64, .i .i64, .i .i64, .i .i64, .i .i64, .i .i64, .i .i64, .i .i64, .i .i64, .i .i64, .i .i64, .i .i64, .i .i64, .i .i64, .i .i64, .i .i64, .i .i64, .i .i64, .i .i64, .i .i64, .i .i64, .i .i64, .i .i64, .i .i64, .i .i64, .i .i64, .i .i64, .i .i64, .i .i64, .i .i64, .i .i64, .i .i64, .i .i64, .i .i64, .i .i64, .i .i64, .i .i64, .i .i64, .i .i64, .i .i64, .i .i64, .i .i64, .i .i64, .i .i64, .i .i64, .i .i64, .i .i64, .i .i64, .i .i64, .i .i64, .i .i64, .i .i64, .i .i64, .i .i64, .i .i64, .i .i64, .i .i64, .i .i64, .i .i64, .i .i64, .i .i64, .i .i64, .i .i64, .i .i64, .i .i64, .i .i64, .i .i64, .i .i64, .i .i64, .i .i64, .i .i64, .i .i64, .i .i64, .i .i64, .i .i64, .i .i64, .i .i64, .i .i64, .i .i64, .i .i64, .i .i64, .i .i64, .i .i64, .i .i64, .i .i64, .i .i64, .i .i64, .i .i64, .i .i64, .i .i64, .i .i64, .i .i64, .i .i64, .i .i64, .i .i64, .i .i64, .i .i64, .i .i64, .i .i64, .i .i64, .i .i64, .i .i64, .i .i64, .i .i64, .i .i64, .i .i64, .i .i64, .i .i64, .i .i64, .i .i64, .i .i64, .i .i64, .i .i64, .i .i64, .i .i64, .i .i64, .i .i64, .i .i64, .i .i64, .i .i64, .i .i64]⟩,
⟨328, 2624, .st [(0, 254), (192, 197)], [.i .i64, .i .i64, .i .i64, .b, .i .i64, .i .i64, .i .i64, .i .i64, .i .i64, .b, .i .i64, .i .i64, .i .i64, .i .i64, .i .i64, .b, .i .i64, .i .i64, .i .i64, .i .i64, .i .i64, .b, .i .i64, .i .i64, .i .i64, .i .i64, .i .i64, .b, .i .i64, .i .i64, .i .i64, .i .i64, .i .i64, .b, .i .i64, .i .i64, .i .i64, .i .i64, .i .i64, .b, .i .i64, .i .i64, .i .i64, .i .i64, .i .i64, .b, .i .i64, .i .i64, .i .i64, .i .i64, .i .i64, .b, .i .i64, .i .i64, .i .i64, .i .i64, .i .i64, .b, .i .i64, .i .i64, .i .i64, .i .i64, .i .i64, .b, .i .i64, .i .i64, .i .i64, .i .i64, .i .i64, .b, .i .i64, .i .i64, .i .i64, .i .i64, .i .i64, .b, .i .i64, .i .i64, .i .i64, .i .i64, .i .i64, .b, .i .i64, .i .i64, .i .i64, .i .i64, .i .i64, .b, .i .i64, .i .i64, .i .i64, .i .i64, .i .i64, .b, .i .i64, .i .i64, .i .i64, .i .i64, .i .i64, .b, .i .i64, .i .i64, .i .i64, .i .i64, .i .i64, .b, .i .i64, .i .i64, .i .i64, .i .i64, .i .i64, .b, .i .i64, .i .i64, .i .i64, .i .i64, .i .i64, .b, .i .i64, .i .i64, .i .i64, .i .i64, .i .i64, .b, .i .i64, .i .i64, .i .i64, .i .i64, .i .i64, .b, .i .i64, .i .i64, .i .i64, .i .i64, .i .i64, .b, .i .i64, .i .i64, .i .i64, .i .i64, .i .i64, .b, .i .i64, .i .i64, .i .i64, .i .i64, .i .i64, .b, .i .i64, .i .i64, .i .i64, .i .i64, .i .i64, .b, .i .i64, .i .i64, .i .i64, .i .i64, .i .i64, .b, .i .i64, .i .i64, .i .i64, .i .i64, .i .i64, .b, .i .i64, .i .i64, .i .i64, .i .i64, .i .i64, .b, .i .i64, .i .i64, .i .i64, .i .i64, .i .i64, .b, .i .i64, .i .i64, .i .i64, .i .i64, .i .i64, .b, .i .i64, .i .i64, .i .i64, .i .i64, .i .i64, .b, .i .i64, .i .i64, .i .i64, .i .i64, .i .i64, .i .i64, .i .i64, .i .i64, .i .i64, .i .i64, .i .i64, .i .i64, .i .i64, .i .i64, .i .i64, .i .i64, .i .i64, .i .i64, .i .i64, .i .i64, .i .i64, .i .i64, .i .i64, .i .i64, .i .i64, .i .i64, .i .i64, .i .i64, .i .i64, .i .i64, .i .i64, .i .i64, .i .i64, .i .i64, .i .i64, .i .i64, .i .i64, .i .i64, .i .i64, .i .i64, .i .i64, .i .i64, .i .i64, .i .i64, .i .i64, .i .i64, .i .i64, .i .i64, .i .i64, .i .i64, .i .i64, .i .i64, .i .i64, .i .i64, .i .i64, .i .i64, .i .i64, .i .i64, .i .i64, .i .i64, .i .i64, .i .i64, .i .i64, .i .i64, .i .i64, .i .i64, .i .i64, .i .i64, .i .i64, .i .i64, .i .i64, .i .i64, .i .i64, .i .i64, .i .i64, .i .i64, .i .i64, .i .i64, .i .i64, .i .i64, .i .i64, .i .i64, .i .i64, .i .i64, .i .i64, .i .i64, .i .i64, .i .i64, .i .i64, .i .i64, .i .i64, .i .i64, .i .i64, .i .i64, .i .i64, .i .i64, .i .i64, .i .i64, .i .i64, .i .i64, .i .i64, .i .i64, .i .i64, .i .i64, .i .i64, .i .i64, .i .i64, .i .i64, .i .i64, .i .i64, .i .i64, .i .i64, .i .i64, .i .i64, .i .i64, .i .i64, .i .i64, .i .i64, .i .i64, .i .i64, .i .i64, .i .i64, .i .i64, .i .i64, .i .i64, .i .i64, .i .i64, .i .i64, .i .i64, .i .i64, .i .i64, .i .i64, .i .i64, .i .i64, .i .i64, .i .i64, .i .i64, .i .i64]⟩,
⟨1, 0, .oth, []⟩,
⟨1, 8, .oth, [.nf]⟩,
⟨1, 8, .oth, [.nf]⟩,
⟨1, 8, .oth, [.nf]⟩,
⟨1, 0, .oth, []⟩,
⟨1, 8, .oth, [.nf]⟩,
⟨1, 8, .ptr 200, [.np]⟩,
⟨1, 8, .oth, [.nf]⟩,
⟨1, 8, .oth, [.nf]⟩,
⟨1, 0, .oth, []⟩,
⟨1, 8, .oth, [.nf]⟩,
⟨1, 8, .oth, [.nf]⟩,
⟨1, 8, .oth, [.nf]⟩,
⟨1, 8, .int .i64, [.i .i64]⟩,
⟨1, 0, .oth, []⟩,
⟨1, 8, .oth, [.nf]⟩,
⟨1, 8, .oth, [.nf]⟩,
⟨1, 8, .oth, [.nf]⟩,
⟨1, 8, .oth, [.nf]⟩,
⟨1, 8, .oth, [.nf]⟩,
⟨1, 8, .oth, [.nf]⟩,
⟨1, 4, .int .u32, [.i .u32]⟩,
⟨1, 8, .oth, [.nf]⟩,
⟨1, 8, .int .u64, [.i .u64]⟩,
⟨1, 8, .oth, [.nf]⟩,
⟨1, 8, .oth, [.nf]⟩,
⟨1, 0, .oth, []⟩,
⟨1, 8, .oth, [.nf]⟩,
⟨1, 8, .oth, [.nf]⟩,
⟨1, 8, .ptr 288, [.np]⟩,
⟨2, 32, .st [(0, 286), (1, 107)], [.np, .sl]⟩,
⟨2, 32, .st [(0, 286), (1, 107)], [.np, .sl]⟩,
⟨1, 8, .oth, [.nf]⟩,
⟨1, 16, .oth, [.ni]⟩,
⟨1, 16, .oth, [.ni]⟩,
⟨1, 0, .oth, []⟩,
⟨1, 8, .oth, [.nf]⟩,
⟨1, 8, .oth, [.nf]⟩,
⟨1, 8, .oth, [.nf]⟩,
⟨1, 8, .oth, [.nf]⟩,
⟨1, 8, .oth, [.nf]⟩,
⟨1, 8, .oth, [.nf]⟩,
⟨1, 8, .ptr 253, [.np]⟩,
⟨1, 0, .oth, []⟩,
⟨1, 8, .oth, [.nf]⟩,
⟨1, 8, .oth, [.nf]⟩,
⟨1, 8, .oth, [.nf]⟩,
⟨1, 8, .oth, [.nf]⟩,
⟨1, 8, .oth, [.nf]⟩,
⟨1, 8, .int .u64, [.i .u64]⟩,
⟨1, 8, .oth, [.nf]⟩,
⟨1, 8, .oth, [.nf]⟩,
⟨1, 8, .oth, [.nf]⟩,
⟨1, 8, .ptr 3, [.np]⟩,
⟨1, 8, .oth, [.nf]⟩,
⟨1, 0, .oth, []⟩,
⟨1, 8, .oth, [.nf]⟩,
⟨1, 0, .oth, []⟩,
⟨1, 8, .oth, [.nf]⟩,
⟨1, 8, .ptr 5, [.np]⟩,
⟨1, 8, .oth, [.nf]⟩,
⟨1, 8, .oth, [.nf]⟩,
⟨1, 8, .oth, [.nf]⟩,
⟨1, 8, .oth, [.nf]⟩,
⟨1, 8, .oth, [.nf]⟩,
⟨1, 8, .ptr 306, [.np]⟩,
⟨1, 0, .oth, []⟩,
⟨1, 8, .oth, [.nf]⟩,
⟨1, 8, .oth, [.np]⟩,
⟨1, 8, .oth, [.nf]⟩,
⟨1, 8, .oth, [.nf]⟩,
⟨1, 8, .oth, [.nf]⟩,
⟨1, 8, .oth, [.nf]⟩,
⟨1, 8, .oth, [.nf]⟩,
⟨1, 8, .oth, [.nf]⟩,
⟨4, 40, .st [(0, 17), (1, 17), (2, 17), (3, 9)], [.np, .np, .np, .s]⟩,
⟨4, 40, .st [(0, 17), (1, 17), (2, 17), (3, 9)], [.np, .np, .np, .s]⟩,
⟨0, 0, .arr 0 16, []⟩,
⟨0, 0, .st [(0, 334)], []⟩,
⟨0, 0, .st [(0, 334)], []⟩,
⟨1, 1, .int .u8, [.i .u8]⟩,
⟨1, 1, .int .u8, [.i .u8]⟩,
⟨1, 8, .oth, [.nf]⟩,
⟨1, 4, .int .i32, [.i .i32]⟩,
⟨1, 4, .int .i32, [.i .i32]⟩,
⟨11, 48, .st [(0, 12), (1, 12), (2, 278), (3, 337), (4, 5), (5, 5), (6, 338), (7, 339), (8, 316), (9, 340), (10, 341)], [.i .u64, .i .u64, .i .u32, .i .u8, .i .u8, .i .u8, .i .u8, .nf, .np, .i .i32, .i .i32]⟩,
⟨11, 48, .st [(0, 12), (1, 12), (2, 278), (3, 337), (4, 5), (5, 5), (6, 338), (7, 339), (8, 316), (9, 340), (10, 341)], [.i .u64, .i .u64, .i .u32, .i .u8, .i .u8, .i .u8, .i .u8, .nf, .np, .i .i32, .i .i32]⟩]
theorem TTok : TOk Try.prog TT := by unfold TOk; kernel_rfl
theorem mix : Try.prog.follows .mixedOrders = true := by kernel_rfl
structure S_api_Cred where
  fUser : Int
  fGroup : Int
  fMore : (List Int)
  fCaps : Int
  fLevel : Int
  fKind : Int
def eS_api_Cred (x : S_api_Cred) : PV := .agg [.v (.int .i64 x.fUser), .v (.int .i64 x.fGroup), .sl (x.fMore.map (eI .i64)), .v (.int .i64 x.fCaps), .v (.int .i64 x.fLevel), .v (.int .i64 x.fKind)]

inductive G_cred_Check_L1_R where
  | x0 (v_x9 : Int)
  | x1 
def G_cred_Check_L1_ex : G_cred_Check_L1_R → Ex
  | .x0 _ => .ret
  | .x1  => .exit 0
def G_cred_Check_L1_st (v_c5 : S_api_Cred) : G_cred_Check_L1_R → PS
  | .x0 v_x9 => ⟨[dd, dd, .d (.v (.int .i64 v_x9)), dd, dd, dd, dd, dd, dd, dd, dd, dd, dd, dd, dd, dd, dd, dd, dd, dd, dd, dd, dd, dd, dd, dd, dd, dd, dd, dd, dd, dd, dd, dd, dd, dd, dd, dd, dd, dd, dd, dd, dd, dd, dd, dd, dd, dd, dd, dd, dd, dd, dd, dd, dd, dd, dd, dd, dd, dd, dd, dd, dd, dd, dd, dd, dd, dd, dd, dd, dd, dd, dd, dd, dd, dd, dd, dd, dd, dd, dd, dd, dd], []⟩
  | .x1  => ⟨[dd, .ref 0 0, dd, dd, dd, dd, dd, dd, dd, dd, dd, dd, dd, dd, dd, dd, dd, dd, dd, dd, dd, dd, dd, dd, dd, dd, dd, dd, dd, dd, dd, dd, dd, dd, dd, dd, dd, dd, dd, dd, dd, dd, dd, dd, dd, dd, dd, dd, dd, dd, dd, dd, dd, dd, dd, dd, dd, dd, dd, dd, dd, dd, dd, dd, dd, dd, dd, dd, dd, dd, dd, dd, dd, dd, dd, dd, dd, dd, dd, dd, dd, dd, dd], [.box [.d (.v (.int .i64 v_c5.fUser)), .d (.v (.int .i64 v_c5.fGroup)), .d (.sl (v_c5.fMore.map (eI .i64))), .d (.v (.int .i64 v_c5.fCaps)), .d (.v (.int .i64 v_c5.fLevel)), .d (.v (.int .i64 v_c5.fKind))]]⟩
def G_cred_Check_L1_hd (v_c5 : S_api_Cred) (v_x6 : Int) : PS := ⟨[dd, .ref 0 0, dd, dd, dd, dd, dd, dd, dd, dd, dd, .d (.sl (([v_c5.fUser, v_c5.fGroup]).map (eI .i64))), .d (.v (.int .i64 (([v_c5.fUser, v_c5.fGroup]).length : Int))), .d (.v (.int .i64 v_x6)), dd, dd, dd, dd, dd, dd, dd, dd, dd, dd, dd, dd, dd, dd, dd, dd, dd, dd, dd, dd, dd, dd, dd, dd, dd, dd, dd, dd, dd, dd, dd, dd, dd, dd, dd, dd, dd, dd, dd, dd, dd, dd, dd, dd, dd, dd, dd, dd, dd, dd, dd, dd, dd, dd, dd, dd, dd, dd, dd, dd, dd, dd, dd, dd, dd, dd, dd, dd, dd], [.box [.d (.v (.int .i64 v_c5.fUser)), .d (.v (.int .i64 v_c5.fGroup)), .d (.sl (v_c5.fMore.map (eI .i64))), .d (.v (.int .i64 v_c5.fCaps)), .d (.v (.int .i64 v_c5.fLevel)), .d (.v (.int .i64 v_c5.fKind))]]⟩
def G_cred_Check_L1 (n : Nat) (v_c5 : S_api_Cred) : Nat → Int → Option G_cred_Check_L1_R
  | 0, _ => none
  | k + 1, v_x6 =>
    if v_x6 < (([v_c5.fUser, v_c5.fGroup]).length : Int) then
     (getI ([v_c5.fUser, v_c5.fGroup]) v_x6).bind fun (v_y8 : Int) =>
     if v_y8 < 0 then
      some (.x0 1)
     else
      if v_y8 > 99 then
       some (.x0 1)
      else
       G_cred_Check_L1 n v_c5 k (wi .i64 (v_x6 + 1))
    else
     some (.x1 )
theorem G_cred_Check_L1_ok {Fi : Ex → PS → Prop} (hF : KC 83 Fi) (ks : List Fr) (n : Nat) (v_c5 : S_api_Cred)  : ∀ (k : Nat) (v_x6 : Int) (o : G_cred_Check_L1_R), G_cred_Check_L1 n v_c5 k v_x6 = some o → RunE Try.prog 83 Fi ks (G_cred_Check_L1_ex o) (G_cred_Check_L1_st v_c5 o) → RunE Try.prog 83 Fi (.l k (cP (cB (cR (cL (cR (bodyOf Try.f19)))))) :: ks) .normal (G_cred_Check_L1_hd v_c5 v_x6)
  | 0, v_x6, o, h, q => by rw [G_cred_Check_L1] at h; cases h
  | k + 1, v_x6, o, h, q => by
    rw [G_cred_Check_L1] at h
    by_cases h1 : v_x6 < (([v_c5.fUser, v_c5.fGroup]).length : Int)
    · rw [if_pos h1] at h
      obtain ⟨v_y8, h5, h⟩ := bind_some h
      by_cases h6 : v_y8 < 0
      · rw [if_pos h6] at h
        cases h
        exact pkk_sound TTok mix hF 19 (hs := [.t true, .y ((eI .i64) v_y8), .c, .t true, .c, .c]) (ts := []) (s := []) (l := [2]) (by kernel_rfl) (by kernel_rfl) (.cons (dt h1) (.cons (getI_ob (f := (eI .i64)) h5) (.cons (dt h6) .nil))) q
      · rw [if_neg h6] at h
        by_cases h7 : v_y8 > 99
        · rw [if_pos h7] at h
          cases h
          exact pkk_sound TTok mix hF 19 (hs := [.t true, .y ((eI .i64) v_y8), .c, .t false, .c, .t true]) (ts := []) (s := []) (l := [2]) (by kernel_rfl) (by kernel_rfl) (.cons (dt h1) (.cons (getI_ob (f := (eI .i64)) h5) (.cons (df h6) (.cons (dt h7) .nil)))) q
        · rw [if_neg h7] at h
          exact pkk_sound TTok mix hF 16 (hs := [.t true, .y ((eI .i64) v_y8), .c, .t false, .c, .t false]) (ts := []) (s := [0]) (l := [1, 11, 12, 13]) (by kernel_rfl) (by kernel_rfl) (.cons (dt h1) (.cons (getI_ob (f := (eI .i64)) h5) (.cons (df h6) (.cons (df h7) .nil)))) (G_cred_Check_L1_ok hF ks n v_c5 k (wi .i64 (v_x6 + 1)) _ h q)
    · rw [if_neg h1] at h
      cases h
      exact pkk_sound TTok mix hF 8 (hs := [.t false]) (ts := []) (s := [0]) (l := [1]) (by kernel_rfl) (by kernel_rfl) (.cons (df h1) .nil) q
inductive G_cred_Check_L2_R where
  | x0 (v_x18 : Int)
  | x1 
def G_cred_Check_L2_ex : G_cred_Check_L2_R → Ex
  | .x0 _ => .ret
  | .x1  => .exit 2
def G_cred_Check_L2_st (v_c5 : S_api_Cred) : G_cred_Check_L2_R → PS
  | .x0 v_x18 => ⟨[dd, dd, .d (.v (.int .i64 v_x18)), dd, dd, dd, dd, dd, dd, dd, dd, dd, dd, dd, dd, dd, dd, dd, dd, dd, dd, dd, dd, dd, dd, dd, dd, dd, dd, dd, dd, dd, dd, dd, dd, dd, dd, dd, dd, dd, dd, dd, dd, dd, dd, dd, dd, dd, dd, dd, dd, dd, dd, dd, dd, dd, dd, dd, dd, dd, dd, dd, dd, dd, dd, dd, dd, dd, dd, dd, dd, dd, dd, dd, dd, dd, dd, dd, dd, dd, dd, dd, dd], []⟩
  | .x1  => ⟨[dd, .ref 0 0, dd, dd, dd, dd, dd, dd, dd, dd, dd, dd, dd, dd, dd, dd, dd, dd, dd, dd, dd, dd, dd, dd, dd, dd, dd, dd, dd, dd, dd, dd, dd, dd, dd, dd, dd, dd, dd, dd, dd, dd, dd, dd, dd, dd, dd, dd, dd, dd, dd, dd, dd, dd, dd, dd, dd, dd, dd, dd, dd, dd, dd, dd, dd, dd, dd, dd, dd, dd, dd, dd, dd, dd, dd, dd, dd, dd, dd, dd, dd, dd, dd], [.box [.d (.v (.int .i64 v_c5.fUser)), .d (.v (.int .i64 v_c5.fGroup)), .d (.sl (v_c5.fMore.map (eI .i64))), .d (.v (.int .i64 v_c5.fCaps)), .d (.v (.int .i64 v_c5.fLevel)), .d (.v (.int .i64 v_c5.fKind))]]⟩
def G_cred_Check_L2_hd (v_c5 : S_api_Cred) (v_x13 : Int) : PS := ⟨[dd, .ref 0 0, dd, dd, dd, dd, dd, dd, dd, dd, dd, dd, dd, dd, dd, dd, dd, dd, dd, dd, dd, dd, dd, dd, dd, dd, dd, dd, dd, .d (.sl (v_c5.fMore.map (eI .i64))), .d (.v (.int .i64 (v_c5.fMore.length : Int))), .d (.v (.int .i64 v_x13)), dd, dd, dd, dd, dd, dd, dd, dd, dd, dd, dd, dd, dd, dd, dd, dd, dd, dd, dd, dd, dd, dd, dd, dd, dd, dd, dd, dd, dd, dd, dd, dd, dd, dd, dd, dd, dd, dd, dd, dd, dd, dd, dd, dd, dd, dd, dd, dd, dd, dd, dd], [.box [.d (.v (.int .i64 v_c5.fUser)), .d (.v (.int .i64 v_c5.fGroup)), .d (.sl (v_c5.fMore.map (eI .i64))), .d (.v (.int .i64 v_c5.fCaps)), .d (.v (.int .i64 v_c5.fLevel)), .d (.v (.int .i64 v_c5.fKind))]]⟩
def G_cred_Check_L2 (n : Nat) (v_c5 : S_api_Cred) : Nat → Int → Option G_cred_Check_L2_R
  | 0, _ => none
  | k + 1, v_x13 =>
    if v_x13 < (v_c5.fMore.length : Int) then
     (getI v_c5.fMore v_x13).bind fun (v_y17 : Int) =>
     if v_y17 < 0 then
      some (.x0 1)
     else
      if v_y17 > 99 then
       some (.x0 1)
      else
       if v_x13 > 0 then
        (getI v_c5.fMore (wi .i64 (v_x13 - 1))).bind fun (v_y21 : Int) =>
        if v_y17 ≤ v_y21 then
         some (.x0 3)
        else
         G_cred_Check_L2 n v_c5 k (wi .i64 (v_x13 + 1))
       else
        G_cred_Check_L2 n v_c5 k (wi .i64 (v_x13 + 1))
    else
     some (.x1 )
theorem G_cred_Check_L2_ok {Fi : Ex → PS → Prop} (hF : KC 83 Fi) (ks : List Fr) (n : Nat) (v_c5 : S_api_Cred)  : ∀ (k : Nat) (v_x13 : Int) (o : G_cred_Check_L2_R), G_cred_Check_L2 n v_c5 k v_x13 = some o → RunE Try.prog 83 Fi ks (G_cred_Check_L2_ex o) (G_cred_Check_L2_st v_c5 o) → RunE Try.prog 83 Fi (.l k (cP (cB (cR (cL (cR (cR (cR (bodyOf Try.f19)))))))) :: ks) .normal (G_cred_Check_L2_hd v_c5 v_x13)
  | 0, v_x13, o, h, q => by rw [G_cred_Check_L2] at h; cases h
  | k + 1, v_x13, o, h, q => by
    rw [G_cred_Check_L2] at h
    by_cases h10 : v_x13 < (v_c5.fMore.length : Int)
    · rw [if_pos h10] at h
      obtain ⟨v_y17, h19, h⟩ := bind_some h
      by_cases h20 : v_y17 < 0
      · rw [if_pos h20] at h
        cases h
        exact pkk_sound TTok mix hF 21 (hs := [.t true, .y ((eI .i64) v_y17), .c, .t true, .c, .c]) (ts := []) (s := []) (l := [2]) (by kernel_rfl) (by kernel_rfl) (.cons (dt h10) (.cons (getI_ob (f := (eI .i64)) h19) (.cons (dt h20) .nil))) q
      · rw [if_neg h20] at h
        by_cases h21 : v_y17 > 99
        · rw [if_pos h21] at h
          cases h
          exact pkk_sound TTok mix hF 21 (hs := [.t true, .y ((eI .i64) v_y17), .c, .t false, .c, .t true]) (ts := []) (s := []) (l := [2]) (by kernel_rfl) (by kernel_rfl) (.cons (dt h10) (.cons (getI_ob (f := (eI .i64)) h19) (.cons (df h20) (.cons (dt h21) .nil)))) q
        · rw [if_neg h21] at h
          by_cases h24 : v_x13 > 0
          · rw [if_pos h24] at h
            obtain ⟨v_y21, h25, h⟩ := bind_some h
            by_cases h26 : v_y17 ≤ v_y21
            · rw [if_pos h26] at h
              cases h
              exact pkk_sound TTok mix hF 24 (hs := [.t true, .y ((eI .i64) v_y17), .c, .t false, .c, .t false, .t true, .c, .c, .c, .c, .c, .c, .y ((eI .i64) v_y21), .c, .c, .c, .t true]) (ts := []) (s := []) (l := [2]) (by kernel_rfl) (by kernel_rfl) (.cons (dt h10) (.cons (getI_ob (f := (eI .i64)) h19) (.cons (df h20) (.cons (df h21) (.cons (dt h24) (.cons (getI_ob (f := (eI .i64)) h25) (.cons (dt h26) .nil))))))) q
            · rw [if_neg h26] at h
              exact pkk_sound TTok mix hF 21 (hs := [.t true, .y ((eI .i64) v_y17), .c, .t false, .c, .t false, .t true, .c, .c, .c, .c, .c, .c, .y ((eI .i64) v_y21), .c, .c, .c, .t false]) (ts := []) (s := [0]) (l := [1, 29, 30, 31]) (by kernel_rfl) (by kernel_rfl) (.cons (dt h10) (.cons (getI_ob (f := (eI .i64)) h19) (.cons (df h20) (.cons (df h21) (.cons (dt h24) (.cons (getI_ob (f := (eI .i64)) h25) (.cons (df h26) .nil))))))) (G_cred_Check_L2_ok hF ks n v_c5 k (wi .i64 (v_x13 + 1)) _ h q)
          · rw [if_neg h24] at h
            exact pkk_sound TTok mix hF 21 (hs := [.t true, .y ((eI .i64) v_y17), .c, .t false, .c, .t false, .t false, .c, .c, .c, .c, .c, .c, .c, .c]) (ts := []) (s := [0]) (l := [1, 29, 30, 31]) (by kernel_rfl) (by kernel_rfl) (.cons (dt h10) (.cons (getI_ob (f := (eI .i64)) h19) (.cons (df h20) (.cons (df h21) (.cons (df h24) .nil))))) (G_cred_Check_L2_ok hF ks n v_c5 k (wi .i64 (v_x13 + 1)) _ h q)
    · rw [if_neg h10] at h
      cases h
      exact pkk_sound TTok mix hF 8 (hs := [.t false]) (ts := []) (s := [0]) (l := [1]) (by kernel_rfl) (by kernel_rfl) (.cons (df h10) .nil) q
inductive G_cred_Check_C3_R where
  | x0 (v_x25 : Bool)
def G_cred_Check_C3_ex : G_cred_Check_C3_R → Ex
  | .x0 _ => .normal
def G_cred_Check_C3_st (v_c5 : S_api_Cred) : G_cred_Check_C3_R → PS
  | .x0 v_x25 => ⟨[dd, dd, dd, dd, dd, dd, dd, dd, dd, dd, dd, dd, dd, dd, dd, dd, dd, dd, dd, dd, dd, dd, dd, dd, dd, dd, dd, dd, dd, dd, dd, dd, dd, dd, dd, dd, dd, dd, dd, dd, dd, dd, dd, dd, dd, dd, dd, dd, dd, dd, dd, dd, dd, dd, dd, dd, dd, dd, dd, dd, dd, dd, dd, dd, dd, dd, dd, dd, dd, dd, dd, dd, dd, dd, dd, dd, dd, dd, dd, dd, dd, dd, .d (.v (.bool v_x25))], []⟩
def G_cred_Check_C3_hd (v_c5 : S_api_Cred)  : PS := ⟨[dd, .ref 0 0, dd, dd, dd, dd, dd, dd, dd, dd, dd, dd, dd, dd, dd, dd, dd, dd, dd, dd, dd, dd, dd, dd, dd, dd, dd, dd, dd, dd, dd, dd, dd, dd, dd, dd, dd, dd, dd, dd, dd, dd, dd, dd, dd, dd, dd, dd, dd, dd, dd, dd, dd, dd, dd, dd, dd, dd, dd, dd, dd, dd, dd, dd, dd, dd, dd, dd, dd, dd, dd, dd, dd, dd, dd, dd, dd, dd, dd, dd, dd, dd, dd], [.box [.d (.v (.int .i64 v_c5.fUser)), .d (.v (.int .i64 v_c5.fGroup)), .d (.sl (v_c5.fMore.map (eI .i64))), .d (.v (.int .i64 v_c5.fCaps)), .d (.v (.int .i64 v_c5.fLevel)), .d (.v (.int .i64 v_c5.fKind))]]⟩
def G_cred_Check_C3 (n : Nat) (v_c5 : S_api_Cred) : Option G_cred_Check_C3_R :=
  if v_c5.fCaps < 0 then
   some (.x0 true)
  else
   if v_c5.fCaps > 127 then
    some (.x0 true)
   else
    if v_c5.fLevel < 0 then
     some (.x0 true)
    else
     if v_c5.fLevel > 7 then
      some (.x0 true)
     else
      if v_c5.fKind < 0 then
       some (.x0 true)
      else
       some (.x0 (decide (v_c5.fKind > 255)))
theorem G_cred_Check_C3_ok {Fi : Ex → PS → Prop} (hF : KC 83 Fi) (ks : List Fr) (n : Nat) (v_c5 : S_api_Cred)  (o : G_cred_Check_C3_R) (h : G_cred_Check_C3 n v_c5 = some o) (q : RunE Try.prog 83 Fi ks (G_cred_Check_C3_ex o) (G_cred_Check_C3_st v_c5 o)) : RunE Try.prog 83 Fi (.s (cL (cL (cR (cR (cR (cR (bodyOf Try.f19))))))) :: ks) .normal (G_cred_Check_C3_hd v_c5) := by
  unfold G_cred_Check_C3 at h
  by_cases h33 : v_c5.fCaps < 0
  · rw [if_pos h33] at h
    cases h
    exact pkk_sound TTok mix hF 1 (hs := [.c, .t true, .c, .c, .c, .c, .c, .c, .c, .c, .c, .c, .c, .c, .c, .c]) (ts := []) (s := []) (l := [82]) (by kernel_rfl) (by kernel_rfl) (.cons (dt h33) .nil) q
  · rw [if_neg h33] at h
    by_cases h34 : v_c5.fCaps > 127
    · rw [if_pos h34] at h
      cases h
      exact pkk_sound TTok mix hF 1 (hs := [.c, .t false, .c, .c, .c, .t true, .c, .c, .c, .c, .c, .c, .c, .c, .c, .c, .c]) (ts := []) (s := []) (l := [82]) (by kernel_rfl) (by kernel_rfl) (.cons (df h33) (.cons (dt h34) .nil)) q
    · rw [if_neg h34] at h
      by_cases h35 : v_c5.fLevel < 0
      · rw [if_pos h35] at h
        cases h
        exact pkk_sound TTok mix hF 1 (hs := [.c, .t false, .c, .c, .c, .t false, .c, .c, .c, .t true, .c, .c, .c, .c, .c, .c, .c, .c]) (ts := []) (s := []) (l := [82]) (by kernel_rfl) (by kernel_rfl) (.cons (df h33) (.cons (df h34) (.cons (dt h35) .nil))) q
      · rw [if_neg h35] at h
        by_cases h36 : v_c5.fLevel > 7
        · rw [if_pos h36] at h
          cases h
          exact pkk_sound TTok mix hF 1 (hs := [.c, .t false, .c, .c, .c, .t false, .c, .c, .c, .t false, .c, .c, .c, .t true, .c, .c, .c, .c, .c]) (ts := []) (s := []) (l := [82]) (by kernel_rfl) (by kernel_rfl) (.cons (df h33) (.cons (df h34) (.cons (df h35) (.cons (dt h36) .nil)))) q
        · rw [if_neg h36] at h
          by_cases h37 : v_c5.fKind < 0
          · rw [if_pos h37] at h
            cases h
            exact pkk_sound TTok mix hF 1 (hs := [.c, .t false, .c, .c, .c, .t false, .c, .c, .c, .t false, .c, .c, .c, .t false, .c, .c, .c, .t true, .c, .c]) (ts := []) (s := []) (l := [82]) (by kernel_rfl) (by kernel_rfl) (.cons (df h33) (.cons (df h34) (.cons (df h35) (.cons (df h36) (.cons (dt h37) .nil))))) q
          · rw [if_neg h37] at h
            cases h
            exact pkk_sound TTok mix hF 1 (hs := [.c, .t false, .c, .c, .c, .t false, .c, .c, .c, .t false, .c, .c, .c, .t false, .c, .c, .c, .t false, .c, .c, .c]) (ts := []) (s := []) (l := [82]) (by kernel_rfl) (by kernel_rfl) (.cons (df h33) (.cons (df h34) (.cons (df h35) (.cons (df h36) (.cons (df h37) .nil))))) q
/- ringhall/cred.Check -/
def G_cred_Check (n : Nat) (v_c5 : S_api_Cred) : Option (Int) :=
  (G_cred_Check_L1 n v_c5 n 0).bind fun v_o11 => match v_o11 with
  | .x0 v_z12 =>
    some v_z12
  | .x1  =>
    if (v_c5.fMore.length : Int) > 4 then
     some 2
    else
     (G_cred_Check_L2 n v_c5 n 0).bind fun v_o23 => match v_o23 with
     | .x0 v_z24 =>
       some v_z24
     | .x1  =>
       (G_cred_Check_C3 n v_c5).bind fun v_o31 => match v_o31 with
       | .x0 v_z32 =>
         if v_z32 = true then
          some 1
         else
          some 0
theorem G_cred_Check_ok (n : Nat) (v_c5 : S_api_Cred) (r : Int) (h : G_cred_Check n v_c5 = some r) : Ret Try.prog 19 [eS_api_Cred v_c5] ((eI .i64) r) := by
  refine ret_run (n := 83) (fn := Try.f19) (c := bodyOf Try.f19) (by kernel_rfl) (by kernel_rfl) (by kernel_rfl) (by kernel_rfl) ?_
  have hF : KC 83 (FinR Try.prog Try.f19 ((eI .i64) r)) := FinR.kc' (by kernel_rfl)
  unfold G_cred_Check at h
  obtain ⟨v_o11, h8, h⟩ := bind_some h
  refine pkk_sound TTok mix hF 7 (hs := [.c, .c, .bd, .u (.d (.v (.int .i64 (([v_c5.fUser, v_c5.fGroup]).length : Int)))), .n n]) (ts := []) (s := [0]) (l := [1, 11, 12, 13]) (by kernel_rfl) (by kernel_rfl) (.cons (len_ob (f := (eI .i64)) (l := [v_c5.fUser, v_c5.fGroup])) .nil) (G_cred_Check_L1_ok hF (.b 0 :: .s (cR (cR (bodyOf Try.f19))) :: []) n v_c5 n 0 _ h8 ?_)
  cases v_o11 with
  | x0 v_z12 =>
    try dsimp only at h
    obtain rfl := Option.some.inj h
    exact pend_sound TTok mix 2 (hs := []) (by kernel_rfl) (by kernel_rfl) (by kernel_rfl) .nil
  | x1  =>
    try dsimp only at h
    by_cases h9 : (v_c5.fMore.length : Int) > 4
    · rw [if_pos h9] at h
      obtain rfl := Option.some.inj h
      exact pend_sound TTok mix 9 (hs := [.c, .u (.d (.v (.int .i64 (v_c5.fMore.length : Int)))), .t true]) (by kernel_rfl) (by kernel_rfl) (by kernel_rfl) (.cons (len_ob (f := (eI .i64)) (l := v_c5.fMore)) (.cons (dt h9) .nil))
    · rw [if_neg h9] at h
      obtain ⟨v_o23, h27, h⟩ := bind_some h
      refine pkk_sound TTok mix hF 11 (hs := [.c, .u (.d (.v (.int .i64 (v_c5.fMore.length : Int)))), .t false, .c, .u (.d (.v (.int .i64 (v_c5.fMore.length : Int)))), .n n]) (ts := []) (s := [0]) (l := [1, 29, 30, 31]) (by kernel_rfl) (by kernel_rfl) (.cons (len_ob (f := (eI .i64)) (l := v_c5.fMore)) (.cons (df h9) (.cons (len_ob (f := (eI .i64)) (l := v_c5.fMore)) .nil))) (G_cred_Check_L2_ok hF (.b 2 :: .s (cR (cR (cR (cR (bodyOf Try.f19))))) :: []) n v_c5 n 0 _ h27 ?_)
      cases v_o23 with
      | x0 v_z24 =>
        try dsimp only at h
        obtain rfl := Option.some.inj h
        exact pend_sound TTok mix 2 (hs := []) (by kernel_rfl) (by kernel_rfl) (by kernel_rfl) .nil
      | x1  =>
        try dsimp only at h
        obtain ⟨v_o31, h38, h⟩ := bind_some h
        refine pkk_sound TTok mix hF 3 (hs := []) (ts := []) (s := [0]) (l := [1]) (by kernel_rfl) (by kernel_rfl) .nil (G_cred_Check_C3_ok hF (.s (cR (cL (cR (cR (cR (cR (bodyOf Try.f19))))))) :: .s (cR (cR (cR (cR (cR (bodyOf Try.f19)))))) :: []) n v_c5 _ h38 ?_)
        cases v_o31 with
        | x0 v_z32 =>
          try dsimp only at h
          by_cases h39 : v_z32 = true
          · rw [if_pos h39] at h
            obtain rfl := Option.some.inj h
            exact pend_sound TTok mix 5 (hs := [.t true]) (by kernel_rfl) (by kernel_rfl) (by kernel_rfl) (.cons h39 .nil)
          · rw [if_neg h39] at h
            obtain rfl := Option.some.inj h
            exact pend_sound TTok mix 5 (hs := [.t false]) (by kernel_rfl) (by kernel_rfl) (by kernel_rfl) (.cons (vf h39) .nil)
inductive G_slices_Index_int_int_L1_R where
  | x0 (v_x41 : Int)
  | x1 
def G_slices_Index_int_int_L1_ex : G_slices_Index_int_int_L1_R → Ex
  | .x0 _ => .ret
  | .x1  => .exit 0
def G_slices_Index_int_int_L1_st (v_s36 : (List Int)) (v_v37 : Int) : G_slices_Index_int_int_L1_R → PS
  | .x0 v_x41 => ⟨[dd, dd, dd, dd, .d (.v (.int .i64 v_x41)), dd, dd, dd, dd, dd, dd, dd, dd, dd, dd, dd, dd, dd, dd], []⟩
  | .x1  => ⟨[dd, dd, dd, dd, dd, dd, dd, dd, dd, dd, dd, dd, dd, dd, dd, dd, dd, dd, dd], []⟩
def G_slices_Index_int_int_L1_hd (v_s36 : (List Int)) (v_v37 : Int) (v_x38 : Int) : PS := ⟨[.d (.sl (v_s36.map (eI .i64))), .d (.v (.int .i64 v_v37)), dd, dd, dd, dd, dd, .d (.v (.int .i64 (v_s36.length : Int))), .d (.v (.int .i64 v_x38)), dd, dd, dd, dd, dd, dd, dd, dd, dd, dd], []⟩
def G_slices_Index_int_int_L1 (n : Nat) (v_s36 : (List Int)) (v_v37 : Int) : Nat → Int → Option G_slices_Index_int_int_L1_R
  | 0, _ => none
  | k + 1, v_x38 =>
    if v_x38 < (v_s36.length : Int) then
     (getI v_s36 v_x38).bind fun (v_y40 : Int) =>
     if v_v37 = v_y40 then
      some (.x0 v_x38)
     else
      G_slices_Index_int_int_L1 n v_s36 v_v37 k (wi .i64 (v_x38 + 1))
    else
     some (.x1 )
theorem G_slices_Index_int_int_L1_ok {Fi : Ex → PS → Prop} (hF : KC 19 Fi) (ks : List Fr) (n : Nat) (v_s36 : (List Int)) (v_v37 : Int)  : ∀ (k : Nat) (v_x38 : Int) (o : G_slices_Index_int_int_L1_R), G_slices_Index_int_int_L1 n v_s36 v_v37 k v_x38 = some o → RunE Try.prog 19 Fi ks (G_slices_Index_int_int_L1_ex o) (G_slices_Index_int_int_L1_st v_s36 v_v37 o) → RunE Try.prog 19 Fi (.l k (cP (cB (cR (cL (cR (bodyOf Try.f119)))))) :: ks) .normal (G_slices_Index_int_int_L1_hd v_s36 v_v37 v_x38)
  | 0, v_x38, o, h, q => by rw [G_slices_Index_int_int_L1] at h; cases h
  | k + 1, v_x38, o, h, q => by
    rw [G_slices_Index_int_int_L1] at h
    by_cases h44 : v_x38 < (v_s36.length : Int)
    · rw [if_pos h44] at h
      obtain ⟨v_y40, h47, h⟩ := bind_some h
      by_cases h48 : v_v37 = v_y40
      · rw [if_pos h48] at h
        cases h
        exact pkk_sound TTok mix hF 19 (hs := [.t true, .y ((eI .i64) v_y40), .c, .t true]) (ts := []) (s := []) (l := [4]) (by kernel_rfl) (by kernel_rfl) (.cons (dt h44) (.cons (getI_ob (f := (eI .i64)) h47) (.cons (bt h48) .nil))) q
      · rw [if_neg h48] at h
        exact pkk_sound TTok mix hF 16 (hs := [.t true, .y ((eI .i64) v_y40), .c, .t false]) (ts := []) (s := []) (l := [0, 1, 7, 8]) (by kernel_rfl) (by kernel_rfl) (.cons (dt h44) (.cons (getI_ob (f := (eI .i64)) h47) (.cons (bf h48) .nil))) (G_slices_Index_int_int_L1_ok hF ks n v_s36 v_v37 k (wi .i64 (v_x38 + 1)) _ h q)
    · rw [if_neg h44] at h
      cases h
      exact pkk_sound TTok mix hF 8 (hs := [.t false]) (ts := []) (s := []) (l := []) (by kernel_rfl) (by kernel_rfl) (.cons (df h44) .nil) q
/- slices.Index[[]int,int] -/
def G_slices_Index_int_int (n : Nat) (v_s36 : (List Int)) (v_v37 : Int) : Option (Int) :=
  (G_slices_Index_int_int_L1 n v_s36 v_v37 n 0).bind fun v_o42 => match v_o42 with
  | .x0 v_z43 =>
    some v_z43
  | .x1  =>
    some (-1)
theorem G_slices_Index_int_int_ok (n : Nat) (v_s36 : (List Int)) (v_v37 : Int) (r : Int) (h : G_slices_Index_int_int n v_s36 v_v37 = some r) : Ret Try.prog 119 [(eL (eI .i64)) v_s36, (eI .i64) v_v37] ((eI .i64) r) := by
  refine ret_run (n := 19) (fn := Try.f119) (c := bodyOf Try.f119) (by kernel_rfl) (by kernel_rfl) (by kernel_rfl) (by kernel_rfl) ?_
  have hF : KC 19 (FinR Try.prog Try.f119 ((eI .i64) r)) := FinR.kc' (by kernel_rfl)
  unfold G_slices_Index_int_int at h
  obtain ⟨v_o42, h49, h⟩ := bind_some h
  refine pkk_sound TTok mix hF 7 (hs := [.u (.d (.v (.int .i64 (v_s36.length : Int)))), .n n]) (ts := []) (s := []) (l := [0, 1, 7, 8]) (by kernel_rfl) (by kernel_rfl) (.cons (len_ob (f := (eI .i64)) (l := v_s36)) .nil) (G_slices_Index_int_int_L1_ok hF (.b 0 :: .s (cR (cR (bodyOf Try.f119))) :: []) n v_s36 v_v37 n 0 _ h49 ?_)
  cases v_o42 with
  | x0 v_z43 =>
    try dsimp only at h
    obtain rfl := Option.some.inj h
    exact pend_sound TTok mix 2 (hs := []) (by kernel_rfl) (by kernel_rfl) (by kernel_rfl) .nil
  | x1  =>
    try dsimp only at h
    obtain rfl := Option.some.inj h
    exact pend_sound TTok mix 4 (hs := []) (by kernel_rfl) (by kernel_rfl) (by kernel_rfl) .nil
/- slices.Contains[[]int,int] -/
def G_slices_Contains_int_int (n : Nat) (v_s34 : (List Int)) (v_v35 : Int) : Option (Bool) :=
  (G_slices_Index_int_int n v_s34 v_v35).bind fun (v_r44 : (Int)) =>
  some (decide (v_r44 ≥ 0))
theorem G_slices_Contains_int_int_ok (n : Nat) (v_s34 : (List Int)) (v_v35 : Int) (r : Bool) (h : G_slices_Contains_int_int n v_s34 v_v35 = some r) : Ret Try.prog 21 [(eL (eI .i64)) v_s34, (eI .i64) v_v35] (eB r) := by
  refine ret_run (n := 9) (fn := Try.f21) (c := bodyOf Try.f21) (by kernel_rfl) (by kernel_rfl) (by kernel_rfl) (by kernel_rfl) ?_
  have hF : KC 9 (FinR Try.prog Try.f21 (eB r)) := FinR.kc' (by kernel_rfl)
  unfold G_slices_Contains_int_int at h
  obtain ⟨v_r44, h50, h⟩ := bind_some h
  obtain rfl := Option.some.inj h
  exact pend_sound TTok mix 5 (hs := [.r ((eI .i64) v_r44)]) (by kernel_rfl) (by kernel_rfl) (by kernel_rfl) (.cons (G_slices_Index_int_int_ok n v_s34 v_v35 _ h50) .nil)
/- ringhall/cred.In -/
def G_cred_In (n : Nat) (v_c3 : S_api_Cred) (v_group4 : Int) : Option (Bool × Int) :=
  (G_cred_Check n v_c3).bind fun (v_r33 : (Int)) =>
  if v_r33 = 0 then
   if v_group4 = v_c3.fGroup then
    some (true, 0)
   else
    (G_slices_Contains_int_int n v_c3.fMore v_group4).bind fun (v_r46 : (Bool)) =>
    some (v_r46, 0)
  else
   some (false, v_r33)
theorem G_cred_In_ok (n : Nat) (v_c3 : S_api_Cred) (v_group4 : Int) (r : Bool × Int) (h : G_cred_In n v_c3 v_group4 = some r) : Ret Try.prog 13 [eS_api_Cred v_c3, (eI .i64) v_group4] (.tup [eB r.1, (eI .i64) r.2]) := by
  refine ret_run (n := 22) (fn := Try.f13) (c := bodyOf Try.f13) (by kernel_rfl) (by kernel_rfl) (by kernel_rfl) (by kernel_rfl) ?_
  have hF : KC 22 (FinR Try.prog Try.f13 (.tup [eB r.1, (eI .i64) r.2])) := FinR.kc' (by kernel_rfl)
  unfold G_cred_In at h
  obtain ⟨v_r33, h40, h⟩ := bind_some h
  by_cases h42 : v_r33 = 0
  · rw [if_pos h42] at h
    by_cases h52 : v_group4 = v_c3.fGroup
    · rw [if_pos h52] at h
      obtain rfl := Option.some.inj h
      exact pend_sound TTok mix 12 (hs := [.c, .r ((eI .i64) v_r33), .t false, .c, .t true, .c, .c, .c]) (by kernel_rfl) (by kernel_rfl) (by kernel_rfl) (.cons (G_cred_Check_ok n v_c3 _ h40) (.cons (nf h42) (.cons (bt h52) .nil)))
    · rw [if_neg h52] at h
      obtain ⟨v_r46, h53, h⟩ := bind_some h
      obtain rfl := Option.some.inj h
      exact pend_sound TTok mix 12 (hs := [.c, .r ((eI .i64) v_r33), .t false, .c, .t false, .c, .c, .c, .c, .r (eB v_r46)]) (by kernel_rfl) (by kernel_rfl) (by kernel_rfl) (.cons (G_cred_Check_ok n v_c3 _ h40) (.cons (nf h42) (.cons (bf h52) (.cons (G_slices_Contains_int_int_ok n v_c3.fMore v_group4 _ h53) .nil))))
  · rw [if_neg h42] at h
    obtain rfl := Option.some.inj h
    exact pend_sound TTok mix 12 (hs := [.c, .r ((eI .i64) v_r33), .t true]) (by kernel_rfl) (by kernel_rfl) (by kernel_rfl) (.cons (G_cred_Check_ok n v_c3 _ h40) (.cons (nt h42) .nil))
/- ringhall/cred.Has -/
def G_cred_Has (n : Nat) (v_c48 : S_api_Cred) (v_caps49 : Int) : Option (Bool × Int) :=
  (G_cred_Check n v_c48).bind fun (v_r50 : (Int)) =>
  if v_r50 = 0 then
   if v_caps49 < 0 then
    some (false, 1)
   else
    if v_caps49 > 127 then
     some (false, 1)
    else
     some (((bits .andNot .i64 v_caps49 v_c48.fCaps) == 0), 0)
  else
   some (false, v_r50)
theorem G_cred_Has_ok (n : Nat) (v_c48 : S_api_Cred) (v_caps49 : Int) (r : Bool × Int) (h : G_cred_Has n v_c48 v_caps49 = some r) : Ret Try.prog 14 [eS_api_Cred v_c48, (eI .i64) v_caps49] (.tup [eB r.1, (eI .i64) r.2]) := by
  refine ret_run (n := 23) (fn := Try.f14) (c := bodyOf Try.f14) (by kernel_rfl) (by kernel_rfl) (by kernel_rfl) (by kernel_rfl) ?_
  have hF : KC 23 (FinR Try.prog Try.f14 (.tup [eB r.1, (eI .i64) r.2])) := FinR.kc' (by kernel_rfl)
  unfold G_cred_Has at h
  obtain ⟨v_r50, h55, h⟩ := bind_some h
  by_cases h57 : v_r50 = 0
  · rw [if_pos h57] at h
    by_cases h58 : v_caps49 < 0
    · rw [if_pos h58] at h
      obtain rfl := Option.some.inj h
      exact pend_sound TTok mix 17 (hs := [.c, .r ((eI .i64) v_r50), .t false, .t true, .c, .c]) (by kernel_rfl) (by kernel_rfl) (by kernel_rfl) (.cons (G_cred_Check_ok n v_c48 _ h55) (.cons (nf h57) (.cons (dt h58) .nil)))
    · rw [if_neg h58] at h
      by_cases h59 : v_caps49 > 127
      · rw [if_pos h59] at h
        obtain rfl := Option.some.inj h
        exact pend_sound TTok mix 17 (hs := [.c, .r ((eI .i64) v_r50), .t false, .t false, .c, .t true]) (by kernel_rfl) (by kernel_rfl) (by kernel_rfl) (.cons (G_cred_Check_ok n v_c48 _ h55) (.cons (nf h57) (.cons (df h58) (.cons (dt h59) .nil))))
      · rw [if_neg h59] at h
        obtain rfl := Option.some.inj h
        exact pend_sound TTok mix 17 (hs := [.c, .r ((eI .i64) v_r50), .t false, .t false, .c, .t false, .c]) (by kernel_rfl) (by kernel_rfl) (by kernel_rfl) (.cons (G_cred_Check_ok n v_c48 _ h55) (.cons (nf h57) (.cons (df h58) (.cons (df h59) .nil))))
  · rw [if_neg h57] at h
    obtain rfl := Option.some.inj h
    exact pend_sound TTok mix 12 (hs := [.c, .r ((eI .i64) v_r50), .t true]) (by kernel_rfl) (by kernel_rfl) (by kernel_rfl) (.cons (G_cred_Check_ok n v_c48 _ h55) (.cons (nt h57) .nil))
/- slices.Clone[[]int,int] -/
def G_slices_Clone_int_int_A (n : Nat) (v_c56 : Nat) : Option ((List Int)) :=
  some ([] : List Int)
theorem G_slices_Clone_int_int_A_ok (n : Nat) (v_c56 : Nat) (r : (List Int)) (h : G_slices_Clone_int_int_A n v_c56 = some r) : RetH Try.prog 23 [.d (.v (.slice none 0 v_c56))] [] (.srf 0) [.row 3 1 (r.map (eI .i64))] := by
  refine retH_run (n := 8) (fn := Try.f23) (c := bodyOf Try.f23) (by kernel_rfl) (by kernel_rfl) (by kernel_rfl) (by kernel_rfl) ?_
  have hF : KC 8 (FinH Try.prog Try.f23 [] (.srf 0) [.row 3 1 (r.map (eI .i64))]) := FinH.kc' (by kernel_rfl)
  unfold G_slices_Clone_int_int_A at h
  obtain rfl := Option.some.inj h
  exact pendH_sound TTok mix 11 (hs := [.c, .dl 4, .th 2 3 1]) [12] (by kernel_rfl) (by kernel_rfl) (by kernel_rfl) .nil
/- slices.Clone[[]int,int] -/
def G_slices_Clone_int_int_B (n : Nat) (v_a57 : Addr) (v_c58 : Nat) : Option ((List Int)) :=
  (app 8 ([] : List Int) ([] : (List Int))).bind fun (v_a59 : (List Int)) =>
  some v_a59
theorem G_slices_Clone_int_int_B_ok (n : Nat) (v_a57 : Addr) (v_c58 : Nat) (r : (List Int)) (h : G_slices_Clone_int_int_B n v_a57 v_c58 = some r) : RetH Try.prog 23 [.d (.v (.slice (some v_a57) 0 v_c58))] [] (.srf 0) [.row 3 1 (r.map (eI .i64))] := by
  refine retH_run (n := 8) (fn := Try.f23) (c := bodyOf Try.f23) (by kernel_rfl) (by kernel_rfl) (by kernel_rfl) (by kernel_rfl) ?_
  have hF : KC 8 (FinH Try.prog Try.f23 [] (.srf 0) [.row 3 1 (r.map (eI .i64))]) := FinH.kc' (by kernel_rfl)
  unfold G_slices_Clone_int_int_B at h
  obtain ⟨v_a59, h64, h⟩ := bind_some h
  obtain rfl := Option.some.inj h
  exact pendH_sound TTok mix 10 (hs := [.c, .w (([] : List Int).map (eI .i64)), .w (v_a59.map (eI .i64))]) [15] (by kernel_rfl) (by kernel_rfl) (by kernel_rfl) (.cons (Eq.refl (([] : List Int).map (eI .i64))) (.cons (app_ob (f := (eI .i64)) (s := 1) h64 (fun _ => rfl)).1 (.cons (app_ob (f := (eI .i64)) (s := 1) h64 (fun _ => rfl)).2.1 (.cons (app_ob (f := (eI .i64)) (s := 1) h64 (fun _ => rfl)).2.2.1 (.cons (app_ob (f := (eI .i64)) (s := 1) h64 (fun _ => rfl)).2.2.2 .nil)))))
/- slices.Clone[[]int,int] -/
def G_slices_Clone_int_int_C (n : Nat) (v_y60 : Int) (v_ys61 : (List Int)) : Option ((List Int)) :=
  (app 8 ([] : List Int) (v_y60 :: v_ys61)).bind fun (v_a62 : (List Int)) =>
  some v_a62
theorem G_slices_Clone_int_int_C_ok (n : Nat) (v_y60 : Int) (v_ys61 : (List Int)) (r : (List Int)) (h : G_slices_Clone_int_int_C n v_y60 v_ys61 = some r) : RetH Try.prog 23 [.d (.sl ((eI .i64) v_y60 :: v_ys61.map (eI .i64)))] [] (.srf 0) [.row 3 1 (r.map (eI .i64))] := by
  refine retH_run (n := 8) (fn := Try.f23) (c := bodyOf Try.f23) (by kernel_rfl) (by kernel_rfl) (by kernel_rfl) (by kernel_rfl) ?_
  have hF : KC 8 (FinH Try.prog Try.f23 [] (.srf 0) [.row 3 1 (r.map (eI .i64))]) := FinH.kc' (by kernel_rfl)
  unfold G_slices_Clone_int_int_C at h
  obtain ⟨v_a62, h65, h⟩ := bind_some h
  obtain rfl := Option.some.inj h
  exact pendH_sound TTok mix 10 (hs := [.c, .w (([] : List Int).map (eI .i64)), .w (v_a62.map (eI .i64))]) [15] (by kernel_rfl) (by kernel_rfl) (by kernel_rfl) (.cons (Eq.refl (([] : List Int).map (eI .i64))) (.cons (app_ob (f := (eI .i64)) (s := 1) h65 (fun _ => rfl)).1 (.cons (app_ob (f := (eI .i64)) (s := 1) h65 (fun _ => rfl)).2.1 (.cons (app_ob (f := (eI .i64)) (s := 1) h65 (fun _ => rfl)).2.2.1 (.cons (app_ob (f := (eI .i64)) (s := 1) h65 (fun _ => rfl)).2.2.2 .nil)))))
def G_slices_Clone_int_int (n : Nat) (xs : (List Int)) : Option (List Int) := app 8 [] xs
theorem G_slices_Clone_int_int_ok (n : Nat) (xs : (List Int)) (r : (List Int)) (h : G_slices_Clone_int_int n xs = some r) : RetH Try.prog 23 [.d (.sl (xs.map (eI .i64)))] [] (.srf 0) [.row 3 1 (r.map (eI .i64))] := by
  unfold G_slices_Clone_int_int at h
  have e : app 8 ([] : (List Int)) [] = some [] := by simp [app]
  cases xs with
  | nil =>
    rw [e] at h; obtain rfl := Option.some.inj h
    exact clone_nil (fun c => G_slices_Clone_int_int_A_ok n c _ (by unfold G_slices_Clone_int_int_A; rfl)) (fun a c => G_slices_Clone_int_int_B_ok n a c _ (by unfold G_slices_Clone_int_int_B; rw [e]; rfl))
  | cons y ys => exact G_slices_Clone_int_int_C_ok n y ys _ (by unfold G_slices_Clone_int_int_C; rw [h]; rfl)
/- ringhall/cred.copied -/
def G_cred_copied_h (n : Nat) (v_c55 : S_api_Cred) : Option (S_api_Cred) :=
  (G_slices_Clone_int_int n v_c55.fMore).bind fun (v_r63 : ((List Int))) =>
  some (S_api_Cred.mk v_c55.fUser v_c55.fGroup v_r63 v_c55.fCaps v_c55.fLevel v_c55.fKind)
theorem G_cred_copied_h_ok (n : Nat) (v_c55 : S_api_Cred) (r : S_api_Cred) (h : G_cred_copied_h n v_c55 = some r) : RetH Try.prog 118 [.d (eS_api_Cred v_c55)] [] (.agg [.d (.v (.int .i64 r.fUser)), .d (.v (.int .i64 r.fGroup)), .srf 0, .d (.v (.int .i64 r.fCaps)), .d (.v (.int .i64 r.fLevel)), .d (.v (.int .i64 r.fKind))]) [.row 3 1 (r.fMore.map (eI .i64))] := by
  refine retH_run (n := 8) (fn := Try.f118) (c := bodyOf Try.f118) (by kernel_rfl) (by kernel_rfl) (by kernel_rfl) (by kernel_rfl) ?_
  have hF : KC 8 (FinH Try.prog Try.f118 [] (.agg [.d (.v (.int .i64 r.fUser)), .d (.v (.int .i64 r.fGroup)), .srf 0, .d (.v (.int .i64 r.fCaps)), .d (.v (.int .i64 r.fLevel)), .d (.v (.int .i64 r.fKind))]) [.row 3 1 (r.fMore.map (eI .i64))]) := FinH.kc' (by kernel_rfl)
  unfold G_cred_copied_h at h
  obtain ⟨v_r63, h66, h⟩ := bind_some h
  obtain rfl := Option.some.inj h
  exact pendH_sound TTok mix 7 (hs := [.c, .h [] [] [.row 3 1 (v_r63.map (eI .i64))] (.srf 0), .c, .c, .c]) [12] (by kernel_rfl) (by kernel_rfl) (by kernel_rfl) (.cons (G_slices_Clone_int_int_ok n v_c55.fMore _ h66) (.cons (show 2 + 1 ≤ 6 by decide) (.cons (show 0 + 6 ≤ 6 by decide) .nil)))
/- ringhall/cred.Drop -/
def G_cred_Drop (n : Nat) (v_c52 : S_api_Cred) (v_caps53 : Int) : Option (S_api_Cred × Int) :=
  (G_cred_Has n v_c52 v_caps53).bind fun (v_r54 : (Bool × Int)) =>
  if v_r54.2 = 0 then
   (G_cred_copied_h n v_c52).bind fun (v_r64 : (S_api_Cred)) =>
   some ((S_api_Cred.mk v_r64.fUser v_r64.fGroup v_r64.fMore (bits .andNot .i64 v_r64.fCaps v_caps53) v_r64.fLevel v_r64.fKind), 0)
  else
   some ((S_api_Cred.mk 0 0 ([] : (List Int)) 0 0 0), v_r54.2)
theorem G_cred_Drop_ok (n : Nat) (v_c52 : S_api_Cred) (v_caps53 : Int) (r : S_api_Cred × Int) (h : G_cred_Drop n v_c52 v_caps53 = some r) : Ret Try.prog 15 [eS_api_Cred v_c52, (eI .i64) v_caps53] (.tup [eS_api_Cred r.1, (eI .i64) r.2]) := by
  refine ret_run (n := 26) (fn := Try.f15) (c := bodyOf Try.f15) (by kernel_rfl) (by kernel_rfl) (by kernel_rfl) (by kernel_rfl) ?_
  have hF : KC 26 (FinR Try.prog Try.f15 (.tup [eS_api_Cred r.1, (eI .i64) r.2])) := FinR.kc' (by kernel_rfl)
  unfold G_cred_Drop at h
  obtain ⟨v_r54, h61, h⟩ := bind_some h
  by_cases h63 : v_r54.2 = 0
  · rw [if_pos h63] at h
    obtain ⟨v_r64, h67, h⟩ := bind_some h
    obtain rfl := Option.some.inj h
    exact pend_sound TTok mix 16 (hs := [.c, .r (.tup [eB v_r54.1, (eI .i64) v_r54.2]), .t false, .c, .h [] [] [.row 3 1 (v_r64.fMore.map (eI .i64))] (.agg [.d (.v (.int .i64 v_r64.fUser)), .d (.v (.int .i64 v_r64.fGroup)), .srf 0, .d (.v (.int .i64 v_r64.fCaps)), .d (.v (.int .i64 v_r64.fLevel)), .d (.v (.int .i64 v_r64.fKind))]), .c, .c, .c, .c, .c]) (by kernel_rfl) (by kernel_rfl) (by kernel_rfl) (.cons (G_cred_Has_ok n v_c52 v_caps53 _ h61) (.cons (nf h63) (.cons (G_cred_copied_h_ok n v_c52 _ h67) (.cons (show 0 + 6 ≤ 6 by decide) (.cons (show 3 + 1 ≤ 6 by decide) (.cons (show 0 + 6 ≤ 6 by decide) .nil))))))
  · rw [if_neg h63] at h
    obtain rfl := Option.some.inj h
    exact pend_sound TTok mix 12 (hs := [.c, .r (.tup [eB v_r54.1, (eI .i64) v_r54.2]), .t true, .c]) (by kernel_rfl) (by kernel_rfl) (by kernel_rfl) (.cons (G_cred_Has_ok n v_c52 v_caps53 _ h61) (.cons (nt h63) (.cons (show 0 + 6 ≤ 6 by decide) .nil)))
/- ringhall/cred.Become -/
def G_cred_Become (n : Nat) (v_c66 : S_api_Cred) (v_user67 : Int) : Option (S_api_Cred × Int) :=
  (G_cred_Check n v_c66).bind fun (v_r68 : (Int)) =>
  if v_r68 = 0 then
   if v_user67 < 0 then
    some ((S_api_Cred.mk 0 0 ([] : (List Int)) 0 0 0), 1)
   else
    if v_user67 > 99 then
     some ((S_api_Cred.mk 0 0 ([] : (List Int)) 0 0 0), 1)
    else
     if v_user67 = v_c66.fUser then
      (G_cred_copied_h n v_c66).bind fun (v_r70 : (S_api_Cred)) =>
      if v_user67 = 0 then
       some ((S_api_Cred.mk v_user67 v_r70.fGroup v_r70.fMore v_r70.fCaps v_r70.fLevel v_r70.fKind), 0)
      else
       some ((S_api_Cred.mk v_user67 v_r70.fGroup v_r70.fMore 0 v_r70.fLevel v_r70.fKind), 0)
     else
      if (bits .and .i64 v_c66.fCaps 8) = 0 then
       some ((S_api_Cred.mk 0 0 ([] : (List Int)) 0 0 0), 7)
      else
       (G_cred_copied_h n v_c66).bind fun (v_r69 : (S_api_Cred)) =>
       if v_user67 = 0 then
        some ((S_api_Cred.mk v_user67 v_r69.fGroup v_r69.fMore v_r69.fCaps v_r69.fLevel v_r69.fKind), 0)
       else
        some ((S_api_Cred.mk v_user67 v_r69.fGroup v_r69.fMore 0 v_r69.fLevel v_r69.fKind), 0)
  else
   some ((S_api_Cred.mk 0 0 ([] : (List Int)) 0 0 0), v_r68)
theorem G_cred_Become_ok (n : Nat) (v_c66 : S_api_Cred) (v_user67 : Int) (r : S_api_Cred × Int) (h : G_cred_Become n v_c66 v_user67 = some r) : Ret Try.prog 16 [eS_api_Cred v_c66, (eI .i64) v_user67] (.tup [eS_api_Cred r.1, (eI .i64) r.2]) := by
  refine ret_run (n := 39) (fn := Try.f16) (c := bodyOf Try.f16) (by kernel_rfl) (by kernel_rfl) (by kernel_rfl) (by kernel_rfl) ?_
  have hF : KC 39 (FinR Try.prog Try.f16 (.tup [eS_api_Cred r.1, (eI .i64) r.2])) := FinR.kc' (by kernel_rfl)
  unfold G_cred_Become at h
  obtain ⟨v_r68, h69, h⟩ := bind_some h
  by_cases h71 : v_r68 = 0
  · rw [if_pos h71] at h
    by_cases h72 : v_user67 < 0
    · rw [if_pos h72] at h
      obtain rfl := Option.some.inj h
      exact pend_sound TTok mix 17 (hs := [.c, .r ((eI .i64) v_r68), .t false, .t true, .c, .c, .c]) (by kernel_rfl) (by kernel_rfl) (by kernel_rfl) (.cons (G_cred_Check_ok n v_c66 _ h69) (.cons (nf h71) (.cons (dt h72) (.cons (show 0 + 6 ≤ 6 by decide) .nil))))
    · rw [if_neg h72] at h
      by_cases h74 : v_user67 > 99
      · rw [if_pos h74] at h
        obtain rfl := Option.some.inj h
        exact pend_sound TTok mix 17 (hs := [.c, .r ((eI .i64) v_r68), .t false, .t false, .c, .t true, .c]) (by kernel_rfl) (by kernel_rfl) (by kernel_rfl) (.cons (G_cred_Check_ok n v_c66 _ h69) (.cons (nf h71) (.cons (df h72) (.cons (dt h74) (.cons (show 0 + 6 ≤ 6 by decide) .nil)))))
      · rw [if_neg h74] at h
        by_cases h76 : v_user67 = v_c66.fUser
        · rw [if_pos h76] at h
          obtain ⟨v_r70, h81, h⟩ := bind_some h
          by_cases h82 : v_user67 = 0
          · rw [if_pos h82] at h
            obtain rfl := Option.some.inj h
            exact pend_sound TTok mix 31 (hs := [.c, .r ((eI .i64) v_r68), .t false, .t false, .c, .t false, .c, .t false, .c, .c, .c, .c, .c, .h [] [] [.row 3 1 (v_r70.fMore.map (eI .i64))] (.agg [.d (.v (.int .i64 v_r70.fUser)), .d (.v (.int .i64 v_r70.fGroup)), .srf 0, .d (.v (.int .i64 v_r70.fCaps)), .d (.v (.int .i64 v_r70.fLevel)), .d (.v (.int .i64 v_r70.fKind))]), .c, .t false, .c, .c, .c]) (by kernel_rfl) (by kernel_rfl) (by kernel_rfl) (.cons (G_cred_Check_ok n v_c66 _ h69) (.cons (nf h71) (.cons (df h72) (.cons (df h74) (.cons (nf h76) (.cons (G_cred_copied_h_ok n v_c66 _ h81) (.cons (show 0 + 6 ≤ 6 by decide) (.cons (nf h82) (.cons (show 0 + 1 ≤ 6 by decide) (.cons (show 0 + 6 ≤ 6 by decide) .nil))))))))))
          · rw [if_neg h82] at h
            obtain rfl := Option.some.inj h
            exact pend_sound TTok mix 31 (hs := [.c, .r ((eI .i64) v_r68), .t false, .t false, .c, .t false, .c, .t false, .c, .c, .c, .c, .c, .h [] [] [.row 3 1 (v_r70.fMore.map (eI .i64))] (.agg [.d (.v (.int .i64 v_r70.fUser)), .d (.v (.int .i64 v_r70.fGroup)), .srf 0, .d (.v (.int .i64 v_r70.fCaps)), .d (.v (.int .i64 v_r70.fLevel)), .d (.v (.int .i64 v_r70.fKind))]), .c, .t true, .c, .c, .c, .c]) (by kernel_rfl) (by kernel_rfl) (by kernel_rfl) (.cons (G_cred_Check_ok n v_c66 _ h69) (.cons (nf h71) (.cons (df h72) (.cons (df h74) (.cons (nf h76) (.cons (G_cred_copied_h_ok n v_c66 _ h81) (.cons (show 0 + 6 ≤ 6 by decide) (.cons (nt h82) (.cons (show 3 + 1 ≤ 6 by decide) (.cons (show 0 + 1 ≤ 6 by decide) (.cons (show 0 + 6 ≤ 6 by decide) .nil)))))))))))
        · rw [if_neg h76] at h
          by_cases h78 : (bits .and .i64 v_c66.fCaps 8) = 0
          · rw [if_pos h78] at h
            obtain rfl := Option.some.inj h
            exact pend_sound TTok mix 22 (hs := [.c, .r ((eI .i64) v_r68), .t false, .t false, .c, .t false, .c, .t true, .c, .c, .c, .c, .t true, .c]) (by kernel_rfl) (by kernel_rfl) (by kernel_rfl) (.cons (G_cred_Check_ok n v_c66 _ h69) (.cons (nf h71) (.cons (df h72) (.cons (df h74) (.cons (nt h76) (.cons (bt h78) (.cons (show 0 + 6 ≤ 6 by decide) .nil)))))))
          · rw [if_neg h78] at h
            obtain ⟨v_r69, h79, h⟩ := bind_some h
            by_cases h80 : v_user67 = 0
            · rw [if_pos h80] at h
              obtain rfl := Option.some.inj h
              exact pend_sound TTok mix 31 (hs := [.c, .r ((eI .i64) v_r68), .t false, .t false, .c, .t false, .c, .t true, .c, .c, .c, .c, .t false, .c, .h [] [] [.row 3 1 (v_r69.fMore.map (eI .i64))] (.agg [.d (.v (.int .i64 v_r69.fUser)), .d (.v (.int .i64 v_r69.fGroup)), .srf 0, .d (.v (.int .i64 v_r69.fCaps)), .d (.v (.int .i64 v_r69.fLevel)), .d (.v (.int .i64 v_r69.fKind))]), .c, .t false, .c, .c, .c]) (by kernel_rfl) (by kernel_rfl) (by kernel_rfl) (.cons (G_cred_Check_ok n v_c66 _ h69) (.cons (nf h71) (.cons (df h72) (.cons (df h74) (.cons (nt h76) (.cons (bf h78) (.cons (G_cred_copied_h_ok n v_c66 _ h79) (.cons (show 0 + 6 ≤ 6 by decide) (.cons (nf h80) (.cons (show 0 + 1 ≤ 6 by decide) (.cons (show 0 + 6 ≤ 6 by decide) .nil)))))))))))
            · rw [if_neg h80] at h
              obtain rfl := Option.some.inj h
              exact pend_sound TTok mix 31 (hs := [.c, .r ((eI .i64) v_r68), .t false, .t false, .c, .t false, .c, .t true, .c, .c, .c, .c, .t false, .c, .h [] [] [.row 3 1 (v_r69.fMore.map (eI .i64))] (.agg [.d (.v (.int .i64 v_r69.fUser)), .d (.v (.int .i64 v_r69.fGroup)), .srf 0, .d (.v (.int .i64 v_r69.fCaps)), .d (.v (.int .i64 v_r69.fLevel)), .d (.v (.int .i64 v_r69.fKind))]), .c, .t true, .c, .c, .c, .c]) (by kernel_rfl) (by kernel_rfl) (by kernel_rfl) (.cons (G_cred_Check_ok n v_c66 _ h69) (.cons (nf h71) (.cons (df h72) (.cons (df h74) (.cons (nt h76) (.cons (bf h78) (.cons (G_cred_copied_h_ok n v_c66 _ h79) (.cons (show 0 + 6 ≤ 6 by decide) (.cons (nt h80) (.cons (show 3 + 1 ≤ 6 by decide) (.cons (show 0 + 1 ≤ 6 by decide) (.cons (show 0 + 6 ≤ 6 by decide) .nil))))))))))))
  · rw [if_neg h71] at h
    obtain rfl := Option.some.inj h
    exact pend_sound TTok mix 12 (hs := [.c, .r ((eI .i64) v_r68), .t true, .c]) (by kernel_rfl) (by kernel_rfl) (by kernel_rfl) (.cons (G_cred_Check_ok n v_c66 _ h69) (.cons (nt h71) (.cons (show 0 + 6 ≤ 6 by decide) .nil)))
/- math/bits.Len64 -/
def G_math_bits_Len64 (n : Nat) (v_x79 : Int) : Option (Int) :=
  if v_x79 ≥ 4294967296 then
   if (shrI .u64 v_x79 32) ≥ 65536 then
    if (shrI .u64 (shrI .u64 v_x79 32) 16) ≥ 256 then
     (getS (ByteArray.mk #[0, 1, 2, 2, 3, 3, 3, 3, 4, 4, 4, 4, 4, 4, 4, 4, 5, 5, 5, 5, 5, 5, 5, 5, 5, 5, 5, 5, 5, 5, 5, 5, 6, 6, 6, 6, 6, 6, 6, 6, 6, 6, 6, 6, 6, 6, 6, 6, 6, 6, 6, 6, 6, 6, 6, 6, 6, 6, 6, 6, 6, 6, 6, 6, 7, 7, 7, 7, 7, 7, 7, 7, 7, 7, 7, 7, 7, 7, 7, 7, 7, 7, 7, 7, 7, 7, 7, 7, 7, 7, 7, 7, 7, 7, 7, 7, 7, 7, 7, 7, 7, 7, 7, 7, 7, 7, 7, 7, 7, 7, 7, 7, 7, 7, 7, 7, 7, 7, 7, 7, 7, 7, 7, 7, 7, 7, 7, 7, 8, 8, 8, 8, 8, 8, 8, 8, 8, 8, 8, 8, 8, 8, 8, 8, 8, 8, 8, 8, 8, 8, 8, 8, 8, 8, 8, 8, 8, 8, 8, 8, 8, 8, 8, 8, 8, 8, 8, 8, 8, 8, 8, 8, 8, 8, 8, 8, 8, 8, 8, 8, 8, 8, 8, 8, 8, 8, 8, 8, 8, 8, 8, 8, 8, 8, 8, 8, 8, 8, 8, 8, 8, 8, 8, 8, 8, 8, 8, 8, 8, 8, 8, 8, 8, 8, 8, 8, 8, 8, 8, 8, 8, 8, 8, 8, 8, 8, 8, 8, 8, 8, 8, 8, 8, 8, 8, 8, 8, 8, 8, 8, 8, 8, 8, 8, 8, 8, 8, 8, 8, 8, 8, 8, 8, 8, 8, 8]) (wi .u8 (shrI .u64 (shrI .u64 (shrI .u64 v_x79 32) 16) 8))).bind fun (v_y80 : Int) =>
     some (wi .i64 ((wi .i64 ((wi .i64 (32 + 16)) + 8)) + (wi .i64 v_y80)))
    else
     (getS (ByteArray.mk #[0, 1, 2, 2, 3, 3, 3, 3, 4, 4, 4, 4, 4, 4, 4, 4, 5, 5, 5, 5, 5, 5, 5, 5, 5, 5, 5, 5, 5, 5, 5, 5, 6, 6, 6, 6, 6, 6, 6, 6, 6, 6, 6, 6, 6, 6, 6, 6, 6, 6, 6, 6, 6, 6, 6, 6, 6, 6, 6, 6, 6, 6, 6, 6, 7, 7, 7, 7, 7, 7, 7, 7, 7, 7, 7, 7, 7, 7, 7, 7, 7, 7, 7, 7, 7, 7, 7, 7, 7, 7, 7, 7, 7, 7, 7, 7, 7, 7, 7, 7, 7, 7, 7, 7, 7, 7, 7, 7, 7, 7, 7, 7, 7, 7, 7, 7, 7, 7, 7, 7, 7, 7, 7, 7, 7, 7, 7, 7, 8, 8, 8, 8, 8, 8, 8, 8, 8, 8, 8, 8, 8, 8, 8, 8, 8, 8, 8, 8, 8, 8, 8, 8, 8, 8, 8, 8, 8, 8, 8, 8, 8, 8, 8, 8, 8, 8, 8, 8, 8, 8, 8, 8, 8, 8, 8, 8, 8, 8, 8, 8, 8, 8, 8, 8, 8, 8, 8, 8, 8, 8, 8, 8, 8, 8, 8, 8, 8, 8, 8, 8, 8, 8, 8, 8, 8, 8, 8, 8, 8, 8, 8, 8, 8, 8, 8, 8, 8, 8, 8, 8, 8, 8, 8, 8, 8, 8, 8, 8, 8, 8, 8, 8, 8, 8, 8, 8, 8, 8, 8, 8, 8, 8, 8, 8, 8, 8, 8, 8, 8, 8, 8, 8, 8, 8, 8, 8]) (wi .u8 (shrI .u64 (shrI .u64 v_x79 32) 16))).bind fun (v_y81 : Int) =>
     some (wi .i64 ((wi .i64 (32 + 16)) + (wi .i64 v_y81)))
   else
    if (shrI .u64 v_x79 32) ≥ 256 then
     (getS (ByteArray.mk #[0, 1, 2, 2, 3, 3, 3, 3, 4, 4, 4, 4, 4, 4, 4, 4, 5, 5, 5, 5, 5, 5, 5, 5, 5, 5, 5, 5, 5, 5, 5, 5, 6, 6, 6, 6, 6, 6, 6, 6, 6, 6, 6, 6, 6, 6, 6, 6, 6, 6, 6, 6, 6, 6, 6, 6, 6, 6, 6, 6, 6, 6, 6, 6, 7, 7, 7, 7, 7, 7, 7, 7, 7, 7, 7, 7, 7, 7, 7, 7, 7, 7, 7, 7, 7, 7, 7, 7, 7, 7, 7, 7, 7, 7, 7, 7, 7, 7, 7, 7, 7, 7, 7, 7, 7, 7, 7, 7, 7, 7, 7, 7, 7, 7, 7, 7, 7, 7, 7, 7, 7, 7, 7, 7, 7, 7, 7, 7, 8, 8, 8, 8, 8, 8, 8, 8, 8, 8, 8, 8, 8, 8, 8, 8, 8, 8, 8, 8, 8, 8, 8, 8, 8, 8, 8, 8, 8, 8, 8, 8, 8, 8, 8, 8, 8, 8, 8, 8, 8, 8, 8, 8, 8, 8, 8, 8, 8, 8, 8, 8, 8, 8, 8, 8, 8, 8, 8, 8, 8, 8, 8, 8, 8, 8, 8, 8, 8, 8, 8, 8, 8, 8, 8, 8, 8, 8, 8, 8, 8, 8, 8, 8, 8, 8, 8, 8, 8, 8, 8, 8, 8, 8, 8, 8, 8, 8, 8, 8, 8, 8, 8, 8, 8, 8, 8, 8, 8, 8, 8, 8, 8, 8, 8, 8, 8, 8, 8, 8, 8, 8, 8, 8, 8, 8, 8, 8]) (wi .u8 (shrI .u64 (shrI .u64 v_x79 32) 8))).bind fun (v_y82 : Int) =>
     some (wi .i64 ((wi .i64 (32 + 8)) + (wi .i64 v_y82)))
    else
     (getS (ByteArray.mk #[0, 1, 2, 2, 3, 3, 3, 3, 4, 4, 4, 4, 4, 4, 4, 4, 5, 5, 5, 5, 5, 5, 5, 5, 5, 5, 5, 5, 5, 5, 5, 5, 6, 6, 6, 6, 6, 6, 6, 6, 6, 6, 6, 6, 6, 6, 6, 6, 6, 6, 6, 6, 6, 6, 6, 6, 6, 6, 6, 6, 6, 6, 6, 6, 7, 7, 7, 7, 7, 7, 7, 7, 7, 7, 7, 7, 7, 7, 7, 7, 7, 7, 7, 7, 7, 7, 7, 7, 7, 7, 7, 7, 7, 7, 7, 7, 7, 7, 7, 7, 7, 7, 7, 7, 7, 7, 7, 7, 7, 7, 7, 7, 7, 7, 7, 7, 7, 7, 7, 7, 7, 7, 7, 7, 7, 7, 7, 7, 8, 8, 8, 8, 8, 8, 8, 8, 8, 8, 8, 8, 8, 8, 8, 8, 8, 8, 8, 8, 8, 8, 8, 8, 8, 8, 8, 8, 8, 8, 8, 8, 8, 8, 8, 8, 8, 8, 8, 8, 8, 8, 8, 8, 8, 8, 8, 8, 8, 8, 8, 8, 8, 8, 8, 8, 8, 8, 8, 8, 8, 8, 8, 8, 8, 8, 8, 8, 8, 8, 8, 8, 8, 8, 8, 8, 8, 8, 8, 8, 8, 8, 8, 8, 8, 8, 8, 8, 8, 8, 8, 8, 8, 8, 8, 8, 8, 8, 8, 8, 8, 8, 8, 8, 8, 8, 8, 8, 8, 8, 8, 8, 8, 8, 8, 8, 8, 8, 8, 8, 8, 8, 8, 8, 8, 8, 8, 8]) (wi .u8 (shrI .u64 v_x79 32))).bind fun (v_y83 : Int) =>
     some (wi .i64 (32 + (wi .i64 v_y83)))
  else
   if v_x79 ≥ 65536 then
    if (shrI .u64 v_x79 16) ≥ 256 then
     (getS (ByteArray.mk #[0, 1, 2, 2, 3, 3, 3, 3, 4, 4, 4, 4, 4, 4, 4, 4, 5, 5, 5, 5, 5, 5, 5, 5, 5, 5, 5, 5, 5, 5, 5, 5, 6, 6, 6, 6, 6, 6, 6, 6, 6, 6, 6, 6, 6, 6, 6, 6, 6, 6, 6, 6, 6, 6, 6, 6, 6, 6, 6, 6, 6, 6, 6, 6, 7, 7, 7, 7, 7, 7, 7, 7, 7, 7, 7, 7, 7, 7, 7, 7, 7, 7, 7, 7, 7, 7, 7, 7, 7, 7, 7, 7, 7, 7, 7, 7, 7, 7, 7, 7, 7, 7, 7, 7, 7, 7, 7, 7, 7, 7, 7, 7, 7, 7, 7, 7, 7, 7, 7, 7, 7, 7, 7, 7, 7, 7, 7, 7, 8, 8, 8, 8, 8, 8, 8, 8, 8, 8, 8, 8, 8, 8, 8, 8, 8, 8, 8, 8, 8, 8, 8, 8, 8, 8, 8, 8, 8, 8, 8, 8, 8, 8, 8, 8, 8, 8, 8, 8, 8, 8, 8, 8, 8, 8, 8, 8, 8, 8, 8, 8, 8, 8, 8, 8, 8, 8, 8, 8, 8, 8, 8, 8, 8, 8, 8, 8, 8, 8, 8, 8, 8, 8, 8, 8, 8, 8, 8, 8, 8, 8, 8, 8, 8, 8, 8, 8, 8, 8, 8, 8, 8, 8, 8, 8, 8, 8, 8, 8, 8, 8, 8, 8, 8, 8, 8, 8, 8, 8, 8, 8, 8, 8, 8, 8, 8, 8, 8, 8, 8, 8, 8, 8, 8, 8, 8, 8]) (wi .u8 (shrI .u64 (shrI .u64 v_x79 16) 8))).bind fun (v_y84 : Int) =>
     some (wi .i64 ((wi .i64 ((wi .i64 (0 + 16)) + 8)) + (wi .i64 v_y84)))
    else
     (getS (ByteArray.mk #[0, 1, 2, 2, 3, 3, 3, 3, 4, 4, 4, 4, 4, 4, 4, 4, 5, 5, 5, 5, 5, 5, 5, 5, 5, 5, 5, 5, 5, 5, 5, 5, 6, 6, 6, 6, 6, 6, 6, 6, 6, 6, 6, 6, 6, 6, 6, 6, 6, 6, 6, 6, 6, 6, 6, 6, 6, 6, 6, 6, 6, 6, 6, 6, 7, 7, 7, 7, 7, 7, 7, 7, 7, 7, 7, 7, 7, 7, 7, 7, 7, 7, 7, 7, 7, 7, 7, 7, 7, 7, 7, 7, 7, 7, 7, 7, 7, 7, 7, 7, 7, 7, 7, 7, 7, 7, 7, 7, 7, 7, 7, 7, 7, 7, 7, 7, 7, 7, 7, 7, 7, 7, 7, 7, 7, 7, 7, 7, 8, 8, 8, 8, 8, 8, 8, 8, 8, 8, 8, 8, 8, 8, 8, 8, 8, 8, 8, 8, 8, 8, 8, 8, 8, 8, 8, 8, 8, 8, 8, 8, 8, 8, 8, 8, 8, 8, 8, 8, 8, 8, 8, 8, 8, 8, 8, 8, 8, 8, 8, 8, 8, 8, 8, 8, 8, 8, 8, 8, 8, 8, 8, 8, 8, 8, 8, 8, 8, 8, 8, 8, 8, 8, 8, 8, 8, 8, 8, 8, 8, 8, 8, 8, 8, 8, 8, 8, 8, 8, 8, 8, 8, 8, 8, 8, 8, 8, 8, 8, 8, 8, 8, 8, 8, 8, 8, 8, 8, 8, 8, 8, 8, 8, 8, 8, 8, 8, 8, 8, 8, 8, 8, 8, 8, 8, 8, 8]) (wi .u8 (shrI .u64 v_x79 16))).bind fun (v_y85 : Int) =>
     some (wi .i64 ((wi .i64 (0 + 16)) + (wi .i64 v_y85)))
   else
    if v_x79 ≥ 256 then
     (getS (ByteArray.mk #[0, 1, 2, 2, 3, 3, 3, 3, 4, 4, 4, 4, 4, 4, 4, 4, 5, 5, 5, 5, 5, 5, 5, 5, 5, 5, 5, 5, 5, 5, 5, 5, 6, 6, 6, 6, 6, 6, 6, 6, 6, 6, 6, 6, 6, 6, 6, 6, 6, 6, 6, 6, 6, 6, 6, 6, 6, 6, 6, 6, 6, 6, 6, 6, 7, 7, 7, 7, 7, 7, 7, 7, 7, 7, 7, 7, 7, 7, 7, 7, 7, 7, 7, 7, 7, 7, 7, 7, 7, 7, 7, 7, 7, 7, 7, 7, 7, 7, 7, 7, 7, 7, 7, 7, 7, 7, 7, 7, 7, 7, 7, 7, 7, 7, 7, 7, 7, 7, 7, 7, 7, 7, 7, 7, 7, 7, 7, 7, 8, 8, 8, 8, 8, 8, 8, 8, 8, 8, 8, 8, 8, 8, 8, 8, 8, 8, 8, 8, 8, 8, 8, 8, 8, 8, 8, 8, 8, 8, 8, 8, 8, 8, 8, 8, 8, 8, 8, 8, 8, 8, 8, 8, 8, 8, 8, 8, 8, 8, 8, 8, 8, 8, 8, 8, 8, 8, 8, 8, 8, 8, 8, 8, 8, 8, 8, 8, 8, 8, 8, 8, 8, 8, 8, 8, 8, 8, 8, 8, 8, 8, 8, 8, 8, 8, 8, 8, 8, 8, 8, 8, 8, 8, 8, 8, 8, 8, 8, 8, 8, 8, 8, 8, 8, 8, 8, 8, 8, 8, 8, 8, 8, 8, 8, 8, 8, 8, 8, 8, 8, 8, 8, 8, 8, 8, 8, 8]) (wi .u8 (shrI .u64 v_x79 8))).bind fun (v_y86 : Int) =>
     some (wi .i64 ((wi .i64 (0 + 8)) + (wi .i64 v_y86)))
    else
     (getS (ByteArray.mk #[0, 1, 2, 2, 3, 3, 3, 3, 4, 4, 4, 4, 4, 4, 4, 4, 5, 5, 5, 5, 5, 5, 5, 5, 5, 5, 5, 5, 5, 5, 5, 5, 6, 6, 6, 6, 6, 6, 6, 6, 6, 6, 6, 6, 6, 6, 6, 6, 6, 6, 6, 6, 6, 6, 6, 6, 6, 6, 6, 6, 6, 6, 6, 6, 7, 7, 7, 7, 7, 7, 7, 7, 7, 7, 7, 7, 7, 7, 7, 7, 7, 7, 7, 7, 7, 7, 7, 7, 7, 7, 7, 7, 7, 7, 7, 7, 7, 7, 7, 7, 7, 7, 7, 7, 7, 7, 7, 7, 7, 7, 7, 7, 7, 7, 7, 7, 7, 7, 7, 7, 7, 7, 7, 7, 7, 7, 7, 7, 8, 8, 8, 8, 8, 8, 8, 8, 8, 8, 8, 8, 8, 8, 8, 8, 8, 8, 8, 8, 8, 8, 8, 8, 8, 8, 8, 8, 8, 8, 8, 8, 8, 8, 8, 8, 8, 8, 8, 8, 8, 8, 8, 8, 8, 8, 8, 8, 8, 8, 8, 8, 8, 8, 8, 8, 8, 8, 8, 8, 8, 8, 8, 8, 8, 8, 8, 8, 8, 8, 8, 8, 8, 8, 8, 8, 8, 8, 8, 8, 8, 8, 8, 8, 8, 8, 8, 8, 8, 8, 8, 8, 8, 8, 8, 8, 8, 8, 8, 8, 8, 8, 8, 8, 8, 8, 8, 8, 8, 8, 8, 8, 8, 8, 8, 8, 8, 8, 8, 8, 8, 8, 8, 8, 8, 8, 8, 8]) (wi .u8 v_x79)).bind fun (v_y87 : Int) =>
     some (wi .i64 (0 + (wi .i64 v_y87)))
theorem G_math_bits_Len64_ok (n : Nat) (v_x79 : Int) (r : Int) (h : G_math_bits_Len64 n v_x79 = some r) : Ret Try.prog 185 [(eI .u64) v_x79] ((eI .i64) r) := by
  refine ret_run (n := 25) (fn := Try.f185) (c := bodyOf Try.f185) (by kernel_rfl) (by kernel_rfl) (by kernel_rfl) (by kernel_rfl) ?_
  have hF : KC 25 (FinR Try.prog Try.f185 ((eI .i64) r)) := FinR.kc' (by kernel_rfl)
  unfold G_math_bits_Len64 at h
  by_cases h100 : v_x79 ≥ 4294967296
  · rw [if_pos h100] at h
    by_cases h104 : (shrI .u64 v_x79 32) ≥ 65536
    · rw [if_pos h104] at h
      by_cases h108 : (shrI .u64 (shrI .u64 v_x79 32) 16) ≥ 256
      · rw [if_pos h108] at h
        obtain ⟨v_y80, h110, h⟩ := bind_some h
        obtain rfl := Option.some.inj h
        exact pend_sound TTok mix 26 (hs := [.t true, .t true, .t true, .l (.d (.v (.int .u8 v_y80)))]) (by kernel_rfl) (by kernel_rfl) (by kernel_rfl) (.cons (dt h100) (.cons (show (0 : Int) ≤ 32 by decide) (.cons (dt h104) (.cons (show (0 : Int) ≤ 16 by decide) (.cons (dt h108) (.cons (show (0 : Int) ≤ 8 by decide) (.cons (getS_ob h110) .nil)))))))
      · rw [if_neg h108] at h
        obtain ⟨v_y81, h111, h⟩ := bind_some h
        obtain rfl := Option.some.inj h
        exact pend_sound TTok mix 24 (hs := [.t true, .t true, .t false, .l (.d (.v (.int .u8 v_y81)))]) (by kernel_rfl) (by kernel_rfl) (by kernel_rfl) (.cons (dt h100) (.cons (show (0 : Int) ≤ 32 by decide) (.cons (dt h104) (.cons (show (0 : Int) ≤ 16 by decide) (.cons (df h108) (.cons (getS_ob h111) .nil))))))
    · rw [if_neg h104] at h
      by_cases h114 : (shrI .u64 v_x79 32) ≥ 256
      · rw [if_pos h114] at h
        obtain ⟨v_y82, h116, h⟩ := bind_some h
        obtain rfl := Option.some.inj h
        exact pend_sound TTok mix 24 (hs := [.t true, .t false, .t true, .l (.d (.v (.int .u8 v_y82)))]) (by kernel_rfl) (by kernel_rfl) (by kernel_rfl) (.cons (dt h100) (.cons (show (0 : Int) ≤ 32 by decide) (.cons (df h104) (.cons (dt h114) (.cons (show (0 : Int) ≤ 8 by decide) (.cons (getS_ob h116) .nil))))))
      · rw [if_neg h114] at h
        obtain ⟨v_y83, h117, h⟩ := bind_some h
        obtain rfl := Option.some.inj h
        exact pend_sound TTok mix 22 (hs := [.t true, .t false, .t false, .l (.d (.v (.int .u8 v_y83)))]) (by kernel_rfl) (by kernel_rfl) (by kernel_rfl) (.cons (dt h100) (.cons (show (0 : Int) ≤ 32 by decide) (.cons (df h104) (.cons (df h114) (.cons (getS_ob h117) .nil)))))
  · rw [if_neg h100] at h
    by_cases h120 : v_x79 ≥ 65536
    · rw [if_pos h120] at h
      by_cases h124 : (shrI .u64 v_x79 16) ≥ 256
      · rw [if_pos h124] at h
        obtain ⟨v_y84, h126, h⟩ := bind_some h
        obtain rfl := Option.some.inj h
        exact pend_sound TTok mix 24 (hs := [.t false, .t true, .t true, .l (.d (.v (.int .u8 v_y84)))]) (by kernel_rfl) (by kernel_rfl) (by kernel_rfl) (.cons (df h100) (.cons (dt h120) (.cons (show (0 : Int) ≤ 16 by decide) (.cons (dt h124) (.cons (show (0 : Int) ≤ 8 by decide) (.cons (getS_ob h126) .nil))))))
      · rw [if_neg h124] at h
        obtain ⟨v_y85, h127, h⟩ := bind_some h
        obtain rfl := Option.some.inj h
        exact pend_sound TTok mix 22 (hs := [.t false, .t true, .t false, .l (.d (.v (.int .u8 v_y85)))]) (by kernel_rfl) (by kernel_rfl) (by kernel_rfl) (.cons (df h100) (.cons (dt h120) (.cons (show (0 : Int) ≤ 16 by decide) (.cons (df h124) (.cons (getS_ob h127) .nil)))))
    · rw [if_neg h120] at h
      by_cases h130 : v_x79 ≥ 256
      · rw [if_pos h130] at h
        obtain ⟨v_y86, h132, h⟩ := bind_some h
        obtain rfl := Option.some.inj h
        exact pend_sound TTok mix 22 (hs := [.t false, .t false, .t true, .l (.d (.v (.int .u8 v_y86)))]) (by kernel_rfl) (by kernel_rfl) (by kernel_rfl) (.cons (df h100) (.cons (df h120) (.cons (dt h130) (.cons (show (0 : Int) ≤ 8 by decide) (.cons (getS_ob h132) .nil)))))
      · rw [if_neg h130] at h
        obtain ⟨v_y87, h133, h⟩ := bind_some h
        obtain rfl := Option.some.inj h
        exact pend_sound TTok mix 20 (hs := [.t false, .t false, .t false, .l (.d (.v (.int .u8 v_y87)))]) (by kernel_rfl) (by kernel_rfl) (by kernel_rfl) (.cons (df h100) (.cons (df h120) (.cons (df h130) (.cons (getS_ob h133) .nil))))
/- math/bits.Len -/
def G_math_bits_Len (n : Nat) (v_x78 : Int) : Option (Int) :=
  (G_math_bits_Len64 n v_x78).bind fun (v_r88 : (Int)) =>
  some v_r88
theorem G_math_bits_Len_ok (n : Nat) (v_x78 : Int) (r : Int) (h : G_math_bits_Len n v_x78 = some r) : Ret Try.prog 121 [(eI .u64) v_x78] ((eI .i64) r) := by
  refine ret_run (n := 8) (fn := Try.f121) (c := bodyOf Try.f121) (by kernel_rfl) (by kernel_rfl) (by kernel_rfl) (by kernel_rfl) ?_
  have hF : KC 8 (FinR Try.prog Try.f121 ((eI .i64) r)) := FinR.kc' (by kernel_rfl)
  unfold G_math_bits_Len at h
  obtain ⟨v_r88, h134, h⟩ := bind_some h
  obtain rfl := Option.some.inj h
  exact pend_sound TTok mix 8 (hs := [.c, .r ((eI .i64) v_r88)]) (by kernel_rfl) (by kernel_rfl) (by kernel_rfl) (.cons (G_math_bits_Len64_ok n v_x78 _ h134) .nil)
/- cmp.isNaN[int] -/
def G_cmp_isNaN_int (n : Nat) (v_x111 : Int) : Option (Bool) :=
  some (v_x111 != v_x111)
theorem G_cmp_isNaN_int_ok (n : Nat) (v_x111 : Int) (r : Bool) (h : G_cmp_isNaN_int n v_x111 = some r) : Ret Try.prog 212 [(eI .i64) v_x111] (eB r) := by
  refine ret_run (n := 6) (fn := Try.f212) (c := bodyOf Try.f212) (by kernel_rfl) (by kernel_rfl) (by kernel_rfl) (by kernel_rfl) ?_
  have hF : KC 6 (FinR Try.prog Try.f212 (eB r)) := FinR.kc' (by kernel_rfl)
  unfold G_cmp_isNaN_int at h
  obtain rfl := Option.some.inj h
  exact pend_sound TTok mix 5 (hs := []) (by kernel_rfl) (by kernel_rfl) (by kernel_rfl) .nil
inductive G_cmp_Less_int_C1_R where
  | x0 (v_x116 : Bool)
def G_cmp_Less_int_C1_ex : G_cmp_Less_int_C1_R → Ex
  | .x0 _ => .normal
def G_cmp_Less_int_C1_st (v_x109 : Int) (v_y110 : Int) : G_cmp_Less_int_C1_R → PS
  | .x0 v_x116 => ⟨[dd, dd, dd, dd, .d (.v (.bool v_x116)), dd, dd, dd, dd, dd, dd, dd, dd, dd, dd, dd, dd], []⟩
def G_cmp_Less_int_C1_hd (v_x109 : Int) (v_y110 : Int)  : PS := ⟨[.d (.v (.int .i64 v_x109)), .d (.v (.int .i64 v_y110)), dd, dd, dd, dd, dd, dd, dd, dd, dd, dd, dd, dd, dd, dd, dd], []⟩
def G_cmp_Less_int_C1 (n : Nat) (v_x109 : Int) (v_y110 : Int) : Option G_cmp_Less_int_C1_R :=
  (G_cmp_isNaN_int n v_x109).bind fun (v_r114 : (Bool)) =>
  if v_r114 = true then
   (G_cmp_isNaN_int n v_y110).bind fun (v_r115 : (Bool)) =>
   if v_r115 = true then
    some (.x0 (decide (v_x109 < v_y110)))
   else
    some (.x0 true)
  else
   some (.x0 (decide (v_x109 < v_y110)))
theorem G_cmp_Less_int_C1_ok {Fi : Ex → PS → Prop} (hF : KC 17 Fi) (ks : List Fr) (n : Nat) (v_x109 : Int) (v_y110 : Int)  (o : G_cmp_Less_int_C1_R) (h : G_cmp_Less_int_C1 n v_x109 v_y110 = some o) (q : RunE Try.prog 17 Fi ks (G_cmp_Less_int_C1_ex o) (G_cmp_Less_int_C1_st v_x109 v_y110 o)) : RunE Try.prog 17 Fi (.s (cL (cR (bodyOf Try.f181))) :: ks) .normal (G_cmp_Less_int_C1_hd v_x109 v_y110) := by
  unfold G_cmp_Less_int_C1 at h
  obtain ⟨v_r114, h147, h⟩ := bind_some h
  by_cases h148 : v_r114 = true
  · rw [if_pos h148] at h
    obtain ⟨v_r115, h149, h⟩ := bind_some h
    by_cases h150 : v_r115 = true
    · rw [if_pos h150] at h
      cases h
      exact pkk_sound TTok mix hF 1 (hs := [.r (eB v_r114), .t true, .c, .r (eB v_r115), .c, .t false, .c, .c]) (ts := []) (s := []) (l := [4]) (by kernel_rfl) (by kernel_rfl) (.cons (G_cmp_isNaN_int_ok n v_x109 _ h147) (.cons h148 (.cons (G_cmp_isNaN_int_ok n v_y110 _ h149) (.cons (bnf h150) .nil)))) q
    · rw [if_neg h150] at h
      cases h
      exact pkk_sound TTok mix hF 1 (hs := [.r (eB v_r114), .t true, .c, .r (eB v_r115), .c, .t true, .c, .c]) (ts := []) (s := []) (l := [4]) (by kernel_rfl) (by kernel_rfl) (.cons (G_cmp_isNaN_int_ok n v_x109 _ h147) (.cons h148 (.cons (G_cmp_isNaN_int_ok n v_y110 _ h149) (.cons (bnt (vf h150)) .nil)))) q
  · rw [if_neg h148] at h
    cases h
    exact pkk_sound TTok mix hF 1 (hs := [.r (eB v_r114), .t false, .c, .c, .c, .c, .c]) (ts := []) (s := []) (l := [4]) (by kernel_rfl) (by kernel_rfl) (.cons (G_cmp_isNaN_int_ok n v_x109 _ h147) (.cons (vf h148) .nil)) q
/- cmp.Less[int] -/
def G_cmp_Less_int (n : Nat) (v_x109 : Int) (v_y110 : Int) : Option (Bool) :=
  (G_cmp_Less_int_C1 n v_x109 v_y110).bind fun v_o119 => match v_o119 with
  | .x0 v_z120 =>
    some v_z120
theorem G_cmp_Less_int_ok (n : Nat) (v_x109 : Int) (v_y110 : Int) (r : Bool) (h : G_cmp_Less_int n v_x109 v_y110 = some r) : Ret Try.prog 181 [(eI .i64) v_x109, (eI .i64) v_y110] (eB r) := by
  refine ret_run (n := 17) (fn := Try.f181) (c := bodyOf Try.f181) (by kernel_rfl) (by kernel_rfl) (by kernel_rfl) (by kernel_rfl) ?_
  have hF : KC 17 (FinR Try.prog Try.f181 (eB r)) := FinR.kc' (by kernel_rfl)
  unfold G_cmp_Less_int at h
  obtain ⟨v_o119, h151, h⟩ := bind_some h
  refine pkk_sound TTok mix hF 3 (hs := []) (ts := []) (s := []) (l := [0, 1]) (by kernel_rfl) (by kernel_rfl) .nil (G_cmp_Less_int_C1_ok hF (.s (cR (cR (bodyOf Try.f181))) :: []) n v_x109 v_y110 _ h151 ?_)
  cases v_o119 with
  | x0 v_z120 =>
    try dsimp only at h
    obtain rfl := Option.some.inj h
    exact pend_sound TTok mix 1 (hs := []) (by kernel_rfl) (by kernel_rfl) (by kernel_rfl) .nil
inductive G_slices_insertionSortOrdered_int_h_L1_R where
  | x0 (v_w133 : (List Int))
def G_slices_insertionSortOrdered_int_h_L1_ex : G_slices_insertionSortOrdered_int_h_L1_R → Ex
  | .x0 _ => .exit 2
def G_slices_insertionSortOrdered_int_h_L1_st (v_a101 : Int) (v_b102 : Int) (v_i103 : Int) : G_slices_insertionSortOrdered_int_h_L1_R → PS
  | .x0 v_w133 => ⟨[.srf 1, .d (.v (.int .i64 v_a101)), .d (.v (.int .i64 v_b102)), dd, dd, dd, .d (.v (.int .i64 v_i103)), dd, dd, dd, dd, dd, dd, dd, dd, dd, dd, dd, dd, dd, dd, dd, dd, dd, dd, dd, dd, dd, dd, dd, dd, dd, dd, dd, dd, dd, dd, dd, dd, dd, dd, dd, dd, dd, dd, dd, dd, dd, dd], [.gh 0 (.srf 1), .row 3 1 (v_w133.map (eI .i64))]⟩
def G_slices_insertionSortOrdered_int_h_L1_hd (v_a101 : Int) (v_b102 : Int) (v_i103 : Int) (v_j105 : Int) (v_w106 : (List Int)) : PS := ⟨[.srf 1, .d (.v (.int .i64 v_a101)), .d (.v (.int .i64 v_b102)), dd, dd, dd, .d (.v (.int .i64 v_i103)), .d (.v (.int .i64 v_j105)), dd, dd, dd, dd, dd, dd, dd, dd, dd, dd, dd, dd, dd, dd, dd, dd, dd, dd, dd, dd, dd, dd, dd, dd, dd, dd, dd, dd, dd, dd, dd, dd, dd, dd, dd, dd, dd, dd, dd, dd, dd], [.gh 0 (.srf 1), .row 3 1 (v_w106.map (eI .i64))]⟩
def G_slices_insertionSortOrdered_int_h_L1 (n : Nat) (v_a101 : Int) (v_b102 : Int) (v_i103 : Int) : Nat → Int → (List Int) → Option G_slices_insertionSortOrdered_int_h_L1_R
  | 0, _, _ => none
  | k + 1, v_j105, v_w106 =>
    if v_j105 > v_a101 then
     if 0 ≤ v_j105 ∧ (v_j105).toNat < v_w106.length then
      (v_w106[(v_j105).toNat]?).bind fun (v_y122 : Int) =>
      if 0 ≤ (wi .i64 (v_j105 - 1)) ∧ ((wi .i64 (v_j105 - 1))).toNat < v_w106.length then
       (v_w106[((wi .i64 (v_j105 - 1))).toNat]?).bind fun (v_y123 : Int) =>
       (G_cmp_Less_int n v_y122 v_y123).bind fun (v_r124 : (Bool)) =>
       if v_r124 = true then
        if 0 ≤ (wi .i64 (v_j105 - 1)) ∧ ((wi .i64 (v_j105 - 1))).toNat < v_w106.length then
         (v_w106[((wi .i64 (v_j105 - 1))).toNat]?).bind fun (v_y129 : Int) =>
         if 0 ≤ v_j105 ∧ (v_j105).toNat < v_w106.length then
          (v_w106[(v_j105).toNat]?).bind fun (v_y130 : Int) =>
          if 0 ≤ v_j105 ∧ (v_j105).toNat < v_w106.length then
           (v_w106[(v_j105).toNat]?).bind fun (v_y131 : Int) =>
           if 0 ≤ (wi .i64 (v_j105 - 1)) ∧ ((wi .i64 (v_j105 - 1))).toNat < (v_w106.set (v_j105).toNat v_y129).length then
            ((v_w106.set (v_j105).toNat v_y129)[((wi .i64 (v_j105 - 1))).toNat]?).bind fun (v_y132 : Int) =>
            G_slices_insertionSortOrdered_int_h_L1 n v_a101 v_b102 v_i103 k (wi .i64 (v_j105 - 1)) ((v_w106.set (v_j105).toNat v_y129).set ((wi .i64 (v_j105 - 1))).toNat v_y130)
           else none
          else none
         else none
        else none
       else
        some (.x0 v_w106)
      else none
     else none
    else
     some (.x0 v_w106)
theorem G_slices_insertionSortOrdered_int_h_L1_ok {Fi : Ex → PS → Prop} (hF : KC 49 Fi) (ks : List Fr) (n : Nat) (v_a101 : Int) (v_b102 : Int) (v_i103 : Int)  : ∀ (k : Nat) (v_j105 : Int) (v_w106 : (List Int)) (o : G_slices_insertionSortOrdered_int_h_L1_R), G_slices_insertionSortOrdered_int_h_L1 n v_a101 v_b102 v_i103 k v_j105 v_w106 = some o → RunE Try.prog 49 Fi ks (G_slices_insertionSortOrdered_int_h_L1_ex o) (G_slices_insertionSortOrdered_int_h_L1_st v_a101 v_b102 v_i103 o) → RunE Try.prog 49 Fi (.l k (cP (cB (cR (cB (cL (cR (cP (cB (cR (bodyOf Try.f175)))))))))) :: ks) .normal (G_slices_insertionSortOrdered_int_h_L1_hd v_a101 v_b102 v_i103 v_j105 v_w106)
  | 0, v_j105, v_w106, o, h, q => by rw [G_slices_insertionSortOrdered_int_h_L1] at h; cases h
  | k + 1, v_j105, v_w106, o, h, q => by
    rw [G_slices_insertionSortOrdered_int_h_L1] at h
    by_cases h153 : v_j105 > v_a101
    · rw [if_pos h153] at h
      by_cases h154 : 0 ≤ v_j105 ∧ (v_j105).toNat < v_w106.length
      · rw [if_pos h154] at h
        obtain ⟨v_y122, h155, h⟩ := bind_some h
        by_cases h156 : 0 ≤ (wi .i64 (v_j105 - 1)) ∧ ((wi .i64 (v_j105 - 1))).toNat < v_w106.length
        · rw [if_pos h156] at h
          obtain ⟨v_y123, h157, h⟩ := bind_some h
          obtain ⟨v_r124, h158, h⟩ := bind_some h
          by_cases h159 : v_r124 = true
          · rw [if_pos h159] at h
            by_cases h168 : 0 ≤ (wi .i64 (v_j105 - 1)) ∧ ((wi .i64 (v_j105 - 1))).toNat < v_w106.length
            · rw [if_pos h168] at h
              obtain ⟨v_y129, h169, h⟩ := bind_some h
              by_cases h170 : 0 ≤ v_j105 ∧ (v_j105).toNat < v_w106.length
              · rw [if_pos h170] at h
                obtain ⟨v_y130, h171, h⟩ := bind_some h
                by_cases h172 : 0 ≤ v_j105 ∧ (v_j105).toNat < v_w106.length
                · rw [if_pos h172] at h
                  obtain ⟨v_y131, h173, h⟩ := bind_some h
                  by_cases h174 : 0 ≤ (wi .i64 (v_j105 - 1)) ∧ ((wi .i64 (v_j105 - 1))).toNat < (v_w106.set (v_j105).toNat v_y129).length
                  · rw [if_pos h174] at h
                    obtain ⟨v_y132, h175, h⟩ := bind_some h
                    exact pkk_sound TTok mix hF 11 (hs := [.t true, .c, .c, .c, .y ((eI .i64) v_y122), .c, .c, .c, .c, .c, .y ((eI .i64) v_y123), .c, .r (eB v_r124), .t true, .y ((eI .i64) v_y129), .y ((eI .i64) v_y130), .w ((v_w106.set (v_j105).toNat v_y129).map (eI .i64)), .y ((eI .i64) v_y131), .w (((v_w106.set (v_j105).toNat v_y129).set ((wi .i64 (v_j105 - 1))).toNat v_y130).map (eI .i64)), .y ((eI .i64) v_y132)]) (ts := []) (s := [0, 1]) (l := [0, 1, 2, 6, 7]) (by kernel_rfl) (by kernel_rfl) (.cons (dt h153) (.cons (idx_ob (f := (eI .i64)) h154) (.cons (get_ob (f := (eI .i64)) h155) (.cons (idx_ob (f := (eI .i64)) h156) (.cons (get_ob (f := (eI .i64)) h157) (.cons (G_cmp_Less_int_ok n v_y122 v_y123 _ h158) (.cons h159 (.cons (idx_ob (f := (eI .i64)) h168) (.cons (get_ob (f := (eI .i64)) h169) (.cons (idx_ob (f := (eI .i64)) h170) (.cons (get_ob (f := (eI .i64)) h171) (.cons (idx_ob (f := (eI .i64)) h172) (.cons (get_ob (f := (eI .i64)) h173) (.cons (Eq.refl (pcells (.v (.int .i64 v_y129)))) (.cons (set_ob (f := (eI .i64)) (l := v_w106) (k := (v_j105).toNat) (z := v_y129) (p := .v (.int .i64 v_y129)) rfl) (.cons (idx_ob (f := (eI .i64)) h174) (.cons (get_ob (f := (eI .i64)) h175) (.cons (Eq.refl (pcells (.v (.int .i64 v_y130)))) (.cons (set_ob (f := (eI .i64)) (l := (v_w106.set (v_j105).toNat v_y129)) (k := ((wi .i64 (v_j105 - 1))).toNat) (z := v_y130) (p := .v (.int .i64 v_y130)) rfl) .nil))))))))))))))))))) (G_slices_insertionSortOrdered_int_h_L1_ok hF ks n v_a101 v_b102 v_i103 k (wi .i64 (v_j105 - 1)) ((v_w106.set (v_j105).toNat v_y129).set ((wi .i64 (v_j105 - 1))).toNat v_y130) _ h q)
                  · rw [if_neg h174] at h; cases h
                · rw [if_neg h172] at h; cases h
              · rw [if_neg h170] at h; cases h
            · rw [if_neg h168] at h; cases h
          · rw [if_neg h159] at h
            cases h
            exact pkk_sound TTok mix hF 8 (hs := [.t true, .c, .c, .c, .y ((eI .i64) v_y122), .c, .c, .c, .c, .c, .y ((eI .i64) v_y123), .c, .r (eB v_r124), .t false]) (ts := []) (s := [0, 1]) (l := [0, 1, 2, 6]) (by kernel_rfl) (by kernel_rfl) (.cons (dt h153) (.cons (idx_ob (f := (eI .i64)) h154) (.cons (get_ob (f := (eI .i64)) h155) (.cons (idx_ob (f := (eI .i64)) h156) (.cons (get_ob (f := (eI .i64)) h157) (.cons (G_cmp_Less_int_ok n v_y122 v_y123 _ h158) (.cons (vf h159) .nil))))))) q
        · rw [if_neg h156] at h; cases h
      · rw [if_neg h154] at h; cases h
    · rw [if_neg h153] at h
      cases h
      exact pkk_sound TTok mix hF 8 (hs := [.t false, .c, .c, .c, .c, .c, .c, .c, .c, .c, .c]) (ts := []) (s := [0, 1]) (l := [0, 1, 2, 6]) (by kernel_rfl) (by kernel_rfl) (.cons (df h153) .nil) q
inductive G_slices_insertionSortOrdered_int_h_L2_R where
  | x0 (v_w137 : (List Int))
def G_slices_insertionSortOrdered_int_h_L2_ex : G_slices_insertionSortOrdered_int_h_L2_R → Ex
  | .x0 _ => .exit 0
def G_slices_insertionSortOrdered_int_h_L2_st (v_a101 : Int) (v_b102 : Int) : G_slices_insertionSortOrdered_int_h_L2_R → PS
  | .x0 v_w137 => ⟨[dd, dd, dd, dd, dd, dd, dd, dd, dd, dd, dd, dd, dd, dd, dd, dd, dd, dd, dd, dd, dd, dd, dd, dd, dd, dd, dd, dd, dd, dd, dd, dd, dd, dd, dd, dd, dd, dd, dd, dd, dd, dd, dd, dd, dd, dd, dd, dd, dd], [.gh 0 (.srf 1), .row 3 1 (v_w137.map (eI .i64))]⟩
def G_slices_insertionSortOrdered_int_h_L2_hd (v_a101 : Int) (v_b102 : Int) (v_i103 : Int) (v_w104 : (List Int)) : PS := ⟨[.srf 1, .d (.v (.int .i64 v_a101)), .d (.v (.int .i64 v_b102)), dd, dd, dd, .d (.v (.int .i64 v_i103)), dd, dd, dd, dd, dd, dd, dd, dd, dd, dd, dd, dd, dd, dd, dd, dd, dd, dd, dd, dd, dd, dd, dd, dd, dd, dd, dd, dd, dd, dd, dd, dd, dd, dd, dd, dd, dd, dd, dd, dd, dd, dd], [.gh 0 (.srf 1), .row 3 1 (v_w104.map (eI .i64))]⟩
def G_slices_insertionSortOrdered_int_h_L2 (n : Nat) (v_a101 : Int) (v_b102 : Int) : Nat → Int → (List Int) → Option G_slices_insertionSortOrdered_int_h_L2_R
  | 0, _, _ => none
  | k + 1, v_i103, v_w104 =>
    if v_i103 < v_b102 then
     (G_slices_insertionSortOrdered_int_h_L1 n v_a101 v_b102 v_i103 n v_i103 v_w104).bind fun v_o135 => match v_o135 with
     | .x0 v_z136 =>
       G_slices_insertionSortOrdered_int_h_L2 n v_a101 v_b102 k (wi .i64 (v_i103 + 1)) v_z136
    else
     some (.x0 v_w104)
theorem G_slices_insertionSortOrdered_int_h_L2_ok {Fi : Ex → PS → Prop} (hF : KC 49 Fi) (ks : List Fr) (n : Nat) (v_a101 : Int) (v_b102 : Int)  : ∀ (k : Nat) (v_i103 : Int) (v_w104 : (List Int)) (o : G_slices_insertionSortOrdered_int_h_L2_R), G_slices_insertionSortOrdered_int_h_L2 n v_a101 v_b102 k v_i103 v_w104 = some o → RunE Try.prog 49 Fi ks (G_slices_insertionSortOrdered_int_h_L2_ex o) (G_slices_insertionSortOrdered_int_h_L2_st v_a101 v_b102 o) → RunE Try.prog 49 Fi (.l k (cP (cB (cR (bodyOf Try.f175)))) :: ks) .normal (G_slices_insertionSortOrdered_int_h_L2_hd v_a101 v_b102 v_i103 v_w104)
  | 0, v_i103, v_w104, o, h, q => by rw [G_slices_insertionSortOrdered_int_h_L2] at h; cases h
  | k + 1, v_i103, v_w104, o, h, q => by
    rw [G_slices_insertionSortOrdered_int_h_L2] at h
    by_cases h137 : v_i103 < v_b102
    · rw [if_pos h137] at h
      obtain ⟨v_o135, h176, h⟩ := bind_some h
      refine pkk_sound TTok mix hF 12 (hs := [.t true, .n n]) (ts := []) (s := [0, 1]) (l := [0, 1, 2, 6, 7]) (by kernel_rfl) (by kernel_rfl) (.cons (dt h137) .nil) (G_slices_insertionSortOrdered_int_h_L1_ok hF (.b 2 :: .b 1 :: .s (cR (cR (cP (cB (cR (bodyOf Try.f175)))))) :: .l k (cP (cB (cR (bodyOf Try.f175)))) :: ks) n v_a101 v_b102 v_i103 n v_i103 v_w104 _ h176 ?_)
      cases v_o135 with
      | x0 v_z136 =>
        try dsimp only at h
        exact pkk_sound TTok mix hF 3 (hs := []) (ts := []) (s := [0, 1]) (l := [0, 1, 2, 6]) (by kernel_rfl) (by kernel_rfl) .nil (G_slices_insertionSortOrdered_int_h_L2_ok hF ks n v_a101 v_b102 k (wi .i64 (v_i103 + 1)) v_z136 _ h q)
    · rw [if_neg h137] at h
      cases h
      exact pkk_sound TTok mix hF 8 (hs := [.t false]) (ts := []) (s := [0, 1]) (l := []) (by kernel_rfl) (by kernel_rfl) (.cons (df h137) .nil) q
/- slices.insertionSortOrdered[int] -/
def G_slices_insertionSortOrdered_int_h (n : Nat) (v_data100 : (List Int)) (v_a101 : Int) (v_b102 : Int) : Option ((List Int)) :=
  (G_slices_insertionSortOrdered_int_h_L2 n v_a101 v_b102 n (wi .i64 (v_a101 + 1)) v_data100).bind fun v_o138 => match v_o138 with
  | .x0 v_z139 =>
    some v_z139
theorem G_slices_insertionSortOrdered_int_h_ok (n : Nat) (v_data100 : (List Int)) (v_a101 : Int) (v_b102 : Int) (r : (List Int)) (h : G_slices_insertionSortOrdered_int_h n v_data100 v_a101 v_b102 = some r) : RetH Try.prog 175 [.srf 0, .d ((eI .i64) v_a101), .d ((eI .i64) v_b102)] [.row 3 1 (v_data100.map (eI .i64))] (.tup []) [.row 3 1 (r.map (eI .i64))] := by
  refine retH_run (n := 49) (fn := Try.f175) (c := bodyOf Try.f175) (by kernel_rfl) (by kernel_rfl) (by kernel_rfl) (by kernel_rfl) ?_
  have hF : KC 49 (FinH Try.prog Try.f175 [.row 3 1 (v_data100.map (eI .i64))] (.tup []) [.row 3 1 (r.map (eI .i64))]) := FinH.kc' (by kernel_rfl)
  unfold G_slices_insertionSortOrdered_int_h at h
  obtain ⟨v_o138, h177, h⟩ := bind_some h
  refine pkk_sound TTok mix hF 4 (hs := [.n n]) (ts := []) (s := [1, 0]) (l := [0, 1, 2, 6]) (by kernel_rfl) (by kernel_rfl) .nil (G_slices_insertionSortOrdered_int_h_L2_ok hF (.b 0 :: []) n v_a101 v_b102 n (wi .i64 (v_a101 + 1)) v_data100 _ h177 ?_)
  cases v_o138 with
  | x0 v_z139 =>
    try dsimp only at h
    obtain rfl := Option.some.inj h
    exact pendH_sound TTok mix 1 (hs := []) [1] (by kernel_rfl) (by kernel_rfl) (by kernel_rfl) .nil
inductive G_slices_pdqsortOrdered_int_h_L1_R where
  | x0 (v_w144 : (List Int))
def G_slices_pdqsortOrdered_int_h_L1_ex : G_slices_pdqsortOrdered_int_h_L1_R → Ex
  | .x0 _ => .ret
def G_slices_pdqsortOrdered_int_h_L1_st  : G_slices_pdqsortOrdered_int_h_L1_R → PS
  | .x0 v_w144 => ⟨[dd, dd, dd, dd, dd, dd, dd, dd, dd, dd, dd, dd, dd, dd, dd, dd, dd, dd, dd, dd, dd, dd, dd, dd, dd, dd, dd, dd, dd, dd, dd, dd, dd, dd, dd, dd, dd, dd, dd, dd, dd, dd, dd, dd, dd, dd, dd, dd, dd, dd, dd, dd, dd, dd, dd, dd, dd, dd, dd, dd, dd, dd, dd, dd, dd, dd, dd, dd, dd, dd, dd, dd, dd, dd, dd, dd, dd, dd, dd, dd, dd, dd, dd, dd, dd, dd, dd, dd, dd, dd, dd, dd, dd, dd, dd, dd, dd, dd, dd, dd, dd, dd, dd, dd, dd, dd, dd, dd, dd, dd, dd, dd, dd, dd, dd, dd, dd, dd, dd, dd, dd, dd, dd, dd, dd, dd, dd, dd, dd, dd, dd, dd, dd, dd], [.gh 0 (.srf 1), .row 3 1 (v_w144.map (eI .i64))]⟩
def G_slices_pdqsortOrdered_int_h_L1_hd  (v_a94 : Int) (v_b95 : Int) (v_limit96 : Int) (v_wasBalanced97 : Bool) (v_wasPartitioned98 : Bool) (v_w99 : (List Int)) : PS := ⟨[.srf 1, .d (.v (.int .i64 v_a94)), .d (.v (.int .i64 v_b95)), .d (.v (.int .i64 v_limit96)), dd, dd, dd, dd, .d (.v (.bool v_wasBalanced97)), .d (.v (.bool v_wasPartitioned98)), dd, dd, dd, dd, dd, dd, dd, dd, dd, dd, dd, dd, dd, dd, dd, dd, dd, dd, dd, dd, dd, dd, dd, dd, dd, dd, dd, dd, dd, dd, dd, dd, dd, dd, dd, dd, dd, dd, dd, dd, dd, dd, dd, dd, dd, dd, dd, dd, dd, dd, dd, dd, dd, dd, dd, dd, dd, dd, dd, dd, dd, dd, dd, dd, dd, dd, dd, dd, dd, dd, dd, dd, dd, dd, dd, dd, dd, dd, dd, dd, dd, dd, dd, dd, dd, dd, dd, dd, dd, dd, dd, dd, dd, dd, dd, dd, dd, dd, dd, dd, dd, dd, dd, dd, dd, dd, dd, dd, dd, dd, dd, dd, dd, dd, dd, dd, dd, dd, dd, dd, dd, dd, dd, dd], [.gh 0 (.srf 1), .row 3 1 (v_w99.map (eI .i64))]⟩
def G_slices_pdqsortOrdered_int_h_L1 (n : Nat)  : Nat → Int → Int → Int → Bool → Bool → (List Int) → Option G_slices_pdqsortOrdered_int_h_L1_R
  | 0, _, _, _, _, _, _ => none
  | k + 1, v_a94, v_b95, v_limit96, v_wasBalanced97, v_wasPartitioned98, v_w99 =>
    if (wi .i64 (v_b95 - v_a94)) ≤ 12 then
     (G_slices_insertionSortOrdered_int_h n v_w99 v_a94 v_b95).bind fun (v_r143 : ((List Int))) =>
     some (.x0 v_r143)
    else
     none
theorem G_slices_pdqsortOrdered_int_h_L1_ok {Fi : Ex → PS → Prop} (hF : KC 134 Fi) (ks : List Fr) (n : Nat)   : ∀ (k : Nat) (v_a94 : Int) (v_b95 : Int) (v_limit96 : Int) (v_wasBalanced97 : Bool) (v_wasPartitioned98 : Bool) (v_w99 : (List Int)) (o : G_slices_pdqsortOrdered_int_h_L1_R), G_slices_pdqsortOrdered_int_h_L1 n  k v_a94 v_b95 v_limit96 v_wasBalanced97 v_wasPartitioned98 v_w99 = some o → RunE Try.prog 134 Fi ks (G_slices_pdqsortOrdered_int_h_L1_ex o) (G_slices_pdqsortOrdered_int_h_L1_st  o) → RunE Try.prog 134 Fi (.l k (cP (cB (cR (cR (bodyOf Try.f120))))) :: ks) .normal (G_slices_pdqsortOrdered_int_h_L1_hd  v_a94 v_b95 v_limit96 v_wasBalanced97 v_wasPartitioned98 v_w99)
  | 0, v_a94, v_b95, v_limit96, v_wasBalanced97, v_wasPartitioned98, v_w99, o, h, q => by rw [G_slices_pdqsortOrdered_int_h_L1] at h; cases h
  | k + 1, v_a94, v_b95, v_limit96, v_wasBalanced97, v_wasPartitioned98, v_w99, o, h, q => by
    rw [G_slices_pdqsortOrdered_int_h_L1] at h
    by_cases h183 : (wi .i64 (v_b95 - v_a94)) ≤ 12
    · rw [if_pos h183] at h
      obtain ⟨v_r143, h184, h⟩ := bind_some h
      cases h
      exact pkk_sound TTok mix hF 14 (hs := [.t true, .h [1] [] [.row 3 1 (v_r143.map (eI .i64))] (.tup [])]) (ts := []) (s := [0, 1]) (l := []) (by kernel_rfl) (by kernel_rfl) (.cons (dt h183) (.cons (G_slices_insertionSortOrdered_int_h_ok n v_w99 v_a94 v_b95 _ h184) .nil)) q
    · rw [if_neg h183] at h
      cases h
/- slices.pdqsortOrdered[int] -/
def G_slices_pdqsortOrdered_int_h (n : Nat) (v_data90 : (List Int)) (v_a91 : Int) (v_b92 : Int) (v_limit93 : Int) : Option ((List Int)) :=
  (G_slices_pdqsortOrdered_int_h_L1 n  n v_a91 v_b92 v_limit93 true true v_data90).bind fun v_o145 => match v_o145 with
  | .x0 v_z146 =>
    some v_z146
theorem G_slices_pdqsortOrdered_int_h_ok (n : Nat) (v_data90 : (List Int)) (v_a91 : Int) (v_b92 : Int) (v_limit93 : Int) (r : (List Int)) (h : G_slices_pdqsortOrdered_int_h n v_data90 v_a91 v_b92 v_limit93 = some r) : RetH Try.prog 120 [.srf 0, .d ((eI .i64) v_a91), .d ((eI .i64) v_b92), .d ((eI .i64) v_limit93)] [.row 3 1 (v_data90.map (eI .i64))] (.tup []) [.row 3 1 (r.map (eI .i64))] := by
  refine retH_run (n := 134) (fn := Try.f120) (c := bodyOf Try.f120) (by kernel_rfl) (by kernel_rfl) (by kernel_rfl) (by kernel_rfl) ?_
  have hF : KC 134 (FinH Try.prog Try.f120 [.row 3 1 (v_data90.map (eI .i64))] (.tup []) [.row 3 1 (r.map (eI .i64))]) := FinH.kc' (by kernel_rfl)
  unfold G_slices_pdqsortOrdered_int_h at h
  obtain ⟨v_o145, h185, h⟩ := bind_some h
  refine pkk_sound TTok mix hF 6 (hs := [.n n]) (ts := []) (s := [1, 0]) (l := [0, 1, 2, 3, 8, 9]) (by kernel_rfl) (by kernel_rfl) .nil (G_slices_pdqsortOrdered_int_h_L1_ok hF (.b 0 :: []) n  n v_a91 v_b92 v_limit93 true true v_data90 _ h185 ?_)
  cases v_o145 with
  | x0 v_z146 =>
    try dsimp only at h
    obtain rfl := Option.some.inj h
    exact pendH_sound TTok mix 1 (hs := []) [1] (by kernel_rfl) (by kernel_rfl) (by kernel_rfl) .nil
/- slices.Sort[[]int,int] -/
def G_slices_Sort_int_int_h (n : Nat) (v_x77 : (List Int)) : Option ((List Int)) :=
  (G_math_bits_Len n (wi .u64 (v_x77.length : Int))).bind fun (v_r89 : (Int)) =>
  (G_slices_pdqsortOrdered_int_h n v_x77 0 (v_x77.length : Int) v_r89).bind fun (v_r147 : ((List Int))) =>
  some v_r147
theorem G_slices_Sort_int_int_h_ok (n : Nat) (v_x77 : (List Int)) (r : (List Int)) (h : G_slices_Sort_int_int_h n v_x77 = some r) : RetH Try.prog 24 [.srf 0] [.row 3 1 (v_x77.map (eI .i64))] (.tup []) [.row 3 1 (r.map (eI .i64))] := by
  refine retH_run (n := 11) (fn := Try.f24) (c := bodyOf Try.f24) (by kernel_rfl) (by kernel_rfl) (by kernel_rfl) (by kernel_rfl) ?_
  have hF : KC 11 (FinH Try.prog Try.f24 [.row 3 1 (v_x77.map (eI .i64))] (.tup []) [.row 3 1 (r.map (eI .i64))]) := FinH.kc' (by kernel_rfl)
  unfold G_slices_Sort_int_int_h at h
  obtain ⟨v_r89, h135, h⟩ := bind_some h
  obtain ⟨v_r147, h186, h⟩ := bind_some h
  obtain rfl := Option.some.inj h
  exact pendH_sound TTok mix 3 (hs := [.u (.d (.v (.int .i64 (v_x77.length : Int)))), .r ((eI .i64) v_r89), .h [0] [] [.row 3 1 (v_r147.map (eI .i64))] (.tup [])]) [0] (by kernel_rfl) (by kernel_rfl) (by kernel_rfl) (.cons (len_ob (f := (eI .i64)) (l := v_x77)) (.cons (G_math_bits_Len_ok n (wi .u64 (v_x77.length : Int)) _ h135) (.cons (G_slices_pdqsortOrdered_int_h_ok n v_x77 0 (v_x77.length : Int) v_r89 _ h186) .nil)))
/- ringhall/cred.Join -/
def G_cred_Join (n : Nat) (v_c72 : S_api_Cred) (v_group73 : Int) : Option (S_api_Cred × Int) :=
  (G_cred_In n v_c72 v_group73).bind fun (v_r74 : (Bool × Int)) =>
  if v_r74.2 = 0 then
   if v_group73 < 0 then
    some ((S_api_Cred.mk 0 0 ([] : (List Int)) 0 0 0), 1)
   else
    if v_group73 > 99 then
     some ((S_api_Cred.mk 0 0 ([] : (List Int)) 0 0 0), 1)
    else
     if (bits .and .i64 v_c72.fCaps 8) = 0 then
      some ((S_api_Cred.mk 0 0 ([] : (List Int)) 0 0 0), 7)
     else
      (G_cred_copied_h n v_c72).bind fun (v_r75 : (S_api_Cred)) =>
      if v_r74.1 = true then
       some (v_r75, 0)
      else
       if (v_r75.fMore.length : Int) = 4 then
        some ((S_api_Cred.mk 0 0 ([] : (List Int)) 0 0 0), 6)
       else
        (app 8 v_r75.fMore ([v_group73])).bind fun (v_a76 : (List Int)) =>
        (G_slices_Sort_int_int_h n v_a76).bind fun (v_r148 : ((List Int))) =>
        some ((S_api_Cred.mk v_r75.fUser v_r75.fGroup v_r148 v_r75.fCaps v_r75.fLevel v_r75.fKind), 0)
  else
   some ((S_api_Cred.mk 0 0 ([] : (List Int)) 0 0 0), v_r74.2)
theorem G_cred_Join_ok (n : Nat) (v_c72 : S_api_Cred) (v_group73 : Int) (r : S_api_Cred × Int) (h : G_cred_Join n v_c72 v_group73 = some r) : Ret Try.prog 17 [eS_api_Cred v_c72, (eI .i64) v_group73] (.tup [eS_api_Cred r.1, (eI .i64) r.2]) := by
  refine ret_run (n := 49) (fn := Try.f17) (c := bodyOf Try.f17) (by kernel_rfl) (by kernel_rfl) (by kernel_rfl) (by kernel_rfl) ?_
  have hF : KC 49 (FinR Try.prog Try.f17 (.tup [eS_api_Cred r.1, (eI .i64) r.2])) := FinR.kc' (by kernel_rfl)
  unfold G_cred_Join at h
  obtain ⟨v_r74, h84, h⟩ := bind_some h
  by_cases h86 : v_r74.2 = 0
  · rw [if_pos h86] at h
    by_cases h87 : v_group73 < 0
    · rw [if_pos h87] at h
      obtain rfl := Option.some.inj h
      exact pend_sound TTok mix 17 (hs := [.c, .r (.tup [eB v_r74.1, (eI .i64) v_r74.2]), .t false, .t true, .c, .c, .c]) (by kernel_rfl) (by kernel_rfl) (by kernel_rfl) (.cons (G_cred_In_ok n v_c72 v_group73 _ h84) (.cons (nf h86) (.cons (dt h87) (.cons (show 0 + 6 ≤ 6 by decide) .nil))))
    · rw [if_neg h87] at h
      by_cases h89 : v_group73 > 99
      · rw [if_pos h89] at h
        obtain rfl := Option.some.inj h
        exact pend_sound TTok mix 17 (hs := [.c, .r (.tup [eB v_r74.1, (eI .i64) v_r74.2]), .t false, .t false, .c, .t true, .c]) (by kernel_rfl) (by kernel_rfl) (by kernel_rfl) (.cons (G_cred_In_ok n v_c72 v_group73 _ h84) (.cons (nf h86) (.cons (df h87) (.cons (dt h89) (.cons (show 0 + 6 ≤ 6 by decide) .nil)))))
      · rw [if_neg h89] at h
        by_cases h91 : (bits .and .i64 v_c72.fCaps 8) = 0
        · rw [if_pos h91] at h
          obtain rfl := Option.some.inj h
          exact pend_sound TTok mix 22 (hs := [.c, .r (.tup [eB v_r74.1, (eI .i64) v_r74.2]), .t false, .t false, .c, .t false, .c, .t true, .c]) (by kernel_rfl) (by kernel_rfl) (by kernel_rfl) (.cons (G_cred_In_ok n v_c72 v_group73 _ h84) (.cons (nf h86) (.cons (df h87) (.cons (df h89) (.cons (bt h91) (.cons (show 0 + 6 ≤ 6 by decide) .nil))))))
        · rw [if_neg h91] at h
          obtain ⟨v_r75, h92, h⟩ := bind_some h
          by_cases h94 : v_r74.1 = true
          · rw [if_pos h94] at h
            obtain rfl := Option.some.inj h
            exact pend_sound TTok mix 29 (hs := [.c, .r (.tup [eB v_r74.1, (eI .i64) v_r74.2]), .t false, .t false, .c, .t false, .c, .t false, .c, .h [] [] [.row 3 1 (v_r75.fMore.map (eI .i64))] (.agg [.d (.v (.int .i64 v_r75.fUser)), .d (.v (.int .i64 v_r75.fGroup)), .srf 0, .d (.v (.int .i64 v_r75.fCaps)), .d (.v (.int .i64 v_r75.fLevel)), .d (.v (.int .i64 v_r75.fKind))]), .c, .t true, .c, .c]) (by kernel_rfl) (by kernel_rfl) (by kernel_rfl) (.cons (G_cred_In_ok n v_c72 v_group73 _ h84) (.cons (nf h86) (.cons (df h87) (.cons (df h89) (.cons (bf h91) (.cons (G_cred_copied_h_ok n v_c72 _ h92) (.cons (show 0 + 6 ≤ 6 by decide) (.cons h94 (.cons (show 0 + 6 ≤ 6 by decide) .nil)))))))))
          · rw [if_neg h94] at h
            by_cases h96 : (v_r75.fMore.length : Int) = 4
            · rw [if_pos h96] at h
              obtain rfl := Option.some.inj h
              exact pend_sound TTok mix 34 (hs := [.c, .r (.tup [eB v_r74.1, (eI .i64) v_r74.2]), .t false, .t false, .c, .t false, .c, .t false, .c, .h [] [] [.row 3 1 (v_r75.fMore.map (eI .i64))] (.agg [.d (.v (.int .i64 v_r75.fUser)), .d (.v (.int .i64 v_r75.fGroup)), .srf 0, .d (.v (.int .i64 v_r75.fCaps)), .d (.v (.int .i64 v_r75.fLevel)), .d (.v (.int .i64 v_r75.fKind))]), .c, .t false, .c, .u (.d (.v (.int .i64 (v_r75.fMore.length : Int)))), .t true, .c]) (by kernel_rfl) (by kernel_rfl) (by kernel_rfl) (.cons (G_cred_In_ok n v_c72 v_group73 _ h84) (.cons (nf h86) (.cons (df h87) (.cons (df h89) (.cons (bf h91) (.cons (G_cred_copied_h_ok n v_c72 _ h92) (.cons (show 0 + 6 ≤ 6 by decide) (.cons (vf h94) (.cons (len_ob (f := (eI .i64)) (l := v_r75.fMore)) (.cons (bt h96) (.cons (show 0 + 6 ≤ 6 by decide) .nil)))))))))))
            · rw [if_neg h96] at h
              obtain ⟨v_a76, h97, h⟩ := bind_some h
              obtain ⟨v_r148, h187, h⟩ := bind_some h
              obtain rfl := Option.some.inj h
              exact pend_sound TTok mix 38 (hs := [.c, .r (.tup [eB v_r74.1, (eI .i64) v_r74.2]), .t false, .t false, .c, .t false, .c, .t false, .c, .h [] [] [.row 3 1 (v_r75.fMore.map (eI .i64))] (.agg [.d (.v (.int .i64 v_r75.fUser)), .d (.v (.int .i64 v_r75.fGroup)), .srf 0, .d (.v (.int .i64 v_r75.fCaps)), .d (.v (.int .i64 v_r75.fLevel)), .d (.v (.int .i64 v_r75.fKind))]), .c, .t false, .c, .u (.d (.v (.int .i64 (v_r75.fMore.length : Int)))), .t false, .c, .bd, .w (v_a76.map (eI .i64)), .c, .c, .h [105] [] [.row 3 1 (v_r148.map (eI .i64))] (.tup []), .c, .c]) (by kernel_rfl) (by kernel_rfl) (by kernel_rfl) (.cons (G_cred_In_ok n v_c72 v_group73 _ h84) (.cons (nf h86) (.cons (df h87) (.cons (df h89) (.cons (bf h91) (.cons (G_cred_copied_h_ok n v_c72 _ h92) (.cons (show 0 + 6 ≤ 6 by decide) (.cons (vf h94) (.cons (len_ob (f := (eI .i64)) (l := v_r75.fMore)) (.cons (bf h96) (.cons (app_ob (f := (eI .i64)) (s := 1) h97 (fun _ => rfl)).1 (.cons (app_ob (f := (eI .i64)) (s := 1) h97 (fun _ => rfl)).2.1 (.cons (app_ob (f := (eI .i64)) (s := 1) h97 (fun _ => rfl)).2.2.1 (.cons (app_ob (f := (eI .i64)) (s := 1) h97 (fun _ => rfl)).2.2.2 (.cons (show 2 + 1 ≤ 6 by decide) (.cons (G_slices_Sort_int_int_h_ok n v_a76 _ h187) (.cons (show 0 + 6 ≤ 6 by decide) .nil)))))))))))))))))
  · rw [if_neg h86] at h
    obtain rfl := Option.some.inj h
    exact pend_sound TTok mix 12 (hs := [.c, .r (.tup [eB v_r74.1, (eI .i64) v_r74.2]), .t true, .c]) (by kernel_rfl) (by kernel_rfl) (by kernel_rfl) (.cons (G_cred_In_ok n v_c72 v_group73 _ h84) (.cons (nt h86) (.cons (show 0 + 6 ≤ 6 by decide) .nil)))
inductive G_ringref5_CredErr_C1_R where
  | x0 (v_x151 : Bool)
def G_ringref5_CredErr_C1_ex : G_ringref5_CredErr_C1_R → Ex
  | .x0 _ => .normal
def G_ringref5_CredErr_C1_st (v_c150 : S_api_Cred) : G_ringref5_CredErr_C1_R → PS
  | .x0 v_x151 => ⟨[dd, .ref 0 0, dd, dd, dd, dd, dd, dd, dd, dd, dd, dd, dd, dd, dd, dd, dd, dd, dd, .d (.v (.bool v_x151)), dd, dd, dd, dd, dd, dd, dd, dd, dd, dd, dd, dd, dd, dd, dd, dd, dd, dd, dd, dd, dd, dd, dd, dd, dd, dd, dd, dd, dd, dd, dd, dd, dd, dd, dd, dd, dd, dd, dd, dd, dd, dd, dd, dd, dd], [.box [.d (.v (.int .i64 v_c150.fUser)), .d (.v (.int .i64 v_c150.fGroup)), .d (.sl (v_c150.fMore.map (eI .i64))), .d (.v (.int .i64 v_c150.fCaps)), .d (.v (.int .i64 v_c150.fLevel)), .d (.v (.int .i64 v_c150.fKind))]]⟩
def G_ringref5_CredErr_C1_hd (v_c150 : S_api_Cred)  : PS := ⟨[dd, .ref 0 0, dd, dd, dd, dd, dd, dd, dd, dd, dd, dd, dd, dd, dd, dd, dd, dd, dd, dd, dd, dd, dd, dd, dd, dd, dd, dd, dd, dd, dd, dd, dd, dd, dd, dd, dd, dd, dd, dd, dd, dd, dd, dd, dd, dd, dd, dd, dd, dd, dd, dd, dd, dd, dd, dd, dd, dd, dd, dd, dd, dd, dd, dd, dd], [.box [.d (.v (.int .i64 v_c150.fUser)), .d (.v (.int .i64 v_c150.fGroup)), .d (.sl (v_c150.fMore.map (eI .i64))), .d (.v (.int .i64 v_c150.fCaps)), .d (.v (.int .i64 v_c150.fLevel)), .d (.v (.int .i64 v_c150.fKind))]]⟩
def G_ringref5_CredErr_C1 (n : Nat) (v_c150 : S_api_Cred) : Option G_ringref5_CredErr_C1_R :=
  if (minI v_c150.fUser v_c150.fGroup) < 0 then
   some (.x0 true)
  else
   some (.x0 (decide ((maxI v_c150.fUser v_c150.fGroup) > 99)))
theorem G_ringref5_CredErr_C1_ok {Fi : Ex → PS → Prop} (hF : KC 65 Fi) (ks : List Fr) (n : Nat) (v_c150 : S_api_Cred)  (o : G_ringref5_CredErr_C1_R) (h : G_ringref5_CredErr_C1 n v_c150 = some o) (q : RunE Try.prog 65 Fi ks (G_ringref5_CredErr_C1_ex o) (G_ringref5_CredErr_C1_st v_c150 o)) : RunE Try.prog 65 Fi (.s (cL (cL (cR (bodyOf Try.f18)))) :: ks) .normal (G_ringref5_CredErr_C1_hd v_c150) := by
  unfold G_ringref5_CredErr_C1 at h
  by_cases h190 : (minI v_c150.fUser v_c150.fGroup) < 0
  · rw [if_pos h190] at h
    cases h
    exact pkk_sound TTok mix hF 1 (hs := [.c, .c, .t true, .c, .c, .c, .c, .c]) (ts := []) (s := [0]) (l := [1, 19]) (by kernel_rfl) (by kernel_rfl) (.cons (dt h190) .nil) q
  · rw [if_neg h190] at h
    cases h
    exact pkk_sound TTok mix hF 1 (hs := [.c, .c, .t false, .c, .c, .c, .c, .c, .c, .c]) (ts := []) (s := [0]) (l := [1, 19]) (by kernel_rfl) (by kernel_rfl) (.cons (df h190) .nil) q
inductive G_ringref5_CredErr_L2_R where
  | x0 (v_x159 : Int)
  | x1 
def G_ringref5_CredErr_L2_ex : G_ringref5_CredErr_L2_R → Ex
  | .x0 _ => .ret
  | .x1  => .exit 0
def G_ringref5_CredErr_L2_st (v_c150 : S_api_Cred) : G_ringref5_CredErr_L2_R → PS
  | .x0 v_x159 => ⟨[dd, dd, .d (.v (.int .i64 v_x159)), dd, dd, dd, dd, dd, dd, dd, dd, dd, dd, dd, dd, dd, dd, dd, dd, dd, dd, dd, dd, dd, dd, dd, dd, dd, dd, dd, dd, dd, dd, dd, dd, dd, dd, dd, dd, dd, dd, dd, dd, dd, dd, dd, dd, dd, dd, dd, dd, dd, dd, dd, dd, dd, dd, dd, dd, dd, dd, dd, dd, dd, dd], []⟩
  | .x1  => ⟨[dd, .ref 0 0, dd, dd, dd, dd, dd, dd, dd, dd, dd, dd, dd, dd, dd, dd, dd, dd, dd, dd, dd, dd, dd, dd, dd, dd, dd, dd, dd, dd, dd, dd, dd, dd, dd, dd, dd, dd, dd, dd, dd, dd, dd, dd, dd, dd, dd, dd, dd, dd, dd, dd, dd, dd, dd, dd, dd, dd, dd, dd, dd, dd, dd, dd, dd], [.box [.d (.v (.int .i64 v_c150.fUser)), .d (.v (.int .i64 v_c150.fGroup)), .d (.sl (v_c150.fMore.map (eI .i64))), .d (.v (.int .i64 v_c150.fCaps)), .d (.v (.int .i64 v_c150.fLevel)), .d (.v (.int .i64 v_c150.fKind))]]⟩
def G_ringref5_CredErr_L2_hd (v_c150 : S_api_Cred) (v_last155 : Int) (v_x156 : Int) : PS := ⟨[dd, .ref 0 0, dd, .d (.v (.int .i64 v_last155)), dd, dd, dd, dd, dd, dd, dd, dd, dd, dd, dd, dd, dd, dd, dd, dd, dd, dd, dd, dd, dd, .d (.sl (v_c150.fMore.map (eI .i64))), .d (.v (.int .i64 (v_c150.fMore.length : Int))), .d (.v (.int .i64 v_x156)), dd, dd, dd, dd, dd, dd, dd, dd, dd, dd, dd, dd, dd, dd, dd, dd, dd, dd, dd, dd, dd, dd, dd, dd, dd, dd, dd, dd, dd, dd, dd, dd, dd, dd, dd, dd, dd], [.box [.d (.v (.int .i64 v_c150.fUser)), .d (.v (.int .i64 v_c150.fGroup)), .d (.sl (v_c150.fMore.map (eI .i64))), .d (.v (.int .i64 v_c150.fCaps)), .d (.v (.int .i64 v_c150.fLevel)), .d (.v (.int .i64 v_c150.fKind))]]⟩
def G_ringref5_CredErr_L2 (n : Nat) (v_c150 : S_api_Cred) : Nat → Int → Int → Option G_ringref5_CredErr_L2_R
  | 0, _, _ => none
  | k + 1, v_last155, v_x156 =>
    if v_x156 < (v_c150.fMore.length : Int) then
     (getI v_c150.fMore v_x156).bind fun (v_y158 : Int) =>
     if v_y158 < 0 then
      some (.x0 1)
     else
      if v_y158 > 99 then
       some (.x0 1)
      else
       if v_y158 ≤ v_last155 then
        some (.x0 3)
       else
        G_ringref5_CredErr_L2 n v_c150 k v_y158 (wi .i64 (v_x156 + 1))
    else
     some (.x1 )
theorem G_ringref5_CredErr_L2_ok {Fi : Ex → PS → Prop} (hF : KC 65 Fi) (ks : List Fr) (n : Nat) (v_c150 : S_api_Cred)  : ∀ (k : Nat) (v_last155 : Int) (v_x156 : Int) (o : G_ringref5_CredErr_L2_R), G_ringref5_CredErr_L2 n v_c150 k v_last155 v_x156 = some o → RunE Try.prog 65 Fi ks (G_ringref5_CredErr_L2_ex o) (G_ringref5_CredErr_L2_st v_c150 o) → RunE Try.prog 65 Fi (.l k (cP (cB (cR (cL (cR (cR (cR (cR (bodyOf Try.f18))))))))) :: ks) .normal (G_ringref5_CredErr_L2_hd v_c150 v_last155 v_x156)
  | 0, v_last155, v_x156, o, h, q => by rw [G_ringref5_CredErr_L2] at h; cases h
  | k + 1, v_last155, v_x156, o, h, q => by
    rw [G_ringref5_CredErr_L2] at h
    by_cases h194 : v_x156 < (v_c150.fMore.length : Int)
    · rw [if_pos h194] at h
      obtain ⟨v_y158, h199, h⟩ := bind_some h
      by_cases h200 : v_y158 < 0
      · rw [if_pos h200] at h
        cases h
        exact pkk_sound TTok mix hF 21 (hs := [.t true, .y ((eI .i64) v_y158), .c, .t true, .c, .c]) (ts := []) (s := []) (l := [2]) (by kernel_rfl) (by kernel_rfl) (.cons (dt h194) (.cons (getI_ob (f := (eI .i64)) h199) (.cons (dt h200) .nil))) q
      · rw [if_neg h200] at h
        by_cases h201 : v_y158 > 99
        · rw [if_pos h201] at h
          cases h
          exact pkk_sound TTok mix hF 21 (hs := [.t true, .y ((eI .i64) v_y158), .c, .t false, .c, .t true]) (ts := []) (s := []) (l := [2]) (by kernel_rfl) (by kernel_rfl) (.cons (dt h194) (.cons (getI_ob (f := (eI .i64)) h199) (.cons (df h200) (.cons (dt h201) .nil)))) q
        · rw [if_neg h201] at h
          by_cases h202 : v_y158 ≤ v_last155
          · rw [if_pos h202] at h
            cases h
            exact pkk_sound TTok mix hF 26 (hs := [.t true, .y ((eI .i64) v_y158), .c, .t false, .c, .t false, .t true]) (ts := []) (s := []) (l := [2]) (by kernel_rfl) (by kernel_rfl) (.cons (dt h194) (.cons (getI_ob (f := (eI .i64)) h199) (.cons (df h200) (.cons (df h201) (.cons (dt h202) .nil))))) q
          · rw [if_neg h202] at h
            exact pkk_sound TTok mix hF 23 (hs := [.t true, .y ((eI .i64) v_y158), .c, .t false, .c, .t false, .t false]) (ts := []) (s := [0]) (l := [1, 3, 25, 26, 27]) (by kernel_rfl) (by kernel_rfl) (.cons (dt h194) (.cons (getI_ob (f := (eI .i64)) h199) (.cons (df h200) (.cons (df h201) (.cons (df h202) .nil))))) (G_ringref5_CredErr_L2_ok hF ks n v_c150 k v_y158 (wi .i64 (v_x156 + 1)) _ h q)
    · rw [if_neg h194] at h
      cases h
      exact pkk_sound TTok mix hF 8 (hs := [.t false]) (ts := []) (s := [0]) (l := [1]) (by kernel_rfl) (by kernel_rfl) (.cons (df h194) .nil) q
inductive G_ringref5_CredErr_C3_R where
  | x0 (v_x164 : Bool)
def G_ringref5_CredErr_C3_ex : G_ringref5_CredErr_C3_R → Ex
  | .x0 _ => .normal
def G_ringref5_CredErr_C3_st (v_c150 : S_api_Cred) : G_ringref5_CredErr_C3_R → PS
  | .x0 v_x164 => ⟨[dd, dd, dd, dd, dd, dd, dd, dd, dd, dd, dd, dd, dd, dd, dd, dd, dd, dd, dd, dd, dd, dd, dd, dd, dd, dd, dd, dd, dd, dd, dd, dd, dd, dd, dd, dd, dd, dd, dd, dd, dd, dd, dd, dd, dd, dd, dd, dd, dd, dd, dd, dd, dd, dd, dd, dd, dd, dd, dd, dd, dd, dd, dd, dd, .d (.v (.bool v_x164))], []⟩
def G_ringref5_CredErr_C3_hd (v_c150 : S_api_Cred)  : PS := ⟨[dd, .ref 0 0, dd, dd, dd, dd, dd, dd, dd, dd, dd, dd, dd, dd, dd, dd, dd, dd, dd, dd, dd, dd, dd, dd, dd, dd, dd, dd, dd, dd, dd, dd, dd, dd, dd, dd, dd, dd, dd, dd, dd, dd, dd, dd, dd, dd, dd, dd, dd, dd, dd, dd, dd, dd, dd, dd, dd, dd, dd, dd, dd, dd, dd, dd, dd], [.box [.d (.v (.int .i64 v_c150.fUser)), .d (.v (.int .i64 v_c150.fGroup)), .d (.sl (v_c150.fMore.map (eI .i64))), .d (.v (.int .i64 v_c150.fCaps)), .d (.v (.int .i64 v_c150.fLevel)), .d (.v (.int .i64 v_c150.fKind))]]⟩
def G_ringref5_CredErr_C3 (n : Nat) (v_c150 : S_api_Cred) : Option G_ringref5_CredErr_C3_R :=
  if (minI (minI v_c150.fCaps v_c150.fLevel) v_c150.fKind) < 0 then
   some (.x0 true)
  else
   if v_c150.fCaps > 127 then
    some (.x0 true)
   else
    if v_c150.fLevel > 7 then
     some (.x0 true)
    else
     some (.x0 (decide (v_c150.fKind > 255)))
theorem G_ringref5_CredErr_C3_ok {Fi : Ex → PS → Prop} (hF : KC 65 Fi) (ks : List Fr) (n : Nat) (v_c150 : S_api_Cred)  (o : G_ringref5_CredErr_C3_R) (h : G_ringref5_CredErr_C3 n v_c150 = some o) (q : RunE Try.prog 65 Fi ks (G_ringref5_CredErr_C3_ex o) (G_ringref5_CredErr_C3_st v_c150 o)) : RunE Try.prog 65 Fi (.s (cL (cL (cR (cR (cR (cR (cR (bodyOf Try.f18)))))))) :: ks) .normal (G_ringref5_CredErr_C3_hd v_c150) := by
  unfold G_ringref5_CredErr_C3 at h
  by_cases h207 : (minI (minI v_c150.fCaps v_c150.fLevel) v_c150.fKind) < 0
  · rw [if_pos h207] at h
    cases h
    exact pkk_sound TTok mix hF 1 (hs := [.c, .c, .c, .e 19 [] (.d (.v (.int .i64 (minI (minI v_c150.fCaps v_c150.fLevel) v_c150.fKind)))) [], .t true, .c, .c, .c, .c, .c, .c, .c, .c]) (ts := []) (s := []) (l := [64]) (by kernel_rfl) (by kernel_rfl) (.cons (xmin3 (P := Try.prog) (T := TT) (x := (.tmp 43)) (y := (.tmp 45)) (z := (.tmp 47)) (t1 := 3) (t2 := 3) (t3 := 3) (k := .i64) (a := v_c150.fCaps) (b := v_c150.fLevel) (c := v_c150.fKind)) (.cons (dt h207) .nil)) q
  · rw [if_neg h207] at h
    by_cases h208 : v_c150.fCaps > 127
    · rw [if_pos h208] at h
      cases h
      exact pkk_sound TTok mix hF 1 (hs := [.c, .c, .c, .e 19 [] (.d (.v (.int .i64 (minI (minI v_c150.fCaps v_c150.fLevel) v_c150.fKind)))) [], .t false, .c, .c, .c, .t true, .c, .c, .c, .c, .c]) (ts := []) (s := []) (l := [64]) (by kernel_rfl) (by kernel_rfl) (.cons (xmin3 (P := Try.prog) (T := TT) (x := (.tmp 43)) (y := (.tmp 45)) (z := (.tmp 47)) (t1 := 3) (t2 := 3) (t3 := 3) (k := .i64) (a := v_c150.fCaps) (b := v_c150.fLevel) (c := v_c150.fKind)) (.cons (df h207) (.cons (dt h208) .nil))) q
    · rw [if_neg h208] at h
      by_cases h209 : v_c150.fLevel > 7
      · rw [if_pos h209] at h
        cases h
        exact pkk_sound TTok mix hF 1 (hs := [.c, .c, .c, .e 19 [] (.d (.v (.int .i64 (minI (minI v_c150.fCaps v_c150.fLevel) v_c150.fKind)))) [], .t false, .c, .c, .c, .t false, .c, .c, .c, .t true, .c, .c]) (ts := []) (s := []) (l := [64]) (by kernel_rfl) (by kernel_rfl) (.cons (xmin3 (P := Try.prog) (T := TT) (x := (.tmp 43)) (y := (.tmp 45)) (z := (.tmp 47)) (t1 := 3) (t2 := 3) (t3 := 3) (k := .i64) (a := v_c150.fCaps) (b := v_c150.fLevel) (c := v_c150.fKind)) (.cons (df h207) (.cons (df h208) (.cons (dt h209) .nil)))) q
      · rw [if_neg h209] at h
        cases h
        exact pkk_sound TTok mix hF 1 (hs := [.c, .c, .c, .e 19 [] (.d (.v (.int .i64 (minI (minI v_c150.fCaps v_c150.fLevel) v_c150.fKind)))) [], .t false, .c, .c, .c, .t false, .c, .c, .c, .t false, .c, .c, .c]) (ts := []) (s := []) (l := [64]) (by kernel_rfl) (by kernel_rfl) (.cons (xmin3 (P := Try.prog) (T := TT) (x := (.tmp 43)) (y := (.tmp 45)) (z := (.tmp 47)) (t1 := 3) (t2 := 3) (t3 := 3) (k := .i64) (a := v_c150.fCaps) (b := v_c150.fLevel) (c := v_c150.fKind)) (.cons (df h207) (.cons (df h208) (.cons (df h209) .nil)))) q
/- ringhall/ringref5.CredErr -/
def G_ringref5_CredErr (n : Nat) (v_c150 : S_api_Cred) : Option (Int) :=
  (G_ringref5_CredErr_C1 n v_c150).bind fun v_o153 => match v_o153 with
  | .x0 v_z154 =>
    if v_z154 = true then
     some 1
    else
     if (v_c150.fMore.length : Int) > 4 then
      some 2
     else
      (G_ringref5_CredErr_L2 n v_c150 n (-1) 0).bind fun v_o162 => match v_o162 with
      | .x0 v_z163 =>
        some v_z163
      | .x1  =>
        (G_ringref5_CredErr_C3 n v_c150).bind fun v_o168 => match v_o168 with
        | .x0 v_z169 =>
          if v_z169 = true then
           some 1
          else
           some 0
theorem G_ringref5_CredErr_ok (n : Nat) (v_c150 : S_api_Cred) (r : Int) (h : G_ringref5_CredErr n v_c150 = some r) : Ret Try.prog 18 [eS_api_Cred v_c150] ((eI .i64) r) := by
  refine ret_run (n := 65) (fn := Try.f18) (c := bodyOf Try.f18) (by kernel_rfl) (by kernel_rfl) (by kernel_rfl) (by kernel_rfl) ?_
  have hF : KC 65 (FinR Try.prog Try.f18 ((eI .i64) r)) := FinR.kc' (by kernel_rfl)
  unfold G_ringref5_CredErr at h
  obtain ⟨v_o153, h191, h⟩ := bind_some h
  refine pkk_sound TTok mix hF 4 (hs := []) (ts := []) (s := [0]) (l := [1]) (by kernel_rfl) (by kernel_rfl) .nil (G_ringref5_CredErr_C1_ok hF (.s (cR (cL (cR (bodyOf Try.f18)))) :: .s (cR (cR (bodyOf Try.f18))) :: []) n v_c150 _ h191 ?_)
  cases v_o153 with
  | x0 v_z154 =>
    try dsimp only at h
    by_cases h192 : v_z154 = true
    · rw [if_pos h192] at h
      obtain rfl := Option.some.inj h
      exact pend_sound TTok mix 5 (hs := [.t true]) (by kernel_rfl) (by kernel_rfl) (by kernel_rfl) (.cons h192 .nil)
    · rw [if_neg h192] at h
      by_cases h193 : (v_c150.fMore.length : Int) > 4
      · rw [if_pos h193] at h
        obtain rfl := Option.some.inj h
        exact pend_sound TTok mix 10 (hs := [.t false, .c, .u (.d (.v (.int .i64 (v_c150.fMore.length : Int)))), .t true]) (by kernel_rfl) (by kernel_rfl) (by kernel_rfl) (.cons (vf h192) (.cons (len_ob (f := (eI .i64)) (l := v_c150.fMore)) (.cons (dt h193) .nil)))
      · rw [if_neg h193] at h
        obtain ⟨v_o162, h203, h⟩ := bind_some h
        refine pkk_sound TTok mix hF 14 (hs := [.t false, .c, .u (.d (.v (.int .i64 (v_c150.fMore.length : Int)))), .t false, .c, .u (.d (.v (.int .i64 (v_c150.fMore.length : Int)))), .n n]) (ts := []) (s := [0]) (l := [1, 3, 25, 26, 27]) (by kernel_rfl) (by kernel_rfl) (.cons (vf h192) (.cons (len_ob (f := (eI .i64)) (l := v_c150.fMore)) (.cons (df h193) (.cons (len_ob (f := (eI .i64)) (l := v_c150.fMore)) .nil)))) (G_ringref5_CredErr_L2_ok hF (.b 0 :: .s (cR (cR (cR (cR (cR (bodyOf Try.f18)))))) :: []) n v_c150 n (-1) 0 _ h203 ?_)
        cases v_o162 with
        | x0 v_z163 =>
          try dsimp only at h
          obtain rfl := Option.some.inj h
          exact pend_sound TTok mix 2 (hs := []) (by kernel_rfl) (by kernel_rfl) (by kernel_rfl) .nil
        | x1  =>
          try dsimp only at h
          obtain ⟨v_o168, h210, h⟩ := bind_some h
          refine pkk_sound TTok mix hF 3 (hs := []) (ts := []) (s := [0]) (l := [1]) (by kernel_rfl) (by kernel_rfl) .nil (G_ringref5_CredErr_C3_ok hF (.s (cR (cL (cR (cR (cR (cR (cR (bodyOf Try.f18)))))))) :: .s (cR (cR (cR (cR (cR (cR (bodyOf Try.f18))))))) :: []) n v_c150 _ h210 ?_)
          cases v_o168 with
          | x0 v_z169 =>
            try dsimp only at h
            by_cases h211 : v_z169 = true
            · rw [if_pos h211] at h
              obtain rfl := Option.some.inj h
              exact pend_sound TTok mix 5 (hs := [.t true]) (by kernel_rfl) (by kernel_rfl) (by kernel_rfl) (.cons h211 .nil)
            · rw [if_neg h211] at h
              obtain rfl := Option.some.inj h
              exact pend_sound TTok mix 5 (hs := [.t false]) (by kernel_rfl) (by kernel_rfl) (by kernel_rfl) (.cons (vf h211) .nil)
inductive G_slices_Equal_int_int_L1_R where
  | x0 (v_x181 : Bool)
  | x1 
def G_slices_Equal_int_int_L1_ex : G_slices_Equal_int_int_L1_R → Ex
  | .x0 _ => .ret
  | .x1  => .exit 0
def G_slices_Equal_int_int_L1_st (v_s174 : (List Int)) (v_s175 : (List Int)) : G_slices_Equal_int_int_L1_R → PS
  | .x0 v_x181 => ⟨[dd, dd, dd, dd, .d (.v (.bool v_x181)), dd, dd, dd, dd, dd, dd, dd, dd, dd, dd, dd, dd, dd, dd, dd, dd, dd, dd, dd, dd, dd], []⟩
  | .x1  => ⟨[dd, dd, dd, dd, dd, dd, dd, dd, dd, dd, dd, dd, dd, dd, dd, dd, dd, dd, dd, dd, dd, dd, dd, dd, dd, dd], []⟩
def G_slices_Equal_int_int_L1_hd (v_s174 : (List Int)) (v_s175 : (List Int)) (v_x176 : Int) : PS := ⟨[.d (.sl (v_s174.map (eI .i64))), .d (.sl (v_s175.map (eI .i64))), dd, dd, dd, dd, dd, dd, dd, dd, dd, dd, .d (.v (.int .i64 (v_s174.length : Int))), .d (.v (.int .i64 v_x176)), dd, dd, dd, dd, dd, dd, dd, dd, dd, dd, dd, dd], []⟩
def G_slices_Equal_int_int_L1 (n : Nat) (v_s174 : (List Int)) (v_s175 : (List Int)) : Nat → Int → Option G_slices_Equal_int_int_L1_R
  | 0, _ => none
  | k + 1, v_x176 =>
    if v_x176 < (v_s174.length : Int) then
     (getI v_s174 v_x176).bind fun (v_y179 : Int) =>
     (getI v_s175 v_x176).bind fun (v_y180 : Int) =>
     if v_y179 = v_y180 then
      G_slices_Equal_int_int_L1 n v_s174 v_s175 k (wi .i64 (v_x176 + 1))
     else
      some (.x0 false)
    else
     some (.x1 )
theorem G_slices_Equal_int_int_L1_ok {Fi : Ex → PS → Prop} (hF : KC 26 Fi) (ks : List Fr) (n : Nat) (v_s174 : (List Int)) (v_s175 : (List Int))  : ∀ (k : Nat) (v_x176 : Int) (o : G_slices_Equal_int_int_L1_R), G_slices_Equal_int_int_L1 n v_s174 v_s175 k v_x176 = some o → RunE Try.prog 26 Fi ks (G_slices_Equal_int_int_L1_ex o) (G_slices_Equal_int_int_L1_st v_s174 v_s175 o) → RunE Try.prog 26 Fi (.l k (cP (cB (cR (cL (cR (cR (bodyOf Try.f43))))))) :: ks) .normal (G_slices_Equal_int_int_L1_hd v_s174 v_s175 v_x176)
  | 0, v_x176, o, h, q => by rw [G_slices_Equal_int_int_L1] at h; cases h
  | k + 1, v_x176, o, h, q => by
    rw [G_slices_Equal_int_int_L1] at h
    by_cases h226 : v_x176 < (v_s174.length : Int)
    · rw [if_pos h226] at h
      obtain ⟨v_y179, h230, h⟩ := bind_some h
      obtain ⟨v_y180, h231, h⟩ := bind_some h
      by_cases h232 : v_y179 = v_y180
      · rw [if_pos h232] at h
        exact pkk_sound TTok mix hF 16 (hs := [.t true, .y ((eI .i64) v_y179), .c, .y ((eI .i64) v_y180), .c, .t false]) (ts := []) (s := []) (l := [0, 1, 12, 13]) (by kernel_rfl) (by kernel_rfl) (.cons (dt h226) (.cons (getI_ob (f := (eI .i64)) h230) (.cons (getI_ob (f := (eI .i64)) h231) (.cons (nf h232) .nil)))) (G_slices_Equal_int_int_L1_ok hF ks n v_s174 v_s175 k (wi .i64 (v_x176 + 1)) _ h q)
      · rw [if_neg h232] at h
        cases h
        exact pkk_sound TTok mix hF 19 (hs := [.t true, .y ((eI .i64) v_y179), .c, .y ((eI .i64) v_y180), .c, .t true]) (ts := []) (s := []) (l := [4]) (by kernel_rfl) (by kernel_rfl) (.cons (dt h226) (.cons (getI_ob (f := (eI .i64)) h230) (.cons (getI_ob (f := (eI .i64)) h231) (.cons (nt h232) .nil)))) q
    · rw [if_neg h226] at h
      cases h
      exact pkk_sound TTok mix hF 8 (hs := [.t false]) (ts := []) (s := []) (l := []) (by kernel_rfl) (by kernel_rfl) (.cons (df h226) .nil) q
/- slices.Equal[[]int,int] -/
def G_slices_Equal_int_int (n : Nat) (v_s174 : (List Int)) (v_s175 : (List Int)) : Option (Bool) :=
  if (v_s174.length : Int) = (v_s175.length : Int) then
   (G_slices_Equal_int_int_L1 n v_s174 v_s175 n 0).bind fun v_o182 => match v_o182 with
   | .x0 v_z183 =>
     some v_z183
   | .x1  =>
     some true
  else
   some false
theorem G_slices_Equal_int_int_ok (n : Nat) (v_s174 : (List Int)) (v_s175 : (List Int)) (r : Bool) (h : G_slices_Equal_int_int n v_s174 v_s175 = some r) : Ret Try.prog 43 [(eL (eI .i64)) v_s174, (eL (eI .i64)) v_s175] (eB r) := by
  refine ret_run (n := 26) (fn := Try.f43) (c := bodyOf Try.f43) (by kernel_rfl) (by kernel_rfl) (by kernel_rfl) (by kernel_rfl) ?_
  have hF : KC 26 (FinR Try.prog Try.f43 (eB r)) := FinR.kc' (by kernel_rfl)
  unfold G_slices_Equal_int_int at h
  by_cases h225 : (v_s174.length : Int) = (v_s175.length : Int)
  · rw [if_pos h225] at h
    obtain ⟨v_o182, h233, h⟩ := bind_some h
    refine pkk_sound TTok mix hF 12 (hs := [.u (.d (.v (.int .i64 (v_s174.length : Int)))), .u (.d (.v (.int .i64 (v_s175.length : Int)))), .t false, .u (.d (.v (.int .i64 (v_s174.length : Int)))), .n n]) (ts := []) (s := []) (l := [0, 1, 12, 13]) (by kernel_rfl) (by kernel_rfl) (.cons (len_ob (f := (eI .i64)) (l := v_s174)) (.cons (len_ob (f := (eI .i64)) (l := v_s175)) (.cons (nf h225) (.cons (len_ob (f := (eI .i64)) (l := v_s174)) .nil)))) (G_slices_Equal_int_int_L1_ok hF (.b 0 :: .s (cR (cR (cR (bodyOf Try.f43)))) :: []) n v_s174 v_s175 n 0 _ h233 ?_)
    cases v_o182 with
    | x0 v_z183 =>
      try dsimp only at h
      obtain rfl := Option.some.inj h
      exact pend_sound TTok mix 2 (hs := []) (by kernel_rfl) (by kernel_rfl) (by kernel_rfl) .nil
    | x1  =>
      try dsimp only at h
      obtain rfl := Option.some.inj h
      exact pend_sound TTok mix 4 (hs := []) (by kernel_rfl) (by kernel_rfl) (by kernel_rfl) .nil
  · rw [if_neg h225] at h
    obtain rfl := Option.some.inj h
    exact pend_sound TTok mix 10 (hs := [.u (.d (.v (.int .i64 (v_s174.length : Int)))), .u (.d (.v (.int .i64 (v_s175.length : Int)))), .t true]) (by kernel_rfl) (by kernel_rfl) (by kernel_rfl) (.cons (len_ob (f := (eI .i64)) (l := v_s174)) (.cons (len_ob (f := (eI .i64)) (l := v_s175)) (.cons (nt h225) .nil)))
inductive G_ringref5_SameCred_C1_R where
  | x0 (v_x186 : Bool)
def G_ringref5_SameCred_C1_ex : G_ringref5_SameCred_C1_R → Ex
  | .x0 _ => .normal
def G_ringref5_SameCred_C1_st (v_a172 : S_api_Cred) (v_b173 : S_api_Cred) : G_ringref5_SameCred_C1_R → PS
  | .x0 v_x186 => ⟨[dd, dd, dd, dd, .d (.v (.bool v_x186)), dd, dd, dd, dd, dd, dd, dd, dd, dd, dd, dd, dd, dd, dd, dd, dd, dd, dd, dd, dd, dd, dd, dd, dd, dd, dd, dd, dd, dd, dd, dd, dd, dd, dd, dd, dd, dd, dd, dd, dd], []⟩
def G_ringref5_SameCred_C1_hd (v_a172 : S_api_Cred) (v_b173 : S_api_Cred)  : PS := ⟨[dd, dd, .ref 0 0, .ref 1 0, dd, dd, dd, dd, dd, dd, dd, dd, dd, dd, dd, dd, dd, dd, dd, dd, dd, dd, dd, dd, dd, dd, dd, dd, dd, dd, dd, dd, dd, dd, dd, dd, dd, dd, dd, dd, dd, dd, dd, dd, dd], [.box [.d (.v (.int .i64 v_a172.fUser)), .d (.v (.int .i64 v_a172.fGroup)), .d (.sl (v_a172.fMore.map (eI .i64))), .d (.v (.int .i64 v_a172.fCaps)), .d (.v (.int .i64 v_a172.fLevel)), .d (.v (.int .i64 v_a172.fKind))], .box [.d (.v (.int .i64 v_b173.fUser)), .d (.v (.int .i64 v_b173.fGroup)), .d (.sl (v_b173.fMore.map (eI .i64))), .d (.v (.int .i64 v_b173.fCaps)), .d (.v (.int .i64 v_b173.fLevel)), .d (.v (.int .i64 v_b173.fKind))]]⟩
def G_ringref5_SameCred_C1 (n : Nat) (v_a172 : S_api_Cred) (v_b173 : S_api_Cred) : Option G_ringref5_SameCred_C1_R :=
  if v_a172.fUser = v_b173.fUser then
   if v_a172.fGroup = v_b173.fGroup then
    (G_slices_Equal_int_int n v_a172.fMore v_b173.fMore).bind fun (v_r185 : (Bool)) =>
    if v_r185 = true then
     if v_a172.fCaps = v_b173.fCaps then
      if v_a172.fLevel = v_b173.fLevel then
       some (.x0 (v_a172.fKind == v_b173.fKind))
      else
       some (.x0 false)
     else
      some (.x0 false)
    else
     some (.x0 false)
   else
    some (.x0 false)
  else
   some (.x0 false)
theorem G_ringref5_SameCred_C1_ok {Fi : Ex → PS → Prop} (hF : KC 45 Fi) (ks : List Fr) (n : Nat) (v_a172 : S_api_Cred) (v_b173 : S_api_Cred)  (o : G_ringref5_SameCred_C1_R) (h : G_ringref5_SameCred_C1 n v_a172 v_b173 = some o) (q : RunE Try.prog 45 Fi ks (G_ringref5_SameCred_C1_ex o) (G_ringref5_SameCred_C1_st v_a172 v_b173 o)) : RunE Try.prog 45 Fi (.s (cL (cR (bodyOf Try.f20))) :: ks) .normal (G_ringref5_SameCred_C1_hd v_a172 v_b173) := by
  unfold G_ringref5_SameCred_C1 at h
  by_cases h238 : v_a172.fUser = v_b173.fUser
  · rw [if_pos h238] at h
    by_cases h239 : v_a172.fGroup = v_b173.fGroup
    · rw [if_pos h239] at h
      obtain ⟨v_r185, h240, h⟩ := bind_some h
      by_cases h241 : v_r185 = true
      · rw [if_pos h241] at h
        by_cases h242 : v_a172.fCaps = v_b173.fCaps
        · rw [if_pos h242] at h
          by_cases h243 : v_a172.fLevel = v_b173.fLevel
          · rw [if_pos h243] at h
            cases h
            exact pkk_sound TTok mix hF 1 (hs := [.c, .c, .t true, .c, .c, .c, .c, .c, .c, .t true, .c, .c, .c, .c, .c, .c, .r (eB v_r185), .t true, .c, .c, .c, .c, .c, .c, .t true, .c, .c, .c, .c, .c, .c, .t true, .c, .c, .c, .c, .c, .c]) (ts := []) (s := []) (l := [4]) (by kernel_rfl) (by kernel_rfl) (.cons (bt h238) (.cons (bt h239) (.cons (G_slices_Equal_int_int_ok n v_a172.fMore v_b173.fMore _ h240) (.cons h241 (.cons (bt h242) (.cons (bt h243) .nil)))))) q
          · rw [if_neg h243] at h
            cases h
            exact pkk_sound TTok mix hF 1 (hs := [.c, .c, .t true, .c, .c, .c, .c, .c, .c, .t true, .c, .c, .c, .c, .c, .c, .r (eB v_r185), .t true, .c, .c, .c, .c, .c, .c, .t true, .c, .c, .c, .c, .c, .c, .t false, .c, .c, .c, .c]) (ts := []) (s := []) (l := [4]) (by kernel_rfl) (by kernel_rfl) (.cons (bt h238) (.cons (bt h239) (.cons (G_slices_Equal_int_int_ok n v_a172.fMore v_b173.fMore _ h240) (.cons h241 (.cons (bt h242) (.cons (bf h243) .nil)))))) q
        · rw [if_neg h242] at h
          cases h
          exact pkk_sound TTok mix hF 1 (hs := [.c, .c, .t true, .c, .c, .c, .c, .c, .c, .t true, .c, .c, .c, .c, .c, .c, .r (eB v_r185), .t true, .c, .c, .c, .c, .c, .c, .t false, .c, .c, .c, .c, .c, .c, .c, .c, .c]) (ts := []) (s := []) (l := [4]) (by kernel_rfl) (by kernel_rfl) (.cons (bt h238) (.cons (bt h239) (.cons (G_slices_Equal_int_int_ok n v_a172.fMore v_b173.fMore _ h240) (.cons h241 (.cons (bf h242) .nil))))) q
      · rw [if_neg h241] at h
        cases h
        exact pkk_sound TTok mix hF 1 (hs := [.c, .c, .t true, .c, .c, .c, .c, .c, .c, .t true, .c, .c, .c, .c, .c, .c, .r (eB v_r185), .t false, .c, .c, .c, .c, .c, .c, .c, .c, .c, .c, .c, .c, .c, .c]) (ts := []) (s := []) (l := [4]) (by kernel_rfl) (by kernel_rfl) (.cons (bt h238) (.cons (bt h239) (.cons (G_slices_Equal_int_int_ok n v_a172.fMore v_b173.fMore _ h240) (.cons (vf h241) .nil)))) q
    · rw [if_neg h239] at h
      cases h
      exact pkk_sound TTok mix hF 1 (hs := [.c, .c, .t true, .c, .c, .c, .c, .c, .c, .t false, .c, .c, .c, .c, .c, .c, .c, .c, .c, .c, .c, .c, .c, .c, .c, .c, .c, .c, .c]) (ts := []) (s := []) (l := [4]) (by kernel_rfl) (by kernel_rfl) (.cons (bt h238) (.cons (bf h239) .nil)) q
  · rw [if_neg h238] at h
    cases h
    exact pkk_sound TTok mix hF 1 (hs := [.c, .c, .t false, .c, .c, .c, .c, .c, .c, .c, .c, .c, .c, .c, .c, .c, .c, .c, .c, .c, .c, .c, .c, .c, .c, .c, .c]) (ts := []) (s := []) (l := [4]) (by kernel_rfl) (by kernel_rfl) (.cons (bf h238) .nil) q
/- ringhall/ringref5.SameCred -/
def G_ringref5_SameCred (n : Nat) (v_a172 : S_api_Cred) (v_b173 : S_api_Cred) : Option (Bool) :=
  (G_ringref5_SameCred_C1 n v_a172 v_b173).bind fun v_o192 => match v_o192 with
  | .x0 v_z193 =>
    some v_z193
theorem G_ringref5_SameCred_ok (n : Nat) (v_a172 : S_api_Cred) (v_b173 : S_api_Cred) (r : Bool) (h : G_ringref5_SameCred n v_a172 v_b173 = some r) : Ret Try.prog 20 [eS_api_Cred v_a172, eS_api_Cred v_b173] (eB r) := by
  refine ret_run (n := 45) (fn := Try.f20) (c := bodyOf Try.f20) (by kernel_rfl) (by kernel_rfl) (by kernel_rfl) (by kernel_rfl) ?_
  have hF : KC 45 (FinR Try.prog Try.f20 (eB r)) := FinR.kc' (by kernel_rfl)
  unfold G_ringref5_SameCred at h
  obtain ⟨v_o192, h244, h⟩ := bind_some h
  refine pkk_sound TTok mix hF 3 (hs := []) (ts := []) (s := [0, 3]) (l := [2, 3]) (by kernel_rfl) (by kernel_rfl) .nil (G_ringref5_SameCred_C1_ok hF (.s (cR (cR (bodyOf Try.f20))) :: []) n v_a172 v_b173 _ h244 ?_)
  cases v_o192 with
  | x0 v_z193 =>
    try dsimp only at h
    obtain rfl := Option.some.inj h
    exact pend_sound TTok mix 1 (hs := []) (by kernel_rfl) (by kernel_rfl) (by kernel_rfl) .nil
/- ringhall/ringref5.Groups -/
def G_ringref5_Groups (n : Nat) (v_c230 : S_api_Cred) : Option ((List Int)) :=
  (app 8 ([v_c230.fGroup]) v_c230.fMore).bind fun (v_a231 : (List Int)) =>
  some v_a231
theorem G_ringref5_Groups_ok (n : Nat) (v_c230 : S_api_Cred) (r : (List Int)) (h : G_ringref5_Groups n v_c230 = some r) : Ret Try.prog 22 [eS_api_Cred v_c230] ((eL (eI .i64)) r) := by
  refine ret_run (n := 9) (fn := Try.f22) (c := bodyOf Try.f22) (by kernel_rfl) (by kernel_rfl) (by kernel_rfl) (by kernel_rfl) ?_
  have hF : KC 9 (FinR Try.prog Try.f22 ((eL (eI .i64)) r)) := FinR.kc' (by kernel_rfl)
  unfold G_ringref5_Groups at h
  obtain ⟨v_a231, h289, h⟩ := bind_some h
  obtain rfl := Option.some.inj h
  exact pend_sound TTok mix 5 (hs := [.c, .w ([v_c230.fGroup].map (eI .i64)), .c, .w (v_a231.map (eI .i64))]) (by kernel_rfl) (by kernel_rfl) (by kernel_rfl) (.cons (Eq.refl ([v_c230.fGroup].map (eI .i64))) (.cons (app_ob (f := (eI .i64)) (s := 1) h289 (fun _ => rfl)).1 (.cons (app_ob (f := (eI .i64)) (s := 1) h289 (fun _ => rfl)).2.1 (.cons (app_ob (f := (eI .i64)) (s := 1) h289 (fun _ => rfl)).2.2.1 (.cons (app_ob (f := (eI .i64)) (s := 1) h289 (fun _ => rfl)).2.2.2 .nil)))))
/- ringhall/ringlaw5.pick -/
def G_ringlaw5_pick (n : Nat) (v_e301 : Int) (v_c302 : S_api_Cred) : Option (S_api_Cred) :=
  if v_e301 = 0 then
   some v_c302
  else
   some (S_api_Cred.mk 0 0 ([] : (List Int)) 0 0 0)
theorem G_ringlaw5_pick_ok (n : Nat) (v_e301 : Int) (v_c302 : S_api_Cred) (r : S_api_Cred) (h : G_ringlaw5_pick n v_e301 v_c302 = some r) : Ret Try.prog 25 [(eI .i64) v_e301, eS_api_Cred v_c302] (eS_api_Cred r) := by
  refine ret_run (n := 9) (fn := Try.f25) (c := bodyOf Try.f25) (by kernel_rfl) (by kernel_rfl) (by kernel_rfl) (by kernel_rfl) ?_
  have hF : KC 9 (FinR Try.prog Try.f25 (eS_api_Cred r)) := FinR.kc' (by kernel_rfl)
  unfold G_ringlaw5_pick at h
  by_cases h355 : v_e301 = 0
  · rw [if_pos h355] at h
    obtain rfl := Option.some.inj h
    exact pend_sound TTok mix 10 (hs := [.t false, .c, .c]) (by kernel_rfl) (by kernel_rfl) (by kernel_rfl) (.cons (nf h355) (.cons (show 0 + 6 ≤ 6 by decide) .nil))
  · rw [if_neg h355] at h
    obtain rfl := Option.some.inj h
    exact pend_sound TTok mix 10 (hs := [.t true, .c]) (by kernel_rfl) (by kernel_rfl) (by kernel_rfl) (.cons (nt h355) (.cons (show 0 + 6 ≤ 6 by decide) .nil))
inductive G_ringlaw5_CredSays_C1_R where
  | x0 (v_x218 : Bool)
def G_ringlaw5_CredSays_C1_ex : G_ringlaw5_CredSays_C1_R → Ex
  | .x0 _ => .normal
def G_ringlaw5_CredSays_C1_st (v_r47 : (Bool × Int)) (v_r51 : (Bool × Int)) (v_r65 : (S_api_Cred × Int)) (v_r71 : (S_api_Cred × Int)) (v_r149 : (S_api_Cred × Int)) (v_r170 : (Int)) : G_ringlaw5_CredSays_C1_R → PS
  | .x0 v_x218 => ⟨[dd, dd, dd, dd, .d (.v (.bool v_x218)), dd, dd, dd, dd, dd, dd, dd, dd, dd, dd, dd, dd, dd, dd, dd, dd, dd, dd, dd, dd, dd, dd, dd, dd, dd, dd, dd, dd, dd, dd, dd, dd, dd, dd, dd, dd, dd, dd, dd, dd, dd, dd, dd, dd, dd, dd, dd, dd, dd, dd, dd, dd, dd, dd, dd, dd, dd, dd, dd, dd, dd, dd, dd, dd, dd, dd, dd, dd, dd, dd, dd, dd, dd, dd, dd, dd, dd, dd, dd, dd, dd, dd, dd, dd, dd, dd, dd, dd, dd, dd, dd, dd, dd, dd, dd, dd, dd, dd, dd, dd, dd, dd, dd, dd, dd, dd, dd, dd, dd, dd, dd, dd, dd, dd, dd, dd, dd, dd, dd, dd, dd, dd, dd, dd, dd, dd, dd, dd, dd, dd, dd, dd, dd, dd, dd, dd, dd, dd, dd, dd, dd, dd, dd, dd, dd, dd, dd, dd, dd, dd, dd, dd, dd, dd, dd, dd, dd, dd, dd, dd, dd, dd, dd, dd, dd, dd, dd, dd, dd, dd, dd, dd, dd, dd, dd, dd, dd, dd, dd, dd, dd, dd, dd, dd, dd, dd, dd, dd, dd, dd, dd, dd, dd, dd, dd, dd, dd, dd, dd, dd, dd, dd, dd, dd, dd, dd, dd, dd, dd, dd, dd, dd, dd, dd, dd, dd, dd, dd, dd, dd, dd, dd, dd, dd, dd, dd, dd, dd], []⟩
def G_ringlaw5_CredSays_C1_hd (v_r47 : (Bool × Int)) (v_r51 : (Bool × Int)) (v_r65 : (S_api_Cred × Int)) (v_r71 : (S_api_Cred × Int)) (v_r149 : (S_api_Cred × Int)) (v_r170 : (Int))  : PS := ⟨[dd, dd, dd, dd, dd, .d (.v (.bool v_r47.1)), .d (.v (.int .i64 v_r47.2)), .d (.v (.bool v_r51.1)), .d (.v (.int .i64 v_r51.2)), .ref 0 0, .d (.v (.int .i64 v_r65.2)), .ref 1 0, .d (.v (.int .i64 v_r71.2)), .ref 2 0, .d (.v (.int .i64 v_r149.2)), .d (.v (.int .i64 v_r170)), .ref 3 0, dd, dd, dd, dd, dd, dd, dd, dd, dd, dd, dd, dd, dd, dd, dd, dd, dd, dd, dd, dd, dd, dd, dd, dd, dd, dd, dd, dd, dd, dd, dd, dd, dd, dd, dd, dd, dd, dd, dd, dd, dd, dd, dd, dd, dd, dd, dd, dd, dd, dd, dd, dd, dd, dd, dd, dd, dd, dd, dd, dd, dd, dd, dd, dd, dd, dd, dd, dd, dd, dd, dd, dd, dd, dd, dd, dd, dd, dd, dd, dd, dd, dd, dd, dd, dd, dd, dd, dd, dd, dd, dd, dd, dd, dd, dd, dd, dd, dd, dd, dd, dd, dd, dd, dd, dd, dd, dd, dd, dd, dd, dd, dd, dd, dd, dd, dd, dd, dd, dd, dd, dd, dd, dd, dd, dd, dd, dd, dd, dd, dd, dd, dd, dd, dd, dd, dd, dd, dd, dd, dd, dd, dd, dd, dd, dd, dd, dd, dd, dd, dd, dd, dd, dd, dd, dd, dd, dd, dd, dd, dd, dd, dd, dd, dd, dd, dd, dd, dd, dd, dd, dd, dd, dd, dd, dd, dd, dd, dd, dd, dd, dd, dd, dd, dd, dd, dd, dd, dd, dd, dd, dd, dd, dd, dd, dd, dd, dd, dd, dd, dd, dd, dd, dd, dd, dd, dd, dd, dd, dd, dd, dd, dd, dd, dd, dd, dd], [.box [.d (.v (.int .i64 v_r65.1.fUser)), .d (.v (.int .i64 v_r65.1.fGroup)), .d (.sl (v_r65.1.fMore.map (eI .i64))), .d (.v (.int .i64 v_r65.1.fCaps)), .d (.v (.int .i64 v_r65.1.fLevel)), .d (.v (.int .i64 v_r65.1.fKind))], .box [.d (.v (.int .i64 v_r71.1.fUser)), .d (.v (.int .i64 v_r71.1.fGroup)), .d (.sl (v_r71.1.fMore.map (eI .i64))), .d (.v (.int .i64 v_r71.1.fCaps)), .d (.v (.int .i64 v_r71.1.fLevel)), .d (.v (.int .i64 v_r71.1.fKind))], .box [.d (.v (.int .i64 v_r149.1.fUser)), .d (.v (.int .i64 v_r149.1.fGroup)), .d (.sl (v_r149.1.fMore.map (eI .i64))), .d (.v (.int .i64 v_r149.1.fCaps)), .d (.v (.int .i64 v_r149.1.fLevel)), .d (.v (.int .i64 v_r149.1.fKind))], .box [.d (.v (.int .i64 0)), .d (.v (.int .i64 0)), .d (vnil), .d (.v (.int .i64 0)), .d (.v (.int .i64 0)), .d (.v (.int .i64 0))]]⟩
def G_ringlaw5_CredSays_C1 (n : Nat) (v_r47 : (Bool × Int)) (v_r51 : (Bool × Int)) (v_r65 : (S_api_Cred × Int)) (v_r71 : (S_api_Cred × Int)) (v_r149 : (S_api_Cred × Int)) (v_r170 : (Int)) : Option G_ringlaw5_CredSays_C1_R :=
  if v_r47.2 = v_r170 then
   if v_r51.2 = v_r170 then
    if v_r65.2 = v_r170 then
     if v_r71.2 = v_r170 then
      if v_r149.2 = v_r170 then
       if v_r47.1 = true then
        some (.x0 false)
       else
        if v_r51.1 = true then
         some (.x0 false)
        else
         (G_ringref5_SameCred n v_r65.1 (S_api_Cred.mk 0 0 ([] : (List Int)) 0 0 0)).bind fun (v_r215 : (Bool)) =>
         if v_r215 = true then
          (G_ringref5_SameCred n v_r71.1 (S_api_Cred.mk 0 0 ([] : (List Int)) 0 0 0)).bind fun (v_r216 : (Bool)) =>
          if v_r216 = true then
           (G_ringref5_SameCred n v_r149.1 (S_api_Cred.mk 0 0 ([] : (List Int)) 0 0 0)).bind fun (v_r217 : (Bool)) =>
           some (.x0 v_r217)
          else
           some (.x0 false)
         else
          some (.x0 false)
      else
       some (.x0 false)
     else
      some (.x0 false)
    else
     some (.x0 false)
   else
    some (.x0 false)
  else
   some (.x0 false)
theorem G_ringlaw5_CredSays_C1_ok {Fi : Ex → PS → Prop} (hF : KC 233 Fi) (ks : List Fr) (n : Nat) (v_r47 : (Bool × Int)) (v_r51 : (Bool × Int)) (v_r65 : (S_api_Cred × Int)) (v_r71 : (S_api_Cred × Int)) (v_r149 : (S_api_Cred × Int)) (v_r170 : (Int))  (o : G_ringlaw5_CredSays_C1_R) (h : G_ringlaw5_CredSays_C1 n v_r47 v_r51 v_r65 v_r71 v_r149 v_r170 = some o) (q : RunE Try.prog 233 Fi ks (G_ringlaw5_CredSays_C1_ex o) (G_ringlaw5_CredSays_C1_st v_r47 v_r51 v_r65 v_r71 v_r149 v_r170 o)) : RunE Try.prog 233 Fi (.s (cL (cT (cR (cL (cR (cR (cR (cR (cR (cR (cR (cR (cR (bodyOf Try.f3)))))))))))))) :: ks) .normal (G_ringlaw5_CredSays_C1_hd v_r47 v_r51 v_r65 v_r71 v_r149 v_r170) := by
  unfold G_ringlaw5_CredSays_C1 at h
  by_cases h276 : v_r47.2 = v_r170
  · rw [if_pos h276] at h
    by_cases h277 : v_r51.2 = v_r170
    · rw [if_pos h277] at h
      by_cases h278 : v_r65.2 = v_r170
      · rw [if_pos h278] at h
        by_cases h279 : v_r71.2 = v_r170
        · rw [if_pos h279] at h
          by_cases h280 : v_r149.2 = v_r170
          · rw [if_pos h280] at h
            by_cases h281 : v_r47.1 = true
            · rw [if_pos h281] at h
              cases h
              exact pkk_sound TTok mix hF 1 (hs := [.t true, .c, .c, .t true, .c, .c, .t true, .c, .c, .t true, .c, .c, .t true, .c, .t false, .c, .c, .c, .c, .c, .c, .c, .c, .c, .c]) (ts := []) (s := []) (l := [4]) (by kernel_rfl) (by kernel_rfl) (.cons (bt h276) (.cons (bt h277) (.cons (bt h278) (.cons (bt h279) (.cons (bt h280) (.cons (bnf h281) .nil)))))) q
            · rw [if_neg h281] at h
              by_cases h282 : v_r51.1 = true
              · rw [if_pos h282] at h
                cases h
                exact pkk_sound TTok mix hF 1 (hs := [.t true, .c, .c, .t true, .c, .c, .t true, .c, .c, .t true, .c, .c, .t true, .c, .t true, .c, .t false, .c, .c, .c, .c, .c, .c, .c, .c]) (ts := []) (s := []) (l := [4]) (by kernel_rfl) (by kernel_rfl) (.cons (bt h276) (.cons (bt h277) (.cons (bt h278) (.cons (bt h279) (.cons (bt h280) (.cons (bnt (vf h281)) (.cons (bnf h282) .nil))))))) q
              · rw [if_neg h282] at h
                obtain ⟨v_r215, h283, h⟩ := bind_some h
                by_cases h284 : v_r215 = true
                · rw [if_pos h284] at h
                  obtain ⟨v_r216, h285, h⟩ := bind_some h
                  by_cases h286 : v_r216 = true
                  · rw [if_pos h286] at h
                    obtain ⟨v_r217, h287, h⟩ := bind_some h
                    cases h
                    exact pkk_sound TTok mix hF 1 (hs := [.t true, .c, .c, .t true, .c, .c, .t true, .c, .c, .t true, .c, .c, .t true, .c, .t true, .c, .t true, .c, .c, .c, .c, .r (eB v_r215), .t true, .c, .c, .c, .c, .r (eB v_r216), .t true, .c, .c, .c, .c, .r (eB v_r217)]) (ts := []) (s := []) (l := [4]) (by kernel_rfl) (by kernel_rfl) (.cons (bt h276) (.cons (bt h277) (.cons (bt h278) (.cons (bt h279) (.cons (bt h280) (.cons (bnt (vf h281)) (.cons (bnt (vf h282)) (.cons (G_ringref5_SameCred_ok n v_r65.1 (S_api_Cred.mk 0 0 ([] : (List Int)) 0 0 0) _ h283) (.cons h284 (.cons (G_ringref5_SameCred_ok n v_r71.1 (S_api_Cred.mk 0 0 ([] : (List Int)) 0 0 0) _ h285) (.cons h286 (.cons (G_ringref5_SameCred_ok n v_r149.1 (S_api_Cred.mk 0 0 ([] : (List Int)) 0 0 0) _ h287) .nil)))))))))))) q
                  · rw [if_neg h286] at h
                    cases h
                    exact pkk_sound TTok mix hF 1 (hs := [.t true, .c, .c, .t true, .c, .c, .t true, .c, .c, .t true, .c, .c, .t true, .c, .t true, .c, .t true, .c, .c, .c, .c, .r (eB v_r215), .t true, .c, .c, .c, .c, .r (eB v_r216), .t false, .c, .c]) (ts := []) (s := []) (l := [4]) (by kernel_rfl) (by kernel_rfl) (.cons (bt h276) (.cons (bt h277) (.cons (bt h278) (.cons (bt h279) (.cons (bt h280) (.cons (bnt (vf h281)) (.cons (bnt (vf h282)) (.cons (G_ringref5_SameCred_ok n v_r65.1 (S_api_Cred.mk 0 0 ([] : (List Int)) 0 0 0) _ h283) (.cons h284 (.cons (G_ringref5_SameCred_ok n v_r71.1 (S_api_Cred.mk 0 0 ([] : (List Int)) 0 0 0) _ h285) (.cons (vf h286) .nil))))))))))) q
                · rw [if_neg h284] at h
                  cases h
                  exact pkk_sound TTok mix hF 1 (hs := [.t true, .c, .c, .t true, .c, .c, .t true, .c, .c, .t true, .c, .c, .t true, .c, .t true, .c, .t true, .c, .c, .c, .c, .r (eB v_r215), .t false, .c, .c, .c, .c, .c]) (ts := []) (s := []) (l := [4]) (by kernel_rfl) (by kernel_rfl) (.cons (bt h276) (.cons (bt h277) (.cons (bt h278) (.cons (bt h279) (.cons (bt h280) (.cons (bnt (vf h281)) (.cons (bnt (vf h282)) (.cons (G_ringref5_SameCred_ok n v_r65.1 (S_api_Cred.mk 0 0 ([] : (List Int)) 0 0 0) _ h283) (.cons (vf h284) .nil))))))))) q
          · rw [if_neg h280] at h
            cases h
            exact pkk_sound TTok mix hF 1 (hs := [.t true, .c, .c, .t true, .c, .c, .t true, .c, .c, .t true, .c, .c, .t false, .c, .c, .c, .c, .c, .c, .c, .c, .c, .c, .c, .c]) (ts := []) (s := []) (l := [4]) (by kernel_rfl) (by kernel_rfl) (.cons (bt h276) (.cons (bt h277) (.cons (bt h278) (.cons (bt h279) (.cons (bf h280) .nil))))) q
        · rw [if_neg h279] at h
          cases h
          exact pkk_sound TTok mix hF 1 (hs := [.t true, .c, .c, .t true, .c, .c, .t true, .c, .c, .t false, .c, .c, .c, .c, .c, .c, .c, .c, .c, .c, .c, .c, .c, .c, .c]) (ts := []) (s := []) (l := [4]) (by kernel_rfl) (by kernel_rfl) (.cons (bt h276) (.cons (bt h277) (.cons (bt h278) (.cons (bf h279) .nil)))) q
      · rw [if_neg h278] at h
        cases h
        exact pkk_sound TTok mix hF 1 (hs := [.t true, .c, .c, .t true, .c, .c, .t false, .c, .c, .c, .c, .c, .c, .c, .c, .c, .c, .c, .c, .c, .c, .c, .c, .c, .c]) (ts := []) (s := []) (l := [4]) (by kernel_rfl) (by kernel_rfl) (.cons (bt h276) (.cons (bt h277) (.cons (bf h278) .nil))) q
    · rw [if_neg h277] at h
      cases h
      exact pkk_sound TTok mix hF 1 (hs := [.t true, .c, .c, .t false, .c, .c, .c, .c, .c, .c, .c, .c, .c, .c, .c, .c, .c, .c, .c, .c, .c, .c, .c, .c, .c]) (ts := []) (s := []) (l := [4]) (by kernel_rfl) (by kernel_rfl) (.cons (bt h276) (.cons (bf h277) .nil)) q
  · rw [if_neg h276] at h
    cases h
    exact pkk_sound TTok mix hF 1 (hs := [.t false, .c, .c, .c, .c, .c, .c, .c, .c, .c, .c, .c, .c, .c, .c, .c, .c, .c, .c, .c, .c, .c, .c, .c, .c]) (ts := []) (s := []) (l := [4]) (by kernel_rfl) (by kernel_rfl) (.cons (bf h276) .nil) q
inductive G_ringlaw5_CredSays_C2_R where
  | x0 (v_wantB264 : Int) (v_wantJ265 : Int)
  | x1 (v_wantB275 : Int) (v_wantJ276 : Int) (v_w277 : (List Int))
def G_ringlaw5_CredSays_C2_ex : G_ringlaw5_CredSays_C2_R → Ex
  | .x0 _ _ => .normal
  | .x1 _ _ _ => .normal
def G_ringlaw5_CredSays_C2_st (v_n2 : Int) (v_r51 : (Bool × Int)) (v_r65 : (S_api_Cred × Int)) (v_r71 : (S_api_Cred × Int)) (v_r149 : (S_api_Cred × Int)) (v_r233 : (Bool)) (v_c1 : S_api_Cred) : G_ringlaw5_CredSays_C2_R → PS
  | .x0 v_wantB264 v_wantJ265 => ⟨[dd, .d (.v (.int .i64 v_n2)), .ref 0 0, dd, dd, dd, dd, .d (.v (.bool v_r51.1)), .d (.v (.int .i64 v_r51.2)), .ref 1 0, .d (.v (.int .i64 v_r65.2)), .ref 2 0, .d (.v (.int .i64 v_r71.2)), .ref 3 0, .d (.v (.int .i64 v_r149.2)), dd, dd, dd, .ref 4 0, .ref 5 0, .ref 6 0, .d (.v (.int .i64 1)), .d (.v (.int .i64 v_wantB264)), .d (.v (.int .i64 v_wantJ265)), dd, dd, dd, dd, dd, dd, dd, dd, dd, dd, dd, dd, dd, dd, dd, dd, dd, dd, dd, dd, dd, dd, dd, dd, dd, dd, dd, dd, dd, dd, dd, dd, dd, dd, dd, dd, dd, dd, dd, dd, dd, dd, dd, dd, dd, dd, dd, dd, dd, dd, dd, dd, dd, dd, dd, dd, dd, dd, dd, dd, dd, dd, dd, dd, dd, dd, dd, dd, dd, dd, dd, dd, dd, dd, dd, dd, dd, dd, dd, dd, dd, dd, dd, dd, dd, dd, dd, dd, dd, dd, dd, dd, dd, dd, dd, dd, dd, dd, dd, dd, dd, dd, dd, dd, dd, dd, dd, dd, dd, dd, dd, dd, dd, dd, dd, dd, dd, dd, dd, dd, dd, dd, dd, dd, dd, dd, dd, dd, dd, dd, dd, dd, dd, dd, dd, dd, dd, dd, dd, dd, dd, dd, dd, dd, dd, dd, dd, dd, dd, dd, dd, dd, dd, dd, dd, dd, dd, dd, dd, dd, dd, dd, dd, dd, dd, dd, dd, dd, dd, dd, dd, dd, dd, dd, dd, dd, dd, dd, dd, dd, dd, dd, dd, dd, dd, dd, dd, dd, dd, dd, dd, dd, dd, dd, dd, dd, dd, dd, dd, dd, dd, dd, dd, dd, dd, dd, dd, dd, dd], [.box [.d (.v (.int .i64 v_c1.fUser)), .d (.v (.int .i64 v_c1.fGroup)), .d (.sl (v_c1.fMore.map (eI .i64))), .d (.v (.int .i64 v_c1.fCaps)), .d (.v (.int .i64 v_c1.fLevel)), .d (.v (.int .i64 v_c1.fKind))], .box [.d (.v (.int .i64 v_r65.1.fUser)), .d (.v (.int .i64 v_r65.1.fGroup)), .d (.sl (v_r65.1.fMore.map (eI .i64))), .d (.v (.int .i64 v_r65.1.fCaps)), .d (.v (.int .i64 v_r65.1.fLevel)), .d (.v (.int .i64 v_r65.1.fKind))], .box [.d (.v (.int .i64 v_r71.1.fUser)), .d (.v (.int .i64 v_r71.1.fGroup)), .d (.sl (v_r71.1.fMore.map (eI .i64))), .d (.v (.int .i64 v_r71.1.fCaps)), .d (.v (.int .i64 v_r71.1.fLevel)), .d (.v (.int .i64 v_r71.1.fKind))], .box [.d (.v (.int .i64 v_r149.1.fUser)), .d (.v (.int .i64 v_r149.1.fGroup)), .d (.sl (v_r149.1.fMore.map (eI .i64))), .d (.v (.int .i64 v_r149.1.fCaps)), .d (.v (.int .i64 v_r149.1.fLevel)), .d (.v (.int .i64 v_r149.1.fKind))], .box [.d (.v (.int .i64 v_c1.fUser)), .d (.v (.int .i64 v_c1.fGroup)), .d (.sl (v_c1.fMore.map (eI .i64))), .d (.v (.int .i64 v_c1.fCaps)), .d (.v (.int .i64 v_c1.fLevel)), .d (.v (.int .i64 v_c1.fKind))], .box [.d (.v (.int .i64 v_c1.fUser)), .d (.v (.int .i64 v_c1.fGroup)), .d (.sl (v_c1.fMore.map (eI .i64))), .d (.v (.int .i64 v_c1.fCaps)), .d (.v (.int .i64 v_c1.fLevel)), .d (.v (.int .i64 v_c1.fKind))], .box [.d (.v (.int .i64 v_c1.fUser)), .d (.v (.int .i64 v_c1.fGroup)), .d (.sl (v_c1.fMore.map (eI .i64))), .d (.v (.int .i64 v_c1.fCaps)), .d (.v (.int .i64 v_c1.fLevel)), .d (.v (.int .i64 v_c1.fKind))]]⟩
  | .x1 v_wantB275 v_wantJ276 v_w277 => ⟨[dd, .d (.v (.int .i64 v_n2)), .ref 0 0, dd, dd, dd, dd, .d (.v (.bool v_r51.1)), .d (.v (.int .i64 v_r51.2)), .ref 1 0, .d (.v (.int .i64 v_r65.2)), .ref 2 0, .d (.v (.int .i64 v_r71.2)), .ref 3 0, .d (.v (.int .i64 v_r149.2)), dd, dd, dd, .ref 4 0, .ref 5 0, .ref 6 0, .d (.v (.int .i64 1)), .d (.v (.int .i64 v_wantB275)), .d (.v (.int .i64 v_wantJ276)), dd, dd, dd, dd, dd, dd, dd, dd, dd, dd, dd, dd, dd, dd, dd, dd, dd, dd, dd, dd, dd, dd, dd, dd, dd, dd, dd, dd, dd, dd, dd, dd, dd, dd, dd, dd, dd, dd, dd, dd, dd, dd, dd, dd, dd, dd, dd, dd, dd, dd, dd, dd, dd, dd, dd, dd, dd, dd, dd, dd, dd, dd, dd, dd, dd, dd, dd, dd, dd, dd, dd, dd, dd, dd, dd, dd, dd, dd, dd, dd, dd, dd, dd, dd, dd, dd, dd, dd, dd, dd, dd, dd, dd, dd, dd, dd, dd, dd, dd, dd, dd, dd, dd, dd, dd, dd, dd, dd, dd, dd, dd, dd, dd, dd, dd, dd, dd, dd, dd, dd, dd, dd, dd, dd, dd, dd, dd, dd, dd, dd, dd, dd, dd, dd, dd, dd, dd, dd, dd, dd, dd, dd, dd, dd, dd, dd, dd, dd, dd, dd, dd, dd, dd, dd, dd, dd, dd, dd, dd, dd, dd, dd, dd, dd, dd, dd, dd, dd, dd, dd, dd, dd, dd, dd, dd, dd, dd, dd, dd, dd, dd, dd, dd, dd, dd, dd, dd, dd, dd, dd, dd, dd, dd, dd, dd, dd, dd, dd, dd, dd, dd, dd, dd, dd, dd, dd, dd, dd, dd], [.box [.d (.v (.int .i64 v_c1.fUser)), .d (.v (.int .i64 v_c1.fGroup)), .d (.sl (v_c1.fMore.map (eI .i64))), .d (.v (.int .i64 v_c1.fCaps)), .d (.v (.int .i64 v_c1.fLevel)), .d (.v (.int .i64 v_c1.fKind))], .box [.d (.v (.int .i64 v_r65.1.fUser)), .d (.v (.int .i64 v_r65.1.fGroup)), .d (.sl (v_r65.1.fMore.map (eI .i64))), .d (.v (.int .i64 v_r65.1.fCaps)), .d (.v (.int .i64 v_r65.1.fLevel)), .d (.v (.int .i64 v_r65.1.fKind))], .box [.d (.v (.int .i64 v_r71.1.fUser)), .d (.v (.int .i64 v_r71.1.fGroup)), .d (.sl (v_r71.1.fMore.map (eI .i64))), .d (.v (.int .i64 v_r71.1.fCaps)), .d (.v (.int .i64 v_r71.1.fLevel)), .d (.v (.int .i64 v_r71.1.fKind))], .box [.d (.v (.int .i64 v_r149.1.fUser)), .d (.v (.int .i64 v_r149.1.fGroup)), .d (.sl (v_r149.1.fMore.map (eI .i64))), .d (.v (.int .i64 v_r149.1.fCaps)), .d (.v (.int .i64 v_r149.1.fLevel)), .d (.v (.int .i64 v_r149.1.fKind))], .box [.d (.v (.int .i64 v_c1.fUser)), .d (.v (.int .i64 v_c1.fGroup)), .d (.sl (v_c1.fMore.map (eI .i64))), .d (.v (.int .i64 v_c1.fCaps)), .d (.v (.int .i64 v_c1.fLevel)), .d (.v (.int .i64 v_c1.fKind))], .box [.d (.v (.int .i64 v_c1.fUser)), .d (.v (.int .i64 v_c1.fGroup)), .d (.sl (v_c1.fMore.map (eI .i64))), .d (.v (.int .i64 v_c1.fCaps)), .d (.v (.int .i64 v_c1.fLevel)), .d (.v (.int .i64 v_c1.fKind))], .box [.d (.v (.int .i64 v_c1.fUser)), .d (.v (.int .i64 v_c1.fGroup)), .srf 7, .d (.v (.int .i64 v_c1.fCaps)), .d (.v (.int .i64 v_c1.fLevel)), .d (.v (.int .i64 v_c1.fKind))], .row 3 1 (v_w277.map (eI .i64))]⟩
def G_ringlaw5_CredSays_C2_hd (v_n2 : Int) (v_r51 : (Bool × Int)) (v_r65 : (S_api_Cred × Int)) (v_r71 : (S_api_Cred × Int)) (v_r149 : (S_api_Cred × Int)) (v_r233 : (Bool)) (v_c1 : S_api_Cred)  : PS := ⟨[dd, .d (.v (.int .i64 v_n2)), .ref 0 0, dd, dd, dd, dd, .d (.v (.bool v_r51.1)), .d (.v (.int .i64 v_r51.2)), .ref 1 0, .d (.v (.int .i64 v_r65.2)), .ref 2 0, .d (.v (.int .i64 v_r71.2)), .ref 3 0, .d (.v (.int .i64 v_r149.2)), dd, dd, .d (.v (.bool v_r233)), .ref 4 0, .ref 5 0, .ref 6 0, .d (.v (.int .i64 1)), .d (.v (.int .i64 0)), .d (.v (.int .i64 0)), dd, dd, dd, dd, dd, dd, dd, dd, dd, dd, dd, dd, dd, dd, dd, dd, dd, dd, dd, dd, dd, dd, dd, dd, dd, dd, dd, dd, dd, dd, dd, dd, dd, dd, dd, dd, dd, dd, dd, dd, dd, dd, dd, dd, dd, dd, dd, dd, dd, dd, dd, dd, dd, dd, dd, dd, dd, dd, dd, dd, dd, dd, dd, dd, dd, dd, dd, dd, dd, dd, dd, dd, dd, dd, dd, dd, dd, dd, dd, dd, dd, dd, dd, dd, dd, dd, dd, dd, dd, dd, dd, dd, dd, dd, dd, dd, dd, dd, dd, dd, dd, dd, dd, dd, dd, dd, dd, dd, dd, dd, dd, dd, dd, .d (.v (.bool (decide (v_n2 > 99)))), dd, dd, dd, dd, dd, dd, dd, dd, dd, dd, dd, dd, dd, dd, dd, dd, dd, dd, dd, dd, dd, dd, dd, dd, dd, dd, dd, dd, dd, dd, dd, dd, dd, dd, dd, dd, dd, dd, dd, dd, dd, dd, dd, dd, dd, dd, dd, dd, dd, dd, dd, dd, dd, dd, dd, dd, dd, dd, dd, dd, dd, dd, dd, dd, dd, dd, dd, dd, dd, dd, dd, dd, dd, dd, dd, dd, dd, dd, dd, dd, dd, dd, dd, dd, dd, dd, dd, dd, dd, dd, dd, dd, dd, dd, dd], [.box [.d (.v (.int .i64 v_c1.fUser)), .d (.v (.int .i64 v_c1.fGroup)), .d (.sl (v_c1.fMore.map (eI .i64))), .d (.v (.int .i64 v_c1.fCaps)), .d (.v (.int .i64 v_c1.fLevel)), .d (.v (.int .i64 v_c1.fKind))], .box [.d (.v (.int .i64 v_r65.1.fUser)), .d (.v (.int .i64 v_r65.1.fGroup)), .d (.sl (v_r65.1.fMore.map (eI .i64))), .d (.v (.int .i64 v_r65.1.fCaps)), .d (.v (.int .i64 v_r65.1.fLevel)), .d (.v (.int .i64 v_r65.1.fKind))], .box [.d (.v (.int .i64 v_r71.1.fUser)), .d (.v (.int .i64 v_r71.1.fGroup)), .d (.sl (v_r71.1.fMore.map (eI .i64))), .d (.v (.int .i64 v_r71.1.fCaps)), .d (.v (.int .i64 v_r71.1.fLevel)), .d (.v (.int .i64 v_r71.1.fKind))], .box [.d (.v (.int .i64 v_r149.1.fUser)), .d (.v (.int .i64 v_r149.1.fGroup)), .d (.sl (v_r149.1.fMore.map (eI .i64))), .d (.v (.int .i64 v_r149.1.fCaps)), .d (.v (.int .i64 v_r149.1.fLevel)), .d (.v (.int .i64 v_r149.1.fKind))], .box [.d (.v (.int .i64 v_c1.fUser)), .d (.v (.int .i64 v_c1.fGroup)), .d (.sl (v_c1.fMore.map (eI .i64))), .d (.v (.int .i64 v_c1.fCaps)), .d (.v (.int .i64 v_c1.fLevel)), .d (.v (.int .i64 v_c1.fKind))], .box [.d (.v (.int .i64 v_c1.fUser)), .d (.v (.int .i64 v_c1.fGroup)), .d (.sl (v_c1.fMore.map (eI .i64))), .d (.v (.int .i64 v_c1.fCaps)), .d (.v (.int .i64 v_c1.fLevel)), .d (.v (.int .i64 v_c1.fKind))], .box [.d (.v (.int .i64 v_c1.fUser)), .d (.v (.int .i64 v_c1.fGroup)), .d (.sl (v_c1.fMore.map (eI .i64))), .d (.v (.int .i64 v_c1.fCaps)), .d (.v (.int .i64 v_c1.fLevel)), .d (.v (.int .i64 v_c1.fKind))]]⟩
def G_ringlaw5_CredSays_C2 (n : Nat) (v_n2 : Int) (v_r51 : (Bool × Int)) (v_r65 : (S_api_Cred × Int)) (v_r71 : (S_api_Cred × Int)) (v_r149 : (S_api_Cred × Int)) (v_r233 : (Bool)) (v_c1 : S_api_Cred) : Option G_ringlaw5_CredSays_C2_R :=
  if v_n2 > 99 then
   some (.x0 1 1)
  else
   if (remI (quoI .i64 v_c1.fCaps 8) 2) = 0 then
    if v_n2 = v_c1.fUser then
     some (.x0 0 7)
    else
     some (.x0 7 7)
   else
    if v_r233 = true then
     some (.x0 0 0)
    else
     if (v_c1.fMore.length : Int) = 4 then
      some (.x0 0 6)
     else
      (G_slices_Clone_int_int n v_c1.fMore).bind fun (v_r272 : ((List Int))) =>
      (app 8 v_r272 ([v_n2])).bind fun (v_a273 : (List Int)) =>
      (G_slices_Sort_int_int_h n v_a273).bind fun (v_r274 : ((List Int))) =>
      some (.x1 0 0 v_r274)
theorem G_ringlaw5_CredSays_C2_ok {Fi : Ex → PS → Prop} (hF : KC 233 Fi) (ks : List Fr) (n : Nat) (v_n2 : Int) (v_r51 : (Bool × Int)) (v_r65 : (S_api_Cred × Int)) (v_r71 : (S_api_Cred × Int)) (v_r149 : (S_api_Cred × Int)) (v_r233 : (Bool)) (v_c1 : S_api_Cred)  (o : G_ringlaw5_CredSays_C2_R) (h : G_ringlaw5_CredSays_C2 n v_n2 v_r51 v_r65 v_r71 v_r149 v_r233 v_c1 = some o) (q : RunE Try.prog 233 Fi ks (G_ringlaw5_CredSays_C2_ex o) (G_ringlaw5_CredSays_C2_st v_n2 v_r51 v_r65 v_r71 v_r149 v_r233 v_c1 o)) : RunE Try.prog 233 Fi (.s (cR (cB (cL (cR (cR (cR (cR (cR (cR (cR (cR (cR (cR (cR (cR (cR (cR (cR (bodyOf Try.f3))))))))))))))))))) :: ks) .normal (G_ringlaw5_CredSays_C2_hd v_n2 v_r51 v_r65 v_r71 v_r149 v_r233 v_c1) := by
  unfold G_ringlaw5_CredSays_C2 at h
  by_cases h331 : v_n2 > 99
  · rw [if_pos h331] at h
    cases h
    exact pkk_sound TTok mix hF 2 (hs := [.t true]) (ts := []) (s := [0, 1, 2, 3, 4, 5, 6]) (l := [1, 2, 7, 8, 9, 10, 11, 12, 13, 14, 18, 19, 20, 21, 22, 23]) (by kernel_rfl) (by kernel_rfl) (.cons (dt h331) .nil) q
  · rw [if_neg h331] at h
    by_cases h334 : (remI (quoI .i64 v_c1.fCaps 8) 2) = 0
    · rw [if_pos h334] at h
      by_cases h335 : v_n2 = v_c1.fUser
      · rw [if_pos h335] at h
        cases h
        exact pkk_sound TTok mix hF 10 (hs := [.t false, .c, .t true, .c, .t false]) (ts := []) (s := [0, 1, 2, 3, 4, 5, 6]) (l := [1, 2, 7, 8, 9, 10, 11, 12, 13, 14, 18, 19, 20, 21, 22, 23]) (by kernel_rfl) (by kernel_rfl) (.cons (df h331) (.cons (show (8 : Int) ≠ 0 by decide) (.cons (show (2 : Int) ≠ 0 by decide) (.cons (bt h334) (.cons (nf h335) .nil))))) q
      · rw [if_neg h335] at h
        cases h
        exact pkk_sound TTok mix hF 10 (hs := [.t false, .c, .t true, .c, .t true]) (ts := []) (s := [0, 1, 2, 3, 4, 5, 6]) (l := [1, 2, 7, 8, 9, 10, 11, 12, 13, 14, 18, 19, 20, 21, 22, 23]) (by kernel_rfl) (by kernel_rfl) (.cons (df h331) (.cons (show (8 : Int) ≠ 0 by decide) (.cons (show (2 : Int) ≠ 0 by decide) (.cons (bt h334) (.cons (nt h335) .nil))))) q
    · rw [if_neg h334] at h
      by_cases h337 : v_r233 = true
      · rw [if_pos h337] at h
        cases h
        exact pkk_sound TTok mix hF 11 (hs := [.t false, .c, .t false, .t false, .c, .c, .c, .c, .t false]) (ts := []) (s := [0, 1, 2, 3, 4, 5, 6]) (l := [1, 2, 7, 8, 9, 10, 11, 12, 13, 14, 18, 19, 20, 21, 22, 23]) (by kernel_rfl) (by kernel_rfl) (.cons (df h331) (.cons (show (8 : Int) ≠ 0 by decide) (.cons (show (2 : Int) ≠ 0 by decide) (.cons (bf h334) (.cons (bnf h337) (.cons (bnf h337) .nil)))))) q
      · rw [if_neg h337] at h
        by_cases h338 : (v_c1.fMore.length : Int) = 4
        · rw [if_pos h338] at h
          cases h
          exact pkk_sound TTok mix hF 8 (hs := [.t false, .c, .t false, .t true, .c, .c, .c, .u (.d (.v (.int .i64 (v_c1.fMore.length : Int)))), .c, .t true]) (ts := []) (s := [0, 1, 2, 3, 4, 5, 6]) (l := [1, 2, 7, 8, 9, 10, 11, 12, 13, 14, 18, 19, 20, 21, 22, 23]) (by kernel_rfl) (by kernel_rfl) (.cons (df h331) (.cons (show (8 : Int) ≠ 0 by decide) (.cons (show (2 : Int) ≠ 0 by decide) (.cons (bf h334) (.cons (bnt (vf h337)) (.cons (len_ob (f := (eI .i64)) (l := v_c1.fMore)) (.cons (bt h338) .nil))))))) q
        · rw [if_neg h338] at h
          obtain ⟨v_r272, h339, h⟩ := bind_some h
          obtain ⟨v_a273, h340, h⟩ := bind_some h
          obtain ⟨v_r274, h341, h⟩ := bind_some h
          cases h
          exact pkk_sound TTok mix hF 13 (hs := [.t false, .c, .t false, .t true, .c, .c, .c, .u (.d (.v (.int .i64 (v_c1.fMore.length : Int)))), .c, .t false, .t true, .c, .h [] [] [.row 3 1 (v_r272.map (eI .i64))] (.srf 0), .bd, .w (v_a273.map (eI .i64)), .c, .c, .h [76] [] [.row 3 1 (v_r274.map (eI .i64))] (.tup [])]) (ts := []) (s := [0, 1, 2, 3, 4, 5, 6, 76]) (l := [1, 2, 7, 8, 9, 10, 11, 12, 13, 14, 18, 19, 20, 21, 22, 23]) (by kernel_rfl) (by kernel_rfl) (.cons (df h331) (.cons (show (8 : Int) ≠ 0 by decide) (.cons (show (2 : Int) ≠ 0 by decide) (.cons (bf h334) (.cons (bnt (vf h337)) (.cons (len_ob (f := (eI .i64)) (l := v_c1.fMore)) (.cons (bf h338) (.cons (bnt (vf h337)) (.cons (G_slices_Clone_int_int_ok n v_c1.fMore _ h339) (.cons (app_ob (f := (eI .i64)) (s := 1) h340 (fun _ => rfl)).1 (.cons (app_ob (f := (eI .i64)) (s := 1) h340 (fun _ => rfl)).2.1 (.cons (app_ob (f := (eI .i64)) (s := 1) h340 (fun _ => rfl)).2.2.1 (.cons (app_ob (f := (eI .i64)) (s := 1) h340 (fun _ => rfl)).2.2.2 (.cons (show 2 + 1 ≤ 6 by decide) (.cons (G_slices_Sort_int_int_h_ok n v_a273 _ h341) .nil))))))))))))))) q
inductive G_ringlaw5_CredSays_C3_R where
  | x0 (v_wantB259 : Int) (v_wantJ260 : Int)
  | x1 (v_wantB288 : Int) (v_wantJ289 : Int) (v_w290 : (List Int))
def G_ringlaw5_CredSays_C3_ex : G_ringlaw5_CredSays_C3_R → Ex
  | .x0 _ _ => .normal
  | .x1 _ _ _ => .normal
def G_ringlaw5_CredSays_C3_st (v_n2 : Int) (v_r51 : (Bool × Int)) (v_r65 : (S_api_Cred × Int)) (v_r71 : (S_api_Cred × Int)) (v_r149 : (S_api_Cred × Int)) (v_r233 : (Bool)) (v_c1 : S_api_Cred) : G_ringlaw5_CredSays_C3_R → PS
  | .x0 v_wantB259 v_wantJ260 => ⟨[dd, .d (.v (.int .i64 v_n2)), .ref 0 0, dd, dd, dd, dd, .d (.v (.bool v_r51.1)), .d (.v (.int .i64 v_r51.2)), .ref 1 0, .d (.v (.int .i64 v_r65.2)), .ref 2 0, .d (.v (.int .i64 v_r71.2)), .ref 3 0, .d (.v (.int .i64 v_r149.2)), dd, dd, dd, .ref 4 0, .ref 5 0, .ref 6 0, .d (.v (.int .i64 1)), .d (.v (.int .i64 v_wantB259)), .d (.v (.int .i64 v_wantJ260)), dd, dd, dd, dd, dd, dd, dd, dd, dd, dd, dd, dd, dd, dd, dd, dd, dd, dd, dd, dd, dd, dd, dd, dd, dd, dd, dd, dd, dd, dd, dd, dd, dd, dd, dd, dd, dd, dd, dd, dd, dd, dd, dd, dd, dd, dd, dd, dd, dd, dd, dd, dd, dd, dd, dd, dd, dd, dd, dd, dd, dd, dd, dd, dd, dd, dd, dd, dd, dd, dd, dd, dd, dd, dd, dd, dd, dd, dd, dd, dd, dd, dd, dd, dd, dd, dd, dd, dd, dd, dd, dd, dd, dd, dd, dd, dd, dd, dd, dd, dd, dd, dd, dd, dd, dd, dd, dd, dd, dd, dd, dd, dd, dd, dd, dd, dd, dd, dd, dd, dd, dd, dd, dd, dd, dd, dd, dd, dd, dd, dd, dd, dd, dd, dd, dd, dd, dd, dd, dd, dd, dd, dd, dd, dd, dd, dd, dd, dd, dd, dd, dd, dd, dd, dd, dd, dd, dd, dd, dd, dd, dd, dd, dd, dd, dd, dd, dd, dd, dd, dd, dd, dd, dd, dd, dd, dd, dd, dd, dd, dd, dd, dd, dd, dd, dd, dd, dd, dd, dd, dd, dd, dd, dd, dd, dd, dd, dd, dd, dd, dd, dd, dd, dd, dd, dd, dd, dd, dd, dd], [.box [.d (.v (.int .i64 v_c1.fUser)), .d (.v (.int .i64 v_c1.fGroup)), .d (.sl (v_c1.fMore.map (eI .i64))), .d (.v (.int .i64 v_c1.fCaps)), .d (.v (.int .i64 v_c1.fLevel)), .d (.v (.int .i64 v_c1.fKind))], .box [.d (.v (.int .i64 v_r65.1.fUser)), .d (.v (.int .i64 v_r65.1.fGroup)), .d (.sl (v_r65.1.fMore.map (eI .i64))), .d (.v (.int .i64 v_r65.1.fCaps)), .d (.v (.int .i64 v_r65.1.fLevel)), .d (.v (.int .i64 v_r65.1.fKind))], .box [.d (.v (.int .i64 v_r71.1.fUser)), .d (.v (.int .i64 v_r71.1.fGroup)), .d (.sl (v_r71.1.fMore.map (eI .i64))), .d (.v (.int .i64 v_r71.1.fCaps)), .d (.v (.int .i64 v_r71.1.fLevel)), .d (.v (.int .i64 v_r71.1.fKind))], .box [.d (.v (.int .i64 v_r149.1.fUser)), .d (.v (.int .i64 v_r149.1.fGroup)), .d (.sl (v_r149.1.fMore.map (eI .i64))), .d (.v (.int .i64 v_r149.1.fCaps)), .d (.v (.int .i64 v_r149.1.fLevel)), .d (.v (.int .i64 v_r149.1.fKind))], .box [.d (.v (.int .i64 v_c1.fUser)), .d (.v (.int .i64 v_c1.fGroup)), .d (.sl (v_c1.fMore.map (eI .i64))), .d (.v (.int .i64 v_c1.fCaps)), .d (.v (.int .i64 v_c1.fLevel)), .d (.v (.int .i64 v_c1.fKind))], .box [.d (.v (.int .i64 v_c1.fUser)), .d (.v (.int .i64 v_c1.fGroup)), .d (.sl (v_c1.fMore.map (eI .i64))), .d (.v (.int .i64 v_c1.fCaps)), .d (.v (.int .i64 v_c1.fLevel)), .d (.v (.int .i64 v_c1.fKind))], .box [.d (.v (.int .i64 v_c1.fUser)), .d (.v (.int .i64 v_c1.fGroup)), .d (.sl (v_c1.fMore.map (eI .i64))), .d (.v (.int .i64 v_c1.fCaps)), .d (.v (.int .i64 v_c1.fLevel)), .d (.v (.int .i64 v_c1.fKind))]]⟩
  | .x1 v_wantB288 v_wantJ289 v_w290 => ⟨[dd, .d (.v (.int .i64 v_n2)), .ref 0 0, dd, dd, dd, dd, .d (.v (.bool v_r51.1)), .d (.v (.int .i64 v_r51.2)), .ref 1 0, .d (.v (.int .i64 v_r65.2)), .ref 2 0, .d (.v (.int .i64 v_r71.2)), .ref 3 0, .d (.v (.int .i64 v_r149.2)), dd, dd, dd, .ref 4 0, .ref 5 0, .ref 6 0, .d (.v (.int .i64 1)), .d (.v (.int .i64 v_wantB288)), .d (.v (.int .i64 v_wantJ289)), dd, dd, dd, dd, dd, dd, dd, dd, dd, dd, dd, dd, dd, dd, dd, dd, dd, dd, dd, dd, dd, dd, dd, dd, dd, dd, dd, dd, dd, dd, dd, dd, dd, dd, dd, dd, dd, dd, dd, dd, dd, dd, dd, dd, dd, dd, dd, dd, dd, dd, dd, dd, dd, dd, dd, dd, dd, dd, dd, dd, dd, dd, dd, dd, dd, dd, dd, dd, dd, dd, dd, dd, dd, dd, dd, dd, dd, dd, dd, dd, dd, dd, dd, dd, dd, dd, dd, dd, dd, dd, dd, dd, dd, dd, dd, dd, dd, dd, dd, dd, dd, dd, dd, dd, dd, dd, dd, dd, dd, dd, dd, dd, dd, dd, dd, dd, dd, dd, dd, dd, dd, dd, dd, dd, dd, dd, dd, dd, dd, dd, dd, dd, dd, dd, dd, dd, dd, dd, dd, dd, dd, dd, dd, dd, dd, dd, dd, dd, dd, dd, dd, dd, dd, dd, dd, dd, dd, dd, dd, dd, dd, dd, dd, dd, dd, dd, dd, dd, dd, dd, dd, dd, dd, dd, dd, dd, dd, dd, dd, dd, dd, dd, dd, dd, dd, dd, dd, dd, dd, dd, dd, dd, dd, dd, dd, dd, dd, dd, dd, dd, dd, dd, dd, dd, dd, dd, dd, dd, dd], [.box [.d (.v (.int .i64 v_c1.fUser)), .d (.v (.int .i64 v_c1.fGroup)), .d (.sl (v_c1.fMore.map (eI .i64))), .d (.v (.int .i64 v_c1.fCaps)), .d (.v (.int .i64 v_c1.fLevel)), .d (.v (.int .i64 v_c1.fKind))], .box [.d (.v (.int .i64 v_r65.1.fUser)), .d (.v (.int .i64 v_r65.1.fGroup)), .d (.sl (v_r65.1.fMore.map (eI .i64))), .d (.v (.int .i64 v_r65.1.fCaps)), .d (.v (.int .i64 v_r65.1.fLevel)), .d (.v (.int .i64 v_r65.1.fKind))], .box [.d (.v (.int .i64 v_r71.1.fUser)), .d (.v (.int .i64 v_r71.1.fGroup)), .d (.sl (v_r71.1.fMore.map (eI .i64))), .d (.v (.int .i64 v_r71.1.fCaps)), .d (.v (.int .i64 v_r71.1.fLevel)), .d (.v (.int .i64 v_r71.1.fKind))], .box [.d (.v (.int .i64 v_r149.1.fUser)), .d (.v (.int .i64 v_r149.1.fGroup)), .d (.sl (v_r149.1.fMore.map (eI .i64))), .d (.v (.int .i64 v_r149.1.fCaps)), .d (.v (.int .i64 v_r149.1.fLevel)), .d (.v (.int .i64 v_r149.1.fKind))], .box [.d (.v (.int .i64 v_c1.fUser)), .d (.v (.int .i64 v_c1.fGroup)), .d (.sl (v_c1.fMore.map (eI .i64))), .d (.v (.int .i64 v_c1.fCaps)), .d (.v (.int .i64 v_c1.fLevel)), .d (.v (.int .i64 v_c1.fKind))], .box [.d (.v (.int .i64 v_c1.fUser)), .d (.v (.int .i64 v_c1.fGroup)), .d (.sl (v_c1.fMore.map (eI .i64))), .d (.v (.int .i64 v_c1.fCaps)), .d (.v (.int .i64 v_c1.fLevel)), .d (.v (.int .i64 v_c1.fKind))], .box [.d (.v (.int .i64 v_c1.fUser)), .d (.v (.int .i64 v_c1.fGroup)), .srf 7, .d (.v (.int .i64 v_c1.fCaps)), .d (.v (.int .i64 v_c1.fLevel)), .d (.v (.int .i64 v_c1.fKind))], .row 3 1 (v_w290.map (eI .i64))]⟩
def G_ringlaw5_CredSays_C3_hd (v_n2 : Int) (v_r51 : (Bool × Int)) (v_r65 : (S_api_Cred × Int)) (v_r71 : (S_api_Cred × Int)) (v_r149 : (S_api_Cred × Int)) (v_r233 : (Bool)) (v_c1 : S_api_Cred)  : PS := ⟨[dd, .d (.v (.int .i64 v_n2)), .ref 0 0, dd, dd, dd, dd, .d (.v (.bool v_r51.1)), .d (.v (.int .i64 v_r51.2)), .ref 1 0, .d (.v (.int .i64 v_r65.2)), .ref 2 0, .d (.v (.int .i64 v_r71.2)), .ref 3 0, .d (.v (.int .i64 v_r149.2)), dd, dd, .d (.v (.bool v_r233)), .ref 4 0, .ref 5 0, .ref 6 0, .d (.v (.int .i64 1)), .d (.v (.int .i64 0)), .d (.v (.int .i64 0)), dd, dd, dd, dd, dd, dd, dd, dd, dd, dd, dd, dd, dd, dd, dd, dd, dd, dd, dd, dd, dd, dd, dd, dd, dd, dd, dd, dd, dd, dd, dd, dd, dd, dd, dd, dd, dd, dd, dd, dd, dd, dd, dd, dd, dd, dd, dd, dd, dd, dd, dd, dd, dd, dd, dd, dd, dd, dd, dd, dd, dd, dd, dd, dd, dd, dd, dd, dd, dd, dd, dd, dd, dd, dd, dd, dd, dd, dd, dd, dd, dd, dd, dd, dd, dd, dd, dd, dd, dd, dd, dd, dd, dd, dd, dd, dd, dd, dd, dd, dd, dd, dd, dd, dd, dd, dd, dd, dd, dd, dd, dd, dd, dd, dd, dd, dd, dd, dd, dd, dd, dd, dd, dd, dd, dd, dd, dd, dd, dd, dd, dd, dd, dd, dd, dd, dd, dd, dd, dd, dd, dd, dd, dd, dd, dd, dd, dd, dd, dd, dd, dd, dd, dd, dd, dd, dd, dd, dd, dd, dd, dd, dd, dd, dd, dd, dd, dd, dd, dd, dd, dd, dd, dd, dd, dd, dd, dd, dd, dd, dd, dd, dd, dd, dd, dd, dd, dd, dd, dd, dd, dd, dd, dd, dd, dd, dd, dd, dd, dd, dd, dd, dd, dd, dd, dd, dd, dd, dd, dd], [.box [.d (.v (.int .i64 v_c1.fUser)), .d (.v (.int .i64 v_c1.fGroup)), .d (.sl (v_c1.fMore.map (eI .i64))), .d (.v (.int .i64 v_c1.fCaps)), .d (.v (.int .i64 v_c1.fLevel)), .d (.v (.int .i64 v_c1.fKind))], .box [.d (.v (.int .i64 v_r65.1.fUser)), .d (.v (.int .i64 v_r65.1.fGroup)), .d (.sl (v_r65.1.fMore.map (eI .i64))), .d (.v (.int .i64 v_r65.1.fCaps)), .d (.v (.int .i64 v_r65.1.fLevel)), .d (.v (.int .i64 v_r65.1.fKind))], .box [.d (.v (.int .i64 v_r71.1.fUser)), .d (.v (.int .i64 v_r71.1.fGroup)), .d (.sl (v_r71.1.fMore.map (eI .i64))), .d (.v (.int .i64 v_r71.1.fCaps)), .d (.v (.int .i64 v_r71.1.fLevel)), .d (.v (.int .i64 v_r71.1.fKind))], .box [.d (.v (.int .i64 v_r149.1.fUser)), .d (.v (.int .i64 v_r149.1.fGroup)), .d (.sl (v_r149.1.fMore.map (eI .i64))), .d (.v (.int .i64 v_r149.1.fCaps)), .d (.v (.int .i64 v_r149.1.fLevel)), .d (.v (.int .i64 v_r149.1.fKind))], .box [.d (.v (.int .i64 v_c1.fUser)), .d (.v (.int .i64 v_c1.fGroup)), .d (.sl (v_c1.fMore.map (eI .i64))), .d (.v (.int .i64 v_c1.fCaps)), .d (.v (.int .i64 v_c1.fLevel)), .d (.v (.int .i64 v_c1.fKind))], .box [.d (.v (.int .i64 v_c1.fUser)), .d (.v (.int .i64 v_c1.fGroup)), .d (.sl (v_c1.fMore.map (eI .i64))), .d (.v (.int .i64 v_c1.fCaps)), .d (.v (.int .i64 v_c1.fLevel)), .d (.v (.int .i64 v_c1.fKind))], .box [.d (.v (.int .i64 v_c1.fUser)), .d (.v (.int .i64 v_c1.fGroup)), .d (.sl (v_c1.fMore.map (eI .i64))), .d (.v (.int .i64 v_c1.fCaps)), .d (.v (.int .i64 v_c1.fLevel)), .d (.v (.int .i64 v_c1.fKind))]]⟩
def G_ringlaw5_CredSays_C3 (n : Nat) (v_n2 : Int) (v_r51 : (Bool × Int)) (v_r65 : (S_api_Cred × Int)) (v_r71 : (S_api_Cred × Int)) (v_r149 : (S_api_Cred × Int)) (v_r233 : (Bool)) (v_c1 : S_api_Cred) : Option G_ringlaw5_CredSays_C3_R :=
  if v_n2 < 0 then
   some (.x0 1 1)
  else
   (G_ringlaw5_CredSays_C2 n v_n2 v_r51 v_r65 v_r71 v_r149 v_r233 v_c1).bind fun v_o280 => match v_o280 with
   | .x0 v_z281 v_z282 =>
     some (.x0 v_z281 v_z282)
   | .x1 v_z285 v_z286 v_z287 =>
     some (.x1 v_z285 v_z286 v_z287)
theorem G_ringlaw5_CredSays_C3_ok {Fi : Ex → PS → Prop} (hF : KC 233 Fi) (ks : List Fr) (n : Nat) (v_n2 : Int) (v_r51 : (Bool × Int)) (v_r65 : (S_api_Cred × Int)) (v_r71 : (S_api_Cred × Int)) (v_r149 : (S_api_Cred × Int)) (v_r233 : (Bool)) (v_c1 : S_api_Cred)  (o : G_ringlaw5_CredSays_C3_R) (h : G_ringlaw5_CredSays_C3 n v_n2 v_r51 v_r65 v_r71 v_r149 v_r233 v_c1 = some o) (q : RunE Try.prog 233 Fi ks (G_ringlaw5_CredSays_C3_ex o) (G_ringlaw5_CredSays_C3_st v_n2 v_r51 v_r65 v_r71 v_r149 v_r233 v_c1 o)) : RunE Try.prog 233 Fi (.s (cL (cR (cR (cR (cR (cR (cR (cR (cR (cR (cR (cR (cR (cR (cR (cR (bodyOf Try.f3))))))))))))))))) :: ks) .normal (G_ringlaw5_CredSays_C3_hd v_n2 v_r51 v_r65 v_r71 v_r149 v_r233 v_c1) := by
  unfold G_ringlaw5_CredSays_C3 at h
  by_cases h319 : v_n2 < 0
  · rw [if_pos h319] at h
    cases h
    exact pkk_sound TTok mix hF 6 (hs := [.t true, .c, .c]) (ts := []) (s := [0, 1, 2, 3, 4, 5, 6]) (l := [1, 2, 7, 8, 9, 10, 11, 12, 13, 14, 18, 19, 20, 21, 22, 23]) (by kernel_rfl) (by kernel_rfl) (.cons (dt h319) .nil) q
  · rw [if_neg h319] at h
    obtain ⟨v_o280, h342, h⟩ := bind_some h
    refine pkk_sound TTok mix hF 3 (hs := [.t false, .c]) (ts := []) (s := [0, 1, 2, 3, 4, 5, 6]) (l := [1, 2, 7, 8, 9, 10, 11, 12, 13, 14, 17, 18, 19, 20, 21, 22, 23, 137]) (by kernel_rfl) (by kernel_rfl) (.cons (df h319) .nil) (G_ringlaw5_CredSays_C2_ok hF (.b 0 :: ks) n v_n2 v_r51 v_r65 v_r71 v_r149 v_r233 v_c1 _ h342 ?_)
    cases v_o280 with
    | x0 v_z281 v_z282 =>
      try dsimp only at h
      cases h
      exact pkk_sound TTok mix hF 1 (hs := []) (ts := []) (s := [0, 1, 2, 3, 4, 5, 6]) (l := [1, 2, 7, 8, 9, 10, 11, 12, 13, 14, 18, 19, 20, 21, 22, 23]) (by kernel_rfl) (by kernel_rfl) .nil q
    | x1 v_z285 v_z286 v_z287 =>
      try dsimp only at h
      cases h
      exact pkk_sound TTok mix hF 1 (hs := []) (ts := []) (s := [0, 1, 2, 3, 4, 5, 6, 7]) (l := [1, 2, 7, 8, 9, 10, 11, 12, 13, 14, 18, 19, 20, 21, 22, 23]) (by kernel_rfl) (by kernel_rfl) .nil q
inductive G_ringlaw5_CredSays_C4_R where
  | x0 (v_x294 : Bool)
def G_ringlaw5_CredSays_C4_ex : G_ringlaw5_CredSays_C4_R → Ex
  | .x0 _ => .normal
def G_ringlaw5_CredSays_C4_st (v_n2 : Int) (v_r51 : (Bool × Int)) (v_r65 : (S_api_Cred × Int)) (v_r71 : (S_api_Cred × Int)) (v_r149 : (S_api_Cred × Int)) (v_z292 : Int) (v_z293 : Int) (v_c1 : S_api_Cred) : G_ringlaw5_CredSays_C4_R → PS
  | .x0 v_x294 => ⟨[dd, dd, dd, dd, dd, dd, dd, dd, dd, .ref 0 0, dd, .ref 1 0, dd, .ref 2 0, dd, dd, dd, dd, .ref 3 0, .ref 4 0, .ref 5 0, .d (.v (.int .i64 1)), .d (.v (.int .i64 v_z292)), .d (.v (.int .i64 v_z293)), dd, dd, dd, dd, dd, dd, dd, dd, dd, dd, dd, dd, dd, dd, dd, dd, dd, dd, dd, dd, dd, dd, dd, dd, dd, dd, dd, dd, dd, dd, dd, dd, dd, dd, dd, dd, dd, dd, dd, dd, dd, dd, dd, dd, dd, dd, dd, dd, dd, dd, dd, dd, dd, dd, dd, dd, dd, dd, dd, dd, dd, dd, dd, dd, dd, dd, dd, dd, dd, dd, dd, dd, dd, dd, dd, dd, dd, dd, dd, dd, dd, dd, dd, dd, dd, dd, dd, dd, dd, dd, dd, dd, dd, dd, dd, dd, dd, dd, dd, dd, dd, dd, dd, dd, dd, dd, dd, dd, dd, dd, dd, dd, dd, dd, dd, dd, dd, dd, dd, dd, dd, dd, dd, dd, dd, dd, dd, dd, dd, dd, dd, dd, dd, dd, dd, dd, dd, dd, dd, dd, dd, dd, dd, dd, dd, dd, dd, dd, dd, dd, dd, dd, dd, dd, dd, dd, dd, dd, dd, dd, dd, dd, dd, dd, dd, dd, dd, dd, dd, dd, dd, dd, dd, dd, dd, dd, dd, dd, dd, dd, dd, dd, dd, dd, dd, dd, dd, dd, dd, .d (.v (.bool v_x294)), dd, dd, dd, dd, dd, dd, dd, dd, dd, dd, dd, dd, dd, dd, dd, dd, dd, dd, dd], [.box [.d (.v (.int .i64 v_r65.1.fUser)), .d (.v (.int .i64 v_r65.1.fGroup)), .d (.sl (v_r65.1.fMore.map (eI .i64))), .d (.v (.int .i64 v_r65.1.fCaps)), .d (.v (.int .i64 v_r65.1.fLevel)), .d (.v (.int .i64 v_r65.1.fKind))], .box [.d (.v (.int .i64 v_r71.1.fUser)), .d (.v (.int .i64 v_r71.1.fGroup)), .d (.sl (v_r71.1.fMore.map (eI .i64))), .d (.v (.int .i64 v_r71.1.fCaps)), .d (.v (.int .i64 v_r71.1.fLevel)), .d (.v (.int .i64 v_r71.1.fKind))], .box [.d (.v (.int .i64 v_r149.1.fUser)), .d (.v (.int .i64 v_r149.1.fGroup)), .d (.sl (v_r149.1.fMore.map (eI .i64))), .d (.v (.int .i64 v_r149.1.fCaps)), .d (.v (.int .i64 v_r149.1.fLevel)), .d (.v (.int .i64 v_r149.1.fKind))], .box [.d (.v (.int .i64 v_c1.fUser)), .d (.v (.int .i64 v_c1.fGroup)), .d (.sl (v_c1.fMore.map (eI .i64))), .d (.v (.int .i64 v_c1.fCaps)), .d (.v (.int .i64 v_c1.fLevel)), .d (.v (.int .i64 v_c1.fKind))], .box [.d (.v (.int .i64 v_n2)), .d (.v (.int .i64 v_c1.fGroup)), .d (.sl (v_c1.fMore.map (eI .i64))), .d (.v (.int .i64 0)), .d (.v (.int .i64 v_c1.fLevel)), .d (.v (.int .i64 v_c1.fKind))], .box [.d (.v (.int .i64 v_c1.fUser)), .d (.v (.int .i64 v_c1.fGroup)), .d (.sl (v_c1.fMore.map (eI .i64))), .d (.v (.int .i64 v_c1.fCaps)), .d (.v (.int .i64 v_c1.fLevel)), .d (.v (.int .i64 v_c1.fKind))]]⟩
def G_ringlaw5_CredSays_C4_hd (v_n2 : Int) (v_r51 : (Bool × Int)) (v_r65 : (S_api_Cred × Int)) (v_r71 : (S_api_Cred × Int)) (v_r149 : (S_api_Cred × Int)) (v_z292 : Int) (v_z293 : Int) (v_c1 : S_api_Cred)  : PS := ⟨[dd, .d (.v (.int .i64 v_n2)), .ref 0 0, dd, dd, dd, dd, .d (.v (.bool v_r51.1)), .d (.v (.int .i64 v_r51.2)), .ref 1 0, .d (.v (.int .i64 v_r65.2)), .ref 2 0, .d (.v (.int .i64 v_r71.2)), .ref 3 0, .d (.v (.int .i64 v_r149.2)), dd, dd, dd, .ref 4 0, .ref 5 0, .ref 6 0, .d (.v (.int .i64 1)), .d (.v (.int .i64 v_z292)), .d (.v (.int .i64 v_z293)), dd, dd, dd, dd, dd, dd, dd, dd, dd, dd, dd, dd, dd, dd, dd, dd, dd, dd, dd, dd, dd, dd, dd, dd, dd, dd, dd, dd, dd, dd, dd, dd, dd, dd, dd, dd, dd, dd, dd, dd, dd, dd, dd, dd, dd, dd, dd, dd, dd, dd, dd, dd, dd, dd, dd, dd, dd, dd, dd, dd, dd, dd, dd, dd, dd, dd, dd, dd, dd, dd, dd, dd, dd, dd, dd, dd, dd, dd, dd, dd, dd, dd, dd, dd, dd, dd, dd, dd, dd, dd, dd, dd, dd, dd, dd, dd, dd, dd, dd, dd, dd, dd, dd, dd, dd, dd, dd, dd, dd, dd, dd, dd, dd, dd, dd, dd, dd, dd, dd, dd, dd, dd, dd, dd, dd, dd, dd, dd, dd, dd, dd, dd, dd, dd, dd, dd, dd, dd, dd, dd, dd, dd, dd, dd, dd, dd, dd, dd, dd, dd, dd, dd, dd, dd, dd, dd, dd, dd, dd, dd, dd, dd, dd, dd, dd, dd, dd, dd, dd, dd, dd, dd, dd, dd, dd, dd, dd, dd, dd, dd, dd, dd, dd, dd, dd, dd, dd, dd, dd, dd, dd, dd, dd, dd, dd, dd, dd, dd, dd, dd, dd, dd, dd, dd, dd, dd, dd, dd, dd], [.box [.d (.v (.int .i64 v_c1.fUser)), .d (.v (.int .i64 v_c1.fGroup)), .d (.sl (v_c1.fMore.map (eI .i64))), .d (.v (.int .i64 v_c1.fCaps)), .d (.v (.int .i64 v_c1.fLevel)), .d (.v (.int .i64 v_c1.fKind))], .box [.d (.v (.int .i64 v_r65.1.fUser)), .d (.v (.int .i64 v_r65.1.fGroup)), .d (.sl (v_r65.1.fMore.map (eI .i64))), .d (.v (.int .i64 v_r65.1.fCaps)), .d (.v (.int .i64 v_r65.1.fLevel)), .d (.v (.int .i64 v_r65.1.fKind))], .box [.d (.v (.int .i64 v_r71.1.fUser)), .d (.v (.int .i64 v_r71.1.fGroup)), .d (.sl (v_r71.1.fMore.map (eI .i64))), .d (.v (.int .i64 v_r71.1.fCaps)), .d (.v (.int .i64 v_r71.1.fLevel)), .d (.v (.int .i64 v_r71.1.fKind))], .box [.d (.v (.int .i64 v_r149.1.fUser)), .d (.v (.int .i64 v_r149.1.fGroup)), .d (.sl (v_r149.1.fMore.map (eI .i64))), .d (.v (.int .i64 v_r149.1.fCaps)), .d (.v (.int .i64 v_r149.1.fLevel)), .d (.v (.int .i64 v_r149.1.fKind))], .box [.d (.v (.int .i64 v_c1.fUser)), .d (.v (.int .i64 v_c1.fGroup)), .d (.sl (v_c1.fMore.map (eI .i64))), .d (.v (.int .i64 v_c1.fCaps)), .d (.v (.int .i64 v_c1.fLevel)), .d (.v (.int .i64 v_c1.fKind))], .box [.d (.v (.int .i64 v_n2)), .d (.v (.int .i64 v_c1.fGroup)), .d (.sl (v_c1.fMore.map (eI .i64))), .d (.v (.int .i64 0)), .d (.v (.int .i64 v_c1.fLevel)), .d (.v (.int .i64 v_c1.fKind))], .box [.d (.v (.int .i64 v_c1.fUser)), .d (.v (.int .i64 v_c1.fGroup)), .d (.sl (v_c1.fMore.map (eI .i64))), .d (.v (.int .i64 v_c1.fCaps)), .d (.v (.int .i64 v_c1.fLevel)), .d (.v (.int .i64 v_c1.fKind))]]⟩
def G_ringlaw5_CredSays_C4 (n : Nat) (v_n2 : Int) (v_r51 : (Bool × Int)) (v_r65 : (S_api_Cred × Int)) (v_r71 : (S_api_Cred × Int)) (v_r149 : (S_api_Cred × Int)) (v_z292 : Int) (v_z293 : Int) (v_c1 : S_api_Cred) : Option G_ringlaw5_CredSays_C4_R :=
  if v_r51.2 = 1 then
   if (eqRes .neq (v_r51.1 == false)) = true then
    some (.x0 true)
   else
    if v_r65.2 = 1 then
     if v_r71.2 = v_z292 then
      some (.x0 (v_r149.2 != v_z293))
     else
      some (.x0 true)
    else
     some (.x0 true)
  else
   some (.x0 true)
theorem G_ringlaw5_CredSays_C4_ok {Fi : Ex → PS → Prop} (hF : KC 233 Fi) (ks : List Fr) (n : Nat) (v_n2 : Int) (v_r51 : (Bool × Int)) (v_r65 : (S_api_Cred × Int)) (v_r71 : (S_api_Cred × Int)) (v_r149 : (S_api_Cred × Int)) (v_z292 : Int) (v_z293 : Int) (v_c1 : S_api_Cred)  (o : G_ringlaw5_CredSays_C4_R) (h : G_ringlaw5_CredSays_C4 n v_n2 v_r51 v_r65 v_r71 v_r149 v_z292 v_z293 v_c1 = some o) (q : RunE Try.prog 233 Fi ks (G_ringlaw5_CredSays_C4_ex o) (G_ringlaw5_CredSays_C4_st v_n2 v_r51 v_r65 v_r71 v_r149 v_z292 v_z293 v_c1 o)) : RunE Try.prog 233 Fi (.s (cL (cL (cR (cR (cR (cR (cR (cR (cR (cR (cR (cR (cR (cR (cR (cR (cR (cR (cR (bodyOf Try.f3)))))))))))))))))))) :: ks) .normal (G_ringlaw5_CredSays_C4_hd v_n2 v_r51 v_r65 v_r71 v_r149 v_z292 v_z293 v_c1) := by
  unfold G_ringlaw5_CredSays_C4 at h
  by_cases h349 : v_r51.2 = 1
  · rw [if_pos h349] at h
    by_cases h350 : (eqRes .neq (v_r51.1 == false)) = true
    · rw [if_pos h350] at h
      cases h
      exact pkk_sound TTok mix hF 1 (hs := [.t false, .c, .c, .c, .c, .c, .c, .c, .c, .c, .c, .c, .c, .t true, .c, .c, .c, .c, .c, .c, .c, .c]) (ts := []) (s := [1, 2, 3, 4, 5, 6]) (l := [9, 11, 13, 18, 19, 20, 21, 22, 23, 213]) (by kernel_rfl) (by kernel_rfl) (.cons (nf h349) (.cons h350 .nil)) q
    · rw [if_neg h350] at h
      by_cases h351 : v_r65.2 = 1
      · rw [if_pos h351] at h
        by_cases h352 : v_r71.2 = v_z292
        · rw [if_pos h352] at h
          cases h
          exact pkk_sound TTok mix hF 1 (hs := [.t false, .c, .c, .c, .c, .c, .c, .c, .c, .c, .c, .c, .c, .t false, .c, .c, .t false, .c, .c, .t false, .c, .c]) (ts := []) (s := [1, 2, 3, 4, 5, 6]) (l := [9, 11, 13, 18, 19, 20, 21, 22, 23, 213]) (by kernel_rfl) (by kernel_rfl) (.cons (nf h349) (.cons (vf h350) (.cons (nf h351) (.cons (nf h352) .nil)))) q
        · rw [if_neg h352] at h
          cases h
          exact pkk_sound TTok mix hF 1 (hs := [.t false, .c, .c, .c, .c, .c, .c, .c, .c, .c, .c, .c, .c, .t false, .c, .c, .t false, .c, .c, .t true, .c, .c]) (ts := []) (s := [1, 2, 3, 4, 5, 6]) (l := [9, 11, 13, 18, 19, 20, 21, 22, 23, 213]) (by kernel_rfl) (by kernel_rfl) (.cons (nf h349) (.cons (vf h350) (.cons (nf h351) (.cons (nt h352) .nil)))) q
      · rw [if_neg h351] at h
        cases h
        exact pkk_sound TTok mix hF 1 (hs := [.t false, .c, .c, .c, .c, .c, .c, .c, .c, .c, .c, .c, .c, .t false, .c, .c, .t true, .c, .c, .c, .c, .c]) (ts := []) (s := [1, 2, 3, 4, 5, 6]) (l := [9, 11, 13, 18, 19, 20, 21, 22, 23, 213]) (by kernel_rfl) (by kernel_rfl) (.cons (nf h349) (.cons (vf h350) (.cons (nt h351) .nil))) q
  · rw [if_neg h349] at h
    cases h
    exact pkk_sound TTok mix hF 1 (hs := [.t true, .c, .c, .c, .c, .c, .c, .c, .c, .c, .c, .c, .c, .c, .c]) (ts := []) (s := [1, 2, 3, 4, 5, 6]) (l := [9, 11, 13, 18, 19, 20, 21, 22, 23, 213]) (by kernel_rfl) (by kernel_rfl) (.cons (nt h349) .nil) q
inductive G_ringlaw5_CredSays_C5_R where
  | x0 (v_x315 : Bool)
def G_ringlaw5_CredSays_C5_ex : G_ringlaw5_CredSays_C5_R → Ex
  | .x0 _ => .normal
def G_ringlaw5_CredSays_C5_st (v_z292 : Int) (v_z293 : Int) (v_r65 : (S_api_Cred × Int)) (v_r71 : (S_api_Cred × Int)) (v_r149 : (S_api_Cred × Int)) (v_c1 : S_api_Cred) (v_n2 : Int) : G_ringlaw5_CredSays_C5_R → PS
  | .x0 v_x315 => ⟨[dd, dd, dd, dd, .d (.v (.bool v_x315)), dd, dd, dd, dd, dd, dd, dd, dd, dd, dd, dd, dd, dd, dd, dd, dd, dd, dd, dd, dd, dd, dd, dd, dd, dd, dd, dd, dd, dd, dd, dd, dd, dd, dd, dd, dd, dd, dd, dd, dd, dd, dd, dd, dd, dd, dd, dd, dd, dd, dd, dd, dd, dd, dd, dd, dd, dd, dd, dd, dd, dd, dd, dd, dd, dd, dd, dd, dd, dd, dd, dd, dd, dd, dd, dd, dd, dd, dd, dd, dd, dd, dd, dd, dd, dd, dd, dd, dd, dd, dd, dd, dd, dd, dd, dd, dd, dd, dd, dd, dd, dd, dd, dd, dd, dd, dd, dd, dd, dd, dd, dd, dd, dd, dd, dd, dd, dd, dd, dd, dd, dd, dd, dd, dd, dd, dd, dd, dd, dd, dd, dd, dd, dd, dd, dd, dd, dd, dd, dd, dd, dd, dd, dd, dd, dd, dd, dd, dd, dd, dd, dd, dd, dd, dd, dd, dd, dd, dd, dd, dd, dd, dd, dd, dd, dd, dd, dd, dd, dd, dd, dd, dd, dd, dd, dd, dd, dd, dd, dd, dd, dd, dd, dd, dd, dd, dd, dd, dd, dd, dd, dd, dd, dd, dd, dd, dd, dd, dd, dd, dd, dd, dd, dd, dd, dd, dd, dd, dd, dd, dd, dd, dd, dd, dd, dd, dd, dd, dd, dd, dd, dd, dd, dd, dd, dd, dd, dd, dd], []⟩
def G_ringlaw5_CredSays_C5_hd (v_z292 : Int) (v_z293 : Int) (v_r65 : (S_api_Cred × Int)) (v_r71 : (S_api_Cred × Int)) (v_r149 : (S_api_Cred × Int)) (v_c1 : S_api_Cred) (v_n2 : Int)  : PS := ⟨[dd, dd, dd, dd, dd, dd, dd, dd, dd, .ref 0 0, dd, .ref 1 0, dd, .ref 2 0, dd, dd, dd, dd, .ref 3 0, .ref 4 0, .ref 5 0, .d (.v (.int .i64 1)), .d (.v (.int .i64 v_z292)), .d (.v (.int .i64 v_z293)), dd, dd, dd, dd, dd, dd, dd, dd, dd, dd, dd, dd, dd, dd, dd, dd, dd, dd, dd, dd, dd, dd, dd, dd, dd, dd, dd, dd, dd, dd, dd, dd, dd, dd, dd, dd, dd, dd, dd, dd, dd, dd, dd, dd, dd, dd, dd, dd, dd, dd, dd, dd, dd, dd, dd, dd, dd, dd, dd, dd, dd, dd, dd, dd, dd, dd, dd, dd, dd, dd, dd, dd, dd, dd, dd, dd, dd, dd, dd, dd, dd, dd, dd, dd, dd, dd, dd, dd, dd, dd, dd, dd, dd, dd, dd, dd, dd, dd, dd, dd, dd, dd, dd, dd, dd, dd, dd, dd, dd, dd, dd, dd, dd, dd, dd, dd, dd, dd, dd, dd, dd, dd, dd, dd, dd, dd, dd, dd, dd, dd, dd, dd, dd, dd, dd, dd, dd, dd, dd, dd, dd, dd, dd, dd, dd, dd, dd, dd, dd, dd, dd, dd, dd, dd, dd, dd, dd, dd, dd, dd, dd, dd, dd, dd, dd, dd, dd, dd, dd, dd, dd, dd, dd, dd, dd, dd, dd, dd, dd, dd, dd, dd, dd, dd, dd, dd, dd, dd, dd, dd, dd, dd, dd, dd, dd, dd, dd, dd, dd, dd, dd, dd, dd, dd, dd, dd, dd, dd, dd], [.box [.d (.v (.int .i64 v_r65.1.fUser)), .d (.v (.int .i64 v_r65.1.fGroup)), .d (.sl (v_r65.1.fMore.map (eI .i64))), .d (.v (.int .i64 v_r65.1.fCaps)), .d (.v (.int .i64 v_r65.1.fLevel)), .d (.v (.int .i64 v_r65.1.fKind))], .box [.d (.v (.int .i64 v_r71.1.fUser)), .d (.v (.int .i64 v_r71.1.fGroup)), .d (.sl (v_r71.1.fMore.map (eI .i64))), .d (.v (.int .i64 v_r71.1.fCaps)), .d (.v (.int .i64 v_r71.1.fLevel)), .d (.v (.int .i64 v_r71.1.fKind))], .box [.d (.v (.int .i64 v_r149.1.fUser)), .d (.v (.int .i64 v_r149.1.fGroup)), .d (.sl (v_r149.1.fMore.map (eI .i64))), .d (.v (.int .i64 v_r149.1.fCaps)), .d (.v (.int .i64 v_r149.1.fLevel)), .d (.v (.int .i64 v_r149.1.fKind))], .box [.d (.v (.int .i64 v_c1.fUser)), .d (.v (.int .i64 v_c1.fGroup)), .d (.sl (v_c1.fMore.map (eI .i64))), .d (.v (.int .i64 v_c1.fCaps)), .d (.v (.int .i64 v_c1.fLevel)), .d (.v (.int .i64 v_c1.fKind))], .box [.d (.v (.int .i64 v_n2)), .d (.v (.int .i64 v_c1.fGroup)), .d (.sl (v_c1.fMore.map (eI .i64))), .d (.v (.int .i64 0)), .d (.v (.int .i64 v_c1.fLevel)), .d (.v (.int .i64 v_c1.fKind))], .box [.d (.v (.int .i64 v_c1.fUser)), .d (.v (.int .i64 v_c1.fGroup)), .d (.sl (v_c1.fMore.map (eI .i64))), .d (.v (.int .i64 v_c1.fCaps)), .d (.v (.int .i64 v_c1.fLevel)), .d (.v (.int .i64 v_c1.fKind))]]⟩
def G_ringlaw5_CredSays_C5 (n : Nat) (v_z292 : Int) (v_z293 : Int) (v_r65 : (S_api_Cred × Int)) (v_r71 : (S_api_Cred × Int)) (v_r149 : (S_api_Cred × Int)) (v_c1 : S_api_Cred) (v_n2 : Int) : Option G_ringlaw5_CredSays_C5_R :=
  (G_ringlaw5_pick n 1 v_c1).bind fun (v_r309 : (S_api_Cred)) =>
  (G_ringref5_SameCred n v_r65.1 v_r309).bind fun (v_r310 : (Bool)) =>
  if v_r310 = true then
   (G_ringlaw5_pick n v_z292 (S_api_Cred.mk v_n2 v_c1.fGroup v_c1.fMore 0 v_c1.fLevel v_c1.fKind)).bind fun (v_r311 : (S_api_Cred)) =>
   (G_ringref5_SameCred n v_r71.1 v_r311).bind fun (v_r312 : (Bool)) =>
   if v_r312 = true then
    (G_ringlaw5_pick n v_z293 v_c1).bind fun (v_r313 : (S_api_Cred)) =>
    (G_ringref5_SameCred n v_r149.1 v_r313).bind fun (v_r314 : (Bool)) =>
    some (.x0 v_r314)
   else
    some (.x0 false)
  else
   some (.x0 false)
theorem G_ringlaw5_CredSays_C5_ok {Fi : Ex → PS → Prop} (hF : KC 233 Fi) (ks : List Fr) (n : Nat) (v_z292 : Int) (v_z293 : Int) (v_r65 : (S_api_Cred × Int)) (v_r71 : (S_api_Cred × Int)) (v_r149 : (S_api_Cred × Int)) (v_c1 : S_api_Cred) (v_n2 : Int)  (o : G_ringlaw5_CredSays_C5_R) (h : G_ringlaw5_CredSays_C5 n v_z292 v_z293 v_r65 v_r71 v_r149 v_c1 v_n2 = some o) (q : RunE Try.prog 233 Fi ks (G_ringlaw5_CredSays_C5_ex o) (G_ringlaw5_CredSays_C5_st v_z292 v_z293 v_r65 v_r71 v_r149 v_c1 v_n2 o)) : RunE Try.prog 233 Fi (.s (cL (cR (cR (cR (cR (cR (cR (cR (cR (cR (cR (cR (cR (cR (cR (cR (cR (cR (cR (bodyOf Try.f3)))))))))))))))))))) :: ks) .normal (G_ringlaw5_CredSays_C5_hd v_z292 v_z293 v_r65 v_r71 v_r149 v_c1 v_n2) := by
  unfold G_ringlaw5_CredSays_C5 at h
  obtain ⟨v_r309, h364, h⟩ := bind_some h
  obtain ⟨v_r310, h365, h⟩ := bind_some h
  by_cases h366 : v_r310 = true
  · rw [if_pos h366] at h
    obtain ⟨v_r311, h367, h⟩ := bind_some h
    obtain ⟨v_r312, h368, h⟩ := bind_some h
    by_cases h369 : v_r312 = true
    · rw [if_pos h369] at h
      obtain ⟨v_r313, h370, h⟩ := bind_some h
      obtain ⟨v_r314, h371, h⟩ := bind_some h
      cases h
      exact pkk_sound TTok mix hF 1 (hs := [.c, .c, .r (eS_api_Cred v_r309), .r (eB v_r310), .t true, .c, .c, .c, .c, .c, .r (eS_api_Cred v_r311), .c, .r (eB v_r312), .t true, .c, .c, .c, .c, .c, .r (eS_api_Cred v_r313), .c, .r (eB v_r314)]) (ts := []) (s := []) (l := [4]) (by kernel_rfl) (by kernel_rfl) (.cons (G_ringlaw5_pick_ok n 1 v_c1 _ h364) (.cons (G_ringref5_SameCred_ok n v_r65.1 v_r309 _ h365) (.cons h366 (.cons (G_ringlaw5_pick_ok n v_z292 (S_api_Cred.mk v_n2 v_c1.fGroup v_c1.fMore 0 v_c1.fLevel v_c1.fKind) _ h367) (.cons (G_ringref5_SameCred_ok n v_r71.1 v_r311 _ h368) (.cons h369 (.cons (G_ringlaw5_pick_ok n v_z293 v_c1 _ h370) (.cons (G_ringref5_SameCred_ok n v_r149.1 v_r313 _ h371) .nil)))))))) q
    · rw [if_neg h369] at h
      cases h
      exact pkk_sound TTok mix hF 1 (hs := [.c, .c, .r (eS_api_Cred v_r309), .r (eB v_r310), .t true, .c, .c, .c, .c, .c, .r (eS_api_Cred v_r311), .c, .r (eB v_r312), .t false, .c, .c, .c, .c]) (ts := []) (s := []) (l := [4]) (by kernel_rfl) (by kernel_rfl) (.cons (G_ringlaw5_pick_ok n 1 v_c1 _ h364) (.cons (G_ringref5_SameCred_ok n v_r65.1 v_r309 _ h365) (.cons h366 (.cons (G_ringlaw5_pick_ok n v_z292 (S_api_Cred.mk v_n2 v_c1.fGroup v_c1.fMore 0 v_c1.fLevel v_c1.fKind) _ h367) (.cons (G_ringref5_SameCred_ok n v_r71.1 v_r311 _ h368) (.cons (vf h369) .nil)))))) q
  · rw [if_neg h366] at h
    cases h
    exact pkk_sound TTok mix hF 1 (hs := [.c, .c, .r (eS_api_Cred v_r309), .r (eB v_r310), .t false, .c, .c, .c, .c, .c, .c, .c, .c, .c]) (ts := []) (s := []) (l := [4]) (by kernel_rfl) (by kernel_rfl) (.cons (G_ringlaw5_pick_ok n 1 v_c1 _ h364) (.cons (G_ringref5_SameCred_ok n v_r65.1 v_r309 _ h365) (.cons (vf h366) .nil))) q
inductive G_ringlaw5_CredSays_C6_R where
  | x0 (v_x320 : Bool)
def G_ringlaw5_CredSays_C6_ex : G_ringlaw5_CredSays_C6_R → Ex
  | .x0 _ => .normal
def G_ringlaw5_CredSays_C6_st (v_n2 : Int) (v_r51 : (Bool × Int)) (v_r65 : (S_api_Cred × Int)) (v_r71 : (S_api_Cred × Int)) (v_r149 : (S_api_Cred × Int)) (v_z292 : Int) (v_z293 : Int) (v_c1 : S_api_Cred) : G_ringlaw5_CredSays_C6_R → PS
  | .x0 v_x320 => ⟨[dd, dd, dd, dd, dd, dd, dd, dd, dd, .ref 0 0, dd, .ref 1 0, dd, .ref 2 0, dd, dd, dd, dd, .ref 3 0, .ref 4 0, .ref 5 0, .d (.v (.int .i64 1)), .d (.v (.int .i64 v_z292)), .d (.v (.int .i64 v_z293)), dd, dd, dd, dd, dd, dd, dd, dd, dd, dd, dd, dd, dd, dd, dd, dd, dd, dd, dd, dd, dd, dd, dd, dd, dd, dd, dd, dd, dd, dd, dd, dd, dd, dd, dd, dd, dd, dd, dd, dd, dd, dd, dd, dd, dd, dd, dd, dd, dd, dd, dd, dd, dd, dd, dd, dd, dd, dd, dd, dd, dd, dd, dd, dd, dd, dd, dd, dd, dd, dd, dd, dd, dd, dd, dd, dd, dd, dd, dd, dd, dd, dd, dd, dd, dd, dd, dd, dd, dd, dd, dd, dd, dd, dd, dd, dd, dd, dd, dd, dd, dd, dd, dd, dd, dd, dd, dd, dd, dd, dd, dd, dd, dd, dd, dd, dd, dd, dd, dd, dd, dd, dd, dd, dd, dd, dd, dd, dd, dd, dd, dd, dd, dd, dd, dd, dd, dd, dd, dd, dd, dd, dd, dd, dd, dd, dd, dd, dd, dd, dd, dd, dd, dd, dd, dd, dd, dd, dd, dd, dd, dd, dd, dd, dd, dd, dd, dd, dd, dd, dd, dd, dd, dd, dd, dd, dd, dd, dd, dd, dd, dd, dd, dd, dd, dd, dd, dd, dd, dd, .d (.v (.bool v_x320)), dd, dd, dd, dd, dd, dd, dd, dd, dd, dd, dd, dd, dd, dd, dd, dd, dd, dd, dd], [.box [.d (.v (.int .i64 v_r65.1.fUser)), .d (.v (.int .i64 v_r65.1.fGroup)), .d (.sl (v_r65.1.fMore.map (eI .i64))), .d (.v (.int .i64 v_r65.1.fCaps)), .d (.v (.int .i64 v_r65.1.fLevel)), .d (.v (.int .i64 v_r65.1.fKind))], .box [.d (.v (.int .i64 v_r71.1.fUser)), .d (.v (.int .i64 v_r71.1.fGroup)), .d (.sl (v_r71.1.fMore.map (eI .i64))), .d (.v (.int .i64 v_r71.1.fCaps)), .d (.v (.int .i64 v_r71.1.fLevel)), .d (.v (.int .i64 v_r71.1.fKind))], .box [.d (.v (.int .i64 v_r149.1.fUser)), .d (.v (.int .i64 v_r149.1.fGroup)), .d (.sl (v_r149.1.fMore.map (eI .i64))), .d (.v (.int .i64 v_r149.1.fCaps)), .d (.v (.int .i64 v_r149.1.fLevel)), .d (.v (.int .i64 v_r149.1.fKind))], .box [.d (.v (.int .i64 v_c1.fUser)), .d (.v (.int .i64 v_c1.fGroup)), .d (.sl (v_c1.fMore.map (eI .i64))), .d (.v (.int .i64 v_c1.fCaps)), .d (.v (.int .i64 v_c1.fLevel)), .d (.v (.int .i64 v_c1.fKind))], .box [.d (.v (.int .i64 v_n2)), .d (.v (.int .i64 v_c1.fGroup)), .d (.sl (v_c1.fMore.map (eI .i64))), .d (.v (.int .i64 v_c1.fCaps)), .d (.v (.int .i64 v_c1.fLevel)), .d (.v (.int .i64 v_c1.fKind))], .box [.d (.v (.int .i64 v_c1.fUser)), .d (.v (.int .i64 v_c1.fGroup)), .d (.sl (v_c1.fMore.map (eI .i64))), .d (.v (.int .i64 v_c1.fCaps)), .d (.v (.int .i64 v_c1.fLevel)), .d (.v (.int .i64 v_c1.fKind))]]⟩
def G_ringlaw5_CredSays_C6_hd (v_n2 : Int) (v_r51 : (Bool × Int)) (v_r65 : (S_api_Cred × Int)) (v_r71 : (S_api_Cred × Int)) (v_r149 : (S_api_Cred × Int)) (v_z292 : Int) (v_z293 : Int) (v_c1 : S_api_Cred)  : PS := ⟨[dd, .d (.v (.int .i64 v_n2)), .ref 0 0, dd, dd, dd, dd, .d (.v (.bool v_r51.1)), .d (.v (.int .i64 v_r51.2)), .ref 1 0, .d (.v (.int .i64 v_r65.2)), .ref 2 0, .d (.v (.int .i64 v_r71.2)), .ref 3 0, .d (.v (.int .i64 v_r149.2)), dd, dd, dd, .ref 4 0, .ref 5 0, .ref 6 0, .d (.v (.int .i64 1)), .d (.v (.int .i64 v_z292)), .d (.v (.int .i64 v_z293)), dd, dd, dd, dd, dd, dd, dd, dd, dd, dd, dd, dd, dd, dd, dd, dd, dd, dd, dd, dd, dd, dd, dd, dd, dd, dd, dd, dd, dd, dd, dd, dd, dd, dd, dd, dd, dd, dd, dd, dd, dd, dd, dd, dd, dd, dd, dd, dd, dd, dd, dd, dd, dd, dd, dd, dd, dd, dd, dd, dd, dd, dd, dd, dd, dd, dd, dd, dd, dd, dd, dd, dd, dd, dd, dd, dd, dd, dd, dd, dd, dd, dd, dd, dd, dd, dd, dd, dd, dd, dd, dd, dd, dd, dd, dd, dd, dd, dd, dd, dd, dd, dd, dd, dd, dd, dd, dd, dd, dd, dd, dd, dd, dd, dd, dd, dd, dd, dd, dd, dd, dd, dd, dd, dd, dd, dd, dd, dd, dd, dd, dd, dd, dd, dd, dd, dd, dd, dd, dd, dd, dd, dd, dd, dd, dd, dd, dd, dd, dd, dd, dd, dd, dd, dd, dd, dd, dd, dd, dd, dd, dd, dd, dd, dd, dd, dd, dd, dd, dd, dd, dd, dd, dd, dd, dd, dd, dd, dd, dd, dd, dd, dd, dd, dd, dd, dd, dd, dd, dd, dd, dd, dd, dd, dd, dd, dd, dd, dd, dd, dd, dd, dd, dd, dd, dd, dd, dd, dd, dd], [.box [.d (.v (.int .i64 v_c1.fUser)), .d (.v (.int .i64 v_c1.fGroup)), .d (.sl (v_c1.fMore.map (eI .i64))), .d (.v (.int .i64 v_c1.fCaps)), .d (.v (.int .i64 v_c1.fLevel)), .d (.v (.int .i64 v_c1.fKind))], .box [.d (.v (.int .i64 v_r65.1.fUser)), .d (.v (.int .i64 v_r65.1.fGroup)), .d (.sl (v_r65.1.fMore.map (eI .i64))), .d (.v (.int .i64 v_r65.1.fCaps)), .d (.v (.int .i64 v_r65.1.fLevel)), .d (.v (.int .i64 v_r65.1.fKind))], .box [.d (.v (.int .i64 v_r71.1.fUser)), .d (.v (.int .i64 v_r71.1.fGroup)), .d (.sl (v_r71.1.fMore.map (eI .i64))), .d (.v (.int .i64 v_r71.1.fCaps)), .d (.v (.int .i64 v_r71.1.fLevel)), .d (.v (.int .i64 v_r71.1.fKind))], .box [.d (.v (.int .i64 v_r149.1.fUser)), .d (.v (.int .i64 v_r149.1.fGroup)), .d (.sl (v_r149.1.fMore.map (eI .i64))), .d (.v (.int .i64 v_r149.1.fCaps)), .d (.v (.int .i64 v_r149.1.fLevel)), .d (.v (.int .i64 v_r149.1.fKind))], .box [.d (.v (.int .i64 v_c1.fUser)), .d (.v (.int .i64 v_c1.fGroup)), .d (.sl (v_c1.fMore.map (eI .i64))), .d (.v (.int .i64 v_c1.fCaps)), .d (.v (.int .i64 v_c1.fLevel)), .d (.v (.int .i64 v_c1.fKind))], .box [.d (.v (.int .i64 v_n2)), .d (.v (.int .i64 v_c1.fGroup)), .d (.sl (v_c1.fMore.map (eI .i64))), .d (.v (.int .i64 v_c1.fCaps)), .d (.v (.int .i64 v_c1.fLevel)), .d (.v (.int .i64 v_c1.fKind))], .box [.d (.v (.int .i64 v_c1.fUser)), .d (.v (.int .i64 v_c1.fGroup)), .d (.sl (v_c1.fMore.map (eI .i64))), .d (.v (.int .i64 v_c1.fCaps)), .d (.v (.int .i64 v_c1.fLevel)), .d (.v (.int .i64 v_c1.fKind))]]⟩
def G_ringlaw5_CredSays_C6 (n : Nat) (v_n2 : Int) (v_r51 : (Bool × Int)) (v_r65 : (S_api_Cred × Int)) (v_r71 : (S_api_Cred × Int)) (v_r149 : (S_api_Cred × Int)) (v_z292 : Int) (v_z293 : Int) (v_c1 : S_api_Cred) : Option G_ringlaw5_CredSays_C6_R :=
  if v_r51.2 = 1 then
   if (eqRes .neq (v_r51.1 == false)) = true then
    some (.x0 true)
   else
    if v_r65.2 = 1 then
     if v_r71.2 = v_z292 then
      some (.x0 (v_r149.2 != v_z293))
     else
      some (.x0 true)
    else
     some (.x0 true)
  else
   some (.x0 true)
theorem G_ringlaw5_CredSays_C6_ok {Fi : Ex → PS → Prop} (hF : KC 233 Fi) (ks : List Fr) (n : Nat) (v_n2 : Int) (v_r51 : (Bool × Int)) (v_r65 : (S_api_Cred × Int)) (v_r71 : (S_api_Cred × Int)) (v_r149 : (S_api_Cred × Int)) (v_z292 : Int) (v_z293 : Int) (v_c1 : S_api_Cred)  (o : G_ringlaw5_CredSays_C6_R) (h : G_ringlaw5_CredSays_C6 n v_n2 v_r51 v_r65 v_r71 v_r149 v_z292 v_z293 v_c1 = some o) (q : RunE Try.prog 233 Fi ks (G_ringlaw5_CredSays_C6_ex o) (G_ringlaw5_CredSays_C6_st v_n2 v_r51 v_r65 v_r71 v_r149 v_z292 v_z293 v_c1 o)) : RunE Try.prog 233 Fi (.s (cL (cL (cR (cR (cR (cR (cR (cR (cR (cR (cR (cR (cR (cR (cR (cR (cR (cR (cR (bodyOf Try.f3)))))))))))))))))))) :: ks) .normal (G_ringlaw5_CredSays_C6_hd v_n2 v_r51 v_r65 v_r71 v_r149 v_z292 v_z293 v_c1) := by
  unfold G_ringlaw5_CredSays_C6 at h
  by_cases h377 : v_r51.2 = 1
  · rw [if_pos h377] at h
    by_cases h378 : (eqRes .neq (v_r51.1 == false)) = true
    · rw [if_pos h378] at h
      cases h
      exact pkk_sound TTok mix hF 1 (hs := [.t false, .c, .c, .c, .c, .c, .c, .c, .c, .c, .c, .c, .c, .t true, .c, .c, .c, .c, .c, .c, .c, .c]) (ts := []) (s := [1, 2, 3, 4, 5, 6]) (l := [9, 11, 13, 18, 19, 20, 21, 22, 23, 213]) (by kernel_rfl) (by kernel_rfl) (.cons (nf h377) (.cons h378 .nil)) q
    · rw [if_neg h378] at h
      by_cases h379 : v_r65.2 = 1
      · rw [if_pos h379] at h
        by_cases h380 : v_r71.2 = v_z292
        · rw [if_pos h380] at h
          cases h
          exact pkk_sound TTok mix hF 1 (hs := [.t false, .c, .c, .c, .c, .c, .c, .c, .c, .c, .c, .c, .c, .t false, .c, .c, .t false, .c, .c, .t false, .c, .c]) (ts := []) (s := [1, 2, 3, 4, 5, 6]) (l := [9, 11, 13, 18, 19, 20, 21, 22, 23, 213]) (by kernel_rfl) (by kernel_rfl) (.cons (nf h377) (.cons (vf h378) (.cons (nf h379) (.cons (nf h380) .nil)))) q
        · rw [if_neg h380] at h
          cases h
          exact pkk_sound TTok mix hF 1 (hs := [.t false, .c, .c, .c, .c, .c, .c, .c, .c, .c, .c, .c, .c, .t false, .c, .c, .t false, .c, .c, .t true, .c, .c]) (ts := []) (s := [1, 2, 3, 4, 5, 6]) (l := [9, 11, 13, 18, 19, 20, 21, 22, 23, 213]) (by kernel_rfl) (by kernel_rfl) (.cons (nf h377) (.cons (vf h378) (.cons (nf h379) (.cons (nt h380) .nil)))) q
      · rw [if_neg h379] at h
        cases h
        exact pkk_sound TTok mix hF 1 (hs := [.t false, .c, .c, .c, .c, .c, .c, .c, .c, .c, .c, .c, .c, .t false, .c, .c, .t true, .c, .c, .c, .c, .c]) (ts := []) (s := [1, 2, 3, 4, 5, 6]) (l := [9, 11, 13, 18, 19, 20, 21, 22, 23, 213]) (by kernel_rfl) (by kernel_rfl) (.cons (nf h377) (.cons (vf h378) (.cons (nt h379) .nil))) q
  · rw [if_neg h377] at h
    cases h
    exact pkk_sound TTok mix hF 1 (hs := [.t true, .c, .c, .c, .c, .c, .c, .c, .c, .c, .c, .c, .c, .c, .c]) (ts := []) (s := [1, 2, 3, 4, 5, 6]) (l := [9, 11, 13, 18, 19, 20, 21, 22, 23, 213]) (by kernel_rfl) (by kernel_rfl) (.cons (nt h377) .nil) q
inductive G_ringlaw5_CredSays_C7_R where
  | x0 (v_x339 : Bool)
def G_ringlaw5_CredSays_C7_ex : G_ringlaw5_CredSays_C7_R → Ex
  | .x0 _ => .normal
def G_ringlaw5_CredSays_C7_st (v_z292 : Int) (v_z293 : Int) (v_r65 : (S_api_Cred × Int)) (v_r71 : (S_api_Cred × Int)) (v_r149 : (S_api_Cred × Int)) (v_c1 : S_api_Cred) (v_n2 : Int) : G_ringlaw5_CredSays_C7_R → PS
  | .x0 v_x339 => ⟨[dd, dd, dd, dd, .d (.v (.bool v_x339)), dd, dd, dd, dd, dd, dd, dd, dd, dd, dd, dd, dd, dd, dd, dd, dd, dd, dd, dd, dd, dd, dd, dd, dd, dd, dd, dd, dd, dd, dd, dd, dd, dd, dd, dd, dd, dd, dd, dd, dd, dd, dd, dd, dd, dd, dd, dd, dd, dd, dd, dd, dd, dd, dd, dd, dd, dd, dd, dd, dd, dd, dd, dd, dd, dd, dd, dd, dd, dd, dd, dd, dd, dd, dd, dd, dd, dd, dd, dd, dd, dd, dd, dd, dd, dd, dd, dd, dd, dd, dd, dd, dd, dd, dd, dd, dd, dd, dd, dd, dd, dd, dd, dd, dd, dd, dd, dd, dd, dd, dd, dd, dd, dd, dd, dd, dd, dd, dd, dd, dd, dd, dd, dd, dd, dd, dd, dd, dd, dd, dd, dd, dd, dd, dd, dd, dd, dd, dd, dd, dd, dd, dd, dd, dd, dd, dd, dd, dd, dd, dd, dd, dd, dd, dd, dd, dd, dd, dd, dd, dd, dd, dd, dd, dd, dd, dd, dd, dd, dd, dd, dd, dd, dd, dd, dd, dd, dd, dd, dd, dd, dd, dd, dd, dd, dd, dd, dd, dd, dd, dd, dd, dd, dd, dd, dd, dd, dd, dd, dd, dd, dd, dd, dd, dd, dd, dd, dd, dd, dd, dd, dd, dd, dd, dd, dd, dd, dd, dd, dd, dd, dd, dd, dd, dd, dd, dd, dd, dd], []⟩
def G_ringlaw5_CredSays_C7_hd (v_z292 : Int) (v_z293 : Int) (v_r65 : (S_api_Cred × Int)) (v_r71 : (S_api_Cred × Int)) (v_r149 : (S_api_Cred × Int)) (v_c1 : S_api_Cred) (v_n2 : Int)  : PS := ⟨[dd, dd, dd, dd, dd, dd, dd, dd, dd, .ref 0 0, dd, .ref 1 0, dd, .ref 2 0, dd, dd, dd, dd, .ref 3 0, .ref 4 0, .ref 5 0, .d (.v (.int .i64 1)), .d (.v (.int .i64 v_z292)), .d (.v (.int .i64 v_z293)), dd, dd, dd, dd, dd, dd, dd, dd, dd, dd, dd, dd, dd, dd, dd, dd, dd, dd, dd, dd, dd, dd, dd, dd, dd, dd, dd, dd, dd, dd, dd, dd, dd, dd, dd, dd, dd, dd, dd, dd, dd, dd, dd, dd, dd, dd, dd, dd, dd, dd, dd, dd, dd, dd, dd, dd, dd, dd, dd, dd, dd, dd, dd, dd, dd, dd, dd, dd, dd, dd, dd, dd, dd, dd, dd, dd, dd, dd, dd, dd, dd, dd, dd, dd, dd, dd, dd, dd, dd, dd, dd, dd, dd, dd, dd, dd, dd, dd, dd, dd, dd, dd, dd, dd, dd, dd, dd, dd, dd, dd, dd, dd, dd, dd, dd, dd, dd, dd, dd, dd, dd, dd, dd, dd, dd, dd, dd, dd, dd, dd, dd, dd, dd, dd, dd, dd, dd, dd, dd, dd, dd, dd, dd, dd, dd, dd, dd, dd, dd, dd, dd, dd, dd, dd, dd, dd, dd, dd, dd, dd, dd, dd, dd, dd, dd, dd, dd, dd, dd, dd, dd, dd, dd, dd, dd, dd, dd, dd, dd, dd, dd, dd, dd, dd, dd, dd, dd, dd, dd, dd, dd, dd, dd, dd, dd, dd, dd, dd, dd, dd, dd, dd, dd, dd, dd, dd, dd, dd, dd], [.box [.d (.v (.int .i64 v_r65.1.fUser)), .d (.v (.int .i64 v_r65.1.fGroup)), .d (.sl (v_r65.1.fMore.map (eI .i64))), .d (.v (.int .i64 v_r65.1.fCaps)), .d (.v (.int .i64 v_r65.1.fLevel)), .d (.v (.int .i64 v_r65.1.fKind))], .box [.d (.v (.int .i64 v_r71.1.fUser)), .d (.v (.int .i64 v_r71.1.fGroup)), .d (.sl (v_r71.1.fMore.map (eI .i64))), .d (.v (.int .i64 v_r71.1.fCaps)), .d (.v (.int .i64 v_r71.1.fLevel)), .d (.v (.int .i64 v_r71.1.fKind))], .box [.d (.v (.int .i64 v_r149.1.fUser)), .d (.v (.int .i64 v_r149.1.fGroup)), .d (.sl (v_r149.1.fMore.map (eI .i64))), .d (.v (.int .i64 v_r149.1.fCaps)), .d (.v (.int .i64 v_r149.1.fLevel)), .d (.v (.int .i64 v_r149.1.fKind))], .box [.d (.v (.int .i64 v_c1.fUser)), .d (.v (.int .i64 v_c1.fGroup)), .d (.sl (v_c1.fMore.map (eI .i64))), .d (.v (.int .i64 v_c1.fCaps)), .d (.v (.int .i64 v_c1.fLevel)), .d (.v (.int .i64 v_c1.fKind))], .box [.d (.v (.int .i64 v_n2)), .d (.v (.int .i64 v_c1.fGroup)), .d (.sl (v_c1.fMore.map (eI .i64))), .d (.v (.int .i64 v_c1.fCaps)), .d (.v (.int .i64 v_c1.fLevel)), .d (.v (.int .i64 v_c1.fKind))], .box [.d (.v (.int .i64 v_c1.fUser)), .d (.v (.int .i64 v_c1.fGroup)), .d (.sl (v_c1.fMore.map (eI .i64))), .d (.v (.int .i64 v_c1.fCaps)), .d (.v (.int .i64 v_c1.fLevel)), .d (.v (.int .i64 v_c1.fKind))]]⟩
def G_ringlaw5_CredSays_C7 (n : Nat) (v_z292 : Int) (v_z293 : Int) (v_r65 : (S_api_Cred × Int)) (v_r71 : (S_api_Cred × Int)) (v_r149 : (S_api_Cred × Int)) (v_c1 : S_api_Cred) (v_n2 : Int) : Option G_ringlaw5_CredSays_C7_R :=
  (G_ringlaw5_pick n 1 v_c1).bind fun (v_r333 : (S_api_Cred)) =>
  (G_ringref5_SameCred n v_r65.1 v_r333).bind fun (v_r334 : (Bool)) =>
  if v_r334 = true then
   (G_ringlaw5_pick n v_z292 (S_api_Cred.mk v_n2 v_c1.fGroup v_c1.fMore v_c1.fCaps v_c1.fLevel v_c1.fKind)).bind fun (v_r335 : (S_api_Cred)) =>
   (G_ringref5_SameCred n v_r71.1 v_r335).bind fun (v_r336 : (Bool)) =>
   if v_r336 = true then
    (G_ringlaw5_pick n v_z293 v_c1).bind fun (v_r337 : (S_api_Cred)) =>
    (G_ringref5_SameCred n v_r149.1 v_r337).bind fun (v_r338 : (Bool)) =>
    some (.x0 v_r338)
   else
    some (.x0 false)
  else
   some (.x0 false)
theorem G_ringlaw5_CredSays_C7_ok {Fi : Ex → PS → Prop} (hF : KC 233 Fi) (ks : List Fr) (n : Nat) (v_z292 : Int) (v_z293 : Int) (v_r65 : (S_api_Cred × Int)) (v_r71 : (S_api_Cred × Int)) (v_r149 : (S_api_Cred × Int)) (v_c1 : S_api_Cred) (v_n2 : Int)  (o : G_ringlaw5_CredSays_C7_R) (h : G_ringlaw5_CredSays_C7 n v_z292 v_z293 v_r65 v_r71 v_r149 v_c1 v_n2 = some o) (q : RunE Try.prog 233 Fi ks (G_ringlaw5_CredSays_C7_ex o) (G_ringlaw5_CredSays_C7_st v_z292 v_z293 v_r65 v_r71 v_r149 v_c1 v_n2 o)) : RunE Try.prog 233 Fi (.s (cL (cR (cR (cR (cR (cR (cR (cR (cR (cR (cR (cR (cR (cR (cR (cR (cR (cR (cR (bodyOf Try.f3)))))))))))))))))))) :: ks) .normal (G_ringlaw5_CredSays_C7_hd v_z292 v_z293 v_r65 v_r71 v_r149 v_c1 v_n2) := by
  unfold G_ringlaw5_CredSays_C7 at h
  obtain ⟨v_r333, h391, h⟩ := bind_some h
  obtain ⟨v_r334, h392, h⟩ := bind_some h
  by_cases h393 : v_r334 = true
  · rw [if_pos h393] at h
    obtain ⟨v_r335, h394, h⟩ := bind_some h
    obtain ⟨v_r336, h395, h⟩ := bind_some h
    by_cases h396 : v_r336 = true
    · rw [if_pos h396] at h
      obtain ⟨v_r337, h397, h⟩ := bind_some h
      obtain ⟨v_r338, h398, h⟩ := bind_some h
      cases h
      exact pkk_sound TTok mix hF 1 (hs := [.c, .c, .r (eS_api_Cred v_r333), .r (eB v_r334), .t true, .c, .c, .c, .c, .c, .r (eS_api_Cred v_r335), .c, .r (eB v_r336), .t true, .c, .c, .c, .c, .c, .r (eS_api_Cred v_r337), .c, .r (eB v_r338)]) (ts := []) (s := []) (l := [4]) (by kernel_rfl) (by kernel_rfl) (.cons (G_ringlaw5_pick_ok n 1 v_c1 _ h391) (.cons (G_ringref5_SameCred_ok n v_r65.1 v_r333 _ h392) (.cons h393 (.cons (G_ringlaw5_pick_ok n v_z292 (S_api_Cred.mk v_n2 v_c1.fGroup v_c1.fMore v_c1.fCaps v_c1.fLevel v_c1.fKind) _ h394) (.cons (G_ringref5_SameCred_ok n v_r71.1 v_r335 _ h395) (.cons h396 (.cons (G_ringlaw5_pick_ok n v_z293 v_c1 _ h397) (.cons (G_ringref5_SameCred_ok n v_r149.1 v_r337 _ h398) .nil)))))))) q
    · rw [if_neg h396] at h
      cases h
      exact pkk_sound TTok mix hF 1 (hs := [.c, .c, .r (eS_api_Cred v_r333), .r (eB v_r334), .t true, .c, .c, .c, .c, .c, .r (eS_api_Cred v_r335), .c, .r (eB v_r336), .t false, .c, .c, .c, .c]) (ts := []) (s := []) (l := [4]) (by kernel_rfl) (by kernel_rfl) (.cons (G_ringlaw5_pick_ok n 1 v_c1 _ h391) (.cons (G_ringref5_SameCred_ok n v_r65.1 v_r333 _ h392) (.cons h393 (.cons (G_ringlaw5_pick_ok n v_z292 (S_api_Cred.mk v_n2 v_c1.fGroup v_c1.fMore v_c1.fCaps v_c1.fLevel v_c1.fKind) _ h394) (.cons (G_ringref5_SameCred_ok n v_r71.1 v_r335 _ h395) (.cons (vf h396) .nil)))))) q
  · rw [if_neg h393] at h
    cases h
    exact pkk_sound TTok mix hF 1 (hs := [.c, .c, .r (eS_api_Cred v_r333), .r (eB v_r334), .t false, .c, .c, .c, .c, .c, .c, .c, .c, .c]) (ts := []) (s := []) (l := [4]) (by kernel_rfl) (by kernel_rfl) (.cons (G_ringlaw5_pick_ok n 1 v_c1 _ h391) (.cons (G_ringref5_SameCred_ok n v_r65.1 v_r333 _ h392) (.cons (vf h393) .nil))) q
inductive G_ringlaw5_CredSays_C8_R where
  | x0 (v_x347 : Bool) (v_w348 : (List Int))
def G_ringlaw5_CredSays_C8_ex : G_ringlaw5_CredSays_C8_R → Ex
  | .x0 _ _ => .normal
def G_ringlaw5_CredSays_C8_st (v_n2 : Int) (v_r51 : (Bool × Int)) (v_r65 : (S_api_Cred × Int)) (v_r71 : (S_api_Cred × Int)) (v_r149 : (S_api_Cred × Int)) (v_z344 : Int) (v_z345 : Int) (v_c1 : S_api_Cred) (v_z346 : (List Int)) : G_ringlaw5_CredSays_C8_R → PS
  | .x0 v_x347 v_w348 => ⟨[dd, dd, dd, dd, dd, dd, dd, dd, dd, .ref 0 0, dd, .ref 1 0, dd, .ref 2 0, dd, dd, dd, dd, .ref 3 0, .ref 4 0, .ref 5 0, .d (.v (.int .i64 1)), .d (.v (.int .i64 v_z344)), .d (.v (.int .i64 v_z345)), dd, dd, dd, dd, dd, dd, dd, dd, dd, dd, dd, dd, dd, dd, dd, dd, dd, dd, dd, dd, dd, dd, dd, dd, dd, dd, dd, dd, dd, dd, dd, dd, dd, dd, dd, dd, dd, dd, dd, dd, dd, dd, dd, dd, dd, dd, dd, dd, dd, dd, dd, dd, dd, dd, dd, dd, dd, dd, dd, dd, dd, dd, dd, dd, dd, dd, dd, dd, dd, dd, dd, dd, dd, dd, dd, dd, dd, dd, dd, dd, dd, dd, dd, dd, dd, dd, dd, dd, dd, dd, dd, dd, dd, dd, dd, dd, dd, dd, dd, dd, dd, dd, dd, dd, dd, dd, dd, dd, dd, dd, dd, dd, dd, dd, dd, dd, dd, dd, dd, dd, dd, dd, dd, dd, dd, dd, dd, dd, dd, dd, dd, dd, dd, dd, dd, dd, dd, dd, dd, dd, dd, dd, dd, dd, dd, dd, dd, dd, dd, dd, dd, dd, dd, dd, dd, dd, dd, dd, dd, dd, dd, dd, dd, dd, dd, dd, dd, dd, dd, dd, dd, dd, dd, dd, dd, dd, dd, dd, dd, dd, dd, dd, dd, dd, dd, dd, dd, dd, dd, .d (.v (.bool v_x347)), dd, dd, dd, dd, dd, dd, dd, dd, dd, dd, dd, dd, dd, dd, dd, dd, dd, dd, dd], [.box [.d (.v (.int .i64 v_r65.1.fUser)), .d (.v (.int .i64 v_r65.1.fGroup)), .d (.sl (v_r65.1.fMore.map (eI .i64))), .d (.v (.int .i64 v_r65.1.fCaps)), .d (.v (.int .i64 v_r65.1.fLevel)), .d (.v (.int .i64 v_r65.1.fKind))], .box [.d (.v (.int .i64 v_r71.1.fUser)), .d (.v (.int .i64 v_r71.1.fGroup)), .d (.sl (v_r71.1.fMore.map (eI .i64))), .d (.v (.int .i64 v_r71.1.fCaps)), .d (.v (.int .i64 v_r71.1.fLevel)), .d (.v (.int .i64 v_r71.1.fKind))], .box [.d (.v (.int .i64 v_r149.1.fUser)), .d (.v (.int .i64 v_r149.1.fGroup)), .d (.sl (v_r149.1.fMore.map (eI .i64))), .d (.v (.int .i64 v_r149.1.fCaps)), .d (.v (.int .i64 v_r149.1.fLevel)), .d (.v (.int .i64 v_r149.1.fKind))], .box [.d (.v (.int .i64 v_c1.fUser)), .d (.v (.int .i64 v_c1.fGroup)), .d (.sl (v_c1.fMore.map (eI .i64))), .d (.v (.int .i64 v_c1.fCaps)), .d (.v (.int .i64 v_c1.fLevel)), .d (.v (.int .i64 v_c1.fKind))], .box [.d (.v (.int .i64 v_n2)), .d (.v (.int .i64 v_c1.fGroup)), .d (.sl (v_c1.fMore.map (eI .i64))), .d (.v (.int .i64 0)), .d (.v (.int .i64 v_c1.fLevel)), .d (.v (.int .i64 v_c1.fKind))], .box [.d (.v (.int .i64 v_c1.fUser)), .d (.v (.int .i64 v_c1.fGroup)), .srf 6, .d (.v (.int .i64 v_c1.fCaps)), .d (.v (.int .i64 v_c1.fLevel)), .d (.v (.int .i64 v_c1.fKind))], .row 3 1 (v_w348.map (eI .i64))]⟩
def G_ringlaw5_CredSays_C8_hd (v_n2 : Int) (v_r51 : (Bool × Int)) (v_r65 : (S_api_Cred × Int)) (v_r71 : (S_api_Cred × Int)) (v_r149 : (S_api_Cred × Int)) (v_z344 : Int) (v_z345 : Int) (v_c1 : S_api_Cred) (v_z346 : (List Int))  : PS := ⟨[dd, .d (.v (.int .i64 v_n2)), .ref 0 0, dd, dd, dd, dd, .d (.v (.bool v_r51.1)), .d (.v (.int .i64 v_r51.2)), .ref 1 0, .d (.v (.int .i64 v_r65.2)), .ref 2 0, .d (.v (.int .i64 v_r71.2)), .ref 3 0, .d (.v (.int .i64 v_r149.2)), dd, dd, dd, .ref 4 0, .ref 5 0, .ref 6 0, .d (.v (.int .i64 1)), .d (.v (.int .i64 v_z344)), .d (.v (.int .i64 v_z345)), dd, dd, dd, dd, dd, dd, dd, dd, dd, dd, dd, dd, dd, dd, dd, dd, dd, dd, dd, dd, dd, dd, dd, dd, dd, dd, dd, dd, dd, dd, dd, dd, dd, dd, dd, dd, dd, dd, dd, dd, dd, dd, dd, dd, dd, dd, dd, dd, dd, dd, dd, dd, dd, dd, dd, dd, dd, dd, dd, dd, dd, dd, dd, dd, dd, dd, dd, dd, dd, dd, dd, dd, dd, dd, dd, dd, dd, dd, dd, dd, dd, dd, dd, dd, dd, dd, dd, dd, dd, dd, dd, dd, dd, dd, dd, dd, dd, dd, dd, dd, dd, dd, dd, dd, dd, dd, dd, dd, dd, dd, dd, dd, dd, dd, dd, dd, dd, dd, dd, dd, dd, dd, dd, dd, dd, dd, dd, dd, dd, dd, dd, dd, dd, dd, dd, dd, dd, dd, dd, dd, dd, dd, dd, dd, dd, dd, dd, dd, dd, dd, dd, dd, dd, dd, dd, dd, dd, dd, dd, dd, dd, dd, dd, dd, dd, dd, dd, dd, dd, dd, dd, dd, dd, dd, dd, dd, dd, dd, dd, dd, dd, dd, dd, dd, dd, dd, dd, dd, dd, dd, dd, dd, dd, dd, dd, dd, dd, dd, dd, dd, dd, dd, dd, dd, dd, dd, dd, dd, dd], [.box [.d (.v (.int .i64 v_c1.fUser)), .d (.v (.int .i64 v_c1.fGroup)), .d (.sl (v_c1.fMore.map (eI .i64))), .d (.v (.int .i64 v_c1.fCaps)), .d (.v (.int .i64 v_c1.fLevel)), .d (.v (.int .i64 v_c1.fKind))], .box [.d (.v (.int .i64 v_r65.1.fUser)), .d (.v (.int .i64 v_r65.1.fGroup)), .d (.sl (v_r65.1.fMore.map (eI .i64))), .d (.v (.int .i64 v_r65.1.fCaps)), .d (.v (.int .i64 v_r65.1.fLevel)), .d (.v (.int .i64 v_r65.1.fKind))], .box [.d (.v (.int .i64 v_r71.1.fUser)), .d (.v (.int .i64 v_r71.1.fGroup)), .d (.sl (v_r71.1.fMore.map (eI .i64))), .d (.v (.int .i64 v_r71.1.fCaps)), .d (.v (.int .i64 v_r71.1.fLevel)), .d (.v (.int .i64 v_r71.1.fKind))], .box [.d (.v (.int .i64 v_r149.1.fUser)), .d (.v (.int .i64 v_r149.1.fGroup)), .d (.sl (v_r149.1.fMore.map (eI .i64))), .d (.v (.int .i64 v_r149.1.fCaps)), .d (.v (.int .i64 v_r149.1.fLevel)), .d (.v (.int .i64 v_r149.1.fKind))], .box [.d (.v (.int .i64 v_c1.fUser)), .d (.v (.int .i64 v_c1.fGroup)), .d (.sl (v_c1.fMore.map (eI .i64))), .d (.v (.int .i64 v_c1.fCaps)), .d (.v (.int .i64 v_c1.fLevel)), .d (.v (.int .i64 v_c1.fKind))], .box [.d (.v (.int .i64 v_n2)), .d (.v (.int .i64 v_c1.fGroup)), .d (.sl (v_c1.fMore.map (eI .i64))), .d (.v (.int .i64 0)), .d (.v (.int .i64 v_c1.fLevel)), .d (.v (.int .i64 v_c1.fKind))], .box [.d (.v (.int .i64 v_c1.fUser)), .d (.v (.int .i64 v_c1.fGroup)), .srf 7, .d (.v (.int .i64 v_c1.fCaps)), .d (.v (.int .i64 v_c1.fLevel)), .d (.v (.int .i64 v_c1.fKind))], .row 3 1 (v_z346.map (eI .i64))]⟩
def G_ringlaw5_CredSays_C8 (n : Nat) (v_n2 : Int) (v_r51 : (Bool × Int)) (v_r65 : (S_api_Cred × Int)) (v_r71 : (S_api_Cred × Int)) (v_r149 : (S_api_Cred × Int)) (v_z344 : Int) (v_z345 : Int) (v_c1 : S_api_Cred) (v_z346 : (List Int)) : Option G_ringlaw5_CredSays_C8_R :=
  if v_r51.2 = 1 then
   if (eqRes .neq (v_r51.1 == false)) = true then
    some (.x0 true v_z346)
   else
    if v_r65.2 = 1 then
     if v_r71.2 = v_z344 then
      some (.x0 (v_r149.2 != v_z345) v_z346)
     else
      some (.x0 true v_z346)
    else
     some (.x0 true v_z346)
  else
   some (.x0 true v_z346)
theorem G_ringlaw5_CredSays_C8_ok {Fi : Ex → PS → Prop} (hF : KC 233 Fi) (ks : List Fr) (n : Nat) (v_n2 : Int) (v_r51 : (Bool × Int)) (v_r65 : (S_api_Cred × Int)) (v_r71 : (S_api_Cred × Int)) (v_r149 : (S_api_Cred × Int)) (v_z344 : Int) (v_z345 : Int) (v_c1 : S_api_Cred) (v_z346 : (List Int))  (o : G_ringlaw5_CredSays_C8_R) (h : G_ringlaw5_CredSays_C8 n v_n2 v_r51 v_r65 v_r71 v_r149 v_z344 v_z345 v_c1 v_z346 = some o) (q : RunE Try.prog 233 Fi ks (G_ringlaw5_CredSays_C8_ex o) (G_ringlaw5_CredSays_C8_st v_n2 v_r51 v_r65 v_r71 v_r149 v_z344 v_z345 v_c1 v_z346 o)) : RunE Try.prog 233 Fi (.s (cL (cL (cR (cR (cR (cR (cR (cR (cR (cR (cR (cR (cR (cR (cR (cR (cR (cR (cR (bodyOf Try.f3)))))))))))))))))))) :: ks) .normal (G_ringlaw5_CredSays_C8_hd v_n2 v_r51 v_r65 v_r71 v_r149 v_z344 v_z345 v_c1 v_z346) := by
  unfold G_ringlaw5_CredSays_C8 at h
  by_cases h405 : v_r51.2 = 1
  · rw [if_pos h405] at h
    by_cases h406 : (eqRes .neq (v_r51.1 == false)) = true
    · rw [if_pos h406] at h
      cases h
      exact pkk_sound TTok mix hF 1 (hs := [.t false, .c, .c, .c, .c, .c, .c, .c, .c, .c, .c, .c, .c, .t true, .c, .c, .c, .c, .c, .c, .c, .c]) (ts := []) (s := [1, 2, 3, 4, 5, 6, 7]) (l := [9, 11, 13, 18, 19, 20, 21, 22, 23, 213]) (by kernel_rfl) (by kernel_rfl) (.cons (nf h405) (.cons h406 .nil)) q
    · rw [if_neg h406] at h
      by_cases h407 : v_r65.2 = 1
      · rw [if_pos h407] at h
        by_cases h408 : v_r71.2 = v_z344
        · rw [if_pos h408] at h
          cases h
          exact pkk_sound TTok mix hF 1 (hs := [.t false, .c, .c, .c, .c, .c, .c, .c, .c, .c, .c, .c, .c, .t false, .c, .c, .t false, .c, .c, .t false, .c, .c]) (ts := []) (s := [1, 2, 3, 4, 5, 6, 7]) (l := [9, 11, 13, 18, 19, 20, 21, 22, 23, 213]) (by kernel_rfl) (by kernel_rfl) (.cons (nf h405) (.cons (vf h406) (.cons (nf h407) (.cons (nf h408) .nil)))) q
        · rw [if_neg h408] at h
          cases h
          exact pkk_sound TTok mix hF 1 (hs := [.t false, .c, .c, .c, .c, .c, .c, .c, .c, .c, .c, .c, .c, .t false, .c, .c, .t false, .c, .c, .t true, .c, .c]) (ts := []) (s := [1, 2, 3, 4, 5, 6, 7]) (l := [9, 11, 13, 18, 19, 20, 21, 22, 23, 213]) (by kernel_rfl) (by kernel_rfl) (.cons (nf h405) (.cons (vf h406) (.cons (nf h407) (.cons (nt h408) .nil)))) q
      · rw [if_neg h407] at h
        cases h
        exact pkk_sound TTok mix hF 1 (hs := [.t false, .c, .c, .c, .c, .c, .c, .c, .c, .c, .c, .c, .c, .t false, .c, .c, .t true, .c, .c, .c, .c, .c]) (ts := []) (s := [1, 2, 3, 4, 5, 6, 7]) (l := [9, 11, 13, 18, 19, 20, 21, 22, 23, 213]) (by kernel_rfl) (by kernel_rfl) (.cons (nf h405) (.cons (vf h406) (.cons (nt h407) .nil))) q
  · rw [if_neg h405] at h
    cases h
    exact pkk_sound TTok mix hF 1 (hs := [.t true, .c, .c, .c, .c, .c, .c, .c, .c, .c, .c, .c, .c, .c, .c]) (ts := []) (s := [1, 2, 3, 4, 5, 6, 7]) (l := [9, 11, 13, 18, 19, 20, 21, 22, 23, 213]) (by kernel_rfl) (by kernel_rfl) (.cons (nt h405) .nil) q
inductive G_ringlaw5_CredSays_C9_R where
  | x0 (v_x380 : Bool)
def G_ringlaw5_CredSays_C9_ex : G_ringlaw5_CredSays_C9_R → Ex
  | .x0 _ => .normal
def G_ringlaw5_CredSays_C9_st (v_z344 : Int) (v_z345 : Int) (v_r65 : (S_api_Cred × Int)) (v_r71 : (S_api_Cred × Int)) (v_r149 : (S_api_Cred × Int)) (v_c1 : S_api_Cred) (v_n2 : Int) (v_z359 : (List Int)) : G_ringlaw5_CredSays_C9_R → PS
  | .x0 v_x380 => ⟨[dd, dd, dd, dd, .d (.v (.bool v_x380)), dd, dd, dd, dd, dd, dd, dd, dd, dd, dd, dd, dd, dd, dd, dd, dd, dd, dd, dd, dd, dd, dd, dd, dd, dd, dd, dd, dd, dd, dd, dd, dd, dd, dd, dd, dd, dd, dd, dd, dd, dd, dd, dd, dd, dd, dd, dd, dd, dd, dd, dd, dd, dd, dd, dd, dd, dd, dd, dd, dd, dd, dd, dd, dd, dd, dd, dd, dd, dd, dd, dd, dd, dd, dd, dd, dd, dd, dd, dd, dd, dd, dd, dd, dd, dd, dd, dd, dd, dd, dd, dd, dd, dd, dd, dd, dd, dd, dd, dd, dd, dd, dd, dd, dd, dd, dd, dd, dd, dd, dd, dd, dd, dd, dd, dd, dd, dd, dd, dd, dd, dd, dd, dd, dd, dd, dd, dd, dd, dd, dd, dd, dd, dd, dd, dd, dd, dd, dd, dd, dd, dd, dd, dd, dd, dd, dd, dd, dd, dd, dd, dd, dd, dd, dd, dd, dd, dd, dd, dd, dd, dd, dd, dd, dd, dd, dd, dd, dd, dd, dd, dd, dd, dd, dd, dd, dd, dd, dd, dd, dd, dd, dd, dd, dd, dd, dd, dd, dd, dd, dd, dd, dd, dd, dd, dd, dd, dd, dd, dd, dd, dd, dd, dd, dd, dd, dd, dd, dd, dd, dd, dd, dd, dd, dd, dd, dd, dd, dd, dd, dd, dd, dd, dd, dd, dd, dd, dd, dd], []⟩
def G_ringlaw5_CredSays_C9_hd (v_z344 : Int) (v_z345 : Int) (v_r65 : (S_api_Cred × Int)) (v_r71 : (S_api_Cred × Int)) (v_r149 : (S_api_Cred × Int)) (v_c1 : S_api_Cred) (v_n2 : Int) (v_z359 : (List Int))  : PS := ⟨[dd, dd, dd, dd, dd, dd, dd, dd, dd, .ref 0 0, dd, .ref 1 0, dd, .ref 2 0, dd, dd, dd, dd, .ref 3 0, .ref 4 0, .ref 5 0, .d (.v (.int .i64 1)), .d (.v (.int .i64 v_z344)), .d (.v (.int .i64 v_z345)), dd, dd, dd, dd, dd, dd, dd, dd, dd, dd, dd, dd, dd, dd, dd, dd, dd, dd, dd, dd, dd, dd, dd, dd, dd, dd, dd, dd, dd, dd, dd, dd, dd, dd, dd, dd, dd, dd, dd, dd, dd, dd, dd, dd, dd, dd, dd, dd, dd, dd, dd, dd, dd, dd, dd, dd, dd, dd, dd, dd, dd, dd, dd, dd, dd, dd, dd, dd, dd, dd, dd, dd, dd, dd, dd, dd, dd, dd, dd, dd, dd, dd, dd, dd, dd, dd, dd, dd, dd, dd, dd, dd, dd, dd, dd, dd, dd, dd, dd, dd, dd, dd, dd, dd, dd, dd, dd, dd, dd, dd, dd, dd, dd, dd, dd, dd, dd, dd, dd, dd, dd, dd, dd, dd, dd, dd, dd, dd, dd, dd, dd, dd, dd, dd, dd, dd, dd, dd, dd, dd, dd, dd, dd, dd, dd, dd, dd, dd, dd, dd, dd, dd, dd, dd, dd, dd, dd, dd, dd, dd, dd, dd, dd, dd, dd, dd, dd, dd, dd, dd, dd, dd, dd, dd, dd, dd, dd, dd, dd, dd, dd, dd, dd, dd, dd, dd, dd, dd, dd, dd, dd, dd, dd, dd, dd, dd, dd, dd, dd, dd, dd, dd, dd, dd, dd, dd, dd, dd, dd], [.box [.d (.v (.int .i64 v_r65.1.fUser)), .d (.v (.int .i64 v_r65.1.fGroup)), .d (.sl (v_r65.1.fMore.map (eI .i64))), .d (.v (.int .i64 v_r65.1.fCaps)), .d (.v (.int .i64 v_r65.1.fLevel)), .d (.v (.int .i64 v_r65.1.fKind))], .box [.d (.v (.int .i64 v_r71.1.fUser)), .d (.v (.int .i64 v_r71.1.fGroup)), .d (.sl (v_r71.1.fMore.map (eI .i64))), .d (.v (.int .i64 v_r71.1.fCaps)), .d (.v (.int .i64 v_r71.1.fLevel)), .d (.v (.int .i64 v_r71.1.fKind))], .box [.d (.v (.int .i64 v_r149.1.fUser)), .d (.v (.int .i64 v_r149.1.fGroup)), .d (.sl (v_r149.1.fMore.map (eI .i64))), .d (.v (.int .i64 v_r149.1.fCaps)), .d (.v (.int .i64 v_r149.1.fLevel)), .d (.v (.int .i64 v_r149.1.fKind))], .box [.d (.v (.int .i64 v_c1.fUser)), .d (.v (.int .i64 v_c1.fGroup)), .d (.sl (v_c1.fMore.map (eI .i64))), .d (.v (.int .i64 v_c1.fCaps)), .d (.v (.int .i64 v_c1.fLevel)), .d (.v (.int .i64 v_c1.fKind))], .box [.d (.v (.int .i64 v_n2)), .d (.v (.int .i64 v_c1.fGroup)), .d (.sl (v_c1.fMore.map (eI .i64))), .d (.v (.int .i64 0)), .d (.v (.int .i64 v_c1.fLevel)), .d (.v (.int .i64 v_c1.fKind))], .box [.d (.v (.int .i64 v_c1.fUser)), .d (.v (.int .i64 v_c1.fGroup)), .srf 6, .d (.v (.int .i64 v_c1.fCaps)), .d (.v (.int .i64 v_c1.fLevel)), .d (.v (.int .i64 v_c1.fKind))], .row 3 1 (v_z359.map (eI .i64))]⟩
def G_ringlaw5_CredSays_C9 (n : Nat) (v_z344 : Int) (v_z345 : Int) (v_r65 : (S_api_Cred × Int)) (v_r71 : (S_api_Cred × Int)) (v_r149 : (S_api_Cred × Int)) (v_c1 : S_api_Cred) (v_n2 : Int) (v_z359 : (List Int)) : Option G_ringlaw5_CredSays_C9_R :=
  (G_ringlaw5_pick n 1 v_c1).bind fun (v_r374 : (S_api_Cred)) =>
  (G_ringref5_SameCred n v_r65.1 v_r374).bind fun (v_r375 : (Bool)) =>
  if v_r375 = true then
   (G_ringlaw5_pick n v_z344 (S_api_Cred.mk v_n2 v_c1.fGroup v_c1.fMore 0 v_c1.fLevel v_c1.fKind)).bind fun (v_r376 : (S_api_Cred)) =>
   (G_ringref5_SameCred n v_r71.1 v_r376).bind fun (v_r377 : (Bool)) =>
   if v_r377 = true then
    (G_ringlaw5_pick n v_z345 (S_api_Cred.mk v_c1.fUser v_c1.fGroup v_z359 v_c1.fCaps v_c1.fLevel v_c1.fKind)).bind fun (v_r378 : (S_api_Cred)) =>
    (G_ringref5_SameCred n v_r149.1 v_r378).bind fun (v_r379 : (Bool)) =>
    some (.x0 v_r379)
   else
    some (.x0 false)
  else
   some (.x0 false)
theorem G_ringlaw5_CredSays_C9_ok {Fi : Ex → PS → Prop} (hF : KC 233 Fi) (ks : List Fr) (n : Nat) (v_z344 : Int) (v_z345 : Int) (v_r65 : (S_api_Cred × Int)) (v_r71 : (S_api_Cred × Int)) (v_r149 : (S_api_Cred × Int)) (v_c1 : S_api_Cred) (v_n2 : Int) (v_z359 : (List Int))  (o : G_ringlaw5_CredSays_C9_R) (h : G_ringlaw5_CredSays_C9 n v_z344 v_z345 v_r65 v_r71 v_r149 v_c1 v_n2 v_z359 = some o) (q : RunE Try.prog 233 Fi ks (G_ringlaw5_CredSays_C9_ex o) (G_ringlaw5_CredSays_C9_st v_z344 v_z345 v_r65 v_r71 v_r149 v_c1 v_n2 v_z359 o)) : RunE Try.prog 233 Fi (.s (cL (cR (cR (cR (cR (cR (cR (cR (cR (cR (cR (cR (cR (cR (cR (cR (cR (cR (cR (bodyOf Try.f3)))))))))))))))))))) :: ks) .normal (G_ringlaw5_CredSays_C9_hd v_z344 v_z345 v_r65 v_r71 v_r149 v_c1 v_n2 v_z359) := by
  unfold G_ringlaw5_CredSays_C9 at h
  obtain ⟨v_r374, h431, h⟩ := bind_some h
  obtain ⟨v_r375, h432, h⟩ := bind_some h
  by_cases h433 : v_r375 = true
  · rw [if_pos h433] at h
    obtain ⟨v_r376, h434, h⟩ := bind_some h
    obtain ⟨v_r377, h435, h⟩ := bind_some h
    by_cases h436 : v_r377 = true
    · rw [if_pos h436] at h
      obtain ⟨v_r378, h437, h⟩ := bind_some h
      obtain ⟨v_r379, h438, h⟩ := bind_some h
      cases h
      exact pkk_sound TTok mix hF 2 (hs := [.fz 6, .c, .c, .r (eS_api_Cred v_r374), .r (eB v_r375), .t true, .c, .c, .c, .c, .c, .r (eS_api_Cred v_r376), .c, .r (eB v_r377), .t true, .c, .c, .c, .c, .c, .r (eS_api_Cred v_r378), .c, .r (eB v_r379)]) (ts := []) (s := []) (l := [4]) (by kernel_rfl) (by kernel_rfl) (.cons (G_ringlaw5_pick_ok n 1 v_c1 _ h431) (.cons (G_ringref5_SameCred_ok n v_r65.1 v_r374 _ h432) (.cons h433 (.cons (G_ringlaw5_pick_ok n v_z344 (S_api_Cred.mk v_n2 v_c1.fGroup v_c1.fMore 0 v_c1.fLevel v_c1.fKind) _ h434) (.cons (G_ringref5_SameCred_ok n v_r71.1 v_r376 _ h435) (.cons h436 (.cons (G_ringlaw5_pick_ok n v_z345 (S_api_Cred.mk v_c1.fUser v_c1.fGroup v_z359 v_c1.fCaps v_c1.fLevel v_c1.fKind) _ h437) (.cons (G_ringref5_SameCred_ok n v_r149.1 v_r378 _ h438) .nil)))))))) q
    · rw [if_neg h436] at h
      cases h
      exact pkk_sound TTok mix hF 2 (hs := [.fz 6, .c, .c, .r (eS_api_Cred v_r374), .r (eB v_r375), .t true, .c, .c, .c, .c, .c, .r (eS_api_Cred v_r376), .c, .r (eB v_r377), .t false, .c, .c, .c, .c]) (ts := []) (s := []) (l := [4]) (by kernel_rfl) (by kernel_rfl) (.cons (G_ringlaw5_pick_ok n 1 v_c1 _ h431) (.cons (G_ringref5_SameCred_ok n v_r65.1 v_r374 _ h432) (.cons h433 (.cons (G_ringlaw5_pick_ok n v_z344 (S_api_Cred.mk v_n2 v_c1.fGroup v_c1.fMore 0 v_c1.fLevel v_c1.fKind) _ h434) (.cons (G_ringref5_SameCred_ok n v_r71.1 v_r376 _ h435) (.cons (vf h436) .nil)))))) q
  · rw [if_neg h433] at h
    cases h
    exact pkk_sound TTok mix hF 2 (hs := [.fz 6, .c, .c, .r (eS_api_Cred v_r374), .r (eB v_r375), .t false, .c, .c, .c, .c, .c, .c, .c, .c, .c]) (ts := []) (s := []) (l := [4]) (by kernel_rfl) (by kernel_rfl) (.cons (G_ringlaw5_pick_ok n 1 v_c1 _ h431) (.cons (G_ringref5_SameCred_ok n v_r65.1 v_r374 _ h432) (.cons (vf h433) .nil))) q
inductive G_ringlaw5_CredSays_C10_R where
  | x0 (v_x385 : Bool) (v_w386 : (List Int))
def G_ringlaw5_CredSays_C10_ex : G_ringlaw5_CredSays_C10_R → Ex
  | .x0 _ _ => .normal
def G_ringlaw5_CredSays_C10_st (v_n2 : Int) (v_r51 : (Bool × Int)) (v_r65 : (S_api_Cred × Int)) (v_r71 : (S_api_Cred × Int)) (v_r149 : (S_api_Cred × Int)) (v_z344 : Int) (v_z345 : Int) (v_c1 : S_api_Cred) (v_z346 : (List Int)) : G_ringlaw5_CredSays_C10_R → PS
  | .x0 v_x385 v_w386 => ⟨[dd, dd, dd, dd, dd, dd, dd, dd, dd, .ref 0 0, dd, .ref 1 0, dd, .ref 2 0, dd, dd, dd, dd, .ref 3 0, .ref 4 0, .ref 5 0, .d (.v (.int .i64 1)), .d (.v (.int .i64 v_z344)), .d (.v (.int .i64 v_z345)), dd, dd, dd, dd, dd, dd, dd, dd, dd, dd, dd, dd, dd, dd, dd, dd, dd, dd, dd, dd, dd, dd, dd, dd, dd, dd, dd, dd, dd, dd, dd, dd, dd, dd, dd, dd, dd, dd, dd, dd, dd, dd, dd, dd, dd, dd, dd, dd, dd, dd, dd, dd, dd, dd, dd, dd, dd, dd, dd, dd, dd, dd, dd, dd, dd, dd, dd, dd, dd, dd, dd, dd, dd, dd, dd, dd, dd, dd, dd, dd, dd, dd, dd, dd, dd, dd, dd, dd, dd, dd, dd, dd, dd, dd, dd, dd, dd, dd, dd, dd, dd, dd, dd, dd, dd, dd, dd, dd, dd, dd, dd, dd, dd, dd, dd, dd, dd, dd, dd, dd, dd, dd, dd, dd, dd, dd, dd, dd, dd, dd, dd, dd, dd, dd, dd, dd, dd, dd, dd, dd, dd, dd, dd, dd, dd, dd, dd, dd, dd, dd, dd, dd, dd, dd, dd, dd, dd, dd, dd, dd, dd, dd, dd, dd, dd, dd, dd, dd, dd, dd, dd, dd, dd, dd, dd, dd, dd, dd, dd, dd, dd, dd, dd, dd, dd, dd, dd, dd, dd, .d (.v (.bool v_x385)), dd, dd, dd, dd, dd, dd, dd, dd, dd, dd, dd, dd, dd, dd, dd, dd, dd, dd, dd], [.box [.d (.v (.int .i64 v_r65.1.fUser)), .d (.v (.int .i64 v_r65.1.fGroup)), .d (.sl (v_r65.1.fMore.map (eI .i64))), .d (.v (.int .i64 v_r65.1.fCaps)), .d (.v (.int .i64 v_r65.1.fLevel)), .d (.v (.int .i64 v_r65.1.fKind))], .box [.d (.v (.int .i64 v_r71.1.fUser)), .d (.v (.int .i64 v_r71.1.fGroup)), .d (.sl (v_r71.1.fMore.map (eI .i64))), .d (.v (.int .i64 v_r71.1.fCaps)), .d (.v (.int .i64 v_r71.1.fLevel)), .d (.v (.int .i64 v_r71.1.fKind))], .box [.d (.v (.int .i64 v_r149.1.fUser)), .d (.v (.int .i64 v_r149.1.fGroup)), .d (.sl (v_r149.1.fMore.map (eI .i64))), .d (.v (.int .i64 v_r149.1.fCaps)), .d (.v (.int .i64 v_r149.1.fLevel)), .d (.v (.int .i64 v_r149.1.fKind))], .box [.d (.v (.int .i64 v_c1.fUser)), .d (.v (.int .i64 v_c1.fGroup)), .d (.sl (v_c1.fMore.map (eI .i64))), .d (.v (.int .i64 v_c1.fCaps)), .d (.v (.int .i64 v_c1.fLevel)), .d (.v (.int .i64 v_c1.fKind))], .box [.d (.v (.int .i64 v_n2)), .d (.v (.int .i64 v_c1.fGroup)), .d (.sl (v_c1.fMore.map (eI .i64))), .d (.v (.int .i64 v_c1.fCaps)), .d (.v (.int .i64 v_c1.fLevel)), .d (.v (.int .i64 v_c1.fKind))], .box [.d (.v (.int .i64 v_c1.fUser)), .d (.v (.int .i64 v_c1.fGroup)), .srf 6, .d (.v (.int .i64 v_c1.fCaps)), .d (.v (.int .i64 v_c1.fLevel)), .d (.v (.int .i64 v_c1.fKind))], .row 3 1 (v_w386.map (eI .i64))]⟩
def G_ringlaw5_CredSays_C10_hd (v_n2 : Int) (v_r51 : (Bool × Int)) (v_r65 : (S_api_Cred × Int)) (v_r71 : (S_api_Cred × Int)) (v_r149 : (S_api_Cred × Int)) (v_z344 : Int) (v_z345 : Int) (v_c1 : S_api_Cred) (v_z346 : (List Int))  : PS := ⟨[dd, .d (.v (.int .i64 v_n2)), .ref 0 0, dd, dd, dd, dd, .d (.v (.bool v_r51.1)), .d (.v (.int .i64 v_r51.2)), .ref 1 0, .d (.v (.int .i64 v_r65.2)), .ref 2 0, .d (.v (.int .i64 v_r71.2)), .ref 3 0, .d (.v (.int .i64 v_r149.2)), dd, dd, dd, .ref 4 0, .ref 5 0, .ref 6 0, .d (.v (.int .i64 1)), .d (.v (.int .i64 v_z344)), .d (.v (.int .i64 v_z345)), dd, dd, dd, dd, dd, dd, dd, dd, dd, dd, dd, dd, dd, dd, dd, dd, dd, dd, dd, dd, dd, dd, dd, dd, dd, dd, dd, dd, dd, dd, dd, dd, dd, dd, dd, dd, dd, dd, dd, dd, dd, dd, dd, dd, dd, dd, dd, dd, dd, dd, dd, dd, dd, dd, dd, dd, dd, dd, dd, dd, dd, dd, dd, dd, dd, dd, dd, dd, dd, dd, dd, dd, dd, dd, dd, dd, dd, dd, dd, dd, dd, dd, dd, dd, dd, dd, dd, dd, dd, dd, dd, dd, dd, dd, dd, dd, dd, dd, dd, dd, dd, dd, dd, dd, dd, dd, dd, dd, dd, dd, dd, dd, dd, dd, dd, dd, dd, dd, dd, dd, dd, dd, dd, dd, dd, dd, dd, dd, dd, dd, dd, dd, dd, dd, dd, dd, dd, dd, dd, dd, dd, dd, dd, dd, dd, dd, dd, dd, dd, dd, dd, dd, dd, dd, dd, dd, dd, dd, dd, dd, dd, dd, dd, dd, dd, dd, dd, dd, dd, dd, dd, dd, dd, dd, dd, dd, dd, dd, dd, dd, dd, dd, dd, dd, dd, dd, dd, dd, dd, dd, dd, dd, dd, dd, dd, dd, dd, dd, dd, dd, dd, dd, dd, dd, dd, dd, dd, dd, dd], [.box [.d (.v (.int .i64 v_c1.fUser)), .d (.v (.int .i64 v_c1.fGroup)), .d (.sl (v_c1.fMore.map (eI .i64))), .d (.v (.int .i64 v_c1.fCaps)), .d (.v (.int .i64 v_c1.fLevel)), .d (.v (.int .i64 v_c1.fKind))], .box [.d (.v (.int .i64 v_r65.1.fUser)), .d (.v (.int .i64 v_r65.1.fGroup)), .d (.sl (v_r65.1.fMore.map (eI .i64))), .d (.v (.int .i64 v_r65.1.fCaps)), .d (.v (.int .i64 v_r65.1.fLevel)), .d (.v (.int .i64 v_r65.1.fKind))], .box [.d (.v (.int .i64 v_r71.1.fUser)), .d (.v (.int .i64 v_r71.1.fGroup)), .d (.sl (v_r71.1.fMore.map (eI .i64))), .d (.v (.int .i64 v_r71.1.fCaps)), .d (.v (.int .i64 v_r71.1.fLevel)), .d (.v (.int .i64 v_r71.1.fKind))], .box [.d (.v (.int .i64 v_r149.1.fUser)), .d (.v (.int .i64 v_r149.1.fGroup)), .d (.sl (v_r149.1.fMore.map (eI .i64))), .d (.v (.int .i64 v_r149.1.fCaps)), .d (.v (.int .i64 v_r149.1.fLevel)), .d (.v (.int .i64 v_r149.1.fKind))], .box [.d (.v (.int .i64 v_c1.fUser)), .d (.v (.int .i64 v_c1.fGroup)), .d (.sl (v_c1.fMore.map (eI .i64))), .d (.v (.int .i64 v_c1.fCaps)), .d (.v (.int .i64 v_c1.fLevel)), .d (.v (.int .i64 v_c1.fKind))], .box [.d (.v (.int .i64 v_n2)), .d (.v (.int .i64 v_c1.fGroup)), .d (.sl (v_c1.fMore.map (eI .i64))), .d (.v (.int .i64 v_c1.fCaps)), .d (.v (.int .i64 v_c1.fLevel)), .d (.v (.int .i64 v_c1.fKind))], .box [.d (.v (.int .i64 v_c1.fUser)), .d (.v (.int .i64 v_c1.fGroup)), .srf 7, .d (.v (.int .i64 v_c1.fCaps)), .d (.v (.int .i64 v_c1.fLevel)), .d (.v (.int .i64 v_c1.fKind))], .row 3 1 (v_z346.map (eI .i64))]⟩
def G_ringlaw5_CredSays_C10 (n : Nat) (v_n2 : Int) (v_r51 : (Bool × Int)) (v_r65 : (S_api_Cred × Int)) (v_r71 : (S_api_Cred × Int)) (v_r149 : (S_api_Cred × Int)) (v_z344 : Int) (v_z345 : Int) (v_c1 : S_api_Cred) (v_z346 : (List Int)) : Option G_ringlaw5_CredSays_C10_R :=
  if v_r51.2 = 1 then
   if (eqRes .neq (v_r51.1 == false)) = true then
    some (.x0 true v_z346)
   else
    if v_r65.2 = 1 then
     if v_r71.2 = v_z344 then
      some (.x0 (v_r149.2 != v_z345) v_z346)
     else
      some (.x0 true v_z346)
    else
     some (.x0 true v_z346)
  else
   some (.x0 true v_z346)
theorem G_ringlaw5_CredSays_C10_ok {Fi : Ex → PS → Prop} (hF : KC 233 Fi) (ks : List Fr) (n : Nat) (v_n2 : Int) (v_r51 : (Bool × Int)) (v_r65 : (S_api_Cred × Int)) (v_r71 : (S_api_Cred × Int)) (v_r149 : (S_api_Cred × Int)) (v_z344 : Int) (v_z345 : Int) (v_c1 : S_api_Cred) (v_z346 : (List Int))  (o : G_ringlaw5_CredSays_C10_R) (h : G_ringlaw5_CredSays_C10 n v_n2 v_r51 v_r65 v_r71 v_r149 v_z344 v_z345 v_c1 v_z346 = some o) (q : RunE Try.prog 233 Fi ks (G_ringlaw5_CredSays_C10_ex o) (G_ringlaw5_CredSays_C10_st v_n2 v_r51 v_r65 v_r71 v_r149 v_z344 v_z345 v_c1 v_z346 o)) : RunE Try.prog 233 Fi (.s (cL (cL (cR (cR (cR (cR (cR (cR (cR (cR (cR (cR (cR (cR (cR (cR (cR (cR (cR (bodyOf Try.f3)))))))))))))))))))) :: ks) .normal (G_ringlaw5_CredSays_C10_hd v_n2 v_r51 v_r65 v_r71 v_r149 v_z344 v_z345 v_c1 v_z346) := by
  unfold G_ringlaw5_CredSays_C10 at h
  by_cases h444 : v_r51.2 = 1
  · rw [if_pos h444] at h
    by_cases h445 : (eqRes .neq (v_r51.1 == false)) = true
    · rw [if_pos h445] at h
      cases h
      exact pkk_sound TTok mix hF 1 (hs := [.t false, .c, .c, .c, .c, .c, .c, .c, .c, .c, .c, .c, .c, .t true, .c, .c, .c, .c, .c, .c, .c, .c]) (ts := []) (s := [1, 2, 3, 4, 5, 6, 7]) (l := [9, 11, 13, 18, 19, 20, 21, 22, 23, 213]) (by kernel_rfl) (by kernel_rfl) (.cons (nf h444) (.cons h445 .nil)) q
    · rw [if_neg h445] at h
      by_cases h446 : v_r65.2 = 1
      · rw [if_pos h446] at h
        by_cases h447 : v_r71.2 = v_z344
        · rw [if_pos h447] at h
          cases h
          exact pkk_sound TTok mix hF 1 (hs := [.t false, .c, .c, .c, .c, .c, .c, .c, .c, .c, .c, .c, .c, .t false, .c, .c, .t false, .c, .c, .t false, .c, .c]) (ts := []) (s := [1, 2, 3, 4, 5, 6, 7]) (l := [9, 11, 13, 18, 19, 20, 21, 22, 23, 213]) (by kernel_rfl) (by kernel_rfl) (.cons (nf h444) (.cons (vf h445) (.cons (nf h446) (.cons (nf h447) .nil)))) q
        · rw [if_neg h447] at h
          cases h
          exact pkk_sound TTok mix hF 1 (hs := [.t false, .c, .c, .c, .c, .c, .c, .c, .c, .c, .c, .c, .c, .t false, .c, .c, .t false, .c, .c, .t true, .c, .c]) (ts := []) (s := [1, 2, 3, 4, 5, 6, 7]) (l := [9, 11, 13, 18, 19, 20, 21, 22, 23, 213]) (by kernel_rfl) (by kernel_rfl) (.cons (nf h444) (.cons (vf h445) (.cons (nf h446) (.cons (nt h447) .nil)))) q
      · rw [if_neg h446] at h
        cases h
        exact pkk_sound TTok mix hF 1 (hs := [.t false, .c, .c, .c, .c, .c, .c, .c, .c, .c, .c, .c, .c, .t false, .c, .c, .t true, .c, .c, .c, .c, .c]) (ts := []) (s := [1, 2, 3, 4, 5, 6, 7]) (l := [9, 11, 13, 18, 19, 20, 21, 22, 23, 213]) (by kernel_rfl) (by kernel_rfl) (.cons (nf h444) (.cons (vf h445) (.cons (nt h446) .nil))) q
  · rw [if_neg h444] at h
    cases h
    exact pkk_sound TTok mix hF 1 (hs := [.t true, .c, .c, .c, .c, .c, .c, .c, .c, .c, .c, .c, .c, .c, .c]) (ts := []) (s := [1, 2, 3, 4, 5, 6, 7]) (l := [9, 11, 13, 18, 19, 20, 21, 22, 23, 213]) (by kernel_rfl) (by kernel_rfl) (.cons (nt h444) .nil) q
inductive G_ringlaw5_CredSays_C11_R where
  | x0 (v_x418 : Bool)
def G_ringlaw5_CredSays_C11_ex : G_ringlaw5_CredSays_C11_R → Ex
  | .x0 _ => .normal
def G_ringlaw5_CredSays_C11_st (v_z344 : Int) (v_z345 : Int) (v_r65 : (S_api_Cred × Int)) (v_r71 : (S_api_Cred × Int)) (v_r149 : (S_api_Cred × Int)) (v_c1 : S_api_Cred) (v_n2 : Int) (v_z397 : (List Int)) : G_ringlaw5_CredSays_C11_R → PS
  | .x0 v_x418 => ⟨[dd, dd, dd, dd, .d (.v (.bool v_x418)), dd, dd, dd, dd, dd, dd, dd, dd, dd, dd, dd, dd, dd, dd, dd, dd, dd, dd, dd, dd, dd, dd, dd, dd, dd, dd, dd, dd, dd, dd, dd, dd, dd, dd, dd, dd, dd, dd, dd, dd, dd, dd, dd, dd, dd, dd, dd, dd, dd, dd, dd, dd, dd, dd, dd, dd, dd, dd, dd, dd, dd, dd, dd, dd, dd, dd, dd, dd, dd, dd, dd, dd, dd, dd, dd, dd, dd, dd, dd, dd, dd, dd, dd, dd, dd, dd, dd, dd, dd, dd, dd, dd, dd, dd, dd, dd, dd, dd, dd, dd, dd, dd, dd, dd, dd, dd, dd, dd, dd, dd, dd, dd, dd, dd, dd, dd, dd, dd, dd, dd, dd, dd, dd, dd, dd, dd, dd, dd, dd, dd, dd, dd, dd, dd, dd, dd, dd, dd, dd, dd, dd, dd, dd, dd, dd, dd, dd, dd, dd, dd, dd, dd, dd, dd, dd, dd, dd, dd, dd, dd, dd, dd, dd, dd, dd, dd, dd, dd, dd, dd, dd, dd, dd, dd, dd, dd, dd, dd, dd, dd, dd, dd, dd, dd, dd, dd, dd, dd, dd, dd, dd, dd, dd, dd, dd, dd, dd, dd, dd, dd, dd, dd, dd, dd, dd, dd, dd, dd, dd, dd, dd, dd, dd, dd, dd, dd, dd, dd, dd, dd, dd, dd, dd, dd, dd, dd, dd, dd], []⟩
def G_ringlaw5_CredSays_C11_hd (v_z344 : Int) (v_z345 : Int) (v_r65 : (S_api_Cred × Int)) (v_r71 : (S_api_Cred × Int)) (v_r149 : (S_api_Cred × Int)) (v_c1 : S_api_Cred) (v_n2 : Int) (v_z397 : (List Int))  : PS := ⟨[dd, dd, dd, dd, dd, dd, dd, dd, dd, .ref 0 0, dd, .ref 1 0, dd, .ref 2 0, dd, dd, dd, dd, .ref 3 0, .ref 4 0, .ref 5 0, .d (.v (.int .i64 1)), .d (.v (.int .i64 v_z344)), .d (.v (.int .i64 v_z345)), dd, dd, dd, dd, dd, dd, dd, dd, dd, dd, dd, dd, dd, dd, dd, dd, dd, dd, dd, dd, dd, dd, dd, dd, dd, dd, dd, dd, dd, dd, dd, dd, dd, dd, dd, dd, dd, dd, dd, dd, dd, dd, dd, dd, dd, dd, dd, dd, dd, dd, dd, dd, dd, dd, dd, dd, dd, dd, dd, dd, dd, dd, dd, dd, dd, dd, dd, dd, dd, dd, dd, dd, dd, dd, dd, dd, dd, dd, dd, dd, dd, dd, dd, dd, dd, dd, dd, dd, dd, dd, dd, dd, dd, dd, dd, dd, dd, dd, dd, dd, dd, dd, dd, dd, dd, dd, dd, dd, dd, dd, dd, dd, dd, dd, dd, dd, dd, dd, dd, dd, dd, dd, dd, dd, dd, dd, dd, dd, dd, dd, dd, dd, dd, dd, dd, dd, dd, dd, dd, dd, dd, dd, dd, dd, dd, dd, dd, dd, dd, dd, dd, dd, dd, dd, dd, dd, dd, dd, dd, dd, dd, dd, dd, dd, dd, dd, dd, dd, dd, dd, dd, dd, dd, dd, dd, dd, dd, dd, dd, dd, dd, dd, dd, dd, dd, dd, dd, dd, dd, dd, dd, dd, dd, dd, dd, dd, dd, dd, dd, dd, dd, dd, dd, dd, dd, dd, dd, dd, dd], [.box [.d (.v (.int .i64 v_r65.1.fUser)), .d (.v (.int .i64 v_r65.1.fGroup)), .d (.sl (v_r65.1.fMore.map (eI .i64))), .d (.v (.int .i64 v_r65.1.fCaps)), .d (.v (.int .i64 v_r65.1.fLevel)), .d (.v (.int .i64 v_r65.1.fKind))], .box [.d (.v (.int .i64 v_r71.1.fUser)), .d (.v (.int .i64 v_r71.1.fGroup)), .d (.sl (v_r71.1.fMore.map (eI .i64))), .d (.v (.int .i64 v_r71.1.fCaps)), .d (.v (.int .i64 v_r71.1.fLevel)), .d (.v (.int .i64 v_r71.1.fKind))], .box [.d (.v (.int .i64 v_r149.1.fUser)), .d (.v (.int .i64 v_r149.1.fGroup)), .d (.sl (v_r149.1.fMore.map (eI .i64))), .d (.v (.int .i64 v_r149.1.fCaps)), .d (.v (.int .i64 v_r149.1.fLevel)), .d (.v (.int .i64 v_r149.1.fKind))], .box [.d (.v (.int .i64 v_c1.fUser)), .d (.v (.int .i64 v_c1.fGroup)), .d (.sl (v_c1.fMore.map (eI .i64))), .d (.v (.int .i64 v_c1.fCaps)), .d (.v (.int .i64 v_c1.fLevel)), .d (.v (.int .i64 v_c1.fKind))], .box [.d (.v (.int .i64 v_n2)), .d (.v (.int .i64 v_c1.fGroup)), .d (.sl (v_c1.fMore.map (eI .i64))), .d (.v (.int .i64 v_c1.fCaps)), .d (.v (.int .i64 v_c1.fLevel)), .d (.v (.int .i64 v_c1.fKind))], .box [.d (.v (.int .i64 v_c1.fUser)), .d (.v (.int .i64 v_c1.fGroup)), .srf 6, .d (.v (.int .i64 v_c1.fCaps)), .d (.v (.int .i64 v_c1.fLevel)), .d (.v (.int .i64 v_c1.fKind))], .row 3 1 (v_z397.map (eI .i64))]⟩
def G_ringlaw5_CredSays_C11 (n : Nat) (v_z344 : Int) (v_z345 : Int) (v_r65 : (S_api_Cred × Int)) (v_r71 : (S_api_Cred × Int)) (v_r149 : (S_api_Cred × Int)) (v_c1 : S_api_Cred) (v_n2 : Int) (v_z397 : (List Int)) : Option G_ringlaw5_CredSays_C11_R :=
  (G_ringlaw5_pick n 1 v_c1).bind fun (v_r412 : (S_api_Cred)) =>
  (G_ringref5_SameCred n v_r65.1 v_r412).bind fun (v_r413 : (Bool)) =>
  if v_r413 = true then
   (G_ringlaw5_pick n v_z344 (S_api_Cred.mk v_n2 v_c1.fGroup v_c1.fMore v_c1.fCaps v_c1.fLevel v_c1.fKind)).bind fun (v_r414 : (S_api_Cred)) =>
   (G_ringref5_SameCred n v_r71.1 v_r414).bind fun (v_r415 : (Bool)) =>
   if v_r415 = true then
    (G_ringlaw5_pick n v_z345 (S_api_Cred.mk v_c1.fUser v_c1.fGroup v_z397 v_c1.fCaps v_c1.fLevel v_c1.fKind)).bind fun (v_r416 : (S_api_Cred)) =>
    (G_ringref5_SameCred n v_r149.1 v_r416).bind fun (v_r417 : (Bool)) =>
    some (.x0 v_r417)
   else
    some (.x0 false)
  else
   some (.x0 false)
theorem G_ringlaw5_CredSays_C11_ok {Fi : Ex → PS → Prop} (hF : KC 233 Fi) (ks : List Fr) (n : Nat) (v_z344 : Int) (v_z345 : Int) (v_r65 : (S_api_Cred × Int)) (v_r71 : (S_api_Cred × Int)) (v_r149 : (S_api_Cred × Int)) (v_c1 : S_api_Cred) (v_n2 : Int) (v_z397 : (List Int))  (o : G_ringlaw5_CredSays_C11_R) (h : G_ringlaw5_CredSays_C11 n v_z344 v_z345 v_r65 v_r71 v_r149 v_c1 v_n2 v_z397 = some o) (q : RunE Try.prog 233 Fi ks (G_ringlaw5_CredSays_C11_ex o) (G_ringlaw5_CredSays_C11_st v_z344 v_z345 v_r65 v_r71 v_r149 v_c1 v_n2 v_z397 o)) : RunE Try.prog 233 Fi (.s (cL (cR (cR (cR (cR (cR (cR (cR (cR (cR (cR (cR (cR (cR (cR (cR (cR (cR (cR (bodyOf Try.f3)))))))))))))))))))) :: ks) .normal (G_ringlaw5_CredSays_C11_hd v_z344 v_z345 v_r65 v_r71 v_r149 v_c1 v_n2 v_z397) := by
  unfold G_ringlaw5_CredSays_C11 at h
  obtain ⟨v_r412, h470, h⟩ := bind_some h
  obtain ⟨v_r413, h471, h⟩ := bind_some h
  by_cases h472 : v_r413 = true
  · rw [if_pos h472] at h
    obtain ⟨v_r414, h473, h⟩ := bind_some h
    obtain ⟨v_r415, h474, h⟩ := bind_some h
    by_cases h475 : v_r415 = true
    · rw [if_pos h475] at h
      obtain ⟨v_r416, h476, h⟩ := bind_some h
      obtain ⟨v_r417, h477, h⟩ := bind_some h
      cases h
      exact pkk_sound TTok mix hF 2 (hs := [.fz 6, .c, .c, .r (eS_api_Cred v_r412), .r (eB v_r413), .t true, .c, .c, .c, .c, .c, .r (eS_api_Cred v_r414), .c, .r (eB v_r415), .t true, .c, .c, .c, .c, .c, .r (eS_api_Cred v_r416), .c, .r (eB v_r417)]) (ts := []) (s := []) (l := [4]) (by kernel_rfl) (by kernel_rfl) (.cons (G_ringlaw5_pick_ok n 1 v_c1 _ h470) (.cons (G_ringref5_SameCred_ok n v_r65.1 v_r412 _ h471) (.cons h472 (.cons (G_ringlaw5_pick_ok n v_z344 (S_api_Cred.mk v_n2 v_c1.fGroup v_c1.fMore v_c1.fCaps v_c1.fLevel v_c1.fKind) _ h473) (.cons (G_ringref5_SameCred_ok n v_r71.1 v_r414 _ h474) (.cons h475 (.cons (G_ringlaw5_pick_ok n v_z345 (S_api_Cred.mk v_c1.fUser v_c1.fGroup v_z397 v_c1.fCaps v_c1.fLevel v_c1.fKind) _ h476) (.cons (G_ringref5_SameCred_ok n v_r149.1 v_r416 _ h477) .nil)))))))) q
    · rw [if_neg h475] at h
      cases h
      exact pkk_sound TTok mix hF 2 (hs := [.fz 6, .c, .c, .r (eS_api_Cred v_r412), .r (eB v_r413), .t true, .c, .c, .c, .c, .c, .r (eS_api_Cred v_r414), .c, .r (eB v_r415), .t false, .c, .c, .c, .c]) (ts := []) (s := []) (l := [4]) (by kernel_rfl) (by kernel_rfl) (.cons (G_ringlaw5_pick_ok n 1 v_c1 _ h470) (.cons (G_ringref5_SameCred_ok n v_r65.1 v_r412 _ h471) (.cons h472 (.cons (G_ringlaw5_pick_ok n v_z344 (S_api_Cred.mk v_n2 v_c1.fGroup v_c1.fMore v_c1.fCaps v_c1.fLevel v_c1.fKind) _ h473) (.cons (G_ringref5_SameCred_ok n v_r71.1 v_r414 _ h474) (.cons (vf h475) .nil)))))) q
  · rw [if_neg h472] at h
    cases h
    exact pkk_sound TTok mix hF 2 (hs := [.fz 6, .c, .c, .r (eS_api_Cred v_r412), .r (eB v_r413), .t false, .c, .c, .c, .c, .c, .c, .c, .c, .c]) (ts := []) (s := []) (l := [4]) (by kernel_rfl) (by kernel_rfl) (.cons (G_ringlaw5_pick_ok n 1 v_c1 _ h470) (.cons (G_ringref5_SameCred_ok n v_r65.1 v_r412 _ h471) (.cons (vf h472) .nil))) q
inductive G_ringlaw5_CredSays_C12_R where
  | x0 (v_wantD423 : Int)
  | x1 (v_wantD424 : Int)
def G_ringlaw5_CredSays_C12_ex : G_ringlaw5_CredSays_C12_R → Ex
  | .x0 _ => .normal
  | .x1 _ => .normal
def G_ringlaw5_CredSays_C12_st (v_n2 : Int) (v_r51 : (Bool × Int)) (v_r65 : (S_api_Cred × Int)) (v_r71 : (S_api_Cred × Int)) (v_r149 : (S_api_Cred × Int)) (v_r233 : (Bool)) (v_c1 : S_api_Cred) : G_ringlaw5_CredSays_C12_R → PS
  | .x0 v_wantD423 => ⟨[dd, .d (.v (.int .i64 v_n2)), .ref 0 0, dd, dd, dd, dd, .d (.v (.bool v_r51.1)), .d (.v (.int .i64 v_r51.2)), .ref 1 0, .d (.v (.int .i64 v_r65.2)), .ref 2 0, .d (.v (.int .i64 v_r71.2)), .ref 3 0, .d (.v (.int .i64 v_r149.2)), dd, dd, .d (.v (.bool v_r233)), .ref 4 0, .ref 5 0, .ref 6 0, .d (.v (.int .i64 v_wantD423)), .d (.v (.int .i64 0)), .d (.v (.int .i64 0)), dd, dd, dd, dd, dd, dd, dd, dd, dd, dd, dd, dd, dd, dd, dd, dd, dd, dd, dd, dd, dd, dd, dd, dd, dd, dd, dd, dd, dd, dd, dd, dd, dd, dd, dd, dd, dd, dd, dd, dd, dd, dd, dd, dd, dd, dd, dd, dd, dd, dd, dd, dd, dd, dd, dd, dd, dd, dd, dd, dd, dd, dd, dd, dd, dd, dd, dd, dd, dd, dd, dd, dd, dd, dd, dd, dd, dd, dd, dd, dd, dd, dd, dd, dd, dd, dd, dd, dd, dd, dd, dd, dd, dd, dd, dd, dd, dd, dd, dd, dd, dd, dd, dd, dd, dd, dd, dd, dd, dd, dd, dd, dd, dd, dd, dd, dd, dd, dd, dd, dd, dd, dd, dd, dd, dd, dd, dd, dd, dd, dd, dd, dd, dd, dd, dd, dd, dd, dd, dd, dd, dd, dd, dd, dd, dd, dd, dd, dd, dd, dd, dd, dd, dd, dd, dd, dd, dd, dd, dd, dd, dd, dd, dd, dd, dd, dd, dd, dd, dd, dd, dd, dd, dd, dd, dd, dd, dd, dd, dd, dd, dd, dd, dd, dd, dd, dd, dd, dd, dd, dd, dd, dd, dd, dd, dd, dd, dd, dd, dd, dd, dd, dd, dd, dd, dd, dd, dd, dd, dd], [.box [.d (.v (.int .i64 v_c1.fUser)), .d (.v (.int .i64 v_c1.fGroup)), .d (.sl (v_c1.fMore.map (eI .i64))), .d (.v (.int .i64 v_c1.fCaps)), .d (.v (.int .i64 v_c1.fLevel)), .d (.v (.int .i64 v_c1.fKind))], .box [.d (.v (.int .i64 v_r65.1.fUser)), .d (.v (.int .i64 v_r65.1.fGroup)), .d (.sl (v_r65.1.fMore.map (eI .i64))), .d (.v (.int .i64 v_r65.1.fCaps)), .d (.v (.int .i64 v_r65.1.fLevel)), .d (.v (.int .i64 v_r65.1.fKind))], .box [.d (.v (.int .i64 v_r71.1.fUser)), .d (.v (.int .i64 v_r71.1.fGroup)), .d (.sl (v_r71.1.fMore.map (eI .i64))), .d (.v (.int .i64 v_r71.1.fCaps)), .d (.v (.int .i64 v_r71.1.fLevel)), .d (.v (.int .i64 v_r71.1.fKind))], .box [.d (.v (.int .i64 v_r149.1.fUser)), .d (.v (.int .i64 v_r149.1.fGroup)), .d (.sl (v_r149.1.fMore.map (eI .i64))), .d (.v (.int .i64 v_r149.1.fCaps)), .d (.v (.int .i64 v_r149.1.fLevel)), .d (.v (.int .i64 v_r149.1.fKind))], .box [.d (.v (.int .i64 v_c1.fUser)), .d (.v (.int .i64 v_c1.fGroup)), .d (.sl (v_c1.fMore.map (eI .i64))), .d (.v (.int .i64 v_c1.fCaps)), .d (.v (.int .i64 v_c1.fLevel)), .d (.v (.int .i64 v_c1.fKind))], .box [.d (.v (.int .i64 v_c1.fUser)), .d (.v (.int .i64 v_c1.fGroup)), .d (.sl (v_c1.fMore.map (eI .i64))), .d (.v (.int .i64 v_c1.fCaps)), .d (.v (.int .i64 v_c1.fLevel)), .d (.v (.int .i64 v_c1.fKind))], .box [.d (.v (.int .i64 v_c1.fUser)), .d (.v (.int .i64 v_c1.fGroup)), .d (.sl (v_c1.fMore.map (eI .i64))), .d (.v (.int .i64 v_c1.fCaps)), .d (.v (.int .i64 v_c1.fLevel)), .d (.v (.int .i64 v_c1.fKind))]]⟩
  | .x1 v_wantD424 => ⟨[dd, .d (.v (.int .i64 v_n2)), .ref 0 0, dd, dd, dd, dd, .d (.v (.bool v_r51.1)), .d (.v (.int .i64 v_r51.2)), .ref 1 0, .d (.v (.int .i64 v_r65.2)), .ref 2 0, .d (.v (.int .i64 v_r71.2)), .ref 3 0, .d (.v (.int .i64 v_r149.2)), dd, dd, .d (.v (.bool v_r233)), .ref 4 0, .ref 5 0, .ref 6 0, .d (.v (.int .i64 v_wantD424)), .d (.v (.int .i64 0)), .d (.v (.int .i64 0)), dd, dd, dd, dd, dd, dd, dd, dd, dd, dd, dd, dd, dd, dd, dd, dd, dd, dd, dd, dd, dd, dd, dd, dd, dd, dd, dd, dd, dd, dd, dd, dd, dd, dd, dd, dd, dd, dd, dd, dd, dd, dd, dd, dd, dd, dd, dd, dd, dd, dd, dd, dd, dd, dd, dd, dd, dd, dd, dd, dd, dd, dd, dd, dd, dd, dd, dd, dd, dd, dd, dd, dd, dd, dd, dd, dd, dd, dd, dd, dd, dd, dd, dd, dd, dd, dd, dd, dd, dd, dd, dd, dd, dd, dd, dd, dd, dd, dd, dd, dd, dd, dd, dd, dd, dd, dd, dd, dd, dd, dd, dd, dd, dd, dd, dd, dd, dd, dd, dd, dd, dd, dd, dd, dd, dd, dd, dd, dd, dd, dd, dd, dd, dd, dd, dd, dd, dd, dd, dd, dd, dd, dd, dd, dd, dd, dd, dd, dd, dd, dd, dd, dd, dd, dd, dd, dd, dd, dd, dd, dd, dd, dd, dd, dd, dd, dd, dd, dd, dd, dd, dd, dd, dd, dd, dd, dd, dd, dd, dd, dd, dd, dd, dd, dd, dd, dd, dd, dd, dd, dd, dd, dd, dd, dd, dd, dd, dd, dd, dd, dd, dd, dd, dd, dd, dd, dd, dd, dd, dd], [.box [.d (.v (.int .i64 v_c1.fUser)), .d (.v (.int .i64 v_c1.fGroup)), .d (.sl (v_c1.fMore.map (eI .i64))), .d (.v (.int .i64 v_c1.fCaps)), .d (.v (.int .i64 v_c1.fLevel)), .d (.v (.int .i64 v_c1.fKind))], .box [.d (.v (.int .i64 v_r65.1.fUser)), .d (.v (.int .i64 v_r65.1.fGroup)), .d (.sl (v_r65.1.fMore.map (eI .i64))), .d (.v (.int .i64 v_r65.1.fCaps)), .d (.v (.int .i64 v_r65.1.fLevel)), .d (.v (.int .i64 v_r65.1.fKind))], .box [.d (.v (.int .i64 v_r71.1.fUser)), .d (.v (.int .i64 v_r71.1.fGroup)), .d (.sl (v_r71.1.fMore.map (eI .i64))), .d (.v (.int .i64 v_r71.1.fCaps)), .d (.v (.int .i64 v_r71.1.fLevel)), .d (.v (.int .i64 v_r71.1.fKind))], .box [.d (.v (.int .i64 v_r149.1.fUser)), .d (.v (.int .i64 v_r149.1.fGroup)), .d (.sl (v_r149.1.fMore.map (eI .i64))), .d (.v (.int .i64 v_r149.1.fCaps)), .d (.v (.int .i64 v_r149.1.fLevel)), .d (.v (.int .i64 v_r149.1.fKind))], .box [.d (.v (.int .i64 v_c1.fUser)), .d (.v (.int .i64 v_c1.fGroup)), .d (.sl (v_c1.fMore.map (eI .i64))), .d (.v (.int .i64 (wi .i64 (v_c1.fCaps - (bits .and .i64 v_c1.fCaps v_n2))))), .d (.v (.int .i64 v_c1.fLevel)), .d (.v (.int .i64 v_c1.fKind))], .box [.d (.v (.int .i64 v_c1.fUser)), .d (.v (.int .i64 v_c1.fGroup)), .d (.sl (v_c1.fMore.map (eI .i64))), .d (.v (.int .i64 v_c1.fCaps)), .d (.v (.int .i64 v_c1.fLevel)), .d (.v (.int .i64 v_c1.fKind))], .box [.d (.v (.int .i64 v_c1.fUser)), .d (.v (.int .i64 v_c1.fGroup)), .d (.sl (v_c1.fMore.map (eI .i64))), .d (.v (.int .i64 v_c1.fCaps)), .d (.v (.int .i64 v_c1.fLevel)), .d (.v (.int .i64 v_c1.fKind))]]⟩
def G_ringlaw5_CredSays_C12_hd (v_n2 : Int) (v_r51 : (Bool × Int)) (v_r65 : (S_api_Cred × Int)) (v_r71 : (S_api_Cred × Int)) (v_r149 : (S_api_Cred × Int)) (v_r233 : (Bool)) (v_c1 : S_api_Cred)  : PS := ⟨[dd, .d (.v (.int .i64 v_n2)), .ref 0 0, dd, dd, dd, dd, .d (.v (.bool v_r51.1)), .d (.v (.int .i64 v_r51.2)), .ref 1 0, .d (.v (.int .i64 v_r65.2)), .ref 2 0, .d (.v (.int .i64 v_r71.2)), .ref 3 0, .d (.v (.int .i64 v_r149.2)), dd, dd, .d (.v (.bool v_r233)), .ref 4 0, .ref 5 0, .ref 6 0, .d (.v (.int .i64 0)), .d (.v (.int .i64 0)), .d (.v (.int .i64 0)), dd, dd, dd, dd, dd, dd, dd, dd, dd, dd, dd, dd, dd, dd, dd, dd, dd, dd, dd, dd, dd, dd, dd, dd, dd, dd, dd, dd, dd, dd, dd, dd, dd, dd, dd, dd, dd, dd, dd, dd, dd, dd, dd, dd, dd, dd, dd, dd, dd, dd, dd, dd, dd, dd, dd, dd, dd, dd, dd, dd, dd, dd, dd, dd, dd, dd, dd, dd, dd, dd, dd, dd, dd, dd, dd, dd, dd, dd, dd, dd, dd, dd, dd, dd, dd, dd, dd, dd, dd, dd, dd, dd, dd, dd, dd, dd, dd, dd, dd, dd, dd, dd, dd, dd, .d (.v (.bool (decide (v_n2 > 127)))), dd, dd, dd, dd, dd, dd, dd, dd, dd, dd, dd, dd, dd, dd, dd, dd, dd, dd, dd, dd, dd, dd, dd, dd, dd, dd, dd, dd, dd, dd, dd, dd, dd, dd, dd, dd, dd, dd, dd, dd, dd, dd, dd, dd, dd, dd, dd, dd, dd, dd, dd, dd, dd, dd, dd, dd, dd, dd, dd, dd, dd, dd, dd, dd, dd, dd, dd, dd, dd, dd, dd, dd, dd, dd, dd, dd, dd, dd, dd, dd, dd, dd, dd, dd, dd, dd, dd, dd, dd, dd, dd, dd, dd, dd, dd, dd, dd, dd, dd, dd, dd, dd, dd, dd], [.box [.d (.v (.int .i64 v_c1.fUser)), .d (.v (.int .i64 v_c1.fGroup)), .d (.sl (v_c1.fMore.map (eI .i64))), .d (.v (.int .i64 v_c1.fCaps)), .d (.v (.int .i64 v_c1.fLevel)), .d (.v (.int .i64 v_c1.fKind))], .box [.d (.v (.int .i64 v_r65.1.fUser)), .d (.v (.int .i64 v_r65.1.fGroup)), .d (.sl (v_r65.1.fMore.map (eI .i64))), .d (.v (.int .i64 v_r65.1.fCaps)), .d (.v (.int .i64 v_r65.1.fLevel)), .d (.v (.int .i64 v_r65.1.fKind))], .box [.d (.v (.int .i64 v_r71.1.fUser)), .d (.v (.int .i64 v_r71.1.fGroup)), .d (.sl (v_r71.1.fMore.map (eI .i64))), .d (.v (.int .i64 v_r71.1.fCaps)), .d (.v (.int .i64 v_r71.1.fLevel)), .d (.v (.int .i64 v_r71.1.fKind))], .box [.d (.v (.int .i64 v_r149.1.fUser)), .d (.v (.int .i64 v_r149.1.fGroup)), .d (.sl (v_r149.1.fMore.map (eI .i64))), .d (.v (.int .i64 v_r149.1.fCaps)), .d (.v (.int .i64 v_r149.1.fLevel)), .d (.v (.int .i64 v_r149.1.fKind))], .box [.d (.v (.int .i64 v_c1.fUser)), .d (.v (.int .i64 v_c1.fGroup)), .d (.sl (v_c1.fMore.map (eI .i64))), .d (.v (.int .i64 v_c1.fCaps)), .d (.v (.int .i64 v_c1.fLevel)), .d (.v (.int .i64 v_c1.fKind))], .box [.d (.v (.int .i64 v_c1.fUser)), .d (.v (.int .i64 v_c1.fGroup)), .d (.sl (v_c1.fMore.map (eI .i64))), .d (.v (.int .i64 v_c1.fCaps)), .d (.v (.int .i64 v_c1.fLevel)), .d (.v (.int .i64 v_c1.fKind))], .box [.d (.v (.int .i64 v_c1.fUser)), .d (.v (.int .i64 v_c1.fGroup)), .d (.sl (v_c1.fMore.map (eI .i64))), .d (.v (.int .i64 v_c1.fCaps)), .d (.v (.int .i64 v_c1.fLevel)), .d (.v (.int .i64 v_c1.fKind))]]⟩
def G_ringlaw5_CredSays_C12 (n : Nat) (v_n2 : Int) (v_r51 : (Bool × Int)) (v_r65 : (S_api_Cred × Int)) (v_r71 : (S_api_Cred × Int)) (v_r149 : (S_api_Cred × Int)) (v_r233 : (Bool)) (v_c1 : S_api_Cred) : Option G_ringlaw5_CredSays_C12_R :=
  if v_n2 > 127 then
   some (.x0 1)
  else
   some (.x1 0)
theorem G_ringlaw5_CredSays_C12_ok {Fi : Ex → PS → Prop} (hF : KC 233 Fi) (ks : List Fr) (n : Nat) (v_n2 : Int) (v_r51 : (Bool × Int)) (v_r65 : (S_api_Cred × Int)) (v_r71 : (S_api_Cred × Int)) (v_r149 : (S_api_Cred × Int)) (v_r233 : (Bool)) (v_c1 : S_api_Cred)  (o : G_ringlaw5_CredSays_C12_R) (h : G_ringlaw5_CredSays_C12 n v_n2 v_r51 v_r65 v_r71 v_r149 v_r233 v_c1 = some o) (q : RunE Try.prog 233 Fi ks (G_ringlaw5_CredSays_C12_ex o) (G_ringlaw5_CredSays_C12_st v_n2 v_r51 v_r65 v_r71 v_r149 v_r233 v_c1 o)) : RunE Try.prog 233 Fi (.s (cR (cL (cR (cR (cR (cR (cR (cR (cR (cR (cR (cR (cR (cR (cR (cR (bodyOf Try.f3))))))))))))))))) :: ks) .normal (G_ringlaw5_CredSays_C12_hd v_n2 v_r51 v_r65 v_r71 v_r149 v_r233 v_c1) := by
  unfold G_ringlaw5_CredSays_C12 at h
  by_cases h480 : v_n2 > 127
  · rw [if_pos h480] at h
    cases h
    exact pkk_sound TTok mix hF 2 (hs := [.t true]) (ts := []) (s := [0, 1, 2, 3, 4, 5, 6]) (l := [1, 2, 7, 8, 9, 10, 11, 12, 13, 14, 17, 18, 19, 20, 21, 22, 23]) (by kernel_rfl) (by kernel_rfl) (.cons (dt h480) .nil) q
  · rw [if_neg h480] at h
    cases h
    exact pkk_sound TTok mix hF 2 (hs := [.t false, .c, .c, .c]) (ts := []) (s := [0, 1, 2, 3, 4, 5, 6]) (l := [1, 2, 7, 8, 9, 10, 11, 12, 13, 14, 17, 18, 19, 20, 21, 22, 23]) (by kernel_rfl) (by kernel_rfl) (.cons (df h480) (.cons (show 3 + 1 ≤ 6 by decide) .nil)) q
inductive G_ringlaw5_CredSays_C13_R where
  | x0 (v_wantB457 : Int) (v_wantJ458 : Int)
  | x1 (v_wantB468 : Int) (v_wantJ469 : Int) (v_w470 : (List Int))
def G_ringlaw5_CredSays_C13_ex : G_ringlaw5_CredSays_C13_R → Ex
  | .x0 _ _ => .normal
  | .x1 _ _ _ => .normal
def G_ringlaw5_CredSays_C13_st (v_n2 : Int) (v_r51 : (Bool × Int)) (v_r65 : (S_api_Cred × Int)) (v_r71 : (S_api_Cred × Int)) (v_r149 : (S_api_Cred × Int)) (v_r233 : (Bool)) (v_z426 : Int) (v_c1 : S_api_Cred) : G_ringlaw5_CredSays_C13_R → PS
  | .x0 v_wantB457 v_wantJ458 => ⟨[dd, .d (.v (.int .i64 v_n2)), .ref 0 0, dd, dd, dd, dd, .d (.v (.bool v_r51.1)), .d (.v (.int .i64 v_r51.2)), .ref 1 0, .d (.v (.int .i64 v_r65.2)), .ref 2 0, .d (.v (.int .i64 v_r71.2)), .ref 3 0, .d (.v (.int .i64 v_r149.2)), dd, dd, dd, .ref 4 0, .ref 5 0, .ref 6 0, .d (.v (.int .i64 v_z426)), .d (.v (.int .i64 v_wantB457)), .d (.v (.int .i64 v_wantJ458)), dd, dd, dd, dd, dd, dd, dd, dd, dd, dd, dd, dd, dd, dd, dd, dd, dd, dd, dd, dd, dd, dd, dd, dd, dd, dd, dd, dd, dd, dd, dd, dd, dd, dd, dd, dd, dd, dd, dd, dd, dd, dd, dd, dd, dd, dd, dd, dd, dd, dd, dd, dd, dd, dd, dd, dd, dd, dd, dd, dd, dd, dd, dd, dd, dd, dd, dd, dd, dd, dd, dd, dd, dd, dd, dd, dd, dd, dd, dd, dd, dd, dd, dd, dd, dd, dd, dd, dd, dd, dd, dd, dd, dd, dd, dd, dd, dd, dd, dd, dd, dd, dd, dd, dd, dd, dd, dd, dd, dd, dd, dd, dd, dd, dd, dd, dd, dd, dd, dd, dd, dd, dd, dd, dd, dd, dd, dd, dd, dd, dd, dd, dd, dd, dd, dd, dd, dd, dd, dd, dd, dd, dd, dd, dd, dd, dd, dd, dd, dd, dd, dd, dd, dd, dd, dd, dd, dd, dd, dd, dd, dd, dd, dd, dd, dd, dd, dd, dd, dd, dd, dd, dd, dd, dd, dd, dd, dd, dd, dd, dd, dd, dd, dd, dd, dd, dd, dd, dd, dd, dd, dd, dd, dd, dd, dd, dd, dd, dd, dd, dd, dd, dd, dd, dd, dd, dd, dd, dd, dd], [.box [.d (.v (.int .i64 v_c1.fUser)), .d (.v (.int .i64 v_c1.fGroup)), .d (.sl (v_c1.fMore.map (eI .i64))), .d (.v (.int .i64 v_c1.fCaps)), .d (.v (.int .i64 v_c1.fLevel)), .d (.v (.int .i64 v_c1.fKind))], .box [.d (.v (.int .i64 v_r65.1.fUser)), .d (.v (.int .i64 v_r65.1.fGroup)), .d (.sl (v_r65.1.fMore.map (eI .i64))), .d (.v (.int .i64 v_r65.1.fCaps)), .d (.v (.int .i64 v_r65.1.fLevel)), .d (.v (.int .i64 v_r65.1.fKind))], .box [.d (.v (.int .i64 v_r71.1.fUser)), .d (.v (.int .i64 v_r71.1.fGroup)), .d (.sl (v_r71.1.fMore.map (eI .i64))), .d (.v (.int .i64 v_r71.1.fCaps)), .d (.v (.int .i64 v_r71.1.fLevel)), .d (.v (.int .i64 v_r71.1.fKind))], .box [.d (.v (.int .i64 v_r149.1.fUser)), .d (.v (.int .i64 v_r149.1.fGroup)), .d (.sl (v_r149.1.fMore.map (eI .i64))), .d (.v (.int .i64 v_r149.1.fCaps)), .d (.v (.int .i64 v_r149.1.fLevel)), .d (.v (.int .i64 v_r149.1.fKind))], .box [.d (.v (.int .i64 v_c1.fUser)), .d (.v (.int .i64 v_c1.fGroup)), .d (.sl (v_c1.fMore.map (eI .i64))), .d (.v (.int .i64 v_c1.fCaps)), .d (.v (.int .i64 v_c1.fLevel)), .d (.v (.int .i64 v_c1.fKind))], .box [.d (.v (.int .i64 v_c1.fUser)), .d (.v (.int .i64 v_c1.fGroup)), .d (.sl (v_c1.fMore.map (eI .i64))), .d (.v (.int .i64 v_c1.fCaps)), .d (.v (.int .i64 v_c1.fLevel)), .d (.v (.int .i64 v_c1.fKind))], .box [.d (.v (.int .i64 v_c1.fUser)), .d (.v (.int .i64 v_c1.fGroup)), .d (.sl (v_c1.fMore.map (eI .i64))), .d (.v (.int .i64 v_c1.fCaps)), .d (.v (.int .i64 v_c1.fLevel)), .d (.v (.int .i64 v_c1.fKind))]]⟩
  | .x1 v_wantB468 v_wantJ469 v_w470 => ⟨[dd, .d (.v (.int .i64 v_n2)), .ref 0 0, dd, dd, dd, dd, .d (.v (.bool v_r51.1)), .d (.v (.int .i64 v_r51.2)), .ref 1 0, .d (.v (.int .i64 v_r65.2)), .ref 2 0, .d (.v (.int .i64 v_r71.2)), .ref 3 0, .d (.v (.int .i64 v_r149.2)), dd, dd, dd, .ref 4 0, .ref 5 0, .ref 6 0, .d (.v (.int .i64 v_z426)), .d (.v (.int .i64 v_wantB468)), .d (.v (.int .i64 v_wantJ469)), dd, dd, dd, dd, dd, dd, dd, dd, dd, dd, dd, dd, dd, dd, dd, dd, dd, dd, dd, dd, dd, dd, dd, dd, dd, dd, dd, dd, dd, dd, dd, dd, dd, dd, dd, dd, dd, dd, dd, dd, dd, dd, dd, dd, dd, dd, dd, dd, dd, dd, dd, dd, dd, dd, dd, dd, dd, dd, dd, dd, dd, dd, dd, dd, dd, dd, dd, dd, dd, dd, dd, dd, dd, dd, dd, dd, dd, dd, dd, dd, dd, dd, dd, dd, dd, dd, dd, dd, dd, dd, dd, dd, dd, dd, dd, dd, dd, dd, dd, dd, dd, dd, dd, dd, dd, dd, dd, dd, dd, dd, dd, dd, dd, dd, dd, dd, dd, dd, dd, dd, dd, dd, dd, dd, dd, dd, dd, dd, dd, dd, dd, dd, dd, dd, dd, dd, dd, dd, dd, dd, dd, dd, dd, dd, dd, dd, dd, dd, dd, dd, dd, dd, dd, dd, dd, dd, dd, dd, dd, dd, dd, dd, dd, dd, dd, dd, dd, dd, dd, dd, dd, dd, dd, dd, dd, dd, dd, dd, dd, dd, dd, dd, dd, dd, dd, dd, dd, dd, dd, dd, dd, dd, dd, dd, dd, dd, dd, dd, dd, dd, dd, dd, dd, dd, dd, dd, dd, dd, dd], [.box [.d (.v (.int .i64 v_c1.fUser)), .d (.v (.int .i64 v_c1.fGroup)), .d (.sl (v_c1.fMore.map (eI .i64))), .d (.v (.int .i64 v_c1.fCaps)), .d (.v (.int .i64 v_c1.fLevel)), .d (.v (.int .i64 v_c1.fKind))], .box [.d (.v (.int .i64 v_r65.1.fUser)), .d (.v (.int .i64 v_r65.1.fGroup)), .d (.sl (v_r65.1.fMore.map (eI .i64))), .d (.v (.int .i64 v_r65.1.fCaps)), .d (.v (.int .i64 v_r65.1.fLevel)), .d (.v (.int .i64 v_r65.1.fKind))], .box [.d (.v (.int .i64 v_r71.1.fUser)), .d (.v (.int .i64 v_r71.1.fGroup)), .d (.sl (v_r71.1.fMore.map (eI .i64))), .d (.v (.int .i64 v_r71.1.fCaps)), .d (.v (.int .i64 v_r71.1.fLevel)), .d (.v (.int .i64 v_r71.1.fKind))], .box [.d (.v (.int .i64 v_r149.1.fUser)), .d (.v (.int .i64 v_r149.1.fGroup)), .d (.sl (v_r149.1.fMore.map (eI .i64))), .d (.v (.int .i64 v_r149.1.fCaps)), .d (.v (.int .i64 v_r149.1.fLevel)), .d (.v (.int .i64 v_r149.1.fKind))], .box [.d (.v (.int .i64 v_c1.fUser)), .d (.v (.int .i64 v_c1.fGroup)), .d (.sl (v_c1.fMore.map (eI .i64))), .d (.v (.int .i64 v_c1.fCaps)), .d (.v (.int .i64 v_c1.fLevel)), .d (.v (.int .i64 v_c1.fKind))], .box [.d (.v (.int .i64 v_c1.fUser)), .d (.v (.int .i64 v_c1.fGroup)), .d (.sl (v_c1.fMore.map (eI .i64))), .d (.v (.int .i64 v_c1.fCaps)), .d (.v (.int .i64 v_c1.fLevel)), .d (.v (.int .i64 v_c1.fKind))], .box [.d (.v (.int .i64 v_c1.fUser)), .d (.v (.int .i64 v_c1.fGroup)), .srf 7, .d (.v (.int .i64 v_c1.fCaps)), .d (.v (.int .i64 v_c1.fLevel)), .d (.v (.int .i64 v_c1.fKind))], .row 3 1 (v_w470.map (eI .i64))]⟩
def G_ringlaw5_CredSays_C13_hd (v_n2 : Int) (v_r51 : (Bool × Int)) (v_r65 : (S_api_Cred × Int)) (v_r71 : (S_api_Cred × Int)) (v_r149 : (S_api_Cred × Int)) (v_r233 : (Bool)) (v_z426 : Int) (v_c1 : S_api_Cred)  : PS := ⟨[dd, .d (.v (.int .i64 v_n2)), .ref 0 0, dd, dd, dd, dd, .d (.v (.bool v_r51.1)), .d (.v (.int .i64 v_r51.2)), .ref 1 0, .d (.v (.int .i64 v_r65.2)), .ref 2 0, .d (.v (.int .i64 v_r71.2)), .ref 3 0, .d (.v (.int .i64 v_r149.2)), dd, dd, .d (.v (.bool v_r233)), .ref 4 0, .ref 5 0, .ref 6 0, .d (.v (.int .i64 v_z426)), .d (.v (.int .i64 0)), .d (.v (.int .i64 0)), dd, dd, dd, dd, dd, dd, dd, dd, dd, dd, dd, dd, dd, dd, dd, dd, dd, dd, dd, dd, dd, dd, dd, dd, dd, dd, dd, dd, dd, dd, dd, dd, dd, dd, dd, dd, dd, dd, dd, dd, dd, dd, dd, dd, dd, dd, dd, dd, dd, dd, dd, dd, dd, dd, dd, dd, dd, dd, dd, dd, dd, dd, dd, dd, dd, dd, dd, dd, dd, dd, dd, dd, dd, dd, dd, dd, dd, dd, dd, dd, dd, dd, dd, dd, dd, dd, dd, dd, dd, dd, dd, dd, dd, dd, dd, dd, dd, dd, dd, dd, dd, dd, dd, dd, dd, dd, dd, dd, dd, dd, dd, dd, dd, .d (.v (.bool (decide (v_n2 > 99)))), dd, dd, dd, dd, dd, dd, dd, dd, dd, dd, dd, dd, dd, dd, dd, dd, dd, dd, dd, dd, dd, dd, dd, dd, dd, dd, dd, dd, dd, dd, dd, dd, dd, dd, dd, dd, dd, dd, dd, dd, dd, dd, dd, dd, dd, dd, dd, dd, dd, dd, dd, dd, dd, dd, dd, dd, dd, dd, dd, dd, dd, dd, dd, dd, dd, dd, dd, dd, dd, dd, dd, dd, dd, dd, dd, dd, dd, dd, dd, dd, dd, dd, dd, dd, dd, dd, dd, dd, dd, dd, dd, dd, dd, dd, dd], [.box [.d (.v (.int .i64 v_c1.fUser)), .d (.v (.int .i64 v_c1.fGroup)), .d (.sl (v_c1.fMore.map (eI .i64))), .d (.v (.int .i64 v_c1.fCaps)), .d (.v (.int .i64 v_c1.fLevel)), .d (.v (.int .i64 v_c1.fKind))], .box [.d (.v (.int .i64 v_r65.1.fUser)), .d (.v (.int .i64 v_r65.1.fGroup)), .d (.sl (v_r65.1.fMore.map (eI .i64))), .d (.v (.int .i64 v_r65.1.fCaps)), .d (.v (.int .i64 v_r65.1.fLevel)), .d (.v (.int .i64 v_r65.1.fKind))], .box [.d (.v (.int .i64 v_r71.1.fUser)), .d (.v (.int .i64 v_r71.1.fGroup)), .d (.sl (v_r71.1.fMore.map (eI .i64))), .d (.v (.int .i64 v_r71.1.fCaps)), .d (.v (.int .i64 v_r71.1.fLevel)), .d (.v (.int .i64 v_r71.1.fKind))], .box [.d (.v (.int .i64 v_r149.1.fUser)), .d (.v (.int .i64 v_r149.1.fGroup)), .d (.sl (v_r149.1.fMore.map (eI .i64))), .d (.v (.int .i64 v_r149.1.fCaps)), .d (.v (.int .i64 v_r149.1.fLevel)), .d (.v (.int .i64 v_r149.1.fKind))], .box [.d (.v (.int .i64 v_c1.fUser)), .d (.v (.int .i64 v_c1.fGroup)), .d (.sl (v_c1.fMore.map (eI .i64))), .d (.v (.int .i64 v_c1.fCaps)), .d (.v (.int .i64 v_c1.fLevel)), .d (.v (.int .i64 v_c1.fKind))], .box [.d (.v (.int .i64 v_c1.fUser)), .d (.v (.int .i64 v_c1.fGroup)), .d (.sl (v_c1.fMore.map (eI .i64))), .d (.v (.int .i64 v_c1.fCaps)), .d (.v (.int .i64 v_c1.fLevel)), .d (.v (.int .i64 v_c1.fKind))], .box [.d (.v (.int .i64 v_c1.fUser)), .d (.v (.int .i64 v_c1.fGroup)), .d (.sl (v_c1.fMore.map (eI .i64))), .d (.v (.int .i64 v_c1.fCaps)), .d (.v (.int .i64 v_c1.fLevel)), .d (.v (.int .i64 v_c1.fKind))]]⟩
def G_ringlaw5_CredSays_C13 (n : Nat) (v_n2 : Int) (v_r51 : (Bool × Int)) (v_r65 : (S_api_Cred × Int)) (v_r71 : (S_api_Cred × Int)) (v_r149 : (S_api_Cred × Int)) (v_r233 : (Bool)) (v_z426 : Int) (v_c1 : S_api_Cred) : Option G_ringlaw5_CredSays_C13_R :=
  if v_n2 > 99 then
   some (.x0 1 1)
  else
   if (remI (quoI .i64 v_c1.fCaps 8) 2) = 0 then
    if v_n2 = v_c1.fUser then
     some (.x0 0 7)
    else
     some (.x0 7 7)
   else
    if v_r233 = true then
     some (.x0 0 0)
    else
     if (v_c1.fMore.length : Int) = 4 then
      some (.x0 0 6)
     else
      (G_slices_Clone_int_int n v_c1.fMore).bind fun (v_r465 : ((List Int))) =>
      (app 8 v_r465 ([v_n2])).bind fun (v_a466 : (List Int)) =>
      (G_slices_Sort_int_int_h n v_a466).bind fun (v_r467 : ((List Int))) =>
      some (.x1 0 0 v_r467)
theorem G_ringlaw5_CredSays_C13_ok {Fi : Ex → PS → Prop} (hF : KC 233 Fi) (ks : List Fr) (n : Nat) (v_n2 : Int) (v_r51 : (Bool × Int)) (v_r65 : (S_api_Cred × Int)) (v_r71 : (S_api_Cred × Int)) (v_r149 : (S_api_Cred × Int)) (v_r233 : (Bool)) (v_z426 : Int) (v_c1 : S_api_Cred)  (o : G_ringlaw5_CredSays_C13_R) (h : G_ringlaw5_CredSays_C13 n v_n2 v_r51 v_r65 v_r71 v_r149 v_r233 v_z426 v_c1 = some o) (q : RunE Try.prog 233 Fi ks (G_ringlaw5_CredSays_C13_ex o) (G_ringlaw5_CredSays_C13_st v_n2 v_r51 v_r65 v_r71 v_r149 v_r233 v_z426 v_c1 o)) : RunE Try.prog 233 Fi (.s (cR (cB (cL (cR (cR (cR (cR (cR (cR (cR (cR (cR (cR (cR (cR (cR (cR (cR (bodyOf Try.f3))))))))))))))))))) :: ks) .normal (G_ringlaw5_CredSays_C13_hd v_n2 v_r51 v_r65 v_r71 v_r149 v_r233 v_z426 v_c1) := by
  unfold G_ringlaw5_CredSays_C13 at h
  by_cases h518 : v_n2 > 99
  · rw [if_pos h518] at h
    cases h
    exact pkk_sound TTok mix hF 2 (hs := [.t true]) (ts := []) (s := [0, 1, 2, 3, 4, 5, 6]) (l := [1, 2, 7, 8, 9, 10, 11, 12, 13, 14, 18, 19, 20, 21, 22, 23]) (by kernel_rfl) (by kernel_rfl) (.cons (dt h518) .nil) q
  · rw [if_neg h518] at h
    by_cases h521 : (remI (quoI .i64 v_c1.fCaps 8) 2) = 0
    · rw [if_pos h521] at h
      by_cases h522 : v_n2 = v_c1.fUser
      · rw [if_pos h522] at h
        cases h
        exact pkk_sound TTok mix hF 10 (hs := [.t false, .c, .t true, .c, .t false]) (ts := []) (s := [0, 1, 2, 3, 4, 5, 6]) (l := [1, 2, 7, 8, 9, 10, 11, 12, 13, 14, 18, 19, 20, 21, 22, 23]) (by kernel_rfl) (by kernel_rfl) (.cons (df h518) (.cons (show (8 : Int) ≠ 0 by decide) (.cons (show (2 : Int) ≠ 0 by decide) (.cons (bt h521) (.cons (nf h522) .nil))))) q
      · rw [if_neg h522] at h
        cases h
        exact pkk_sound TTok mix hF 10 (hs := [.t false, .c, .t true, .c, .t true]) (ts := []) (s := [0, 1, 2, 3, 4, 5, 6]) (l := [1, 2, 7, 8, 9, 10, 11, 12, 13, 14, 18, 19, 20, 21, 22, 23]) (by kernel_rfl) (by kernel_rfl) (.cons (df h518) (.cons (show (8 : Int) ≠ 0 by decide) (.cons (show (2 : Int) ≠ 0 by decide) (.cons (bt h521) (.cons (nt h522) .nil))))) q
    · rw [if_neg h521] at h
      by_cases h524 : v_r233 = true
      · rw [if_pos h524] at h
        cases h
        exact pkk_sound TTok mix hF 11 (hs := [.t false, .c, .t false, .t false, .c, .c, .c, .c, .t false]) (ts := []) (s := [0, 1, 2, 3, 4, 5, 6]) (l := [1, 2, 7, 8, 9, 10, 11, 12, 13, 14, 18, 19, 20, 21, 22, 23]) (by kernel_rfl) (by kernel_rfl) (.cons (df h518) (.cons (show (8 : Int) ≠ 0 by decide) (.cons (show (2 : Int) ≠ 0 by decide) (.cons (bf h521) (.cons (bnf h524) (.cons (bnf h524) .nil)))))) q
      · rw [if_neg h524] at h
        by_cases h525 : (v_c1.fMore.length : Int) = 4
        · rw [if_pos h525] at h
          cases h
          exact pkk_sound TTok mix hF 8 (hs := [.t false, .c, .t false, .t true, .c, .c, .c, .u (.d (.v (.int .i64 (v_c1.fMore.length : Int)))), .c, .t true]) (ts := []) (s := [0, 1, 2, 3, 4, 5, 6]) (l := [1, 2, 7, 8, 9, 10, 11, 12, 13, 14, 18, 19, 20, 21, 22, 23]) (by kernel_rfl) (by kernel_rfl) (.cons (df h518) (.cons (show (8 : Int) ≠ 0 by decide) (.cons (show (2 : Int) ≠ 0 by decide) (.cons (bf h521) (.cons (bnt (vf h524)) (.cons (len_ob (f := (eI .i64)) (l := v_c1.fMore)) (.cons (bt h525) .nil))))))) q
        · rw [if_neg h525] at h
          obtain ⟨v_r465, h526, h⟩ := bind_some h
          obtain ⟨v_a466, h527, h⟩ := bind_some h
          obtain ⟨v_r467, h528, h⟩ := bind_some h
          cases h
          exact pkk_sound TTok mix hF 13 (hs := [.t false, .c, .t false, .t true, .c, .c, .c, .u (.d (.v (.int .i64 (v_c1.fMore.length : Int)))), .c, .t false, .t true, .c, .h [] [] [.row 3 1 (v_r465.map (eI .i64))] (.srf 0), .bd, .w (v_a466.map (eI .i64)), .c, .c, .h [76] [] [.row 3 1 (v_r467.map (eI .i64))] (.tup [])]) (ts := []) (s := [0, 1, 2, 3, 4, 5, 6, 76]) (l := [1, 2, 7, 8, 9, 10, 11, 12, 13, 14, 18, 19, 20, 21, 22, 23]) (by kernel_rfl) (by kernel_rfl) (.cons (df h518) (.cons (show (8 : Int) ≠ 0 by decide) (.cons (show (2 : Int) ≠ 0 by decide) (.cons (bf h521) (.cons (bnt (vf h524)) (.cons (len_ob (f := (eI .i64)) (l := v_c1.fMore)) (.cons (bf h525) (.cons (bnt (vf h524)) (.cons (G_slices_Clone_int_int_ok n v_c1.fMore _ h526) (.cons (app_ob (f := (eI .i64)) (s := 1) h527 (fun _ => rfl)).1 (.cons (app_ob (f := (eI .i64)) (s := 1) h527 (fun _ => rfl)).2.1 (.cons (app_ob (f := (eI .i64)) (s := 1) h527 (fun _ => rfl)).2.2.1 (.cons (app_ob (f := (eI .i64)) (s := 1) h527 (fun _ => rfl)).2.2.2 (.cons (show 2 + 1 ≤ 6 by decide) (.cons (G_slices_Sort_int_int_h_ok n v_a466 _ h528) .nil))))))))))))))) q
inductive G_ringlaw5_CredSays_C14_R where
  | x0 (v_wantB452 : Int) (v_wantJ453 : Int)
  | x1 (v_wantB481 : Int) (v_wantJ482 : Int) (v_w483 : (List Int))
def G_ringlaw5_CredSays_C14_ex : G_ringlaw5_CredSays_C14_R → Ex
  | .x0 _ _ => .normal
  | .x1 _ _ _ => .normal
def G_ringlaw5_CredSays_C14_st (v_n2 : Int) (v_r51 : (Bool × Int)) (v_r65 : (S_api_Cred × Int)) (v_r71 : (S_api_Cred × Int)) (v_r149 : (S_api_Cred × Int)) (v_r233 : (Bool)) (v_z426 : Int) (v_c1 : S_api_Cred) : G_ringlaw5_CredSays_C14_R → PS
  | .x0 v_wantB452 v_wantJ453 => ⟨[dd, .d (.v (.int .i64 v_n2)), .ref 0 0, dd, dd, dd, dd, .d (.v (.bool v_r51.1)), .d (.v (.int .i64 v_r51.2)), .ref 1 0, .d (.v (.int .i64 v_r65.2)), .ref 2 0, .d (.v (.int .i64 v_r71.2)), .ref 3 0, .d (.v (.int .i64 v_r149.2)), dd, dd, dd, .ref 4 0, .ref 5 0, .ref 6 0, .d (.v (.int .i64 v_z426)), .d (.v (.int .i64 v_wantB452)), .d (.v (.int .i64 v_wantJ453)), dd, dd, dd, dd, dd, dd, dd, dd, dd, dd, dd, dd, dd, dd, dd, dd, dd, dd, dd, dd, dd, dd, dd, dd, dd, dd, dd, dd, dd, dd, dd, dd, dd, dd, dd, dd, dd, dd, dd, dd, dd, dd, dd, dd, dd, dd, dd, dd, dd, dd, dd, dd, dd, dd, dd, dd, dd, dd, dd, dd, dd, dd, dd, dd, dd, dd, dd, dd, dd, dd, dd, dd, dd, dd, dd, dd, dd, dd, dd, dd, dd, dd, dd, dd, dd, dd, dd, dd, dd, dd, dd, dd, dd, dd, dd, dd, dd, dd, dd, dd, dd, dd, dd, dd, dd, dd, dd, dd, dd, dd, dd, dd, dd, dd, dd, dd, dd, dd, dd, dd, dd, dd, dd, dd, dd, dd, dd, dd, dd, dd, dd, dd, dd, dd, dd, dd, dd, dd, dd, dd, dd, dd, dd, dd, dd, dd, dd, dd, dd, dd, dd, dd, dd, dd, dd, dd, dd, dd, dd, dd, dd, dd, dd, dd, dd, dd, dd, dd, dd, dd, dd, dd, dd, dd, dd, dd, dd, dd, dd, dd, dd, dd, dd, dd, dd, dd, dd, dd, dd, dd, dd, dd, dd, dd, dd, dd, dd, dd, dd, dd, dd, dd, dd, dd, dd, dd, dd, dd, dd], [.box [.d (.v (.int .i64 v_c1.fUser)), .d (.v (.int .i64 v_c1.fGroup)), .d (.sl (v_c1.fMore.map (eI .i64))), .d (.v (.int .i64 v_c1.fCaps)), .d (.v (.int .i64 v_c1.fLevel)), .d (.v (.int .i64 v_c1.fKind))], .box [.d (.v (.int .i64 v_r65.1.fUser)), .d (.v (.int .i64 v_r65.1.fGroup)), .d (.sl (v_r65.1.fMore.map (eI .i64))), .d (.v (.int .i64 v_r65.1.fCaps)), .d (.v (.int .i64 v_r65.1.fLevel)), .d (.v (.int .i64 v_r65.1.fKind))], .box [.d (.v (.int .i64 v_r71.1.fUser)), .d (.v (.int .i64 v_r71.1.fGroup)), .d (.sl (v_r71.1.fMore.map (eI .i64))), .d (.v (.int .i64 v_r71.1.fCaps)), .d (.v (.int .i64 v_r71.1.fLevel)), .d (.v (.int .i64 v_r71.1.fKind))], .box [.d (.v (.int .i64 v_r149.1.fUser)), .d (.v (.int .i64 v_r149.1.fGroup)), .d (.sl (v_r149.1.fMore.map (eI .i64))), .d (.v (.int .i64 v_r149.1.fCaps)), .d (.v (.int .i64 v_r149.1.fLevel)), .d (.v (.int .i64 v_r149.1.fKind))], .box [.d (.v (.int .i64 v_c1.fUser)), .d (.v (.int .i64 v_c1.fGroup)), .d (.sl (v_c1.fMore.map (eI .i64))), .d (.v (.int .i64 v_c1.fCaps)), .d (.v (.int .i64 v_c1.fLevel)), .d (.v (.int .i64 v_c1.fKind))], .box [.d (.v (.int .i64 v_c1.fUser)), .d (.v (.int .i64 v_c1.fGroup)), .d (.sl (v_c1.fMore.map (eI .i64))), .d (.v (.int .i64 v_c1.fCaps)), .d (.v (.int .i64 v_c1.fLevel)), .d (.v (.int .i64 v_c1.fKind))], .box [.d (.v (.int .i64 v_c1.fUser)), .d (.v (.int .i64 v_c1.fGroup)), .d (.sl (v_c1.fMore.map (eI .i64))), .d (.v (.int .i64 v_c1.fCaps)), .d (.v (.int .i64 v_c1.fLevel)), .d (.v (.int .i64 v_c1.fKind))]]⟩
  | .x1 v_wantB481 v_wantJ482 v_w483 => ⟨[dd, .d (.v (.int .i64 v_n2)), .ref 0 0, dd, dd, dd, dd, .d (.v (.bool v_r51.1)), .d (.v (.int .i64 v_r51.2)), .ref 1 0, .d (.v (.int .i64 v_r65.2)), .ref 2 0, .d (.v (.int .i64 v_r71.2)), .ref 3 0, .d (.v (.int .i64 v_r149.2)), dd, dd, dd, .ref 4 0, .ref 5 0, .ref 6 0, .d (.v (.int .i64 v_z426)), .d (.v (.int .i64 v_wantB481)), .d (.v (.int .i64 v_wantJ482)), dd, dd, dd, dd, dd, dd, dd, dd, dd, dd, dd, dd, dd, dd, dd, dd, dd, dd, dd, dd, dd, dd, dd, dd, dd, dd, dd, dd, dd, dd, dd, dd, dd, dd, dd, dd, dd, dd, dd, dd, dd, dd, dd, dd, dd, dd, dd, dd, dd, dd, dd, dd, dd, dd, dd, dd, dd, dd, dd, dd, dd, dd, dd, dd, dd, dd, dd, dd, dd, dd, dd, dd, dd, dd, dd, dd, dd, dd, dd, dd, dd, dd, dd, dd, dd, dd, dd, dd, dd, dd, dd, dd, dd, dd, dd, dd, dd, dd, dd, dd, dd, dd, dd, dd, dd, dd, dd, dd, dd, dd, dd, dd, dd, dd, dd, dd, dd, dd, dd, dd, dd, dd, dd, dd, dd, dd, dd, dd, dd, dd, dd, dd, dd, dd, dd, dd, dd, dd, dd, dd, dd, dd, dd, dd, dd, dd, dd, dd, dd, dd, dd, dd, dd, dd, dd, dd, dd, dd, dd, dd, dd, dd, dd, dd, dd, dd, dd, dd, dd, dd, dd, dd, dd, dd, dd, dd, dd, dd, dd, dd, dd, dd, dd, dd, dd, dd, dd, dd, dd, dd, dd, dd, dd, dd, dd, dd, dd, dd, dd, dd, dd, dd, dd, dd, dd, dd, dd, dd, dd], [.box [.d (.v (.int .i64 v_c1.fUser)), .d (.v (.int .i64 v_c1.fGroup)), .d (.sl (v_c1.fMore.map (eI .i64))), .d (.v (.int .i64 v_c1.fCaps)), .d (.v (.int .i64 v_c1.fLevel)), .d (.v (.int .i64 v_c1.fKind))], .box [.d (.v (.int .i64 v_r65.1.fUser)), .d (.v (.int .i64 v_r65.1.fGroup)), .d (.sl (v_r65.1.fMore.map (eI .i64))), .d (.v (.int .i64 v_r65.1.fCaps)), .d (.v (.int .i64 v_r65.1.fLevel)), .d (.v (.int .i64 v_r65.1.fKind))], .box [.d (.v (.int .i64 v_r71.1.fUser)), .d (.v (.int .i64 v_r71.1.fGroup)), .d (.sl (v_r71.1.fMore.map (eI .i64))), .d (.v (.int .i64 v_r71.1.fCaps)), .d (.v (.int .i64 v_r71.1.fLevel)), .d (.v (.int .i64 v_r71.1.fKind))], .box [.d (.v (.int .i64 v_r149.1.fUser)), .d (.v (.int .i64 v_r149.1.fGroup)), .d (.sl (v_r149.1.fMore.map (eI .i64))), .d (.v (.int .i64 v_r149.1.fCaps)), .d (.v (.int .i64 v_r149.1.fLevel)), .d (.v (.int .i64 v_r149.1.fKind))], .box [.d (.v (.int .i64 v_c1.fUser)), .d (.v (.int .i64 v_c1.fGroup)), .d (.sl (v_c1.fMore.map (eI .i64))), .d (.v (.int .i64 v_c1.fCaps)), .d (.v (.int .i64 v_c1.fLevel)), .d (.v (.int .i64 v_c1.fKind))], .box [.d (.v (.int .i64 v_c1.fUser)), .d (.v (.int .i64 v_c1.fGroup)), .d (.sl (v_c1.fMore.map (eI .i64))), .d (.v (.int .i64 v_c1.fCaps)), .d (.v (.int .i64 v_c1.fLevel)), .d (.v (.int .i64 v_c1.fKind))], .box [.d (.v (.int .i64 v_c1.fUser)), .d (.v (.int .i64 v_c1.fGroup)), .srf 7, .d (.v (.int .i64 v_c1.fCaps)), .d (.v (.int .i64 v_c1.fLevel)), .d (.v (.int .i64 v_c1.fKind))], .row 3 1 (v_w483.map (eI .i64))]⟩

end Go.Proofs.Ytjjjaakefnnbpaa.pv
