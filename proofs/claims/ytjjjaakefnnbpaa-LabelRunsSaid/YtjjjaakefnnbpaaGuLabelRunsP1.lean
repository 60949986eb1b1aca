/- What the functions compute, as functions over plain data, with their contracts: written by gen.py. -/
import Derived.Test.YtjjjaakefnnbpaaProg
import Derived.Test.YtjjjaakefnnbpaaQr
import Derived.Test.YtjjjaakefnnbpaaSg
set_option maxRecDepth 100000
set_option linter.all false
namespace Go.Proofs.Ytjjjaakefnnbpaa.pv
open Go.RowKit
def TT : List TI := [
⟨1, 0, .oth, []⟩,
⟨1, 8, .oth, [.nf]⟩,
⟨1, 8, .int .i64, [.i .i64]⟩,
⟨1, 8, .int .i64, [.i .i64]⟩,
⟨1, 1, .bool, [.b]⟩,
⟨1, 1, .int .u8, [.i .u8]⟩,
⟨1, 1, .int .u8, [.i .u8]⟩,
⟨4, 24, .st [(0, 2), (1, 3), (2, 4), (3, 6)], [.i .i64, .i .i64, .b, .i .u8]⟩,
⟨4, 24, .st [(0, 2), (1, 3), (2, 4), (3, 6)], [.i .i64, .i .i64, .b, .i .u8]⟩,
⟨1, 16, .str, [.s]⟩,
⟨1, 16, .str, [.s]⟩,
⟨1, 16, .str, [.s]⟩,
⟨1, 8, .int .u64, [.i .u64]⟩,
⟨2, 24, .st [(0, 9), (1, 12)], [.s, .i .u64]⟩,
⟨2, 24, .st [(0, 9), (1, 12)], [.s, .i .u64]⟩,
⟨1, 8, .ptr 333, [.np]⟩,
⟨1, 8, .ptr 336, [.np]⟩,
⟨1, 8, .ptr 343, [.np]⟩,
⟨1, 8, .st [(0, 17)], [.np]⟩,
⟨1, 8, .st [(0, 17)], [.np]⟩,
⟨1, 16, .oth, [.ni]⟩,
⟨1, 4, .int .i32, [.i .i32]⟩,
⟨1, 24, .sl 3, [.sl]⟩,
⟨6, 64, .st [(0, 3), (1, 3), (2, 22), (3, 3), (4, 3), (5, 3)], [.i .i64, .i .i64, .sl, .i .i64, .i .i64, .i .i64]⟩,
⟨6, 64, .st [(0, 3), (1, 3), (2, 22), (3, 3), (4, 3), (5, 3)], [.i .i64, .i .i64, .sl, .i .i64, .i .i64, .i .i64]⟩,
⟨1, 8, .int .i64, [.i .i64]⟩,
⟨1, 0, .oth, []⟩,
⟨1, 8, .oth, [.nf]⟩,
⟨1, 0, .oth, []⟩,
⟨1, 8, .oth, [.nf]⟩,
⟨1, 8, .oth, [.nf]⟩,
⟨1, 8, .oth, [.nf]⟩,
⟨1, 8, .oth, [.nf]⟩,
⟨1, 8, .oth, [.nf]⟩,
⟨1, 8, .oth, [.nf]⟩,
⟨1, 8, .oth, [.nf]⟩,
⟨1, 8, .oth, [.nf]⟩,
⟨1, 8, .oth, [.nf]⟩,
⟨1, 24, .sl 211, [.sl]⟩,
⟨1, 8, .oth, [.nf]⟩,
⟨1, 0, .oth, []⟩,
⟨1, 8, .oth, [.nf]⟩,
⟨1, 8, .oth, [.nf]⟩,
⟨1, 24, .sl 47, [.sl]⟩,
⟨1, 8, .oth, [.nf]⟩,
⟨1, 8, .oth, [.nf]⟩,
⟨1, 8, .oth, [.nf]⟩,
⟨3, 24, .arr 3 3, [.i .i64, .i .i64, .i .i64]⟩,
⟨1, 8, .oth, [.nf]⟩,
⟨1, 8, .oth, [.nf]⟩,
⟨1, 24, .sl 59, [.sl]⟩,
⟨1, 24, .sl 65, [.sl]⟩,
⟨1, 24, .sl 4, [.sl]⟩,
⟨1, 0, .oth, []⟩,
⟨1, 8, .oth, [.nf]⟩,
⟨1, 0, .oth, []⟩,
⟨1, 8, .oth, [.nf]⟩,
⟨1, 8, .oth, [.nf]⟩,
⟨2, 16, .st [(0, 3), (1, 3)], [.i .i64, .i .i64]⟩,
⟨2, 16, .st [(0, 3), (1, 3)], [.i .i64, .i .i64]⟩,
⟨1, 8, .oth, [.nf]⟩,
⟨1, 8, .oth, [.nf]⟩,
⟨1, 8, .oth, [.nf]⟩,
⟨1, 8, .oth, [.nf]⟩,
⟨3, 24, .st [(0, 3), (1, 3), (2, 4)], [.i .i64, .i .i64, .b]⟩,
⟨3, 24, .st [(0, 3), (1, 3), (2, 4)], [.i .i64, .i .i64, .b]⟩,
⟨1, 8, .oth, [.nf]⟩,
⟨1, 8, .oth, [.nf]⟩,
⟨1, 8, .oth, [.nf]⟩,
⟨1, 8, .oth, [.nf]⟩,
⟨8, 80, .st [(0, 3), (1, 3), (2, 3), (3, 3), (4, 3), (5, 3), (6, 3), (7, 22)], [.i .i64, .i .i64, .i .i64, .i .i64, .i .i64, .i .i64, .i .i64, .sl]⟩,
⟨8, 80, .st [(0, 3), (1, 3), (2, 3), (3, 3), (4, 3), (5, 3), (6, 3), (7, 22)], [.i .i64, .i .i64, .i .i64, .i .i64, .i .i64, .i .i64, .i .i64, .sl]⟩,
⟨1, 24, .sl 71, [.sl]⟩,
⟨1, 24, .sl 83, [.sl]⟩,
⟨1, 8, .oth, [.nf]⟩,
⟨8, 80, .st [(0, 3), (1, 3), (2, 3), (3, 3), (4, 3), (5, 3), (6, 3), (7, 22)], [.i .i64, .i .i64, .i .i64, .i .i64, .i .i64, .i .i64, .i .i64, .sl]⟩,
⟨1, 8, .oth, [.nf]⟩,
⟨1, 0, .oth, []⟩,
⟨1, 8, .oth, [.nf]⟩,
⟨1, 8, .oth, [.nf]⟩,
⟨1, 0, .oth, []⟩,
⟨1, 8, .oth, [.nf]⟩,
⟨2, 24, .st [(0, 9), (1, 3)], [.s, .i .i64]⟩,
⟨2, 24, .st [(0, 9), (1, 3)], [.s, .i .i64]⟩,
⟨1, 8, .oth, [.nf]⟩,
⟨1, 8, .oth, [.nf]⟩,
⟨1, 8, .oth, [.nf]⟩,
⟨16, 128, .arr 16 3, List.replicate 16 (.i .i64)⟩,
⟨18, 144, .st [(0, 3), (1, 3), (2, 87)], List.replicate 18 (.i .i64)⟩,
⟨18, 144, .st [(0, 3), (1, 3), (2, 87)], List.replicate 18 (.i .i64)⟩,
⟨1, 0, .oth, []⟩,
⟨1, 8, .oth, [.nf]⟩,
⟨1, 8, .oth, [.nf]⟩,
⟨1, 8, .oth, [.nf]⟩,
⟨1, 0, .oth, []⟩,
⟨1, 8, .oth, [.nf]⟩,
⟨1, 8, .oth, [.nf]⟩,
⟨1, 8, .oth, [.nf]⟩,
⟨1, 8, .oth, [.nf]⟩,
⟨18, 176, .st [(0, 22), (1, 22), (2, 87)], (List.replicate 2 (.sl) ++ List.replicate 16 (.i .i64))⟩,
⟨18, 176, .st [(0, 22), (1, 22), (2, 87)], (List.replicate 2 (.sl) ++ List.replicate 16 (.i .i64))⟩,
⟨1, 8, .oth, [.nf]⟩,
⟨1, 8, .oth, [.nf]⟩,
⟨1, 8, .oth, [.nf]⟩,
⟨1, 8, .oth, [.nf]⟩,
⟨1, 8, .oth, [.nf]⟩,
⟨1, 24, .sl 229, [.sl]⟩,
⟨1, 24, .sl 5, [.sl]⟩,
⟨1, 8, .oth, [.nf]⟩,
⟨1, 0, .oth, []⟩,
⟨1, 8, .oth, [.nf]⟩,
⟨1, 0, .oth, []⟩,
⟨1, 8, .oth, [.nf]⟩,
⟨1, 0, .oth, []⟩,
⟨1, 8, .oth, [.nf]⟩,
⟨1, 8, .oth, [.nf]⟩,
⟨1, 24, .sl 121, [.sl]⟩,
⟨1, 8, .oth, [.nf]⟩,
⟨1, 8, .oth, [.nf]⟩,
⟨1, 8, .oth, [.nf]⟩,
⟨1, 8, .oth, [.nf]⟩,
⟨2, 16, .arr 2 3, [.i .i64, .i .i64]⟩,
⟨1, 8, .oth, [.nf]⟩,
⟨1, 8, .oth, [.nf]⟩,
⟨1, 8, .oth, [.nf]⟩,
⟨1, 8, .oth, [.nf]⟩,
⟨1, 8, .oth, [.nf]⟩,
⟨1, 0, .oth, []⟩,
⟨1, 8, .oth, [.nf]⟩,
⟨1, 0, .oth, []⟩,
⟨1, 8, .oth, [.nf]⟩,
⟨1, 8, .oth, [.nf]⟩,
⟨1, 8, .oth, [.nf]⟩,
⟨6, 48, .st [(0, 3), (1, 3), (2, 3), (3, 3), (4, 3), (5, 3)], [.i .i64, .i .i64, .i .i64, .i .i64, .i .i64, .i .i64]⟩,
⟨6, 48, .st [(0, 3), (1, 3), (2, 3), (3, 3), (4, 3), (5, 3)], [.i .i64, .i .i64, .i .i64, .i .i64, .i .i64, .i .i64]⟩,
⟨1, 8, .oth, [.nf]⟩,
⟨1, 8, .oth, [.nf]⟩,
⟨1, 8, .oth, [.nf]⟩,
⟨1, 8, .oth, [.nf]⟩,
⟨1, 24, .sl 233, [.sl]⟩,
⟨1, 24, .sl 155, [.sl]⟩,
⟨1, 8, .oth, [.nf]⟩,
⟨1, 8, .oth, [.nf]⟩,
⟨1, 0, .oth, []⟩,
⟨1, 8, .oth, [.nf]⟩,
⟨1, 0, .oth, []⟩,
⟨1, 8, .oth, [.nf]⟩,
⟨1, 8, .oth, [.nf]⟩,
⟨1, 8, .oth, [.nf]⟩,
⟨1, 8, .oth, [.nf]⟩,
⟨1, 8, .oth, [.nf]⟩,
⟨1, 8, .oth, [.nf]⟩,
⟨1, 8, .oth, [.nf]⟩,
⟨1, 8, .oth, [.nf]⟩,
⟨2, 16, .st [(0, 3), (1, 3)], [.i .i64, .i .i64]⟩,
⟨2, 16, .st [(0, 3), (1, 3)], [.i .i64, .i .i64]⟩,
⟨1, 8, .oth, [.nf]⟩,
⟨1, 8, .oth, [.nf]⟩,
⟨1, 8, .oth, [.nf]⟩,
⟨1, 24, .sl 166, [.sl]⟩,
⟨1, 8, .ptr 245, [.np]⟩,
⟨1, 8, .oth, [.nf]⟩,
⟨1, 24, .sl 180, [.sl]⟩,
⟨1, 24, .sl 180, [.sl]⟩,
⟨1, 8, .oth, [.nf]⟩,
⟨3, 24, .st [(0, 3), (1, 3), (2, 3)], [.i .i64, .i .i64, .i .i64]⟩,
⟨3, 24, .st [(0, 3), (1, 3), (2, 3)], [.i .i64, .i .i64, .i .i64]⟩,
⟨1, 8, .oth, [.nf]⟩,
⟨1, 8, .oth, [.nf]⟩,
⟨1, 8, .oth, [.nf]⟩,
⟨1, 0, .oth, []⟩,
⟨1, 8, .oth, [.nf]⟩,
⟨1, 8, .oth, [.nf]⟩,
⟨1, 8, .oth, [.nf]⟩,
⟨1, 0, .oth, []⟩,
⟨1, 8, .oth, [.nf]⟩,
⟨1, 0, .oth, []⟩,
⟨1, 8, .oth, [.nf]⟩,
⟨1, 8, .oth, [.nf]⟩,
⟨5, 40, .st [(0, 3), (1, 3), (2, 3), (3, 3), (4, 4)], [.i .i64, .i .i64, .i .i64, .i .i64, .b]⟩,
⟨5, 40, .st [(0, 3), (1, 3), (2, 3), (3, 3), (4, 4)], [.i .i64, .i .i64, .i .i64, .i .i64, .b]⟩,
⟨1, 8, .oth, [.nf]⟩,
⟨1, 8, .oth, [.nf]⟩,
⟨1, 8, .oth, [.nf]⟩,
⟨1, 8, .oth, [.nf]⟩,
⟨1, 24, .sl 202, [.sl]⟩,
⟨1, 8, .ptr 256, [.np]⟩,
⟨1, 8, .oth, [.nf]⟩,
⟨1, 8, .oth, [.nf]⟩,
⟨5, 40, .st [(0, 3), (1, 3), (2, 3), (3, 4), (4, 3)], [.i .i64, .i .i64, .i .i64, .b, .i .i64]⟩,
⟨5, 40, .st [(0, 3), (1, 3), (2, 3), (3, 4), (4, 3)], [.i .i64, .i .i64, .i .i64, .b, .i .i64]⟩,
⟨1, 24, .sl 190, [.sl]⟩,
⟨1, 0, .oth, []⟩,
⟨1, 8, .oth, [.nf]⟩,
⟨1, 8, .ptr 199, [.np]⟩,
⟨1, 24, .sl 200, [.sl]⟩,
⟨8, 64, .arr 8 3, [.i .i64, .i .i64, .i .i64, .i .i64, .i .i64, .i .i64, .i .i64, .i .i64]⟩,
⟨136, 1088, .arr 17 196, List.replicate 136 (.i .i64)⟩,
⟨137, 1112, .st [(0, 195), (1, 197)], (List.replicate 1 (.sl) ++ List.replicate 136 (.i .i64))⟩,
⟨137, 1112, .st [(0, 195), (1, 197)], (List.replicate 1 (.sl) ++ List.replicate 136 (.i .i64))⟩,
⟨5, 40, .st [(0, 3), (1, 3), (2, 3), (3, 4), (4, 3)], [.i .i64, .i .i64, .i .i64, .b, .i .i64]⟩,
⟨9, 72, .st [(0, 3), (1, 3), (2, 3), (3, 3), (4, 200)], [.i .i64, .i .i64, .i .i64, .i .i64, .i .i64, .i .i64, .i .i64, .b, .i .i64]⟩,
⟨9, 72, .st [(0, 3), (1, 3), (2, 3), (3, 3), (4, 200)], [.i .i64, .i .i64, .i .i64, .i .i64, .i .i64, .i .i64, .i .i64, .b, .i .i64]⟩,
⟨1, 8, .oth, [.nf]⟩,
⟨1, 8, .oth, [.nf]⟩,
⟨1, 8, .oth, [.nf]⟩,
⟨1, 8, .oth, [.nf]⟩,
⟨1, 8, .oth, [.nf]⟩,
⟨1, 8, .oth, [.nf]⟩,
⟨1, 8, .int .u64, [.i .u64]⟩,
⟨3, 24, .st [(0, 3), (1, 3), (2, 3)], [.i .i64, .i .i64, .i .i64]⟩,
⟨3, 24, .st [(0, 3), (1, 3), (2, 3)], [.i .i64, .i .i64, .i .i64]⟩,
⟨1, 0, .oth, []⟩,
⟨1, 8, .oth, [.nf]⟩,
⟨1, 8, .oth, [.nf]⟩,
⟨100, 100, .arr 100 4, List.replicate 100 (.b)⟩,
⟨1, 24, .sl 50, [.sl]⟩,
⟨1, 8, .oth, [.nf]⟩,
⟨6, 6, .arr 6 4, [.b, .b, .b, .b, .b, .b]⟩,
⟨1, 8, .oth, [.nf]⟩,
⟨1, 8, .oth, [.nf]⟩,
⟨1, 8, .oth, [.nf]⟩,
⟨1, 8, .oth, [.nf]⟩,
⟨1, 8, .oth, [.nf]⟩,
⟨1, 8, .oth, [.nf]⟩,
⟨1, 8, .oth, [.nf]⟩,
⟨1, 8, .oth, [.nf]⟩,
⟨1, 8, .oth, [.nf]⟩,
⟨2, 16, .st [(0, 3), (1, 3)], [.i .i64, .i .i64]⟩,
⟨2, 16, .st [(0, 3), (1, 3)], [.i .i64, .i .i64]⟩,
⟨1, 8, .oth, [.nf]⟩,
⟨1, 8, .oth, [.nf]⟩,
⟨1, 8, .oth, [.nf]⟩,
⟨2, 16, .st [(0, 3), (1, 3)], [.i .i64, .i .i64]⟩,
⟨1, 8, .oth, [.nf]⟩,
⟨1, 8, .oth, [.nf]⟩,
⟨1, 8, .oth, [.nf]⟩,
⟨1, 8, .oth, [.nf]⟩,
⟨1, 8, .oth, [.nm]⟩,
⟨1, 0, .oth, []⟩,
⟨1, 8, .oth, [.nf]⟩,
⟨4, 32, .st [(0, 3), (1, 3), (2, 3), (3, 3)], [.i .i64, .i .i64, .i .i64, .i .i64]⟩,
⟨4, 32, .st [(0, 3), (1, 3), (2, 3), (3, 3)], [.i .i64, .i .i64, .i .i64, .i .i64]⟩,
⟨68, 544, .arr 17 242, List.replicate 68 (.i .i64)⟩,
⟨68, 544, .st [(0, 243)], List.replicate 68 (.i .i64)⟩,
⟨68, 544, .st [(0, 243)], List.replicate 68 (.i .i64)⟩,
⟨1, 8, .oth, [.nf]⟩,
⟨1, 8, .oth, [.nf]⟩,
⟨1, 8, .oth, [.nf]⟩,
⟨1, 8, .oth, [.nf]⟩,
⟨1, 8, .oth, [.nf]⟩,
⟨1, 8, .oth, [.nf]⟩,
⟨6, 48, .st [(0, 190), (5, 3)], [.i .i64, .i .i64, .i .i64, .b, .i .i64, .i .i64]⟩,
⟨6, 48, .st [(0, 190), (5, 3)], [.i .i64, .i .i64, .i .i64, .b, .i .i64, .i .i64]⟩,
⟨192, 1536, .arr 32 253, (List.replicate 32 [.i .i64, .i .i64, .i .i64, .b, .i .i64, .i .i64]).flatten⟩,
⟨328, 2624, .st [(0, 254), (192, 197)], [.i .i64, .i .i64, .i .i64, .b, .i .i64, .i .i64, .i .i64, .i .i64, .i .i64, .b, .i .i64, .i .i64, .i .i64, .i .i64, .i .i64, .b, .i .i64, .i .i64, .i .i64, .i .i64, .i .i64, .b, .i .i64, .i .i64, .i .i64, .i .i64, .i .i64, .b, .i .i64, .i .i64, .i .i64, .i .i64, .i .i64, .b, .i .i64, .i .i64, .i .i64, .i .i64, .i .i64, .b, .i .i64, .i .i64, .i .i64, .i .i64, .i .i64, .b, .i .i64, .i .i64, .i .i64, .i .i64, .i .i64, .b, .i .i64, .i .i64, .i .i64, .i .i64, .i .i64, .b, .i .i64, .i .i64, .i .i64, .i .i64, .i .i64, .b, .i .i64, .i .i64, .i .i64, .i .i64, .i .i64, .b, .i .i64, .i .i64, .i .i64, .i .i64, .i .i64, .b, .i .i64, .i .i64, .i .i64, .i .i64, .i .i64, .b, .i .i64, .i .i64, .i .i64, .i .i64, .i .i64, .b, .i .i64, .i .i64, .i .i64, .i .i64, .i .i64, .b, .i .i64, .i .i64, .i .i64, .i .i64, .i .i64, .b, .i .i64, .i .i64, .i .i64, .i .i64, .i .i64, .b, .i .i64, .i .i64, .i .i64, .i .i64, .i .i64, .b, .i .i64, .i .i64, .i .i64, .i .i64, .i .i64, .b, .i .i64, .i .i64, .i .i64, .i .i64, .i .i64, .b, .i .i64, .i .i64, .i .i64, .i .i64, .i .i64, .b, .i .i64, .i .i64, .i .i64, .i .i64, .i .i64, .b, .i .i64, .i .i64, .i .i64, .i .i64, .i .i64, .b, .i .i64, .i .i64, .i .i64, .i .i64, .i .i64, .b, .i .i64, .i .i64, .i .i64, .i .i64, .i .i64, .b, .i .i64, .i .i64, .i .i64, .i .i64, .i .i64, .b, .i .i64, .i .i64, .i .i64, .i .i64, .i .i64, .b, .i .i64, .i .i64, .i .i64, .i .i64, .i .i64, .b, .i .i64, .i .i64, .i .i64, .i .i64, .i .i64, .b, .i .i64, .i .i64, .i .i64, .i .i64, .i .i64, .b, .i .i64, .i .i64, .i .i64, .i .i64, .i .i64, .b, .i .i64, .i .i64, .i .i64, .i .i64, .i .i64, .i .i64, .i .i64, .i .i64, .i .i64, .i .i64, .i .i64, .i .i64, .i .i64, .i .i64, .i .i64, .i .i64, .i .i64, .i .i64, .i .i64, .i .i64, .i .i64, .i .i64, .i .i64, .i .i64, .i .i64, .i .i64, .i .i64, .i .i64, .i .i64, .i .i64, .i .i64, .i .i64, .i .i64, .i .i64, .i .i64, .i .i64, .i .i64, .i .i64, .i .i64, .i .i64, .i .i64, .i .i64, .i .i64, .i .i64, .i .i64, .i .i64, .i .i64, .i .i64, .i .i64, .i .i64, .i .i64, .i .i64, .i .i64, .i .i64, .i .i64, .i .i64, .i .i64, .i .i64, .i .i64, .i .i64, .i .i64, .i .i64, .i .i64, .i .i64, .i .i64, .i .i64, .i .i64, .i .i64, .i .i64, .i .i64, .i .i64, .i .i64, .i .i64, .i .i64, .i .i64, .i .i64, .i .i64, .i .i64, .i .i64, .i .i64, .i .i64, .i .i64, .i .i64, .i .i64, .i .i64, .i .i64, .i .i64, .i .i64, .i .i64, .i .i64, .i .i64, .i .i64, .i .i64, .i .i64, .i .i64, .i .i64, .i .i64, .i .i64, .i .i64, .i .i64, .i .i64, .i .i64, .i .i64, .i .i64, .i .i64, .i .i64, .i .i64, .i .i64, .i .i64, .i .i64, .i .i64, .i .i64, .i .i64, .i .i64, .i .i64, .i .i64, .i .i64, .i .i64, .i .i64, .i .i64, .i .i64, .i .i64, .i .i64, .i .i64, .i .i64, .i .i64, .i .i64, .i .i64, .i .i64, .i .i64, .i .i64, .i .i64, .i .i64, .i .i64, .i .i64, .i .i64, .i .i64, .i .i64]⟩,
⟨328, 2624, .st [(0, 254), (192, 197)], [.i .i64, .i .i64, .i .i64, .b, .i .i64, .i .i64, .i .i64, .i .i64, .i .i64, .b, .i .i64, .i .i64, .i .i64, .i .i64, .i .i64, .b, .i .i64, .i .i64, .i .i64, .i .i64, .i .i64, .b, .i .i64, .i .i64, .i .i64, .i .i64, .i .i64, .b, .i .i64, .i .i64, .i .i64, .i .i64, .i .i64, .b, .i .i64, .i .i64, .i .i64, .i .i64, .i .i64, .b, .i .i64, .i .i64, .i .i64, .i .i64, .i .i64, .b, .i .i64, .i .i64, .i .i64, .i .i64, .i .i64, .b, .i .i64, .i .i64, .i .i64, .i .i64, .i .i64, .b, .i .i64, .i .i64, .i .i64, .i .i64, .i .i64, .b, .i .i64, .i .i64, .i .i64, .i .i64, .i .i64, .b, .i .i64, .i .i64, .i .i64, .i .i64, .i .i64, .b, .i .i64, .i .i64, .i .i64, .i .i64, .i .i64, .b, .i .i64, .i .i64, .i .i64, .i .i64, .i .i64, .b, .i .i64, .i .i64, .i .i64, .i .i64, .i .i64, .b, .i .i64, .i .i64, .i .i64, .i .i64, .i .i64, .b, .i .i64, .i .i64, .i .i64, .i .i64, .i .i64, .b, .i .i64, .i .i64, .i .i64, .i .i64, .i .i64, .b, .i .i64, .i .i64, .i .i64, .i .i64, .i .i64, .b, .i .i64, .i .i64, .i .i64, .i .i64, .i .i64, .b, .i .i64, .i .i64, .i .i64, .i .i64, .i .i64, .b, .i .i64, .i .i64, .i .i64, .i .i64, .i .i64, .b, .i .i64, .i .i64, .i .i64, .i .i64, .i .i64, .b, .i .i64, .i .i64, .i .i64, .i .i64, .i .i64, .b, .i .i64, .i .i64, .i .i64, .i .i64, .i .i64, .b, .i .i64, .i .i64, .i .i64, .i .i64, .i .i64, .b, .i .i64, .i .i64, .i .i64, .i .i64, .i .i64, .b, .i .i64, .i .i64, .i .i64, .i .i64, .i .i64, .b, .i .i64, .i .i64, .i .i64, .i .i64, .i .i64, .b, .i .i64, .i .i64, .i .i64, .i .i64, .i .i64, .b, .i .i64, .i .i64, .i .i64, .i .i64, .i .i64, .b, .i .i64, .i .i64, .i .i64, .i .i64, .i .i64, .i .i64, .i .i64, .i .i64, .i .i64, .i .i64, .i .i64, .i .i64, .i .i64, .i .i64, .i .i64, .i .i64, .i .i64, .i .i64, .i .i64, .i .i64, .i .i64, .i .i64, .i .i64, .i .i64, .i .i64, .i .i64, .i .i64, .i .i64, .i .i64, .i .i64, .i .i64, .i .i64, .i .i64, .i .i64, .i .i64, .i .i64, .i .i64, .i .i64, .i .i64, .i .i64, .i .i64, .i .i64, .i .i64, .i .i64, .i .i64, .i .i64, .i .i64, .i .i64, .i .i64, .i .i64, .i .i64, .i .i64, .i .i64, .i .i64, .i .i64, .i .i64, .i .i64, .i .i64, .i .i64, .i .i64, .i .i64, .i .i64, .i .i64, .i .i64, .i .i64, .i .i64, .i .i64, .i .i64, .i .i64, .i .i64, .i .i64, .i .i64, .i .i64, .i .i64, .i .i64, .i .i64, .i .i64, .i .i64, .i .i64, .i .i64, .i .i64, .i .i64, .i .i64, .i .i64, .i .i64, .i .i64, .i .i64, .i .i64, .i .i64, .i .i64, .i .i64, .i .i64, .i .i64, .i .i64, .i .i64, .i .i64, .i .i64, .i .i64, .i .i64, .i .i64, .i .i64, .i .i64, .i .i64, .i .i64, .i .i64, .i .i64, .i .i64, .i .i64, .i .i64, .i .i64, .i .i64, .i .i64, .i .i64, .i .i64, .i .i64, .i .i64, .i .i64, .i .i64, .i .i64, .i .i64, .i .i64, .i .i64, .i .i64, .i .i64, .i .i64, .i .i64, .i .i64, .i .i64, .i .i64, .i .i64, .i .i64, .i .i64, .i .i64, .i .i64, .i .i64, .i .i64, .i .i64, .i .i64]⟩,
⟨1, 0, .oth, []⟩,
⟨1, 8, .oth, [.nf]⟩,
⟨1, 8, .oth, [.nf]⟩,
⟨1, 8, .oth, [.nf]⟩,
⟨1, 0, .oth, []⟩,
⟨1, 8, .oth, [.nf]⟩,
⟨1, 8, .ptr 200, [.np]⟩,
⟨1, 8, .oth, [.nf]⟩,
⟨1, 8, .oth, [.nf]⟩,
⟨1, 0, .oth, []⟩,
⟨1, 8, .oth, [.nf]⟩,
⟨1, 8, .oth, [.nf]⟩,
⟨1, 8, .oth, [.nf]⟩,
⟨1, 8, .int .i64, [.i .i64]⟩,
⟨1, 0, .oth, []⟩,
⟨1, 8, .oth, [.nf]⟩,
⟨1, 8, .oth, [.nf]⟩,
⟨1, 8, .oth, [.nf]⟩,
⟨1, 8, .oth, [.nf]⟩,
⟨1, 8, .oth, [.nf]⟩,
⟨1, 8, .oth, [.nf]⟩,
⟨1, 4, .int .u32, [.i .u32]⟩,
⟨1, 8, .oth, [.nf]⟩,
⟨1, 8, .int .u64, [.i .u64]⟩,
⟨1, 8, .oth, [.nf]⟩,
⟨1, 8, .oth, [.nf]⟩,
⟨1, 0, .oth, []⟩,
⟨1, 8, .oth, [.nf]⟩,
⟨1, 8, .oth, [.nf]⟩,
⟨1, 8, .ptr 288, [.np]⟩,
⟨2, 32, .st [(0, 286), (1, 107)], [.np, .sl]⟩,
⟨2, 32, .st [(0, 286), (1, 107)], [.np, .sl]⟩,
⟨1, 8, .oth, [.nf]⟩,
⟨1, 16, .oth, [.ni]⟩,
⟨1, 16, .oth, [.ni]⟩,
⟨1, 0, .oth, []⟩,
⟨1, 8, .oth, [.nf]⟩,
⟨1, 8, .oth, [.nf]⟩,
⟨1, 8, .oth, [.nf]⟩,
⟨1, 8, .oth, [.nf]⟩,
⟨1, 8, .oth, [.nf]⟩,
⟨1, 8, .oth, [.nf]⟩,
⟨1, 8, .ptr 253, [.np]⟩,
⟨1, 0, .oth, []⟩,
⟨1, 8, .oth, [.nf]⟩,
⟨1, 8, .oth, [.nf]⟩,
⟨1, 8, .oth, [.nf]⟩,
⟨1, 8, .oth, [.nf]⟩,
⟨1, 8, .oth, [.nf]⟩,
⟨1, 8, .int .u64, [.i .u64]⟩,
⟨1, 8, .oth, [.nf]⟩,
⟨1, 8, .oth, [.nf]⟩,
⟨1, 8, .oth, [.nf]⟩,
⟨1, 8, .ptr 3, [.np]⟩,
⟨1, 8, .oth, [.nf]⟩,
⟨1, 0, .oth, []⟩,
⟨1, 8, .oth, [.nf]⟩,
⟨1, 0, .oth, []⟩,
⟨1, 8, .oth, [.nf]⟩,
⟨1, 8, .ptr 5, [.np]⟩,
⟨1, 8, .oth, [.nf]⟩,
⟨1, 8, .oth, [.nf]⟩,
⟨1, 8, .oth, [.nf]⟩,
⟨1, 8, .oth, [.nf]⟩,
⟨1, 8, .oth, [.nf]⟩,
⟨1, 8, .ptr 306, [.np]⟩,
⟨1, 0, .oth, []⟩,
⟨1, 8, .oth, [.nf]⟩,
⟨1, 8, .oth, [.np]⟩,
⟨1, 8, .oth, [.nf]⟩,
⟨1, 8, .oth, [.nf]⟩,
⟨1, 8, .oth, [.nf]⟩,
⟨1, 8, .oth, [.nf]⟩,
⟨1, 8, .oth, [.nf]⟩,
⟨1, 8, .oth, [.nf]⟩,
⟨4, 40, .st [(0, 17), (1, 17), (2, 17), (3, 9)], [.np, .np, .np, .s]⟩,
⟨4, 40, .st [(0, 17), (1, 17), (2, 17), (3, 9)], [.np, .np, .np, .s]⟩,
⟨0, 0, .arr 0 16, []⟩,
⟨0, 0, .st [(0, 334)], []⟩,
⟨0, 0, .st [(0, 334)], []⟩,
⟨1, 1, .int .u8, [.i .u8]⟩,
⟨1, 1, .int .u8, [.i .u8]⟩,
⟨1, 8, .oth, [.nf]⟩,
⟨1, 4, .int .i32, [.i .i32]⟩,
⟨1, 4, .int .i32, [.i .i32]⟩,
⟨11, 48, .st [(0, 12), (1, 12), (2, 278), (3, 337), (4, 5), (5, 5), (6, 338), (7, 339), (8, 316), (9, 340), (10, 341)], [.i .u64, .i .u64, .i .u32, .i .u8, .i .u8, .i .u8, .i .u8, .nf, .np, .i .i32, .i .i32]⟩,
⟨11, 48, .st [(0, 12), (1, 12), (2, 278), (3, 337), (4, 5), (5, 5), (6, 338), (7, 339), (8, 316), (9, 340), (10, 341)], [.i .u64, .i .u64, .i .u32, .i .u8, .i .u8, .i .u8, .i .u8, .nf, .np, .i .i32, .i .i32]⟩]
theorem TTok : TOk Try.prog TT := by unfold TOk; kernel_rfl
theorem mix : Try.prog.follows .mixedOrders = true := by kernel_rfl
structure S_label_Label where
  fLevel : Int
  fKind : Int
def eS_label_Label (x : S_label_Label) : PV := .agg [.v (.int .i64 x.fLevel), .v (.int .i64 x.fKind)]
structure S_label_Act where
  fWho : Int
  fWhat : Int
  fWrite : Bool
def eS_label_Act (x : S_label_Act) : PV := .agg [.v (.int .i64 x.fWho), .v (.int .i64 x.fWhat), .v (.bool x.fWrite)]

inductive G_label_Check_C1_R where
  | x0 (v_x18 : Bool)
def G_label_Check_C1_ex : G_label_Check_C1_R → Ex
  | .x0 _ => .normal
def G_label_Check_C1_st (v_l17 : S_label_Label) : G_label_Check_C1_R → PS
  | .x0 v_x18 => ⟨[dd, dd, dd, dd, dd, dd, dd, dd, dd, dd, dd, dd, dd, dd, dd, dd, dd, dd, dd, dd, .d (.v (.bool v_x18))], []⟩
def G_label_Check_C1_hd (v_l17 : S_label_Label)  : PS := ⟨[dd, .ref 0 0, dd, dd, dd, dd, dd, dd, dd, dd, dd, dd, dd, dd, dd, dd, dd, dd, dd, dd, dd], [.box [.d (.v (.int .i64 v_l17.fLevel)), .d (.v (.int .i64 v_l17.fKind))]]⟩
def G_label_Check_C1 (n : Nat) (v_l17 : S_label_Label) : Option G_label_Check_C1_R :=
  if v_l17.fLevel < 0 then
   some (.x0 true)
  else
   if v_l17.fLevel > 7 then
    some (.x0 true)
   else
    if v_l17.fKind < 0 then
     some (.x0 true)
    else
     some (.x0 (decide (v_l17.fKind > 255)))
theorem G_label_Check_C1_ok {Fi : Ex → PS → Prop} (hF : KC 21 Fi) (ks : List Fr) (n : Nat) (v_l17 : S_label_Label)  (o : G_label_Check_C1_R) (h : G_label_Check_C1 n v_l17 = some o) (q : RunE Try.prog 21 Fi ks (G_label_Check_C1_ex o) (G_label_Check_C1_st v_l17 o)) : RunE Try.prog 21 Fi (.s (cL (cL (cR (bodyOf Try.f39)))) :: ks) .normal (G_label_Check_C1_hd v_l17) := by
  unfold G_label_Check_C1 at h
  by_cases h14 : v_l17.fLevel < 0
  · rw [if_pos h14] at h
    cases h
    exact pkk_sound TTok mix hF 1 (hs := [.c, .t true, .c, .c, .c, .c, .c, .c, .c, .c]) (ts := []) (s := []) (l := [20]) (by kernel_rfl) (by kernel_rfl) (.cons (dt h14) .nil) q
  · rw [if_neg h14] at h
    by_cases h15 : v_l17.fLevel > 7
    · rw [if_pos h15] at h
      cases h
      exact pkk_sound TTok mix hF 1 (hs := [.c, .t false, .c, .c, .c, .t true, .c, .c, .c, .c, .c]) (ts := []) (s := []) (l := [20]) (by kernel_rfl) (by kernel_rfl) (.cons (df h14) (.cons (dt h15) .nil)) q
    · rw [if_neg h15] at h
      by_cases h16 : v_l17.fKind < 0
      · rw [if_pos h16] at h
        cases h
        exact pkk_sound TTok mix hF 1 (hs := [.c, .t false, .c, .c, .c, .t false, .c, .c, .c, .t true, .c, .c]) (ts := []) (s := []) (l := [20]) (by kernel_rfl) (by kernel_rfl) (.cons (df h14) (.cons (df h15) (.cons (dt h16) .nil))) q
      · rw [if_neg h16] at h
        cases h
        exact pkk_sound TTok mix hF 1 (hs := [.c, .t false, .c, .c, .c, .t false, .c, .c, .c, .t false, .c, .c, .c]) (ts := []) (s := []) (l := [20]) (by kernel_rfl) (by kernel_rfl) (.cons (df h14) (.cons (df h15) (.cons (df h16) .nil))) q
/- ringhall/label.Check -/
def G_label_Check (n : Nat) (v_l17 : S_label_Label) : Option (Int) :=
  (G_label_Check_C1 n v_l17).bind fun v_o22 => match v_o22 with
  | .x0 v_z23 =>
    if v_z23 = true then
     some 1
    else
     some 0
theorem G_label_Check_ok (n : Nat) (v_l17 : S_label_Label) (r : Int) (h : G_label_Check n v_l17 = some r) : Ret Try.prog 39 [eS_label_Label v_l17] ((eI .i64) r) := by
  refine ret_run (n := 21) (fn := Try.f39) (c := bodyOf Try.f39) (by kernel_rfl) (by kernel_rfl) (by kernel_rfl) (by kernel_rfl) ?_
  have hF : KC 21 (FinR Try.prog Try.f39 ((eI .i64) r)) := FinR.kc' (by kernel_rfl)
  unfold G_label_Check at h
  obtain ⟨v_o22, h17, h⟩ := bind_some h
  refine pkk_sound TTok mix hF 4 (hs := []) (ts := []) (s := [0]) (l := [1]) (by kernel_rfl) (by kernel_rfl) .nil (G_label_Check_C1_ok hF (.s (cR (cL (cR (bodyOf Try.f39)))) :: .s (cR (cR (bodyOf Try.f39))) :: []) n v_l17 _ h17 ?_)
  cases v_o22 with
  | x0 v_z23 =>
    try dsimp only at h
    by_cases h18 : v_z23 = true
    · rw [if_pos h18] at h
      obtain rfl := Option.some.inj h
      exact pend_sound TTok mix 5 (hs := [.t true]) (by kernel_rfl) (by kernel_rfl) (by kernel_rfl) (.cons h18 .nil)
    · rw [if_neg h18] at h
      obtain rfl := Option.some.inj h
      exact pend_sound TTok mix 5 (hs := [.t false]) (by kernel_rfl) (by kernel_rfl) (by kernel_rfl) (.cons (vf h18) .nil)
/- ringhall/label.both -/
def G_label_both (n : Nat) (v_a51 : S_label_Label) (v_b52 : S_label_Label) : Option (Int) :=
  (G_label_Check n v_a51).bind fun (v_r53 : (Int)) =>
  if v_r53 = 0 then
   (G_label_Check n v_b52).bind fun (v_r54 : (Int)) =>
   some v_r54
  else
   some v_r53
theorem G_label_both_ok (n : Nat) (v_a51 : S_label_Label) (v_b52 : S_label_Label) (r : Int) (h : G_label_both n v_a51 v_b52 = some r) : Ret Try.prog 186 [eS_label_Label v_a51, eS_label_Label v_b52] ((eI .i64) r) := by
  refine ret_run (n := 13) (fn := Try.f186) (c := bodyOf Try.f186) (by kernel_rfl) (by kernel_rfl) (by kernel_rfl) (by kernel_rfl) ?_
  have hF : KC 13 (FinR Try.prog Try.f186 ((eI .i64) r)) := FinR.kc' (by kernel_rfl)
  unfold G_label_both at h
  obtain ⟨v_r53, h40, h⟩ := bind_some h
  by_cases h41 : v_r53 = 0
  · rw [if_pos h41] at h
    obtain ⟨v_r54, h42, h⟩ := bind_some h
    obtain rfl := Option.some.inj h
    exact pend_sound TTok mix 12 (hs := [.c, .r ((eI .i64) v_r53), .t false, .c, .r ((eI .i64) v_r54)]) (by kernel_rfl) (by kernel_rfl) (by kernel_rfl) (.cons (G_label_Check_ok n v_a51 _ h40) (.cons (nf h41) (.cons (G_label_Check_ok n v_b52 _ h42) .nil)))
  · rw [if_neg h41] at h
    obtain rfl := Option.some.inj h
    exact pend_sound TTok mix 12 (hs := [.c, .r ((eI .i64) v_r53), .t true]) (by kernel_rfl) (by kernel_rfl) (by kernel_rfl) (.cons (G_label_Check_ok n v_a51 _ h40) (.cons (nt h41) .nil))
/- ringhall/label.Flows -/
def G_label_Flows (n : Nat) (v_a49 : S_label_Label) (v_b50 : S_label_Label) : Option (Bool × Int) :=
  (G_label_both n v_a49 v_b50).bind fun (v_r55 : (Int)) =>
  if v_r55 = 0 then
   if v_a49.fLevel ≤ v_b50.fLevel then
    some (((bits .andNot .i64 v_a49.fKind v_b50.fKind) == 0), 0)
   else
    some (false, 0)
  else
   some (false, v_r55)
theorem G_label_Flows_ok (n : Nat) (v_a49 : S_label_Label) (v_b50 : S_label_Label) (r : Bool × Int) (h : G_label_Flows n v_a49 v_b50 = some r) : Ret Try.prog 125 [eS_label_Label v_a49, eS_label_Label v_b50] (.tup [eB r.1, (eI .i64) r.2]) := by
  refine ret_run (n := 26) (fn := Try.f125) (c := bodyOf Try.f125) (by kernel_rfl) (by kernel_rfl) (by kernel_rfl) (by kernel_rfl) ?_
  have hF : KC 26 (FinR Try.prog Try.f125 (.tup [eB r.1, (eI .i64) r.2])) := FinR.kc' (by kernel_rfl)
  unfold G_label_Flows at h
  obtain ⟨v_r55, h43, h⟩ := bind_some h
  by_cases h45 : v_r55 = 0
  · rw [if_pos h45] at h
    by_cases h47 : v_a49.fLevel ≤ v_b50.fLevel
    · rw [if_pos h47] at h
      obtain rfl := Option.some.inj h
      exact pend_sound TTok mix 12 (hs := [.c, .c, .r ((eI .i64) v_r55), .t false, .c, .c, .t true, .c, .c, .c, .c, .c, .c, .c]) (by kernel_rfl) (by kernel_rfl) (by kernel_rfl) (.cons (G_label_both_ok n v_a49 v_b50 _ h43) (.cons (nf h45) (.cons (dt h47) .nil)))
    · rw [if_neg h47] at h
      obtain rfl := Option.some.inj h
      exact pend_sound TTok mix 12 (hs := [.c, .c, .r ((eI .i64) v_r55), .t false, .c, .c, .t false, .c, .c, .c, .c, .c]) (by kernel_rfl) (by kernel_rfl) (by kernel_rfl) (.cons (G_label_both_ok n v_a49 v_b50 _ h43) (.cons (nf h45) (.cons (df h47) .nil)))
  · rw [if_neg h45] at h
    obtain rfl := Option.some.inj h
    exact pend_sound TTok mix 12 (hs := [.c, .c, .r ((eI .i64) v_r55), .t true]) (by kernel_rfl) (by kernel_rfl) (by kernel_rfl) (.cons (G_label_both_ok n v_a49 v_b50 _ h43) (.cons (nt h45) .nil))
inductive G_label_Run_C1_R where
  | x0 (v_x8 : Bool)
def G_label_Run_C1_ex : G_label_Run_C1_R → Ex
  | .x0 _ => .normal
def G_label_Run_C1_st (v_who5 : (List S_label_Label)) (v_what6 : (List S_label_Label)) (v_acts7 : (List S_label_Act)) : G_label_Run_C1_R → PS
  | .x0 v_x8 => ⟨[.d (.sl (v_who5.map eS_label_Label)), .d (.sl (v_what6.map eS_label_Label)), .d (.sl (v_acts7.map eS_label_Act)), dd, dd, dd, dd, dd, dd, dd, dd, dd, dd, dd, dd, dd, dd, dd, dd, dd, dd, dd, dd, dd, dd, dd, dd, dd, dd, dd, .d (.v (.bool v_x8)), dd, dd, dd, dd, dd, dd, dd, dd, dd, dd, dd, dd, dd, dd, dd, dd, dd, dd, dd, dd, dd, dd, dd, dd, dd, dd, dd, dd, dd, dd, dd, dd, dd, dd, dd, dd, dd, dd, dd, dd, dd, dd, dd, dd, dd, dd, dd, dd, dd, dd, dd, dd, dd, dd, dd, dd, dd, dd, dd, dd, dd, dd, dd, dd, dd, dd, dd, dd, dd, dd, dd, dd, dd, dd, dd, dd, dd, dd, dd, dd, dd, dd, dd, dd, dd], []⟩
def G_label_Run_C1_hd (v_who5 : (List S_label_Label)) (v_what6 : (List S_label_Label)) (v_acts7 : (List S_label_Act))  : PS := ⟨[.d (.sl (v_who5.map eS_label_Label)), .d (.sl (v_what6.map eS_label_Label)), .d (.sl (v_acts7.map eS_label_Act)), dd, dd, dd, dd, dd, dd, dd, dd, dd, dd, dd, dd, dd, dd, dd, dd, dd, dd, dd, dd, dd, dd, dd, dd, dd, dd, dd, dd, dd, dd, dd, dd, dd, dd, dd, dd, dd, dd, dd, dd, dd, dd, dd, dd, dd, dd, dd, dd, dd, dd, dd, dd, dd, dd, dd, dd, dd, dd, dd, dd, dd, dd, dd, dd, dd, dd, dd, dd, dd, dd, dd, dd, dd, dd, dd, dd, dd, dd, dd, dd, dd, dd, dd, dd, dd, dd, dd, dd, dd, dd, dd, dd, dd, dd, dd, dd, dd, dd, dd, dd, dd, dd, dd, dd, dd, dd, dd, dd, dd, dd, dd, dd, dd], []⟩
def G_label_Run_C1 (n : Nat) (v_who5 : (List S_label_Label)) (v_what6 : (List S_label_Label)) (v_acts7 : (List S_label_Act)) : Option G_label_Run_C1_R :=
  if (v_who5.length : Int) > 6 then
   some (.x0 true)
  else
   if (v_what6.length : Int) > 6 then
    some (.x0 true)
   else
    some (.x0 (decide ((v_acts7.length : Int) > 40)))
theorem G_label_Run_C1_ok {Fi : Ex → PS → Prop} (hF : KC 116 Fi) (ks : List Fr) (n : Nat) (v_who5 : (List S_label_Label)) (v_what6 : (List S_label_Label)) (v_acts7 : (List S_label_Act))  (o : G_label_Run_C1_R) (h : G_label_Run_C1 n v_who5 v_what6 v_acts7 = some o) (q : RunE Try.prog 116 Fi ks (G_label_Run_C1_ex o) (G_label_Run_C1_st v_who5 v_what6 v_acts7 o)) : RunE Try.prog 116 Fi (.s (cL (cL (cR (bodyOf Try.f34)))) :: ks) .normal (G_label_Run_C1_hd v_who5 v_what6 v_acts7) := by
  unfold G_label_Run_C1 at h
  by_cases h3 : (v_who5.length : Int) > 6
  · rw [if_pos h3] at h
    cases h
    exact pkk_sound TTok mix hF 1 (hs := [.u (.d (.v (.int .i64 (v_who5.length : Int)))), .t true, .c, .c, .c, .c, .c]) (ts := []) (s := []) (l := [0, 1, 2, 30]) (by kernel_rfl) (by kernel_rfl) (.cons (len_ob (f := eS_label_Label) (l := v_who5)) (.cons (dt h3) .nil)) q
  · rw [if_neg h3] at h
    by_cases h4 : (v_what6.length : Int) > 6
    · rw [if_pos h4] at h
      cases h
      exact pkk_sound TTok mix hF 1 (hs := [.u (.d (.v (.int .i64 (v_who5.length : Int)))), .t false, .c, .u (.d (.v (.int .i64 (v_what6.length : Int)))), .c, .t true, .c, .c]) (ts := []) (s := []) (l := [0, 1, 2, 30]) (by kernel_rfl) (by kernel_rfl) (.cons (len_ob (f := eS_label_Label) (l := v_who5)) (.cons (df h3) (.cons (len_ob (f := eS_label_Label) (l := v_what6)) (.cons (dt h4) .nil)))) q
    · rw [if_neg h4] at h
      cases h
      exact pkk_sound TTok mix hF 1 (hs := [.u (.d (.v (.int .i64 (v_who5.length : Int)))), .t false, .c, .u (.d (.v (.int .i64 (v_what6.length : Int)))), .c, .t false, .c, .u (.d (.v (.int .i64 (v_acts7.length : Int)))), .c]) (ts := []) (s := []) (l := [0, 1, 2, 30]) (by kernel_rfl) (by kernel_rfl) (.cons (len_ob (f := eS_label_Label) (l := v_who5)) (.cons (df h3) (.cons (len_ob (f := eS_label_Label) (l := v_what6)) (.cons (df h4) (.cons (len_ob (f := eS_label_Act) (l := v_acts7)) .nil))))) q
inductive G_label_Run_L2_R where
  | x0 (v_x27 : Int)
  | x1 
def G_label_Run_L2_ex : G_label_Run_L2_R → Ex
  | .x0 _ => .ret
  | .x1  => .exit 2
def G_label_Run_L2_st (v_who5 : (List S_label_Label)) (v_what6 : (List S_label_Label)) (v_acts7 : (List S_label_Act)) (v_x13 : Int) (v_y14 : (List S_label_Label)) : G_label_Run_L2_R → PS
  | .x0 v_x27 => ⟨[dd, dd, dd, dd, dd, dd, .d (vnil), .d (.v (.int .i64 v_x27)), dd, dd, dd, dd, dd, dd, dd, dd, dd, dd, dd, dd, dd, dd, dd, dd, dd, dd, dd, dd, dd, dd, dd, dd, dd, dd, dd, dd, dd, dd, dd, dd, dd, dd, dd, dd, dd, dd, dd, dd, dd, dd, dd, dd, dd, dd, dd, dd, dd, dd, dd, dd, dd, dd, dd, dd, dd, dd, dd, dd, dd, dd, dd, dd, dd, dd, dd, dd, dd, dd, dd, dd, dd, dd, dd, dd, dd, dd, dd, dd, dd, dd, dd, dd, dd, dd, dd, dd, dd, dd, dd, dd, dd, dd, dd, dd, dd, dd, dd, dd, dd, dd, dd, dd, dd, dd, dd, dd], []⟩
  | .x1  => ⟨[.d (.sl (v_who5.map eS_label_Label)), .d (.sl (v_what6.map eS_label_Label)), .d (.sl (v_acts7.map eS_label_Act)), dd, dd, dd, dd, dd, dd, dd, dd, dd, dd, dd, dd, dd, dd, dd, dd, dd, dd, dd, dd, dd, dd, dd, dd, dd, dd, dd, dd, dd, dd, .d (.sl (([v_who5, v_what6]).map (eL eS_label_Label))), .d (.v (.int .i64 (([v_who5, v_what6]).length : Int))), .d (.v (.int .i64 v_x13)), dd, dd, dd, dd, dd, dd, dd, dd, dd, dd, dd, dd, dd, dd, dd, dd, dd, dd, dd, dd, dd, dd, dd, dd, dd, dd, dd, dd, dd, dd, dd, dd, dd, dd, dd, dd, dd, dd, dd, dd, dd, dd, dd, dd, dd, dd, dd, dd, dd, dd, dd, dd, dd, dd, dd, dd, dd, dd, dd, dd, dd, dd, dd, dd, dd, dd, dd, dd, dd, dd, dd, dd, dd, dd, dd, dd, dd, dd, dd, dd], []⟩
def G_label_Run_L2_hd (v_who5 : (List S_label_Label)) (v_what6 : (List S_label_Label)) (v_acts7 : (List S_label_Act)) (v_x13 : Int) (v_y14 : (List S_label_Label)) (v_x15 : Int) : PS := ⟨[.d (.sl (v_who5.map eS_label_Label)), .d (.sl (v_what6.map eS_label_Label)), .d (.sl (v_acts7.map eS_label_Act)), dd, dd, dd, dd, dd, dd, dd, dd, dd, dd, dd, dd, dd, dd, dd, dd, dd, dd, dd, dd, dd, dd, dd, dd, dd, dd, dd, dd, dd, dd, .d (.sl (([v_who5, v_what6]).map (eL eS_label_Label))), .d (.v (.int .i64 (([v_who5, v_what6]).length : Int))), .d (.v (.int .i64 v_x13)), dd, dd, dd, .d (.sl (v_y14.map eS_label_Label)), .d (.v (.int .i64 (v_y14.length : Int))), .d (.v (.int .i64 v_x15)), dd, dd, dd, dd, dd, dd, dd, dd, dd, dd, dd, dd, dd, dd, dd, dd, dd, dd, dd, dd, dd, dd, dd, dd, dd, dd, dd, dd, dd, dd, dd, dd, dd, dd, dd, dd, dd, dd, dd, dd, dd, dd, dd, dd, dd, dd, dd, dd, dd, dd, dd, dd, dd, dd, dd, dd, dd, dd, dd, dd, dd, dd, dd, dd, dd, dd, dd, dd, dd, dd, dd, dd, dd, dd], []⟩
def G_label_Run_L2 (n : Nat) (v_who5 : (List S_label_Label)) (v_what6 : (List S_label_Label)) (v_acts7 : (List S_label_Act)) (v_x13 : Int) (v_y14 : (List S_label_Label)) : Nat → Int → Option G_label_Run_L2_R
  | 0, _ => none
  | k + 1, v_x15 =>
    if v_x15 < (v_y14.length : Int) then
     (getI v_y14 v_x15).bind fun (v_y25 : S_label_Label) =>
     (G_label_Check n v_y25).bind fun (v_r26 : (Int)) =>
     if v_r26 = 0 then
      G_label_Run_L2 n v_who5 v_what6 v_acts7 v_x13 v_y14 k (wi .i64 (v_x15 + 1))
     else
      some (.x0 v_r26)
    else
     some (.x1 )
theorem G_label_Run_L2_ok {Fi : Ex → PS → Prop} (hF : KC 116 Fi) (ks : List Fr) (n : Nat) (v_who5 : (List S_label_Label)) (v_what6 : (List S_label_Label)) (v_acts7 : (List S_label_Act)) (v_x13 : Int) (v_y14 : (List S_label_Label))  : ∀ (k : Nat) (v_x15 : Int) (o : G_label_Run_L2_R), G_label_Run_L2 n v_who5 v_what6 v_acts7 v_x13 v_y14 k v_x15 = some o → RunE Try.prog 116 Fi ks (G_label_Run_L2_ex o) (G_label_Run_L2_st v_who5 v_what6 v_acts7 v_x13 v_y14 o) → RunE Try.prog 116 Fi (.l k (cP (cB (cR (cR (cB (cL (cR (cR (cP (cB (cR (cL (cR (cR (bodyOf Try.f34))))))))))))))) :: ks) .normal (G_label_Run_L2_hd v_who5 v_what6 v_acts7 v_x13 v_y14 v_x15)
  | 0, v_x15, o, h, q => by rw [G_label_Run_L2] at h; cases h
  | k + 1, v_x15, o, h, q => by
    rw [G_label_Run_L2] at h
    by_cases h9 : v_x15 < (v_y14.length : Int)
    · rw [if_pos h9] at h
      obtain ⟨v_y25, h22, h⟩ := bind_some h
      obtain ⟨v_r26, h23, h⟩ := bind_some h
      by_cases h25 : v_r26 = 0
      · rw [if_pos h25] at h
        exact pkk_sound TTok mix hF 18 (hs := [.t true, .y (eS_label_Label v_y25), .c, .c, .r ((eI .i64) v_r26), .t false]) (ts := []) (s := []) (l := [0, 1, 2, 33, 34, 35, 39, 40, 41]) (by kernel_rfl) (by kernel_rfl) (.cons (dt h9) (.cons (getI_ob (f := eS_label_Label) h22) (.cons (show 0 + 2 ≤ 2 by decide) (.cons (G_label_Check_ok n v_y25 _ h23) (.cons (nf h25) .nil))))) (G_label_Run_L2_ok hF ks n v_who5 v_what6 v_acts7 v_x13 v_y14 k (wi .i64 (v_x15 + 1)) _ h q)
      · rw [if_neg h25] at h
        cases h
        exact pkk_sound TTok mix hF 21 (hs := [.t true, .y (eS_label_Label v_y25), .c, .c, .r ((eI .i64) v_r26), .t true]) (ts := []) (s := []) (l := [6, 7]) (by kernel_rfl) (by kernel_rfl) (.cons (dt h9) (.cons (getI_ob (f := eS_label_Label) h22) (.cons (show 0 + 2 ≤ 2 by decide) (.cons (G_label_Check_ok n v_y25 _ h23) (.cons (nt h25) .nil))))) q
    · rw [if_neg h9] at h
      cases h
      exact pkk_sound TTok mix hF 8 (hs := [.t false]) (ts := []) (s := []) (l := [0, 1, 2, 33, 34, 35]) (by kernel_rfl) (by kernel_rfl) (.cons (df h9) .nil) q
inductive G_label_Run_L3_R where
  | x0 (v_x30 : Int)
  | x1 
def G_label_Run_L3_ex : G_label_Run_L3_R → Ex
  | .x0 _ => .ret
  | .x1  => .exit 0
def G_label_Run_L3_st (v_who5 : (List S_label_Label)) (v_what6 : (List S_label_Label)) (v_acts7 : (List S_label_Act)) : G_label_Run_L3_R → PS
  | .x0 v_x30 => ⟨[dd, dd, dd, dd, dd, dd, .d (vnil), .d (.v (.int .i64 v_x30)), dd, dd, dd, dd, dd, dd, dd, dd, dd, dd, dd, dd, dd, dd, dd, dd, dd, dd, dd, dd, dd, dd, dd, dd, dd, dd, dd, dd, dd, dd, dd, dd, dd, dd, dd, dd, dd, dd, dd, dd, dd, dd, dd, dd, dd, dd, dd, dd, dd, dd, dd, dd, dd, dd, dd, dd, dd, dd, dd, dd, dd, dd, dd, dd, dd, dd, dd, dd, dd, dd, dd, dd, dd, dd, dd, dd, dd, dd, dd, dd, dd, dd, dd, dd, dd, dd, dd, dd, dd, dd, dd, dd, dd, dd, dd, dd, dd, dd, dd, dd, dd, dd, dd, dd, dd, dd, dd, dd], []⟩
  | .x1  => ⟨[.d (.sl (v_who5.map eS_label_Label)), .d (.sl (v_what6.map eS_label_Label)), .d (.sl (v_acts7.map eS_label_Act)), dd, dd, dd, dd, dd, dd, dd, dd, dd, dd, dd, dd, dd, dd, dd, dd, dd, dd, dd, dd, dd, dd, dd, dd, dd, dd, dd, dd, dd, dd, dd, dd, dd, dd, dd, dd, dd, dd, dd, dd, dd, dd, dd, dd, dd, dd, dd, dd, dd, dd, dd, dd, dd, dd, dd, dd, dd, dd, dd, dd, dd, dd, dd, dd, dd, dd, dd, dd, dd, dd, dd, dd, dd, dd, dd, dd, dd, dd, dd, dd, dd, dd, dd, dd, dd, dd, dd, dd, dd, dd, dd, dd, dd, dd, dd, dd, dd, dd, dd, dd, dd, dd, dd, dd, dd, dd, dd, dd, dd, dd, dd, dd, dd], []⟩
def G_label_Run_L3_hd (v_who5 : (List S_label_Label)) (v_what6 : (List S_label_Label)) (v_acts7 : (List S_label_Act)) (v_x13 : Int) : PS := ⟨[.d (.sl (v_who5.map eS_label_Label)), .d (.sl (v_what6.map eS_label_Label)), .d (.sl (v_acts7.map eS_label_Act)), dd, dd, dd, dd, dd, dd, dd, dd, dd, dd, dd, dd, dd, dd, dd, dd, dd, dd, dd, dd, dd, dd, dd, dd, dd, dd, dd, dd, dd, dd, .d (.sl (([v_who5, v_what6]).map (eL eS_label_Label))), .d (.v (.int .i64 (([v_who5, v_what6]).length : Int))), .d (.v (.int .i64 v_x13)), dd, dd, dd, dd, dd, dd, dd, dd, dd, dd, dd, dd, dd, dd, dd, dd, dd, dd, dd, dd, dd, dd, dd, dd, dd, dd, dd, dd, dd, dd, dd, dd, dd, dd, dd, dd, dd, dd, dd, dd, dd, dd, dd, dd, dd, dd, dd, dd, dd, dd, dd, dd, dd, dd, dd, dd, dd, dd, dd, dd, dd, dd, dd, dd, dd, dd, dd, dd, dd, dd, dd, dd, dd, dd, dd, dd, dd, dd, dd, dd], []⟩
def G_label_Run_L3 (n : Nat) (v_who5 : (List S_label_Label)) (v_what6 : (List S_label_Label)) (v_acts7 : (List S_label_Act)) : Nat → Int → Option G_label_Run_L3_R
  | 0, _ => none
  | k + 1, v_x13 =>
    if v_x13 < (([v_who5, v_what6]).length : Int) then
     (getI ([v_who5, v_what6]) v_x13).bind fun (v_y14 : (List S_label_Label)) =>
     (G_label_Run_L2 n v_who5 v_what6 v_acts7 v_x13 v_y14 n 0).bind fun v_o28 => match v_o28 with
     | .x0 v_z29 =>
       some (.x0 v_z29)
     | .x1  =>
       G_label_Run_L3 n v_who5 v_what6 v_acts7 k (wi .i64 (v_x13 + 1))
    else
     some (.x1 )
theorem G_label_Run_L3_ok {Fi : Ex → PS → Prop} (hF : KC 116 Fi) (ks : List Fr) (n : Nat) (v_who5 : (List S_label_Label)) (v_what6 : (List S_label_Label)) (v_acts7 : (List S_label_Act))  : ∀ (k : Nat) (v_x13 : Int) (o : G_label_Run_L3_R), G_label_Run_L3 n v_who5 v_what6 v_acts7 k v_x13 = some o → RunE Try.prog 116 Fi ks (G_label_Run_L3_ex o) (G_label_Run_L3_st v_who5 v_what6 v_acts7 o) → RunE Try.prog 116 Fi (.l k (cP (cB (cR (cL (cR (cR (bodyOf Try.f34))))))) :: ks) .normal (G_label_Run_L3_hd v_who5 v_what6 v_acts7 v_x13)
  | 0, v_x13, o, h, q => by rw [G_label_Run_L3] at h; cases h
  | k + 1, v_x13, o, h, q => by
    rw [G_label_Run_L3] at h
    by_cases h7 : v_x13 < (([v_who5, v_what6]).length : Int)
    · rw [if_pos h7] at h
      obtain ⟨v_y14, h8, h⟩ := bind_some h
      obtain ⟨v_o28, h26, h⟩ := bind_some h
      refine pkk_sound TTok mix hF 14 (hs := [.t true, .y ((eL eS_label_Label) v_y14), .c, .u (.d (.v (.int .i64 (v_y14.length : Int)))), .n n]) (ts := []) (s := []) (l := [0, 1, 2, 33, 34, 35, 39, 40, 41]) (by kernel_rfl) (by kernel_rfl) (.cons (dt h7) (.cons (getI_ob (f := (eL eS_label_Label)) h8) (.cons (len_ob (f := eS_label_Label) (l := v_y14)) .nil))) (G_label_Run_L2_ok hF (.b 2 :: .b 1 :: .s (cR (cR (cR (cP (cB (cR (cL (cR (cR (bodyOf Try.f34)))))))))) :: .l k (cP (cB (cR (cL (cR (cR (bodyOf Try.f34))))))) :: ks) n v_who5 v_what6 v_acts7 v_x13 v_y14 n 0 _ h26 ?_)
      cases v_o28 with
      | x0 v_z29 =>
        try dsimp only at h
        cases h
        exact pkk_sound TTok mix hF 4 (hs := []) (ts := []) (s := []) (l := [6, 7]) (by kernel_rfl) (by kernel_rfl) .nil q
      | x1  =>
        try dsimp only at h
        exact pkk_sound TTok mix hF 3 (hs := []) (ts := []) (s := []) (l := [0, 1, 2, 33, 34, 35]) (by kernel_rfl) (by kernel_rfl) .nil (G_label_Run_L3_ok hF ks n v_who5 v_what6 v_acts7 k (wi .i64 (v_x13 + 1)) _ h q)
    · rw [if_neg h7] at h
      cases h
      exact pkk_sound TTok mix hF 8 (hs := [.t false]) (ts := []) (s := []) (l := [0, 1, 2]) (by kernel_rfl) (by kernel_rfl) (.cons (df h7) .nil) q
inductive G_label_Run_C4_R where
  | x0 (v_x66 : Bool) (v_w67 : (List Bool))
def G_label_Run_C4_ex : G_label_Run_C4_R → Ex
  | .x0 _ _ => .normal
def G_label_Run_C4_st (v_who5 : (List S_label_Label)) (v_what6 : (List S_label_Label)) (v_acts7 : (List S_label_Act)) (v_x33 : Int) (v_w34 : (List Bool)) (v_y65 : S_label_Act) : G_label_Run_C4_R → PS
  | .x0 v_x66 v_w67 => ⟨[.d (.sl (v_who5.map eS_label_Label)), .d (.sl (v_what6.map eS_label_Label)), dd, dd, dd, dd, dd, dd, dd, dd, dd, dd, dd, .srf 0, dd, .ref 1 0, dd, dd, dd, dd, dd, dd, dd, dd, dd, dd, dd, dd, dd, dd, dd, dd, dd, dd, dd, dd, dd, dd, dd, dd, dd, dd, dd, dd, dd, dd, dd, dd, dd, dd, dd, dd, .d (.sl (v_acts7.map eS_label_Act)), .d (.v (.int .i64 (v_acts7.length : Int))), .d (.v (.int .i64 v_x33)), dd, dd, dd, dd, dd, dd, dd, dd, dd, dd, dd, dd, dd, dd, dd, dd, dd, dd, dd, dd, dd, dd, dd, dd, .d (.v (.bool v_x66)), dd, dd, dd, dd, dd, dd, dd, dd, dd, dd, dd, dd, dd, dd, dd, dd, dd, dd, dd, dd, dd, dd, dd, dd, dd, dd, dd, dd, dd, dd, dd, dd, dd, dd, dd, dd], [.row 4 1 (v_w67.map eB), .box [.d (.v (.int .i64 v_y65.fWho)), .d (.v (.int .i64 v_y65.fWhat)), .d (.v (.bool v_y65.fWrite))]]⟩
def G_label_Run_C4_hd (v_who5 : (List S_label_Label)) (v_what6 : (List S_label_Label)) (v_acts7 : (List S_label_Act)) (v_x33 : Int) (v_w34 : (List Bool)) (v_y65 : S_label_Act)  : PS := ⟨[.d (.sl (v_who5.map eS_label_Label)), .d (.sl (v_what6.map eS_label_Label)), dd, dd, dd, dd, dd, dd, dd, dd, dd, dd, dd, .srf 0, dd, .ref 1 0, dd, dd, dd, dd, dd, dd, dd, dd, dd, dd, dd, dd, dd, dd, dd, dd, dd, dd, dd, dd, dd, dd, dd, dd, dd, dd, dd, dd, dd, dd, dd, dd, dd, dd, dd, dd, .d (.sl (v_acts7.map eS_label_Act)), .d (.v (.int .i64 (v_acts7.length : Int))), .d (.v (.int .i64 v_x33)), dd, dd, dd, dd, dd, dd, dd, dd, dd, dd, dd, dd, dd, dd, dd, dd, dd, dd, dd, dd, dd, dd, dd, dd, dd, dd, dd, dd, dd, dd, dd, dd, dd, dd, dd, dd, dd, dd, dd, dd, dd, dd, dd, dd, dd, dd, dd, dd, dd, dd, dd, dd, dd, dd, dd, dd, dd, dd, dd, dd, dd], [.row 4 1 (v_w34.map eB), .box [.d (.v (.int .i64 v_y65.fWho)), .d (.v (.int .i64 v_y65.fWhat)), .d (.v (.bool v_y65.fWrite))]]⟩
def G_label_Run_C4 (n : Nat) (v_who5 : (List S_label_Label)) (v_what6 : (List S_label_Label)) (v_acts7 : (List S_label_Act)) (v_x33 : Int) (v_w34 : (List Bool)) (v_y65 : S_label_Act) : Option G_label_Run_C4_R :=
  if v_y65.fWho < 0 then
   some (.x0 true v_w34)
  else
   if v_y65.fWho ≥ (v_who5.length : Int) then
    some (.x0 true v_w34)
   else
    if v_y65.fWhat < 0 then
     some (.x0 true v_w34)
    else
     some (.x0 (decide (v_y65.fWhat ≥ (v_what6.length : Int))) v_w34)
theorem G_label_Run_C4_ok {Fi : Ex → PS → Prop} (hF : KC 116 Fi) (ks : List Fr) (n : Nat) (v_who5 : (List S_label_Label)) (v_what6 : (List S_label_Label)) (v_acts7 : (List S_label_Act)) (v_x33 : Int) (v_w34 : (List Bool)) (v_y65 : S_label_Act)  (o : G_label_Run_C4_R) (h : G_label_Run_C4 n v_who5 v_what6 v_acts7 v_x33 v_w34 v_y65 = some o) (q : RunE Try.prog 116 Fi ks (G_label_Run_C4_ex o) (G_label_Run_C4_st v_who5 v_what6 v_acts7 v_x33 v_w34 v_y65 o)) : RunE Try.prog 116 Fi (.s (cL (cL (cR (cB (cL (cR (cR (cP (cB (cR (cL (cR (cR (cR (cR (bodyOf Try.f34)))))))))))))))) :: ks) .normal (G_label_Run_C4_hd v_who5 v_what6 v_acts7 v_x33 v_w34 v_y65) := by
  unfold G_label_Run_C4 at h
  by_cases h63 : v_y65.fWho < 0
  · rw [if_pos h63] at h
    cases h
    exact pkk_sound TTok mix hF 1 (hs := [.c, .t true, .c, .c, .c, .c, .c, .c, .c, .c, .c, .c, .c, .c]) (ts := []) (s := [0, 1]) (l := [0, 1, 13, 15, 52, 53, 54, 79]) (by kernel_rfl) (by kernel_rfl) (.cons (dt h63) .nil) q
  · rw [if_neg h63] at h
    by_cases h64 : v_y65.fWho ≥ (v_who5.length : Int)
    · rw [if_pos h64] at h
      cases h
      exact pkk_sound TTok mix hF 1 (hs := [.c, .t false, .c, .c, .c, .c, .u (.d (.v (.int .i64 (v_who5.length : Int)))), .c, .t true, .c, .c, .c, .c, .c, .c, .c]) (ts := []) (s := [0, 1]) (l := [0, 1, 13, 15, 52, 53, 54, 79]) (by kernel_rfl) (by kernel_rfl) (.cons (df h63) (.cons (len_ob (f := eS_label_Label) (l := v_who5)) (.cons (dt h64) .nil))) q
    · rw [if_neg h64] at h
      by_cases h65 : v_y65.fWhat < 0
      · rw [if_pos h65] at h
        cases h
        exact pkk_sound TTok mix hF 1 (hs := [.c, .t false, .c, .c, .c, .c, .u (.d (.v (.int .i64 (v_who5.length : Int)))), .c, .t false, .c, .c, .c, .t true, .c, .c, .c, .c]) (ts := []) (s := [0, 1]) (l := [0, 1, 13, 15, 52, 53, 54, 79]) (by kernel_rfl) (by kernel_rfl) (.cons (df h63) (.cons (len_ob (f := eS_label_Label) (l := v_who5)) (.cons (df h64) (.cons (dt h65) .nil)))) q
      · rw [if_neg h65] at h
        cases h
        exact pkk_sound TTok mix hF 1 (hs := [.c, .t false, .c, .c, .c, .c, .u (.d (.v (.int .i64 (v_who5.length : Int)))), .c, .t false, .c, .c, .c, .t false, .c, .c, .c, .c, .u (.d (.v (.int .i64 (v_what6.length : Int)))), .c]) (ts := []) (s := [0, 1]) (l := [0, 1, 13, 15, 52, 53, 54, 79]) (by kernel_rfl) (by kernel_rfl) (.cons (df h63) (.cons (len_ob (f := eS_label_Label) (l := v_who5)) (.cons (df h64) (.cons (df h65) (.cons (len_ob (f := eS_label_Label) (l := v_what6)) .nil))))) q
inductive G_label_Run_L5_R where
  | x0 (v_x77 : Int)
  | x1 (v_w89 : (List Bool))
def G_label_Run_L5_ex : G_label_Run_L5_R → Ex
  | .x0 _ => .ret
  | .x1 _ => .exit 4
def G_label_Run_L5_st (v_who5 : (List S_label_Label)) (v_what6 : (List S_label_Label)) (v_acts7 : (List S_label_Act)) : G_label_Run_L5_R → PS
  | .x0 v_x77 => ⟨[dd, dd, dd, dd, dd, dd, .d (vnil), .d (.v (.int .i64 v_x77)), dd, dd, dd, dd, dd, dd, dd, dd, dd, dd, dd, dd, dd, dd, dd, dd, dd, dd, dd, dd, dd, dd, dd, dd, dd, dd, dd, dd, dd, dd, dd, dd, dd, dd, dd, dd, dd, dd, dd, dd, dd, dd, dd, dd, dd, dd, dd, dd, dd, dd, dd, dd, dd, dd, dd, dd, dd, dd, dd, dd, dd, dd, dd, dd, dd, dd, dd, dd, dd, dd, dd, dd, dd, dd, dd, dd, dd, dd, dd, dd, dd, dd, dd, dd, dd, dd, dd, dd, dd, dd, dd, dd, dd, dd, dd, dd, dd, dd, dd, dd, dd, dd, dd, dd, dd, dd, dd, dd], []⟩
  | .x1 v_w89 => ⟨[dd, dd, dd, dd, dd, dd, dd, dd, dd, dd, dd, dd, dd, .srf 0, dd, dd, dd, dd, dd, dd, dd, dd, dd, dd, dd, dd, dd, dd, dd, dd, dd, dd, dd, dd, dd, dd, dd, dd, dd, dd, dd, dd, dd, dd, dd, dd, dd, dd, dd, dd, dd, dd, dd, dd, dd, dd, dd, dd, dd, dd, dd, dd, dd, dd, dd, dd, dd, dd, dd, dd, dd, dd, dd, dd, dd, dd, dd, dd, dd, dd, dd, dd, dd, dd, dd, dd, dd, dd, dd, dd, dd, dd, dd, dd, dd, dd, dd, dd, dd, dd, dd, dd, dd, dd, dd, dd, dd, dd, dd, dd, dd, dd, dd, dd, dd, dd], [.row 4 1 (v_w89.map eB)]⟩
def G_label_Run_L5_hd (v_who5 : (List S_label_Label)) (v_what6 : (List S_label_Label)) (v_acts7 : (List S_label_Act)) (v_x33 : Int) (v_w34 : (List Bool)) : PS := ⟨[.d (.sl (v_who5.map eS_label_Label)), .d (.sl (v_what6.map eS_label_Label)), dd, dd, dd, dd, dd, dd, dd, dd, dd, dd, dd, .srf 0, dd, dd, dd, dd, dd, dd, dd, dd, dd, dd, dd, dd, dd, dd, dd, dd, dd, dd, dd, dd, dd, dd, dd, dd, dd, dd, dd, dd, dd, dd, dd, dd, dd, dd, dd, dd, dd, dd, .d (.sl (v_acts7.map eS_label_Act)), .d (.v (.int .i64 (v_acts7.length : Int))), .d (.v (.int .i64 v_x33)), dd, dd, dd, dd, dd, dd, dd, dd, dd, dd, dd, dd, dd, dd, dd, dd, dd, dd, dd, dd, dd, dd, dd, dd, dd, dd, dd, dd, dd, dd, dd, dd, dd, dd, dd, dd, dd, dd, dd, dd, dd, dd, dd, dd, dd, dd, dd, dd, dd, dd, dd, dd, dd, dd, dd, dd, dd, dd, dd, dd, dd], [.row 4 1 (v_w34.map eB)]⟩
def G_label_Run_L5 (n : Nat) (v_who5 : (List S_label_Label)) (v_what6 : (List S_label_Label)) (v_acts7 : (List S_label_Act)) : Nat → Int → (List Bool) → Option G_label_Run_L5_R
  | 0, _, _ => none
  | k + 1, v_x33, v_w34 =>
    if v_x33 < (v_acts7.length : Int) then
     (getI v_acts7 v_x33).bind fun (v_y65 : S_label_Act) =>
     (G_label_Run_C4 n v_who5 v_what6 v_acts7 v_x33 v_w34 v_y65).bind fun v_o74 => match v_o74 with
     | .x0 v_z75 v_z76 =>
       if v_z75 = true then
        some (.x0 4)
       else
        (getI v_what6 v_y65.fWhat).bind fun (v_y78 : S_label_Label) =>
        (getI v_who5 v_y65.fWho).bind fun (v_y79 : S_label_Label) =>
        (G_label_Flows n v_y78 v_y79).bind fun (v_r80 : (Bool × Int)) =>
        if v_y65.fWrite = true then
         (getI v_who5 v_y65.fWho).bind fun (v_y84 : S_label_Label) =>
         (getI v_what6 v_y65.fWhat).bind fun (v_y85 : S_label_Label) =>
         (G_label_Flows n v_y84 v_y85).bind fun (v_r86 : (Bool × Int)) =>
         (app 1 v_z76 ([v_r86.1])).bind fun (v_a87 : (List Bool)) =>
         G_label_Run_L5 n v_who5 v_what6 v_acts7 k (wi .i64 (v_x33 + 1)) v_a87
        else
         (app 1 v_z76 ([v_r80.1])).bind fun (v_a88 : (List Bool)) =>
         G_label_Run_L5 n v_who5 v_what6 v_acts7 k (wi .i64 (v_x33 + 1)) v_a88
    else
     some (.x1 v_w34)
theorem G_label_Run_L5_ok {Fi : Ex → PS → Prop} (hF : KC 116 Fi) (ks : List Fr) (n : Nat) (v_who5 : (List S_label_Label)) (v_what6 : (List S_label_Label)) (v_acts7 : (List S_label_Act))  : ∀ (k : Nat) (v_x33 : Int) (v_w34 : (List Bool)) (o : G_label_Run_L5_R), G_label_Run_L5 n v_who5 v_what6 v_acts7 k v_x33 v_w34 = some o → RunE Try.prog 116 Fi ks (G_label_Run_L5_ex o) (G_label_Run_L5_st v_who5 v_what6 v_acts7 o) → RunE Try.prog 116 Fi (.l k (cP (cB (cR (cL (cR (cR (cR (cR (bodyOf Try.f34))))))))) :: ks) .normal (G_label_Run_L5_hd v_who5 v_what6 v_acts7 v_x33 v_w34)
  | 0, v_x33, v_w34, o, h, q => by rw [G_label_Run_L5] at h; cases h
  | k + 1, v_x33, v_w34, o, h, q => by
    rw [G_label_Run_L5] at h
    by_cases h28 : v_x33 < (v_acts7.length : Int)
    · rw [if_pos h28] at h
      obtain ⟨v_y65, h59, h⟩ := bind_some h
      obtain ⟨v_o74, h66, h⟩ := bind_some h
      refine pkk_sound TTok mix hF 12 (hs := [.t true, .y (eS_label_Act v_y65), .c]) (ts := []) (s := [0, 10]) (l := [0, 1, 13, 15, 52, 53, 54]) (by kernel_rfl) (by kernel_rfl) (.cons (dt h28) (.cons (getI_ob (f := eS_label_Act) h59) (.cons (show 0 + 3 ≤ 3 by decide) .nil))) (G_label_Run_C4_ok hF (.s (cR (cL (cR (cB (cL (cR (cR (cP (cB (cR (cL (cR (cR (cR (cR (bodyOf Try.f34)))))))))))))))) :: .s (cR (cR (cB (cL (cR (cR (cP (cB (cR (cL (cR (cR (cR (cR (bodyOf Try.f34))))))))))))))) :: .b 5 :: .s (cR (cR (cR (cP (cB (cR (cL (cR (cR (cR (cR (bodyOf Try.f34)))))))))))) :: .l k (cP (cB (cR (cL (cR (cR (cR (cR (bodyOf Try.f34))))))))) :: ks) n v_who5 v_what6 v_acts7 v_x33 v_w34 v_y65 _ h66 ?_)
      cases v_o74 with
      | x0 v_z75 v_z76 =>
        try dsimp only at h
        by_cases h67 : v_z75 = true
        · rw [if_pos h67] at h
          cases h
          exact pkk_sound TTok mix hF 8 (hs := [.t true]) (ts := []) (s := []) (l := [6, 7]) (by kernel_rfl) (by kernel_rfl) (.cons h67 .nil) q
        · rw [if_neg h67] at h
          obtain ⟨v_y78, h68, h⟩ := bind_some h
          obtain ⟨v_y79, h69, h⟩ := bind_some h
          obtain ⟨v_r80, h70, h⟩ := bind_some h
          by_cases h75 : v_y65.fWrite = true
          · rw [if_pos h75] at h
            obtain ⟨v_y84, h76, h⟩ := bind_some h
            obtain ⟨v_y85, h77, h⟩ := bind_some h
            obtain ⟨v_r86, h78, h⟩ := bind_some h
            obtain ⟨v_a87, h79, h⟩ := bind_some h
            exact pkk_sound TTok mix hF 12 (hs := [.t false, .c, .y (eS_label_Label v_y78), .c, .y (eS_label_Label v_y79), .r (.tup [eB v_r80.1, (eI .i64) v_r80.2]), .c, .t true, .c, .y (eS_label_Label v_y84), .c, .y (eS_label_Label v_y85), .r (.tup [eB v_r86.1, (eI .i64) v_r86.2]), .bd, .w (v_a87.map eB)]) (ts := []) (s := [110]) (l := [0, 1, 13, 52, 53, 54]) (by kernel_rfl) (by kernel_rfl) (.cons (vf h67) (.cons (getI_ob (f := eS_label_Label) h68) (.cons (getI_ob (f := eS_label_Label) h69) (.cons (G_label_Flows_ok n v_y78 v_y79 _ h70) (.cons h75 (.cons (getI_ob (f := eS_label_Label) h76) (.cons (getI_ob (f := eS_label_Label) h77) (.cons (G_label_Flows_ok n v_y84 v_y85 _ h78) (.cons (app_ob (f := eB) (s := 1) h79 (fun _ => rfl)).1 (.cons (app_ob (f := eB) (s := 1) h79 (fun _ => rfl)).2.1 (.cons (app_ob (f := eB) (s := 1) h79 (fun _ => rfl)).2.2.1 (.cons (app_ob (f := eB) (s := 1) h79 (fun _ => rfl)).2.2.2 .nil)))))))))))) (G_label_Run_L5_ok hF ks n v_who5 v_what6 v_acts7 k (wi .i64 (v_x33 + 1)) v_a87 _ h q)
          · rw [if_neg h75] at h
            obtain ⟨v_a88, h80, h⟩ := bind_some h
            exact pkk_sound TTok mix hF 12 (hs := [.t false, .c, .y (eS_label_Label v_y78), .c, .y (eS_label_Label v_y79), .r (.tup [eB v_r80.1, (eI .i64) v_r80.2]), .c, .t false, .bd, .w (v_a88.map eB)]) (ts := []) (s := [65]) (l := [0, 1, 13, 52, 53, 54]) (by kernel_rfl) (by kernel_rfl) (.cons (vf h67) (.cons (getI_ob (f := eS_label_Label) h68) (.cons (getI_ob (f := eS_label_Label) h69) (.cons (G_label_Flows_ok n v_y78 v_y79 _ h70) (.cons (vf h75) (.cons (app_ob (f := eB) (s := 1) h80 (fun _ => rfl)).1 (.cons (app_ob (f := eB) (s := 1) h80 (fun _ => rfl)).2.1 (.cons (app_ob (f := eB) (s := 1) h80 (fun _ => rfl)).2.2.1 (.cons (app_ob (f := eB) (s := 1) h80 (fun _ => rfl)).2.2.2 .nil))))))))) (G_label_Run_L5_ok hF ks n v_who5 v_what6 v_acts7 k (wi .i64 (v_x33 + 1)) v_a88 _ h q)
    · rw [if_neg h28] at h
      cases h
      exact pkk_sound TTok mix hF 8 (hs := [.t false]) (ts := []) (s := [0]) (l := [13]) (by kernel_rfl) (by kernel_rfl) (.cons (df h28) .nil) q
/- ringhall/label.Run -/
def G_label_Run (n : Nat) (v_who5 : (List S_label_Label)) (v_what6 : (List S_label_Label)) (v_acts7 : (List S_label_Act)) : Option ((List Bool) × Int) :=
  (G_label_Run_C1 n v_who5 v_what6 v_acts7).bind fun v_o11 => match v_o11 with
  | .x0 v_z12 =>
    if v_z12 = true then
     some (([] : (List Bool)), 2)
    else
     (G_label_Run_L3 n v_who5 v_what6 v_acts7 n 0).bind fun v_o31 => match v_o31 with
     | .x0 v_z32 =>
       some (([] : (List Bool)), v_z32)
     | .x1  =>
       (G_label_Run_L5 n v_who5 v_what6 v_acts7 n 0 ([] : List Bool)).bind fun v_o90 => match v_o90 with
       | .x0 v_z91 =>
         some (([] : (List Bool)), v_z91)
       | .x1 v_z92 =>
         some (v_z92, 0)
theorem G_label_Run_ok (n : Nat) (v_who5 : (List S_label_Label)) (v_what6 : (List S_label_Label)) (v_acts7 : (List S_label_Act)) (r : (List Bool) × Int) (h : G_label_Run n v_who5 v_what6 v_acts7 = some r) : Ret Try.prog 34 [(eL eS_label_Label) v_who5, (eL eS_label_Label) v_what6, (eL eS_label_Act) v_acts7] (.tup [(eL eB) r.1, (eI .i64) r.2]) := by
  refine ret_run (n := 116) (fn := Try.f34) (c := bodyOf Try.f34) (by kernel_rfl) (by kernel_rfl) (by kernel_rfl) (by kernel_rfl) ?_
  have hF : KC 116 (FinR Try.prog Try.f34 (.tup [(eL eB) r.1, (eI .i64) r.2])) := FinR.kc' (by kernel_rfl)
  unfold G_label_Run at h
  obtain ⟨v_o11, h5, h⟩ := bind_some h
  refine pkk_sound TTok mix hF 4 (hs := []) (ts := []) (s := []) (l := [0, 1, 2]) (by kernel_rfl) (by kernel_rfl) .nil (G_label_Run_C1_ok hF (.s (cR (cL (cR (bodyOf Try.f34)))) :: .s (cR (cR (bodyOf Try.f34))) :: []) n v_who5 v_what6 v_acts7 _ h5 ?_)
  cases v_o11 with
  | x0 v_z12 =>
    try dsimp only at h
    by_cases h6 : v_z12 = true
    · rw [if_pos h6] at h
      obtain rfl := Option.some.inj h
      exact pend_sound TTok mix 5 (hs := [.t true]) (by kernel_rfl) (by kernel_rfl) (by kernel_rfl) (.cons h6 .nil)
    · rw [if_neg h6] at h
      obtain ⟨v_o31, h27, h⟩ := bind_some h
      refine pkk_sound TTok mix hF 7 (hs := [.t false, .bd, .u (.d (.v (.int .i64 (([v_who5, v_what6]).length : Int)))), .n n]) (ts := []) (s := []) (l := [0, 1, 2, 33, 34, 35]) (by kernel_rfl) (by kernel_rfl) (.cons (vf h6) (.cons (len_ob (f := (eL eS_label_Label)) (l := [v_who5, v_what6])) .nil)) (G_label_Run_L3_ok hF (.b 0 :: .s (cR (cR (cR (bodyOf Try.f34)))) :: []) n v_who5 v_what6 v_acts7 n 0 _ h27 ?_)
      cases v_o31 with
      | x0 v_z32 =>
        try dsimp only at h
        obtain rfl := Option.some.inj h
        exact pend_sound TTok mix 2 (hs := []) (by kernel_rfl) (by kernel_rfl) (by kernel_rfl) .nil
      | x1  =>
        try dsimp only at h
        obtain ⟨v_o90, h81, h⟩ := bind_some h
        refine pkk_sound TTok mix hF 8 (hs := [.u (.d (.v (.int .i64 (v_acts7.length : Int)))), .n n]) (ts := [(13, 4, 1)]) (s := [12]) (l := [0, 1, 13, 52, 53, 54]) (by kernel_rfl) (by kernel_rfl) (.cons (len_ob (f := eS_label_Act) (l := v_acts7)) .nil) (G_label_Run_L5_ok hF (.b 4 :: .s (cR (cR (cR (cR (cR (bodyOf Try.f34)))))) :: []) n v_who5 v_what6 v_acts7 n 0 ([] : List Bool) _ h81 ?_)
        cases v_o90 with
        | x0 v_z91 =>
          try dsimp only at h
          obtain rfl := Option.some.inj h
          exact pend_sound TTok mix 2 (hs := []) (by kernel_rfl) (by kernel_rfl) (by kernel_rfl) .nil
        | x1 v_z92 =>
          try dsimp only at h
          obtain rfl := Option.some.inj h
          exact pend_sound TTok mix 4 (hs := []) (by kernel_rfl) (by kernel_rfl) (by kernel_rfl) .nil
inductive G_label_Taint_C1_R where
  | x0 (v_x99 : Bool)
def G_label_Taint_C1_ex : G_label_Taint_C1_R → Ex
  | .x0 _ => .normal
def G_label_Taint_C1_st (v_what95 : (List S_label_Label)) (v_acts96 : (List S_label_Act)) (v_from97 : Int) (v_r98 : ((List Bool) × Int)) : G_label_Taint_C1_R → PS
  | .x0 v_x99 => ⟨[dd, dd, .d (.sl (v_acts96.map eS_label_Act)), .d (.v (.int .i64 v_from97)), dd, dd, dd, dd, dd, dd, dd, .d (.sl (v_r98.1.map eB)), dd, dd, dd, dd, dd, dd, dd, dd, dd, dd, dd, dd, dd, dd, dd, dd, dd, dd, dd, dd, dd, dd, dd, dd, dd, .d (.v (.bool v_x99)), dd, dd, dd, dd, dd, dd, dd, dd, dd, dd, dd, dd, dd, dd, dd, dd, dd, dd, dd, dd, dd, dd, dd, dd, dd, dd, dd, dd, dd, dd, dd, dd, dd, dd, dd, dd, dd, dd, dd, dd, dd, dd, dd, dd, dd, dd, dd, dd, dd, dd, dd, dd, dd, dd, dd, dd, dd, dd, dd, dd, dd, dd, dd], []⟩
def G_label_Taint_C1_hd (v_what95 : (List S_label_Label)) (v_acts96 : (List S_label_Act)) (v_from97 : Int) (v_r98 : ((List Bool) × Int))  : PS := ⟨[dd, .d (.sl (v_what95.map eS_label_Label)), .d (.sl (v_acts96.map eS_label_Act)), .d (.v (.int .i64 v_from97)), dd, dd, dd, dd, dd, dd, dd, .d (.sl (v_r98.1.map eB)), dd, dd, dd, dd, dd, dd, dd, dd, dd, dd, dd, dd, dd, dd, dd, dd, dd, dd, dd, dd, dd, dd, dd, dd, dd, dd, dd, dd, dd, dd, dd, dd, dd, dd, dd, dd, dd, dd, dd, dd, dd, dd, dd, dd, dd, dd, dd, dd, dd, dd, dd, dd, dd, dd, dd, dd, dd, dd, dd, dd, dd, dd, dd, dd, dd, dd, dd, dd, dd, dd, dd, dd, dd, dd, dd, dd, dd, dd, dd, dd, dd, dd, dd, dd, dd, dd, dd, dd, dd], []⟩
def G_label_Taint_C1 (n : Nat) (v_what95 : (List S_label_Label)) (v_acts96 : (List S_label_Act)) (v_from97 : Int) (v_r98 : ((List Bool) × Int)) : Option G_label_Taint_C1_R :=
  if v_from97 < 0 then
   some (.x0 true)
  else
   some (.x0 (decide (v_from97 ≥ (v_what95.length : Int))))
theorem G_label_Taint_C1_ok {Fi : Ex → PS → Prop} (hF : KC 101 Fi) (ks : List Fr) (n : Nat) (v_what95 : (List S_label_Label)) (v_acts96 : (List S_label_Act)) (v_from97 : Int) (v_r98 : ((List Bool) × Int))  (o : G_label_Taint_C1_R) (h : G_label_Taint_C1 n v_what95 v_acts96 v_from97 v_r98 = some o) (q : RunE Try.prog 101 Fi ks (G_label_Taint_C1_ex o) (G_label_Taint_C1_st v_what95 v_acts96 v_from97 v_r98 o)) : RunE Try.prog 101 Fi (.s (cL (cL (cR (cR (cR (bodyOf Try.f35)))))) :: ks) .normal (G_label_Taint_C1_hd v_what95 v_acts96 v_from97 v_r98) := by
  unfold G_label_Taint_C1 at h
  by_cases h87 : v_from97 < 0
  · rw [if_pos h87] at h
    cases h
    exact pkk_sound TTok mix hF 1 (hs := [.t true, .c, .c, .c]) (ts := []) (s := []) (l := [2, 3, 11, 37]) (by kernel_rfl) (by kernel_rfl) (.cons (dt h87) .nil) q
  · rw [if_neg h87] at h
    cases h
    exact pkk_sound TTok mix hF 1 (hs := [.t false, .c, .c, .u (.d (.v (.int .i64 (v_what95.length : Int)))), .c]) (ts := []) (s := []) (l := [2, 3, 11, 37]) (by kernel_rfl) (by kernel_rfl) (.cons (df h87) (.cons (len_ob (f := eS_label_Label) (l := v_what95)) .nil)) q
inductive G_label_Taint_C2_R where
  | x0 
  | x1 (v_b170 : (Fin 6 → Bool))
  | x2 
  | x3 (v_b179 : (Fin 6 → Bool))
def G_label_Taint_C2_ex : G_label_Taint_C2_R → Ex
  | .x0  => .normal
  | .x1 _ => .normal
  | .x2  => .normal
  | .x3 _ => .normal
def G_label_Taint_C2_st (v_r98 : ((List Bool) × Int)) (v_acts96 : (List S_label_Act)) (v_x104 : Int) (v_y144 : S_label_Act) (v_from97 : Int) : G_label_Taint_C2_R → PS
  | .x0  => ⟨[dd, dd, dd, dd, dd, dd, dd, dd, dd, dd, dd, .d (.sl (v_r98.1.map eB)), dd, .ref 0 0, .ref 1 0, dd, dd, dd, dd, dd, dd, dd, dd, dd, dd, dd, dd, dd, dd, dd, dd, dd, dd, dd, dd, dd, dd, dd, dd, dd, .d (.sl (v_acts96.map eS_label_Act)), .d (.v (.int .i64 (v_acts96.length : Int))), .d (.v (.int .i64 v_x104)), dd, dd, dd, dd, dd, dd, dd, dd, dd, dd, dd, dd, dd, dd, dd, dd, dd, dd, dd, dd, dd, dd, dd, dd, dd, dd, dd, dd, dd, dd, dd, dd, dd, dd, dd, dd, dd, dd, dd, dd, dd, dd, dd, dd, dd, dd, dd, dd, dd, dd, dd, dd, dd, dd, dd, dd, dd, dd], [.box [.d (.v (.bool false)), .d (.v (.bool false)), .d (.v (.bool false)), .d (.v (.bool false)), .d (.v (.bool false)), .d (.v (.bool false))], .box [.d (.v (.bool ((setA (setA (fun (_ : Fin 6) => false) v_from97 true) v_y144.fWhat true) 0))), .d (.v (.bool ((setA (setA (fun (_ : Fin 6) => false) v_from97 true) v_y144.fWhat true) 1))), .d (.v (.bool ((setA (setA (fun (_ : Fin 6) => false) v_from97 true) v_y144.fWhat true) 2))), .d (.v (.bool ((setA (setA (fun (_ : Fin 6) => false) v_from97 true) v_y144.fWhat true) 3))), .d (.v (.bool ((setA (setA (fun (_ : Fin 6) => false) v_from97 true) v_y144.fWhat true) 4))), .d (.v (.bool ((setA (setA (fun (_ : Fin 6) => false) v_from97 true) v_y144.fWhat true) 5)))]]⟩
  | .x1 v_b170 => ⟨[dd, dd, dd, dd, dd, dd, dd, dd, dd, dd, dd, .d (.sl (v_r98.1.map eB)), dd, .ref 0 0, .ref 1 0, dd, dd, dd, dd, dd, dd, dd, dd, dd, dd, dd, dd, dd, dd, dd, dd, dd, dd, dd, dd, dd, dd, dd, dd, dd, .d (.sl (v_acts96.map eS_label_Act)), .d (.v (.int .i64 (v_acts96.length : Int))), .d (.v (.int .i64 v_x104)), dd, dd, dd, dd, dd, dd, dd, dd, dd, dd, dd, dd, dd, dd, dd, dd, dd, dd, dd, dd, dd, dd, dd, dd, dd, dd, dd, dd, dd, dd, dd, dd, dd, dd, dd, dd, dd, dd, dd, dd, dd, dd, dd, dd, dd, dd, dd, dd, dd, dd, dd, dd, dd, dd, dd, dd, dd, dd], [.box [.d (.v (.bool false)), .d (.v (.bool false)), .d (.v (.bool false)), .d (.v (.bool false)), .d (.v (.bool false)), .d (.v (.bool false))], .box [.d (.v (.bool (v_b170 0))), .d (.v (.bool (v_b170 1))), .d (.v (.bool (v_b170 2))), .d (.v (.bool (v_b170 3))), .d (.v (.bool (v_b170 4))), .d (.v (.bool (v_b170 5)))]]⟩
  | .x2  => ⟨[dd, dd, dd, dd, dd, dd, dd, dd, dd, dd, dd, .d (.sl (v_r98.1.map eB)), dd, .ref 0 0, .ref 1 0, dd, dd, dd, dd, dd, dd, dd, dd, dd, dd, dd, dd, dd, dd, dd, dd, dd, dd, dd, dd, dd, dd, dd, dd, dd, .d (.sl (v_acts96.map eS_label_Act)), .d (.v (.int .i64 (v_acts96.length : Int))), .d (.v (.int .i64 v_x104)), dd, dd, dd, dd, dd, dd, dd, dd, dd, dd, dd, dd, dd, dd, dd, dd, dd, dd, dd, dd, dd, dd, dd, dd, dd, dd, dd, dd, dd, dd, dd, dd, dd, dd, dd, dd, dd, dd, dd, dd, dd, dd, dd, dd, dd, dd, dd, dd, dd, dd, dd, dd, dd, dd, dd, dd, dd, dd], [.box [.d (.v (.bool ((setA (fun (_ : Fin 6) => false) v_y144.fWho true) 0))), .d (.v (.bool ((setA (fun (_ : Fin 6) => false) v_y144.fWho true) 1))), .d (.v (.bool ((setA (fun (_ : Fin 6) => false) v_y144.fWho true) 2))), .d (.v (.bool ((setA (fun (_ : Fin 6) => false) v_y144.fWho true) 3))), .d (.v (.bool ((setA (fun (_ : Fin 6) => false) v_y144.fWho true) 4))), .d (.v (.bool ((setA (fun (_ : Fin 6) => false) v_y144.fWho true) 5)))], .box [.d (.v (.bool ((setA (fun (_ : Fin 6) => false) v_from97 true) 0))), .d (.v (.bool ((setA (fun (_ : Fin 6) => false) v_from97 true) 1))), .d (.v (.bool ((setA (fun (_ : Fin 6) => false) v_from97 true) 2))), .d (.v (.bool ((setA (fun (_ : Fin 6) => false) v_from97 true) 3))), .d (.v (.bool ((setA (fun (_ : Fin 6) => false) v_from97 true) 4))), .d (.v (.bool ((setA (fun (_ : Fin 6) => false) v_from97 true) 5)))]]⟩
  | .x3 v_b179 => ⟨[dd, dd, dd, dd, dd, dd, dd, dd, dd, dd, dd, .d (.sl (v_r98.1.map eB)), dd, .ref 0 0, .ref 1 0, dd, dd, dd, dd, dd, dd, dd, dd, dd, dd, dd, dd, dd, dd, dd, dd, dd, dd, dd, dd, dd, dd, dd, dd, dd, .d (.sl (v_acts96.map eS_label_Act)), .d (.v (.int .i64 (v_acts96.length : Int))), .d (.v (.int .i64 v_x104)), dd, dd, dd, dd, dd, dd, dd, dd, dd, dd, dd, dd, dd, dd, dd, dd, dd, dd, dd, dd, dd, dd, dd, dd, dd, dd, dd, dd, dd, dd, dd, dd, dd, dd, dd, dd, dd, dd, dd, dd, dd, dd, dd, dd, dd, dd, dd, dd, dd, dd, dd, dd, dd, dd, dd, dd, dd, dd], [.box [.d (.v (.bool (v_b179 0))), .d (.v (.bool (v_b179 1))), .d (.v (.bool (v_b179 2))), .d (.v (.bool (v_b179 3))), .d (.v (.bool (v_b179 4))), .d (.v (.bool (v_b179 5)))], .box [.d (.v (.bool ((setA (fun (_ : Fin 6) => false) v_from97 true) 0))), .d (.v (.bool ((setA (fun (_ : Fin 6) => false) v_from97 true) 1))), .d (.v (.bool ((setA (fun (_ : Fin 6) => false) v_from97 true) 2))), .d (.v (.bool ((setA (fun (_ : Fin 6) => false) v_from97 true) 3))), .d (.v (.bool ((setA (fun (_ : Fin 6) => false) v_from97 true) 4))), .d (.v (.bool ((setA (fun (_ : Fin 6) => false) v_from97 true) 5)))]]⟩
def G_label_Taint_C2_hd (v_r98 : ((List Bool) × Int)) (v_acts96 : (List S_label_Act)) (v_x104 : Int) (v_y144 : S_label_Act) (v_from97 : Int)  : PS := ⟨[dd, dd, dd, dd, dd, dd, dd, dd, dd, dd, dd, .d (.sl (v_r98.1.map eB)), dd, .ref 0 0, .ref 1 0, dd, .ref 2 0, dd, dd, dd, dd, dd, dd, dd, dd, dd, dd, dd, dd, dd, dd, dd, dd, dd, dd, dd, dd, dd, dd, dd, .d (.sl (v_acts96.map eS_label_Act)), .d (.v (.int .i64 (v_acts96.length : Int))), .d (.v (.int .i64 v_x104)), dd, dd, dd, dd, dd, dd, dd, dd, dd, dd, .d (.v (.bool v_y144.fWrite)), dd, dd, dd, dd, dd, dd, dd, dd, dd, dd, dd, dd, dd, dd, dd, dd, dd, dd, dd, dd, dd, dd, dd, dd, dd, dd, dd, dd, dd, dd, dd, dd, dd, dd, dd, dd, dd, dd, dd, dd, dd, dd, dd, dd, dd, dd, dd], [.box [.d (.v (.bool false)), .d (.v (.bool false)), .d (.v (.bool false)), .d (.v (.bool false)), .d (.v (.bool false)), .d (.v (.bool false))], .box [.d (.v (.bool ((setA (fun (_ : Fin 6) => false) v_from97 true) 0))), .d (.v (.bool ((setA (fun (_ : Fin 6) => false) v_from97 true) 1))), .d (.v (.bool ((setA (fun (_ : Fin 6) => false) v_from97 true) 2))), .d (.v (.bool ((setA (fun (_ : Fin 6) => false) v_from97 true) 3))), .d (.v (.bool ((setA (fun (_ : Fin 6) => false) v_from97 true) 4))), .d (.v (.bool ((setA (fun (_ : Fin 6) => false) v_from97 true) 5)))], .box [.d (.v (.int .i64 v_y144.fWho)), .d (.v (.int .i64 v_y144.fWhat)), .d (.v (.bool v_y144.fWrite))]]⟩
def G_label_Taint_C2 (n : Nat) (v_r98 : ((List Bool) × Int)) (v_acts96 : (List S_label_Act)) (v_x104 : Int) (v_y144 : S_label_Act) (v_from97 : Int) : Option G_label_Taint_C2_R :=
  if v_y144.fWrite = true then
   if 0 ≤ v_y144.fWhat ∧ v_y144.fWhat < (6 : Int) then
    (getA (setA (fun (_ : Fin 6) => false) v_from97 true) v_y144.fWhat).bind fun (v_y166 : Bool) =>
    if v_y166 = true then
     if 0 ≤ v_y144.fWhat ∧ v_y144.fWhat < (6 : Int) then
      (getA (setA (fun (_ : Fin 6) => false) v_from97 true) v_y144.fWhat).bind fun (v_y167 : Bool) =>
      some (.x0 )
     else none
    else
     if 0 ≤ v_y144.fWho ∧ v_y144.fWho < (6 : Int) then
      (getA (fun (_ : Fin 6) => false) v_y144.fWho).bind fun (v_y168 : Bool) =>
      if 0 ≤ v_y144.fWhat ∧ v_y144.fWhat < (6 : Int) then
       (getA (setA (fun (_ : Fin 6) => false) v_from97 true) v_y144.fWhat).bind fun (v_y169 : Bool) =>
       some (.x1 (setA (setA (fun (_ : Fin 6) => false) v_from97 true) v_y144.fWhat v_y168))
      else none
     else none
   else none
  else
   if 0 ≤ v_y144.fWho ∧ v_y144.fWho < (6 : Int) then
    (getA (fun (_ : Fin 6) => false) v_y144.fWho).bind fun (v_y175 : Bool) =>
    if v_y175 = true then
     if 0 ≤ v_y144.fWho ∧ v_y144.fWho < (6 : Int) then
      (getA (fun (_ : Fin 6) => false) v_y144.fWho).bind fun (v_y176 : Bool) =>
      some (.x2 )
     else none
    else
     if 0 ≤ v_y144.fWhat ∧ v_y144.fWhat < (6 : Int) then
      (getA (setA (fun (_ : Fin 6) => false) v_from97 true) v_y144.fWhat).bind fun (v_y177 : Bool) =>
      if 0 ≤ v_y144.fWho ∧ v_y144.fWho < (6 : Int) then
       (getA (fun (_ : Fin 6) => false) v_y144.fWho).bind fun (v_y178 : Bool) =>
       some (.x3 (setA (fun (_ : Fin 6) => false) v_y144.fWho v_y177))
      else none
     else none
   else none
theorem G_label_Taint_C2_ok {Fi : Ex → PS → Prop} (hF : KC 101 Fi) (ks : List Fr) (n : Nat) (v_r98 : ((List Bool) × Int)) (v_acts96 : (List S_label_Act)) (v_x104 : Int) (v_y144 : S_label_Act) (v_from97 : Int)  (o : G_label_Taint_C2_R) (h : G_label_Taint_C2 n v_r98 v_acts96 v_x104 v_y144 v_from97 = some o) (q : RunE Try.prog 101 Fi ks (G_label_Taint_C2_ex o) (G_label_Taint_C2_st v_r98 v_acts96 v_x104 v_y144 v_from97 o)) : RunE Try.prog 101 Fi (.s (cR (cR (cR (cB (cL (cR (cR (cP (cB (cR (cL (cR (cR (cR (cR (cR (cR (bodyOf Try.f35)))))))))))))))))) :: ks) .normal (G_label_Taint_C2_hd v_r98 v_acts96 v_x104 v_y144 v_from97) := by
  unfold G_label_Taint_C2 at h
  by_cases h212 : v_y144.fWrite = true
  · rw [if_pos h212] at h
    by_cases h222 : 0 ≤ v_y144.fWhat ∧ v_y144.fWhat < (6 : Int)
    · rw [if_pos h222] at h
      obtain ⟨v_y166, h223, h⟩ := bind_some h
      by_cases h224 : v_y166 = true
      · rw [if_pos h224] at h
        by_cases h225 : 0 ≤ v_y144.fWhat ∧ v_y144.fWhat < (6 : Int)
        · rw [if_pos h225] at h
          obtain ⟨v_y167, h226, h⟩ := bind_some h
          cases h
          exact pkk_sound TTok mix hF 2 (hs := [.t true, .c, .c, .l (.d (.v (.bool v_y166))), .t true, .c, .c, .c, .x [.d (.v (.bool ((setA (setA (fun (_ : Fin 6) => false) v_from97 true) v_y144.fWhat true) 0))), .d (.v (.bool ((setA (setA (fun (_ : Fin 6) => false) v_from97 true) v_y144.fWhat true) 1))), .d (.v (.bool ((setA (setA (fun (_ : Fin 6) => false) v_from97 true) v_y144.fWhat true) 2))), .d (.v (.bool ((setA (setA (fun (_ : Fin 6) => false) v_from97 true) v_y144.fWhat true) 3))), .d (.v (.bool ((setA (setA (fun (_ : Fin 6) => false) v_from97 true) v_y144.fWhat true) 4))), .d (.v (.bool ((setA (setA (fun (_ : Fin 6) => false) v_from97 true) v_y144.fWhat true) 5)))], .c]) (ts := []) (s := [0, 1]) (l := [11, 13, 14, 40, 41, 42]) (by kernel_rfl) (by kernel_rfl) (.cons h212 (.cons h222 (.cons (arr_cell (γ := FV) (sz := 1) (g := (fun x => [.d (.v (.bool x))])) (pre := []) (post := []) (o := 0) (fun _ => rfl) h223 rfl) (.cons h224 (.cons h225 (.cons (arr_store (γ := FV) (sz := 1) (g := (fun x => [.d (.v (.bool x))])) (pre := []) (post := []) (o := 0) (y := true) (zs := [.d (.v (.bool true))]) (fun _ => rfl) h226 rfl (Nat.le_of_ble_eq_true rfl)).1 (.cons (arr_store (γ := FV) (sz := 1) (g := (fun x => [.d (.v (.bool x))])) (pre := []) (post := []) (o := 0) (y := true) (zs := [.d (.v (.bool true))]) (fun _ => rfl) h226 rfl (Nat.le_of_ble_eq_true rfl)).2 .nil))))))) q
        · rw [if_neg h225] at h; cases h
      · rw [if_neg h224] at h
        by_cases h227 : 0 ≤ v_y144.fWho ∧ v_y144.fWho < (6 : Int)
        · rw [if_pos h227] at h
          obtain ⟨v_y168, h228, h⟩ := bind_some h
          by_cases h229 : 0 ≤ v_y144.fWhat ∧ v_y144.fWhat < (6 : Int)
          · rw [if_pos h229] at h
            obtain ⟨v_y169, h230, h⟩ := bind_some h
            cases h
            exact pkk_sound TTok mix hF 2 (hs := [.t true, .c, .c, .l (.d (.v (.bool v_y166))), .t false, .c, .c, .c, .c, .l (.d (.v (.bool v_y168))), .x [.d (.v (.bool ((setA (setA (fun (_ : Fin 6) => false) v_from97 true) v_y144.fWhat v_y168) 0))), .d (.v (.bool ((setA (setA (fun (_ : Fin 6) => false) v_from97 true) v_y144.fWhat v_y168) 1))), .d (.v (.bool ((setA (setA (fun (_ : Fin 6) => false) v_from97 true) v_y144.fWhat v_y168) 2))), .d (.v (.bool ((setA (setA (fun (_ : Fin 6) => false) v_from97 true) v_y144.fWhat v_y168) 3))), .d (.v (.bool ((setA (setA (fun (_ : Fin 6) => false) v_from97 true) v_y144.fWhat v_y168) 4))), .d (.v (.bool ((setA (setA (fun (_ : Fin 6) => false) v_from97 true) v_y144.fWhat v_y168) 5)))], .c]) (ts := []) (s := [0, 1]) (l := [11, 13, 14, 40, 41, 42]) (by kernel_rfl) (by kernel_rfl) (.cons h212 (.cons h222 (.cons (arr_cell (γ := FV) (sz := 1) (g := (fun x => [.d (.v (.bool x))])) (pre := []) (post := []) (o := 0) (fun _ => rfl) h223 rfl) (.cons (vf h224) (.cons h227 (.cons (arr_cell (γ := FV) (sz := 1) (g := (fun x => [.d (.v (.bool x))])) (pre := []) (post := []) (o := 0) (fun _ => rfl) h228 rfl) (.cons h229 (.cons (arr_store (γ := FV) (sz := 1) (g := (fun x => [.d (.v (.bool x))])) (pre := []) (post := []) (o := 0) (y := v_y168) (zs := [.d (.v (.bool v_y168))]) (fun _ => rfl) h230 rfl (Nat.le_of_ble_eq_true rfl)).1 (.cons (arr_store (γ := FV) (sz := 1) (g := (fun x => [.d (.v (.bool x))])) (pre := []) (post := []) (o := 0) (y := v_y168) (zs := [.d (.v (.bool v_y168))]) (fun _ => rfl) h230 rfl (Nat.le_of_ble_eq_true rfl)).2 .nil))))))))) q
          · rw [if_neg h229] at h; cases h
        · rw [if_neg h227] at h; cases h
    · rw [if_neg h222] at h; cases h
  · rw [if_neg h212] at h
    by_cases h240 : 0 ≤ v_y144.fWho ∧ v_y144.fWho < (6 : Int)
    · rw [if_pos h240] at h
      obtain ⟨v_y175, h241, h⟩ := bind_some h
      by_cases h242 : v_y175 = true
      · rw [if_pos h242] at h
        by_cases h243 : 0 ≤ v_y144.fWho ∧ v_y144.fWho < (6 : Int)
        · rw [if_pos h243] at h
          obtain ⟨v_y176, h244, h⟩ := bind_some h
          cases h
          exact pkk_sound TTok mix hF 2 (hs := [.t false, .c, .c, .l (.d (.v (.bool v_y175))), .t true, .c, .c, .c, .x [.d (.v (.bool ((setA (fun (_ : Fin 6) => false) v_y144.fWho true) 0))), .d (.v (.bool ((setA (fun (_ : Fin 6) => false) v_y144.fWho true) 1))), .d (.v (.bool ((setA (fun (_ : Fin 6) => false) v_y144.fWho true) 2))), .d (.v (.bool ((setA (fun (_ : Fin 6) => false) v_y144.fWho true) 3))), .d (.v (.bool ((setA (fun (_ : Fin 6) => false) v_y144.fWho true) 4))), .d (.v (.bool ((setA (fun (_ : Fin 6) => false) v_y144.fWho true) 5)))], .c]) (ts := []) (s := [0, 1]) (l := [11, 13, 14, 40, 41, 42]) (by kernel_rfl) (by kernel_rfl) (.cons (vf h212) (.cons h240 (.cons (arr_cell (γ := FV) (sz := 1) (g := (fun x => [.d (.v (.bool x))])) (pre := []) (post := []) (o := 0) (fun _ => rfl) h241 rfl) (.cons h242 (.cons h243 (.cons (arr_store (γ := FV) (sz := 1) (g := (fun x => [.d (.v (.bool x))])) (pre := []) (post := []) (o := 0) (y := true) (zs := [.d (.v (.bool true))]) (fun _ => rfl) h244 rfl (Nat.le_of_ble_eq_true rfl)).1 (.cons (arr_store (γ := FV) (sz := 1) (g := (fun x => [.d (.v (.bool x))])) (pre := []) (post := []) (o := 0) (y := true) (zs := [.d (.v (.bool true))]) (fun _ => rfl) h244 rfl (Nat.le_of_ble_eq_true rfl)).2 .nil))))))) q
        · rw [if_neg h243] at h; cases h
      · rw [if_neg h242] at h
        by_cases h245 : 0 ≤ v_y144.fWhat ∧ v_y144.fWhat < (6 : Int)
        · rw [if_pos h245] at h
          obtain ⟨v_y177, h246, h⟩ := bind_some h
          by_cases h247 : 0 ≤ v_y144.fWho ∧ v_y144.fWho < (6 : Int)
          · rw [if_pos h247] at h
            obtain ⟨v_y178, h248, h⟩ := bind_some h
            cases h
            exact pkk_sound TTok mix hF 2 (hs := [.t false, .c, .c, .l (.d (.v (.bool v_y175))), .t false, .c, .c, .c, .c, .l (.d (.v (.bool v_y177))), .x [.d (.v (.bool ((setA (fun (_ : Fin 6) => false) v_y144.fWho v_y177) 0))), .d (.v (.bool ((setA (fun (_ : Fin 6) => false) v_y144.fWho v_y177) 1))), .d (.v (.bool ((setA (fun (_ : Fin 6) => false) v_y144.fWho v_y177) 2))), .d (.v (.bool ((setA (fun (_ : Fin 6) => false) v_y144.fWho v_y177) 3))), .d (.v (.bool ((setA (fun (_ : Fin 6) => false) v_y144.fWho v_y177) 4))), .d (.v (.bool ((setA (fun (_ : Fin 6) => false) v_y144.fWho v_y177) 5)))], .c]) (ts := []) (s := [0, 1]) (l := [11, 13, 14, 40, 41, 42]) (by kernel_rfl) (by kernel_rfl) (.cons (vf h212) (.cons h240 (.cons (arr_cell (γ := FV) (sz := 1) (g := (fun x => [.d (.v (.bool x))])) (pre := []) (post := []) (o := 0) (fun _ => rfl) h241 rfl) (.cons (vf h242) (.cons h245 (.cons (arr_cell (γ := FV) (sz := 1) (g := (fun x => [.d (.v (.bool x))])) (pre := []) (post := []) (o := 0) (fun _ => rfl) h246 rfl) (.cons h247 (.cons (arr_store (γ := FV) (sz := 1) (g := (fun x => [.d (.v (.bool x))])) (pre := []) (post := []) (o := 0) (y := v_y177) (zs := [.d (.v (.bool v_y177))]) (fun _ => rfl) h248 rfl (Nat.le_of_ble_eq_true rfl)).1 (.cons (arr_store (γ := FV) (sz := 1) (g := (fun x => [.d (.v (.bool x))])) (pre := []) (post := []) (o := 0) (y := v_y177) (zs := [.d (.v (.bool v_y177))]) (fun _ => rfl) h248 rfl (Nat.le_of_ble_eq_true rfl)).2 .nil))))))))) q
          · rw [if_neg h247] at h; cases h
        · rw [if_neg h245] at h; cases h
    · rw [if_neg h240] at h; cases h
inductive G_label_Taint_C3_R where
  | x0 
  | x1 (v_b181 : (Fin 6 → Bool))
  | x2 (v_b184 : (Fin 6 → Bool))
def G_label_Taint_C3_ex : G_label_Taint_C3_R → Ex
  | .x0  => .normal
  | .x1 _ => .normal
  | .x2 _ => .normal
def G_label_Taint_C3_st (v_r98 : ((List Bool) × Int)) (v_acts96 : (List S_label_Act)) (v_x104 : Int) (v_from97 : Int) : G_label_Taint_C3_R → PS
  | .x0  => ⟨[dd, dd, dd, dd, dd, dd, dd, dd, dd, dd, dd, .d (.sl (v_r98.1.map eB)), dd, .ref 0 0, .ref 1 0, dd, dd, dd, dd, dd, dd, dd, dd, dd, dd, dd, dd, dd, dd, dd, dd, dd, dd, dd, dd, dd, dd, dd, dd, dd, .d (.sl (v_acts96.map eS_label_Act)), .d (.v (.int .i64 (v_acts96.length : Int))), .d (.v (.int .i64 v_x104)), dd, dd, dd, dd, dd, dd, dd, dd, dd, dd, dd, dd, dd, dd, dd, dd, dd, dd, dd, dd, dd, dd, dd, dd, dd, dd, dd, dd, dd, dd, dd, dd, dd, dd, dd, dd, dd, dd, dd, dd, dd, dd, dd, dd, dd, dd, dd, dd, dd, dd, dd, dd, dd, dd, dd, dd, dd, dd], [.box [.d (.v (.bool false)), .d (.v (.bool false)), .d (.v (.bool false)), .d (.v (.bool false)), .d (.v (.bool false)), .d (.v (.bool false))], .box [.d (.v (.bool ((setA (fun (_ : Fin 6) => false) v_from97 true) 0))), .d (.v (.bool ((setA (fun (_ : Fin 6) => false) v_from97 true) 1))), .d (.v (.bool ((setA (fun (_ : Fin 6) => false) v_from97 true) 2))), .d (.v (.bool ((setA (fun (_ : Fin 6) => false) v_from97 true) 3))), .d (.v (.bool ((setA (fun (_ : Fin 6) => false) v_from97 true) 4))), .d (.v (.bool ((setA (fun (_ : Fin 6) => false) v_from97 true) 5)))]]⟩
  | .x1 v_b181 => ⟨[dd, dd, dd, dd, dd, dd, dd, dd, dd, dd, dd, .d (.sl (v_r98.1.map eB)), dd, .ref 0 0, .ref 1 0, dd, dd, dd, dd, dd, dd, dd, dd, dd, dd, dd, dd, dd, dd, dd, dd, dd, dd, dd, dd, dd, dd, dd, dd, dd, .d (.sl (v_acts96.map eS_label_Act)), .d (.v (.int .i64 (v_acts96.length : Int))), .d (.v (.int .i64 v_x104)), dd, dd, dd, dd, dd, dd, dd, dd, dd, dd, dd, dd, dd, dd, dd, dd, dd, dd, dd, dd, dd, dd, dd, dd, dd, dd, dd, dd, dd, dd, dd, dd, dd, dd, dd, dd, dd, dd, dd, dd, dd, dd, dd, dd, dd, dd, dd, dd, dd, dd, dd, dd, dd, dd, dd, dd, dd, dd], [.box [.d (.v (.bool false)), .d (.v (.bool false)), .d (.v (.bool false)), .d (.v (.bool false)), .d (.v (.bool false)), .d (.v (.bool false))], .box [.d (.v (.bool (v_b181 0))), .d (.v (.bool (v_b181 1))), .d (.v (.bool (v_b181 2))), .d (.v (.bool (v_b181 3))), .d (.v (.bool (v_b181 4))), .d (.v (.bool (v_b181 5)))]]⟩
  | .x2 v_b184 => ⟨[dd, dd, dd, dd, dd, dd, dd, dd, dd, dd, dd, .d (.sl (v_r98.1.map eB)), dd, .ref 0 0, .ref 1 0, dd, dd, dd, dd, dd, dd, dd, dd, dd, dd, dd, dd, dd, dd, dd, dd, dd, dd, dd, dd, dd, dd, dd, dd, dd, .d (.sl (v_acts96.map eS_label_Act)), .d (.v (.int .i64 (v_acts96.length : Int))), .d (.v (.int .i64 v_x104)), dd, dd, dd, dd, dd, dd, dd, dd, dd, dd, dd, dd, dd, dd, dd, dd, dd, dd, dd, dd, dd, dd, dd, dd, dd, dd, dd, dd, dd, dd, dd, dd, dd, dd, dd, dd, dd, dd, dd, dd, dd, dd, dd, dd, dd, dd, dd, dd, dd, dd, dd, dd, dd, dd, dd, dd, dd, dd], [.box [.d (.v (.bool (v_b184 0))), .d (.v (.bool (v_b184 1))), .d (.v (.bool (v_b184 2))), .d (.v (.bool (v_b184 3))), .d (.v (.bool (v_b184 4))), .d (.v (.bool (v_b184 5)))], .box [.d (.v (.bool ((setA (fun (_ : Fin 6) => false) v_from97 true) 0))), .d (.v (.bool ((setA (fun (_ : Fin 6) => false) v_from97 true) 1))), .d (.v (.bool ((setA (fun (_ : Fin 6) => false) v_from97 true) 2))), .d (.v (.bool ((setA (fun (_ : Fin 6) => false) v_from97 true) 3))), .d (.v (.bool ((setA (fun (_ : Fin 6) => false) v_from97 true) 4))), .d (.v (.bool ((setA (fun (_ : Fin 6) => false) v_from97 true) 5)))]]⟩
def G_label_Taint_C3_hd (v_r98 : ((List Bool) × Int)) (v_acts96 : (List S_label_Act)) (v_x104 : Int) (v_from97 : Int)  : PS := ⟨[dd, dd, dd, dd, dd, dd, dd, dd, dd, dd, dd, .d (.sl (v_r98.1.map eB)), dd, .ref 0 0, .ref 1 0, dd, dd, dd, dd, dd, dd, dd, dd, dd, dd, dd, dd, dd, dd, dd, dd, dd, dd, dd, dd, dd, dd, dd, dd, dd, .d (.sl (v_acts96.map eS_label_Act)), .d (.v (.int .i64 (v_acts96.length : Int))), .d (.v (.int .i64 v_x104)), dd, dd, dd, dd, dd, dd, dd, dd, dd, dd, dd, dd, dd, dd, dd, dd, dd, dd, dd, dd, dd, dd, dd, dd, dd, dd, dd, dd, dd, dd, dd, dd, dd, dd, dd, dd, dd, dd, dd, dd, dd, dd, dd, dd, dd, dd, dd, dd, dd, dd, dd, dd, dd, dd, dd, dd, dd, dd], [.box [.d (.v (.bool false)), .d (.v (.bool false)), .d (.v (.bool false)), .d (.v (.bool false)), .d (.v (.bool false)), .d (.v (.bool false))], .box [.d (.v (.bool ((setA (fun (_ : Fin 6) => false) v_from97 true) 0))), .d (.v (.bool ((setA (fun (_ : Fin 6) => false) v_from97 true) 1))), .d (.v (.bool ((setA (fun (_ : Fin 6) => false) v_from97 true) 2))), .d (.v (.bool ((setA (fun (_ : Fin 6) => false) v_from97 true) 3))), .d (.v (.bool ((setA (fun (_ : Fin 6) => false) v_from97 true) 4))), .d (.v (.bool ((setA (fun (_ : Fin 6) => false) v_from97 true) 5)))]]⟩
def G_label_Taint_C3 (n : Nat) (v_r98 : ((List Bool) × Int)) (v_acts96 : (List S_label_Act)) (v_x104 : Int) (v_from97 : Int) : Option G_label_Taint_C3_R :=
  (getI v_acts96 v_x104).bind fun (v_y144 : S_label_Act) =>
  (getI v_r98.1 v_x104).bind fun (v_y145 : Bool) =>
  if v_y145 = true then
   (G_label_Taint_C2 n v_r98 v_acts96 v_x104 v_y144 v_from97).bind fun v_o180 => match v_o180 with
   | .x0  =>
     some (.x1 (setA (setA (fun (_ : Fin 6) => false) v_from97 true) v_y144.fWhat true))
   | .x1 v_z182 =>
     some (.x1 v_z182)
   | .x2  =>
     some (.x2 (setA (fun (_ : Fin 6) => false) v_y144.fWho true))
   | .x3 v_z185 =>
     some (.x2 v_z185)
  else
   some (.x0 )
theorem G_label_Taint_C3_ok {Fi : Ex → PS → Prop} (hF : KC 101 Fi) (ks : List Fr) (n : Nat) (v_r98 : ((List Bool) × Int)) (v_acts96 : (List S_label_Act)) (v_x104 : Int) (v_from97 : Int)  (o : G_label_Taint_C3_R) (h : G_label_Taint_C3 n v_r98 v_acts96 v_x104 v_from97 = some o) (q : RunE Try.prog 101 Fi ks (G_label_Taint_C3_ex o) (G_label_Taint_C3_st v_r98 v_acts96 v_x104 v_from97 o)) : RunE Try.prog 101 Fi (.s (cL (cR (cR (cP (cB (cR (cL (cR (cR (cR (cR (cR (cR (bodyOf Try.f35)))))))))))))) :: ks) .normal (G_label_Taint_C3_hd v_r98 v_acts96 v_x104 v_from97) := by
  unfold G_label_Taint_C3 at h
  obtain ⟨v_y144, h172, h⟩ := bind_some h
  obtain ⟨v_y145, h173, h⟩ := bind_some h
  by_cases h174 : v_y145 = true
  · rw [if_pos h174] at h
    obtain ⟨v_o180, h249, h⟩ := bind_some h
    refine pkk_sound TTok mix hF 10 (hs := [.y (eS_label_Act v_y144), .c, .y (eB v_y145), .c, .t false, .c]) (ts := []) (s := [0, 1, 11]) (l := [11, 13, 14, 16, 40, 41, 42, 53]) (by kernel_rfl) (by kernel_rfl) (.cons (getI_ob (f := eS_label_Act) h172) (.cons (show 0 + 3 ≤ 3 by decide) (.cons (getI_ob (f := eB) h173) (.cons (bnf h174) .nil)))) (G_label_Taint_C2_ok hF (.b 1 :: ks) n v_r98 v_acts96 v_x104 v_y144 v_from97 _ h249 ?_)
    cases v_o180 with
    | x0  =>
      try dsimp only at h
      cases h
      exact pkk_sound TTok mix hF 1 (hs := []) (ts := []) (s := [0, 1]) (l := [11, 13, 14, 40, 41, 42]) (by kernel_rfl) (by kernel_rfl) .nil q
    | x1 v_z182 =>
      try dsimp only at h
      cases h
      exact pkk_sound TTok mix hF 1 (hs := []) (ts := []) (s := [0, 1]) (l := [11, 13, 14, 40, 41, 42]) (by kernel_rfl) (by kernel_rfl) .nil q
    | x2  =>
      try dsimp only at h
      cases h
      exact pkk_sound TTok mix hF 1 (hs := []) (ts := []) (s := [0, 1]) (l := [11, 13, 14, 40, 41, 42]) (by kernel_rfl) (by kernel_rfl) .nil q
    | x3 v_z185 =>
      try dsimp only at h
      cases h
      exact pkk_sound TTok mix hF 1 (hs := []) (ts := []) (s := [0, 1]) (l := [11, 13, 14, 40, 41, 42]) (by kernel_rfl) (by kernel_rfl) .nil q
  · rw [if_neg h174] at h
    cases h
    exact pkk_sound TTok mix hF 10 (hs := [.y (eS_label_Act v_y144), .c, .y (eB v_y145), .c, .t true]) (ts := []) (s := [0, 1]) (l := [11, 13, 14, 40, 41, 42]) (by kernel_rfl) (by kernel_rfl) (.cons (getI_ob (f := eS_label_Act) h172) (.cons (show 0 + 3 ≤ 3 by decide) (.cons (getI_ob (f := eB) h173) (.cons (bnt (vf h174)) .nil)))) q
inductive G_label_Taint_C4_R where
  | x0 
  | x1 (v_b256 : (Fin 6 → Bool))
  | x2 
  | x3 (v_b265 : (Fin 6 → Bool))
def G_label_Taint_C4_ex : G_label_Taint_C4_R → Ex
  | .x0  => .normal
  | .x1 _ => .normal
  | .x2  => .normal
  | .x3 _ => .normal
def G_label_Taint_C4_st (v_r98 : ((List Bool) × Int)) (v_acts96 : (List S_label_Act)) (v_x189 : Int) (v_y230 : S_label_Act) (v_b190 : (Fin 6 → Bool)) : G_label_Taint_C4_R → PS
  | .x0  => ⟨[dd, dd, dd, dd, dd, dd, dd, dd, dd, dd, dd, .d (.sl (v_r98.1.map eB)), dd, .ref 0 0, .ref 1 0, dd, dd, dd, dd, dd, dd, dd, dd, dd, dd, dd, dd, dd, dd, dd, dd, dd, dd, dd, dd, dd, dd, dd, dd, dd, .d (.sl (v_acts96.map eS_label_Act)), .d (.v (.int .i64 (v_acts96.length : Int))), .d (.v (.int .i64 v_x189)), dd, dd, dd, dd, dd, dd, dd, dd, dd, dd, dd, dd, dd, dd, dd, dd, dd, dd, dd, dd, dd, dd, dd, dd, dd, dd, dd, dd, dd, dd, dd, dd, dd, dd, dd, dd, dd, dd, dd, dd, dd, dd, dd, dd, dd, dd, dd, dd, dd, dd, dd, dd, dd, dd, dd, dd, dd, dd], [.box [.d (.v (.bool false)), .d (.v (.bool false)), .d (.v (.bool false)), .d (.v (.bool false)), .d (.v (.bool false)), .d (.v (.bool false))], .box [.d (.v (.bool ((setA v_b190 v_y230.fWhat true) 0))), .d (.v (.bool ((setA v_b190 v_y230.fWhat true) 1))), .d (.v (.bool ((setA v_b190 v_y230.fWhat true) 2))), .d (.v (.bool ((setA v_b190 v_y230.fWhat true) 3))), .d (.v (.bool ((setA v_b190 v_y230.fWhat true) 4))), .d (.v (.bool ((setA v_b190 v_y230.fWhat true) 5)))]]⟩
  | .x1 v_b256 => ⟨[dd, dd, dd, dd, dd, dd, dd, dd, dd, dd, dd, .d (.sl (v_r98.1.map eB)), dd, .ref 0 0, .ref 1 0, dd, dd, dd, dd, dd, dd, dd, dd, dd, dd, dd, dd, dd, dd, dd, dd, dd, dd, dd, dd, dd, dd, dd, dd, dd, .d (.sl (v_acts96.map eS_label_Act)), .d (.v (.int .i64 (v_acts96.length : Int))), .d (.v (.int .i64 v_x189)), dd, dd, dd, dd, dd, dd, dd, dd, dd, dd, dd, dd, dd, dd, dd, dd, dd, dd, dd, dd, dd, dd, dd, dd, dd, dd, dd, dd, dd, dd, dd, dd, dd, dd, dd, dd, dd, dd, dd, dd, dd, dd, dd, dd, dd, dd, dd, dd, dd, dd, dd, dd, dd, dd, dd, dd, dd, dd], [.box [.d (.v (.bool false)), .d (.v (.bool false)), .d (.v (.bool false)), .d (.v (.bool false)), .d (.v (.bool false)), .d (.v (.bool false))], .box [.d (.v (.bool (v_b256 0))), .d (.v (.bool (v_b256 1))), .d (.v (.bool (v_b256 2))), .d (.v (.bool (v_b256 3))), .d (.v (.bool (v_b256 4))), .d (.v (.bool (v_b256 5)))]]⟩
  | .x2  => ⟨[dd, dd, dd, dd, dd, dd, dd, dd, dd, dd, dd, .d (.sl (v_r98.1.map eB)), dd, .ref 0 0, .ref 1 0, dd, dd, dd, dd, dd, dd, dd, dd, dd, dd, dd, dd, dd, dd, dd, dd, dd, dd, dd, dd, dd, dd, dd, dd, dd, .d (.sl (v_acts96.map eS_label_Act)), .d (.v (.int .i64 (v_acts96.length : Int))), .d (.v (.int .i64 v_x189)), dd, dd, dd, dd, dd, dd, dd, dd, dd, dd, dd, dd, dd, dd, dd, dd, dd, dd, dd, dd, dd, dd, dd, dd, dd, dd, dd, dd, dd, dd, dd, dd, dd, dd, dd, dd, dd, dd, dd, dd, dd, dd, dd, dd, dd, dd, dd, dd, dd, dd, dd, dd, dd, dd, dd, dd, dd, dd], [.box [.d (.v (.bool ((setA (fun (_ : Fin 6) => false) v_y230.fWho true) 0))), .d (.v (.bool ((setA (fun (_ : Fin 6) => false) v_y230.fWho true) 1))), .d (.v (.bool ((setA (fun (_ : Fin 6) => false) v_y230.fWho true) 2))), .d (.v (.bool ((setA (fun (_ : Fin 6) => false) v_y230.fWho true) 3))), .d (.v (.bool ((setA (fun (_ : Fin 6) => false) v_y230.fWho true) 4))), .d (.v (.bool ((setA (fun (_ : Fin 6) => false) v_y230.fWho true) 5)))], .box [.d (.v (.bool (v_b190 0))), .d (.v (.bool (v_b190 1))), .d (.v (.bool (v_b190 2))), .d (.v (.bool (v_b190 3))), .d (.v (.bool (v_b190 4))), .d (.v (.bool (v_b190 5)))]]⟩
  | .x3 v_b265 => ⟨[dd, dd, dd, dd, dd, dd, dd, dd, dd, dd, dd, .d (.sl (v_r98.1.map eB)), dd, .ref 0 0, .ref 1 0, dd, dd, dd, dd, dd, dd, dd, dd, dd, dd, dd, dd, dd, dd, dd, dd, dd, dd, dd, dd, dd, dd, dd, dd, dd, .d (.sl (v_acts96.map eS_label_Act)), .d (.v (.int .i64 (v_acts96.length : Int))), .d (.v (.int .i64 v_x189)), dd, dd, dd, dd, dd, dd, dd, dd, dd, dd, dd, dd, dd, dd, dd, dd, dd, dd, dd, dd, dd, dd, dd, dd, dd, dd, dd, dd, dd, dd, dd, dd, dd, dd, dd, dd, dd, dd, dd, dd, dd, dd, dd, dd, dd, dd, dd, dd, dd, dd, dd, dd, dd, dd, dd, dd, dd, dd], [.box [.d (.v (.bool (v_b265 0))), .d (.v (.bool (v_b265 1))), .d (.v (.bool (v_b265 2))), .d (.v (.bool (v_b265 3))), .d (.v (.bool (v_b265 4))), .d (.v (.bool (v_b265 5)))], .box [.d (.v (.bool (v_b190 0))), .d (.v (.bool (v_b190 1))), .d (.v (.bool (v_b190 2))), .d (.v (.bool (v_b190 3))), .d (.v (.bool (v_b190 4))), .d (.v (.bool (v_b190 5)))]]⟩
def G_label_Taint_C4_hd (v_r98 : ((List Bool) × Int)) (v_acts96 : (List S_label_Act)) (v_x189 : Int) (v_y230 : S_label_Act) (v_b190 : (Fin 6 → Bool))  : PS := ⟨[dd, dd, dd, dd, dd, dd, dd, dd, dd, dd, dd, .d (.sl (v_r98.1.map eB)), dd, .ref 0 0, .ref 1 0, dd, .ref 2 0, dd, dd, dd, dd, dd, dd, dd, dd, dd, dd, dd, dd, dd, dd, dd, dd, dd, dd, dd, dd, dd, dd, dd, .d (.sl (v_acts96.map eS_label_Act)), .d (.v (.int .i64 (v_acts96.length : Int))), .d (.v (.int .i64 v_x189)), dd, dd, dd, dd, dd, dd, dd, dd, dd, dd, .d (.v (.bool v_y230.fWrite)), dd, dd, dd, dd, dd, dd, dd, dd, dd, dd, dd, dd, dd, dd, dd, dd, dd, dd, dd, dd, dd, dd, dd, dd, dd, dd, dd, dd, dd, dd, dd, dd, dd, dd, dd, dd, dd, dd, dd, dd, dd, dd, dd, dd, dd, dd, dd], [.box [.d (.v (.bool false)), .d (.v (.bool false)), .d (.v (.bool false)), .d (.v (.bool false)), .d (.v (.bool false)), .d (.v (.bool false))], .box [.d (.v (.bool (v_b190 0))), .d (.v (.bool (v_b190 1))), .d (.v (.bool (v_b190 2))), .d (.v (.bool (v_b190 3))), .d (.v (.bool (v_b190 4))), .d (.v (.bool (v_b190 5)))], .box [.d (.v (.int .i64 v_y230.fWho)), .d (.v (.int .i64 v_y230.fWhat)), .d (.v (.bool v_y230.fWrite))]]⟩
def G_label_Taint_C4 (n : Nat) (v_r98 : ((List Bool) × Int)) (v_acts96 : (List S_label_Act)) (v_x189 : Int) (v_y230 : S_label_Act) (v_b190 : (Fin 6 → Bool)) : Option G_label_Taint_C4_R :=
  if v_y230.fWrite = true then
   if 0 ≤ v_y230.fWhat ∧ v_y230.fWhat < (6 : Int) then
    (getA v_b190 v_y230.fWhat).bind fun (v_y252 : Bool) =>
    if v_y252 = true then
     if 0 ≤ v_y230.fWhat ∧ v_y230.fWhat < (6 : Int) then
      (getA v_b190 v_y230.fWhat).bind fun (v_y253 : Bool) =>
      some (.x0 )
     else none
    else
     if 0 ≤ v_y230.fWho ∧ v_y230.fWho < (6 : Int) then
      (getA (fun (_ : Fin 6) => false) v_y230.fWho).bind fun (v_y254 : Bool) =>
      if 0 ≤ v_y230.fWhat ∧ v_y230.fWhat < (6 : Int) then
       (getA v_b190 v_y230.fWhat).bind fun (v_y255 : Bool) =>
       some (.x1 (setA v_b190 v_y230.fWhat v_y254))
      else none
     else none
   else none
  else
   if 0 ≤ v_y230.fWho ∧ v_y230.fWho < (6 : Int) then
    (getA (fun (_ : Fin 6) => false) v_y230.fWho).bind fun (v_y261 : Bool) =>
    if v_y261 = true then
     if 0 ≤ v_y230.fWho ∧ v_y230.fWho < (6 : Int) then
      (getA (fun (_ : Fin 6) => false) v_y230.fWho).bind fun (v_y262 : Bool) =>
      some (.x2 )
     else none
    else
     if 0 ≤ v_y230.fWhat ∧ v_y230.fWhat < (6 : Int) then
      (getA v_b190 v_y230.fWhat).bind fun (v_y263 : Bool) =>
      if 0 ≤ v_y230.fWho ∧ v_y230.fWho < (6 : Int) then
       (getA (fun (_ : Fin 6) => false) v_y230.fWho).bind fun (v_y264 : Bool) =>
       some (.x3 (setA (fun (_ : Fin 6) => false) v_y230.fWho v_y263))
      else none
     else none
   else none
theorem G_label_Taint_C4_ok {Fi : Ex → PS → Prop} (hF : KC 101 Fi) (ks : List Fr) (n : Nat) (v_r98 : ((List Bool) × Int)) (v_acts96 : (List S_label_Act)) (v_x189 : Int) (v_y230 : S_label_Act) (v_b190 : (Fin 6 → Bool))  (o : G_label_Taint_C4_R) (h : G_label_Taint_C4 n v_r98 v_acts96 v_x189 v_y230 v_b190 = some o) (q : RunE Try.prog 101 Fi ks (G_label_Taint_C4_ex o) (G_label_Taint_C4_st v_r98 v_acts96 v_x189 v_y230 v_b190 o)) : RunE Try.prog 101 Fi (.s (cR (cR (cR (cB (cL (cR (cR (cP (cB (cR (cL (cR (cR (cR (cR (cR (cR (bodyOf Try.f35)))))))))))))))))) :: ks) .normal (G_label_Taint_C4_hd v_r98 v_acts96 v_x189 v_y230 v_b190) := by
  unfold G_label_Taint_C4 at h
  by_cases h370 : v_y230.fWrite = true
  · rw [if_pos h370] at h
    by_cases h380 : 0 ≤ v_y230.fWhat ∧ v_y230.fWhat < (6 : Int)
    · rw [if_pos h380] at h
      obtain ⟨v_y252, h381, h⟩ := bind_some h
      by_cases h382 : v_y252 = true
      · rw [if_pos h382] at h
        by_cases h383 : 0 ≤ v_y230.fWhat ∧ v_y230.fWhat < (6 : Int)
        · rw [if_pos h383] at h
          obtain ⟨v_y253, h384, h⟩ := bind_some h
          cases h
          exact pkk_sound TTok mix hF 2 (hs := [.t true, .c, .c, .l (.d (.v (.bool v_y252))), .t true, .c, .c, .c, .x [.d (.v (.bool ((setA v_b190 v_y230.fWhat true) 0))), .d (.v (.bool ((setA v_b190 v_y230.fWhat true) 1))), .d (.v (.bool ((setA v_b190 v_y230.fWhat true) 2))), .d (.v (.bool ((setA v_b190 v_y230.fWhat true) 3))), .d (.v (.bool ((setA v_b190 v_y230.fWhat true) 4))), .d (.v (.bool ((setA v_b190 v_y230.fWhat true) 5)))], .c]) (ts := []) (s := [0, 1]) (l := [11, 13, 14, 40, 41, 42]) (by kernel_rfl) (by kernel_rfl) (.cons h370 (.cons h380 (.cons (arr_cell (γ := FV) (sz := 1) (g := (fun x => [.d (.v (.bool x))])) (pre := []) (post := []) (o := 0) (fun _ => rfl) h381 rfl) (.cons h382 (.cons h383 (.cons (arr_store (γ := FV) (sz := 1) (g := (fun x => [.d (.v (.bool x))])) (pre := []) (post := []) (o := 0) (y := true) (zs := [.d (.v (.bool true))]) (fun _ => rfl) h384 rfl (Nat.le_of_ble_eq_true rfl)).1 (.cons (arr_store (γ := FV) (sz := 1) (g := (fun x => [.d (.v (.bool x))])) (pre := []) (post := []) (o := 0) (y := true) (zs := [.d (.v (.bool true))]) (fun _ => rfl) h384 rfl (Nat.le_of_ble_eq_true rfl)).2 .nil))))))) q
        · rw [if_neg h383] at h; cases h
      · rw [if_neg h382] at h
        by_cases h385 : 0 ≤ v_y230.fWho ∧ v_y230.fWho < (6 : Int)
        · rw [if_pos h385] at h
          obtain ⟨v_y254, h386, h⟩ := bind_some h
          by_cases h387 : 0 ≤ v_y230.fWhat ∧ v_y230.fWhat < (6 : Int)
          · rw [if_pos h387] at h
            obtain ⟨v_y255, h388, h⟩ := bind_some h
            cases h
            exact pkk_sound TTok mix hF 2 (hs := [.t true, .c, .c, .l (.d (.v (.bool v_y252))), .t false, .c, .c, .c, .c, .l (.d (.v (.bool v_y254))), .x [.d (.v (.bool ((setA v_b190 v_y230.fWhat v_y254) 0))), .d (.v (.bool ((setA v_b190 v_y230.fWhat v_y254) 1))), .d (.v (.bool ((setA v_b190 v_y230.fWhat v_y254) 2))), .d (.v (.bool ((setA v_b190 v_y230.fWhat v_y254) 3))), .d (.v (.bool ((setA v_b190 v_y230.fWhat v_y254) 4))), .d (.v (.bool ((setA v_b190 v_y230.fWhat v_y254) 5)))], .c]) (ts := []) (s := [0, 1]) (l := [11, 13, 14, 40, 41, 42]) (by kernel_rfl) (by kernel_rfl) (.cons h370 (.cons h380 (.cons (arr_cell (γ := FV) (sz := 1) (g := (fun x => [.d (.v (.bool x))])) (pre := []) (post := []) (o := 0) (fun _ => rfl) h381 rfl) (.cons (vf h382) (.cons h385 (.cons (arr_cell (γ := FV) (sz := 1) (g := (fun x => [.d (.v (.bool x))])) (pre := []) (post := []) (o := 0) (fun _ => rfl) h386 rfl) (.cons h387 (.cons (arr_store (γ := FV) (sz := 1) (g := (fun x => [.d (.v (.bool x))])) (pre := []) (post := []) (o := 0) (y := v_y254) (zs := [.d (.v (.bool v_y254))]) (fun _ => rfl) h388 rfl (Nat.le_of_ble_eq_true rfl)).1 (.cons (arr_store (γ := FV) (sz := 1) (g := (fun x => [.d (.v (.bool x))])) (pre := []) (post := []) (o := 0) (y := v_y254) (zs := [.d (.v (.bool v_y254))]) (fun _ => rfl) h388 rfl (Nat.le_of_ble_eq_true rfl)).2 .nil))))))))) q
          · rw [if_neg h387] at h; cases h
        · rw [if_neg h385] at h; cases h
    · rw [if_neg h380] at h; cases h
  · rw [if_neg h370] at h
    by_cases h398 : 0 ≤ v_y230.fWho ∧ v_y230.fWho < (6 : Int)
    · rw [if_pos h398] at h
      obtain ⟨v_y261, h399, h⟩ := bind_some h
      by_cases h400 : v_y261 = true
      · rw [if_pos h400] at h
        by_cases h401 : 0 ≤ v_y230.fWho ∧ v_y230.fWho < (6 : Int)
        · rw [if_pos h401] at h
          obtain ⟨v_y262, h402, h⟩ := bind_some h
          cases h
          exact pkk_sound TTok mix hF 2 (hs := [.t false, .c, .c, .l (.d (.v (.bool v_y261))), .t true, .c, .c, .c, .x [.d (.v (.bool ((setA (fun (_ : Fin 6) => false) v_y230.fWho true) 0))), .d (.v (.bool ((setA (fun (_ : Fin 6) => false) v_y230.fWho true) 1))), .d (.v (.bool ((setA (fun (_ : Fin 6) => false) v_y230.fWho true) 2))), .d (.v (.bool ((setA (fun (_ : Fin 6) => false) v_y230.fWho true) 3))), .d (.v (.bool ((setA (fun (_ : Fin 6) => false) v_y230.fWho true) 4))), .d (.v (.bool ((setA (fun (_ : Fin 6) => false) v_y230.fWho true) 5)))], .c]) (ts := []) (s := [0, 1]) (l := [11, 13, 14, 40, 41, 42]) (by kernel_rfl) (by kernel_rfl) (.cons (vf h370) (.cons h398 (.cons (arr_cell (γ := FV) (sz := 1) (g := (fun x => [.d (.v (.bool x))])) (pre := []) (post := []) (o := 0) (fun _ => rfl) h399 rfl) (.cons h400 (.cons h401 (.cons (arr_store (γ := FV) (sz := 1) (g := (fun x => [.d (.v (.bool x))])) (pre := []) (post := []) (o := 0) (y := true) (zs := [.d (.v (.bool true))]) (fun _ => rfl) h402 rfl (Nat.le_of_ble_eq_true rfl)).1 (.cons (arr_store (γ := FV) (sz := 1) (g := (fun x => [.d (.v (.bool x))])) (pre := []) (post := []) (o := 0) (y := true) (zs := [.d (.v (.bool true))]) (fun _ => rfl) h402 rfl (Nat.le_of_ble_eq_true rfl)).2 .nil))))))) q
        · rw [if_neg h401] at h; cases h
      · rw [if_neg h400] at h
        by_cases h403 : 0 ≤ v_y230.fWhat ∧ v_y230.fWhat < (6 : Int)
        · rw [if_pos h403] at h
          obtain ⟨v_y263, h404, h⟩ := bind_some h
          by_cases h405 : 0 ≤ v_y230.fWho ∧ v_y230.fWho < (6 : Int)
          · rw [if_pos h405] at h
            obtain ⟨v_y264, h406, h⟩ := bind_some h
            cases h
            exact pkk_sound TTok mix hF 2 (hs := [.t false, .c, .c, .l (.d (.v (.bool v_y261))), .t false, .c, .c, .c, .c, .l (.d (.v (.bool v_y263))), .x [.d (.v (.bool ((setA (fun (_ : Fin 6) => false) v_y230.fWho v_y263) 0))), .d (.v (.bool ((setA (fun (_ : Fin 6) => false) v_y230.fWho v_y263) 1))), .d (.v (.bool ((setA (fun (_ : Fin 6) => false) v_y230.fWho v_y263) 2))), .d (.v (.bool ((setA (fun (_ : Fin 6) => false) v_y230.fWho v_y263) 3))), .d (.v (.bool ((setA (fun (_ : Fin 6) => false) v_y230.fWho v_y263) 4))), .d (.v (.bool ((setA (fun (_ : Fin 6) => false) v_y230.fWho v_y263) 5)))], .c]) (ts := []) (s := [0, 1]) (l := [11, 13, 14, 40, 41, 42]) (by kernel_rfl) (by kernel_rfl) (.cons (vf h370) (.cons h398 (.cons (arr_cell (γ := FV) (sz := 1) (g := (fun x => [.d (.v (.bool x))])) (pre := []) (post := []) (o := 0) (fun _ => rfl) h399 rfl) (.cons (vf h400) (.cons h403 (.cons (arr_cell (γ := FV) (sz := 1) (g := (fun x => [.d (.v (.bool x))])) (pre := []) (post := []) (o := 0) (fun _ => rfl) h404 rfl) (.cons h405 (.cons (arr_store (γ := FV) (sz := 1) (g := (fun x => [.d (.v (.bool x))])) (pre := []) (post := []) (o := 0) (y := v_y263) (zs := [.d (.v (.bool v_y263))]) (fun _ => rfl) h406 rfl (Nat.le_of_ble_eq_true rfl)).1 (.cons (arr_store (γ := FV) (sz := 1) (g := (fun x => [.d (.v (.bool x))])) (pre := []) (post := []) (o := 0) (y := v_y263) (zs := [.d (.v (.bool v_y263))]) (fun _ => rfl) h406 rfl (Nat.le_of_ble_eq_true rfl)).2 .nil))))))))) q
          · rw [if_neg h405] at h; cases h
        · rw [if_neg h403] at h; cases h
    · rw [if_neg h398] at h; cases h
inductive G_label_Taint_C5_R where
  | x0 
  | x1 (v_b267 : (Fin 6 → Bool))
  | x2 (v_b270 : (Fin 6 → Bool))
def G_label_Taint_C5_ex : G_label_Taint_C5_R → Ex
  | .x0  => .normal
  | .x1 _ => .normal
  | .x2 _ => .normal
def G_label_Taint_C5_st (v_r98 : ((List Bool) × Int)) (v_acts96 : (List S_label_Act)) (v_x189 : Int) (v_b190 : (Fin 6 → Bool)) : G_label_Taint_C5_R → PS
  | .x0  => ⟨[dd, dd, dd, dd, dd, dd, dd, dd, dd, dd, dd, .d (.sl (v_r98.1.map eB)), dd, .ref 0 0, .ref 1 0, dd, dd, dd, dd, dd, dd, dd, dd, dd, dd, dd, dd, dd, dd, dd, dd, dd, dd, dd, dd, dd, dd, dd, dd, dd, .d (.sl (v_acts96.map eS_label_Act)), .d (.v (.int .i64 (v_acts96.length : Int))), .d (.v (.int .i64 v_x189)), dd, dd, dd, dd, dd, dd, dd, dd, dd, dd, dd, dd, dd, dd, dd, dd, dd, dd, dd, dd, dd, dd, dd, dd, dd, dd, dd, dd, dd, dd, dd, dd, dd, dd, dd, dd, dd, dd, dd, dd, dd, dd, dd, dd, dd, dd, dd, dd, dd, dd, dd, dd, dd, dd, dd, dd, dd, dd], [.box [.d (.v (.bool false)), .d (.v (.bool false)), .d (.v (.bool false)), .d (.v (.bool false)), .d (.v (.bool false)), .d (.v (.bool false))], .box [.d (.v (.bool (v_b190 0))), .d (.v (.bool (v_b190 1))), .d (.v (.bool (v_b190 2))), .d (.v (.bool (v_b190 3))), .d (.v (.bool (v_b190 4))), .d (.v (.bool (v_b190 5)))]]⟩
  | .x1 v_b267 => ⟨[dd, dd, dd, dd, dd, dd, dd, dd, dd, dd, dd, .d (.sl (v_r98.1.map eB)), dd, .ref 0 0, .ref 1 0, dd, dd, dd, dd, dd, dd, dd, dd, dd, dd, dd, dd, dd, dd, dd, dd, dd, dd, dd, dd, dd, dd, dd, dd, dd, .d (.sl (v_acts96.map eS_label_Act)), .d (.v (.int .i64 (v_acts96.length : Int))), .d (.v (.int .i64 v_x189)), dd, dd, dd, dd, dd, dd, dd, dd, dd, dd, dd, dd, dd, dd, dd, dd, dd, dd, dd, dd, dd, dd, dd, dd, dd, dd, dd, dd, dd, dd, dd, dd, dd, dd, dd, dd, dd, dd, dd, dd, dd, dd, dd, dd, dd, dd, dd, dd, dd, dd, dd, dd, dd, dd, dd, dd, dd, dd], [.box [.d (.v (.bool false)), .d (.v (.bool false)), .d (.v (.bool false)), .d (.v (.bool false)), .d (.v (.bool false)), .d (.v (.bool false))], .box [.d (.v (.bool (v_b267 0))), .d (.v (.bool (v_b267 1))), .d (.v (.bool (v_b267 2))), .d (.v (.bool (v_b267 3))), .d (.v (.bool (v_b267 4))), .d (.v (.bool (v_b267 5)))]]⟩
  | .x2 v_b270 => ⟨[dd, dd, dd, dd, dd, dd, dd, dd, dd, dd, dd, .d (.sl (v_r98.1.map eB)), dd, .ref 0 0, .ref 1 0, dd, dd, dd, dd, dd, dd, dd, dd, dd, dd, dd, dd, dd, dd, dd, dd, dd, dd, dd, dd, dd, dd, dd, dd, dd, .d (.sl (v_acts96.map eS_label_Act)), .d (.v (.int .i64 (v_acts96.length : Int))), .d (.v (.int .i64 v_x189)), dd, dd, dd, dd, dd, dd, dd, dd, dd, dd, dd, dd, dd, dd, dd, dd, dd, dd, dd, dd, dd, dd, dd, dd, dd, dd, dd, dd, dd, dd, dd, dd, dd, dd, dd, dd, dd, dd, dd, dd, dd, dd, dd, dd, dd, dd, dd, dd, dd, dd, dd, dd, dd, dd, dd, dd, dd, dd], [.box [.d (.v (.bool (v_b270 0))), .d (.v (.bool (v_b270 1))), .d (.v (.bool (v_b270 2))), .d (.v (.bool (v_b270 3))), .d (.v (.bool (v_b270 4))), .d (.v (.bool (v_b270 5)))], .box [.d (.v (.bool (v_b190 0))), .d (.v (.bool (v_b190 1))), .d (.v (.bool (v_b190 2))), .d (.v (.bool (v_b190 3))), .d (.v (.bool (v_b190 4))), .d (.v (.bool (v_b190 5)))]]⟩
def G_label_Taint_C5_hd (v_r98 : ((List Bool) × Int)) (v_acts96 : (List S_label_Act)) (v_x189 : Int) (v_b190 : (Fin 6 → Bool))  : PS := ⟨[dd, dd, dd, dd, dd, dd, dd, dd, dd, dd, dd, .d (.sl (v_r98.1.map eB)), dd, .ref 0 0, .ref 1 0, dd, dd, dd, dd, dd, dd, dd, dd, dd, dd, dd, dd, dd, dd, dd, dd, dd, dd, dd, dd, dd, dd, dd, dd, dd, .d (.sl (v_acts96.map eS_label_Act)), .d (.v (.int .i64 (v_acts96.length : Int))), .d (.v (.int .i64 v_x189)), dd, dd, dd, dd, dd, dd, dd, dd, dd, dd, dd, dd, dd, dd, dd, dd, dd, dd, dd, dd, dd, dd, dd, dd, dd, dd, dd, dd, dd, dd, dd, dd, dd, dd, dd, dd, dd, dd, dd, dd, dd, dd, dd, dd, dd, dd, dd, dd, dd, dd, dd, dd, dd, dd, dd, dd, dd, dd], [.box [.d (.v (.bool false)), .d (.v (.bool false)), .d (.v (.bool false)), .d (.v (.bool false)), .d (.v (.bool false)), .d (.v (.bool false))], .box [.d (.v (.bool (v_b190 0))), .d (.v (.bool (v_b190 1))), .d (.v (.bool (v_b190 2))), .d (.v (.bool (v_b190 3))), .d (.v (.bool (v_b190 4))), .d (.v (.bool (v_b190 5)))]]⟩
def G_label_Taint_C5 (n : Nat) (v_r98 : ((List Bool) × Int)) (v_acts96 : (List S_label_Act)) (v_x189 : Int) (v_b190 : (Fin 6 → Bool)) : Option G_label_Taint_C5_R :=
  (getI v_acts96 v_x189).bind fun (v_y230 : S_label_Act) =>
  (getI v_r98.1 v_x189).bind fun (v_y231 : Bool) =>
  if v_y231 = true then
   (G_label_Taint_C4 n v_r98 v_acts96 v_x189 v_y230 v_b190).bind fun v_o266 => match v_o266 with
   | .x0  =>
     some (.x1 (setA v_b190 v_y230.fWhat true))
   | .x1 v_z268 =>
     some (.x1 v_z268)
   | .x2  =>
     some (.x2 (setA (fun (_ : Fin 6) => false) v_y230.fWho true))
   | .x3 v_z271 =>
     some (.x2 v_z271)
  else
   some (.x0 )
theorem G_label_Taint_C5_ok {Fi : Ex → PS → Prop} (hF : KC 101 Fi) (ks : List Fr) (n : Nat) (v_r98 : ((List Bool) × Int)) (v_acts96 : (List S_label_Act)) (v_x189 : Int) (v_b190 : (Fin 6 → Bool))  (o : G_label_Taint_C5_R) (h : G_label_Taint_C5 n v_r98 v_acts96 v_x189 v_b190 = some o) (q : RunE Try.prog 101 Fi ks (G_label_Taint_C5_ex o) (G_label_Taint_C5_st v_r98 v_acts96 v_x189 v_b190 o)) : RunE Try.prog 101 Fi (.s (cL (cR (cR (cP (cB (cR (cL (cR (cR (cR (cR (cR (cR (bodyOf Try.f35)))))))))))))) :: ks) .normal (G_label_Taint_C5_hd v_r98 v_acts96 v_x189 v_b190) := by
  unfold G_label_Taint_C5 at h
  obtain ⟨v_y230, h330, h⟩ := bind_some h
  obtain ⟨v_y231, h331, h⟩ := bind_some h
  by_cases h332 : v_y231 = true
  · rw [if_pos h332] at h
    obtain ⟨v_o266, h407, h⟩ := bind_some h
    refine pkk_sound TTok mix hF 10 (hs := [.y (eS_label_Act v_y230), .c, .y (eB v_y231), .c, .t false, .c]) (ts := []) (s := [0, 1, 11]) (l := [11, 13, 14, 16, 40, 41, 42, 53]) (by kernel_rfl) (by kernel_rfl) (.cons (getI_ob (f := eS_label_Act) h330) (.cons (show 0 + 3 ≤ 3 by decide) (.cons (getI_ob (f := eB) h331) (.cons (bnf h332) .nil)))) (G_label_Taint_C4_ok hF (.b 1 :: ks) n v_r98 v_acts96 v_x189 v_y230 v_b190 _ h407 ?_)
    cases v_o266 with
    | x0  =>
      try dsimp only at h
      cases h
      exact pkk_sound TTok mix hF 1 (hs := []) (ts := []) (s := [0, 1]) (l := [11, 13, 14, 40, 41, 42]) (by kernel_rfl) (by kernel_rfl) .nil q
    | x1 v_z268 =>
      try dsimp only at h
      cases h
      exact pkk_sound TTok mix hF 1 (hs := []) (ts := []) (s := [0, 1]) (l := [11, 13, 14, 40, 41, 42]) (by kernel_rfl) (by kernel_rfl) .nil q
    | x2  =>
      try dsimp only at h
      cases h
      exact pkk_sound TTok mix hF 1 (hs := []) (ts := []) (s := [0, 1]) (l := [11, 13, 14, 40, 41, 42]) (by kernel_rfl) (by kernel_rfl) .nil q
    | x3 v_z271 =>
      try dsimp only at h
      cases h
      exact pkk_sound TTok mix hF 1 (hs := []) (ts := []) (s := [0, 1]) (l := [11, 13, 14, 40, 41, 42]) (by kernel_rfl) (by kernel_rfl) .nil q
  · rw [if_neg h332] at h
    cases h
    exact pkk_sound TTok mix hF 10 (hs := [.y (eS_label_Act v_y230), .c, .y (eB v_y231), .c, .t true]) (ts := []) (s := [0, 1]) (l := [11, 13, 14, 40, 41, 42]) (by kernel_rfl) (by kernel_rfl) (.cons (getI_ob (f := eS_label_Act) h330) (.cons (show 0 + 3 ≤ 3 by decide) (.cons (getI_ob (f := eB) h331) (.cons (bnt (vf h332)) .nil)))) q
inductive G_label_Taint_C6_R where
  | x0 
  | x1 (v_b344 : (Fin 6 → Bool))
  | x2 
  | x3 (v_b353 : (Fin 6 → Bool))
def G_label_Taint_C6_ex : G_label_Taint_C6_R → Ex
  | .x0  => .normal
  | .x1 _ => .normal
  | .x2  => .normal
  | .x3 _ => .normal
def G_label_Taint_C6_st (v_r98 : ((List Bool) × Int)) (v_acts96 : (List S_label_Act)) (v_x276 : Int) (v_y318 : S_label_Act) (v_b277 : (Fin 6 → Bool)) (v_b278 : (Fin 6 → Bool)) : G_label_Taint_C6_R → PS
  | .x0  => ⟨[dd, dd, dd, dd, dd, dd, dd, dd, dd, dd, dd, .d (.sl (v_r98.1.map eB)), dd, .ref 0 0, .ref 1 0, dd, dd, dd, dd, dd, dd, dd, dd, dd, dd, dd, dd, dd, dd, dd, dd, dd, dd, dd, dd, dd, dd, dd, dd, dd, .d (.sl (v_acts96.map eS_label_Act)), .d (.v (.int .i64 (v_acts96.length : Int))), .d (.v (.int .i64 v_x276)), dd, dd, dd, dd, dd, dd, dd, dd, dd, dd, dd, dd, dd, dd, dd, dd, dd, dd, dd, dd, dd, dd, dd, dd, dd, dd, dd, dd, dd, dd, dd, dd, dd, dd, dd, dd, dd, dd, dd, dd, dd, dd, dd, dd, dd, dd, dd, dd, dd, dd, dd, dd, dd, dd, dd, dd, dd, dd], [.box [.d (.v (.bool (v_b277 0))), .d (.v (.bool (v_b277 1))), .d (.v (.bool (v_b277 2))), .d (.v (.bool (v_b277 3))), .d (.v (.bool (v_b277 4))), .d (.v (.bool (v_b277 5)))], .box [.d (.v (.bool ((setA v_b278 v_y318.fWhat true) 0))), .d (.v (.bool ((setA v_b278 v_y318.fWhat true) 1))), .d (.v (.bool ((setA v_b278 v_y318.fWhat true) 2))), .d (.v (.bool ((setA v_b278 v_y318.fWhat true) 3))), .d (.v (.bool ((setA v_b278 v_y318.fWhat true) 4))), .d (.v (.bool ((setA v_b278 v_y318.fWhat true) 5)))]]⟩
  | .x1 v_b344 => ⟨[dd, dd, dd, dd, dd, dd, dd, dd, dd, dd, dd, .d (.sl (v_r98.1.map eB)), dd, .ref 0 0, .ref 1 0, dd, dd, dd, dd, dd, dd, dd, dd, dd, dd, dd, dd, dd, dd, dd, dd, dd, dd, dd, dd, dd, dd, dd, dd, dd, .d (.sl (v_acts96.map eS_label_Act)), .d (.v (.int .i64 (v_acts96.length : Int))), .d (.v (.int .i64 v_x276)), dd, dd, dd, dd, dd, dd, dd, dd, dd, dd, dd, dd, dd, dd, dd, dd, dd, dd, dd, dd, dd, dd, dd, dd, dd, dd, dd, dd, dd, dd, dd, dd, dd, dd, dd, dd, dd, dd, dd, dd, dd, dd, dd, dd, dd, dd, dd, dd, dd, dd, dd, dd, dd, dd, dd, dd, dd, dd], [.box [.d (.v (.bool (v_b277 0))), .d (.v (.bool (v_b277 1))), .d (.v (.bool (v_b277 2))), .d (.v (.bool (v_b277 3))), .d (.v (.bool (v_b277 4))), .d (.v (.bool (v_b277 5)))], .box [.d (.v (.bool (v_b344 0))), .d (.v (.bool (v_b344 1))), .d (.v (.bool (v_b344 2))), .d (.v (.bool (v_b344 3))), .d (.v (.bool (v_b344 4))), .d (.v (.bool (v_b344 5)))]]⟩
  | .x2  => ⟨[dd, dd, dd, dd, dd, dd, dd, dd, dd, dd, dd, .d (.sl (v_r98.1.map eB)), dd, .ref 0 0, .ref 1 0, dd, dd, dd, dd, dd, dd, dd, dd, dd, dd, dd, dd, dd, dd, dd, dd, dd, dd, dd, dd, dd, dd, dd, dd, dd, .d (.sl (v_acts96.map eS_label_Act)), .d (.v (.int .i64 (v_acts96.length : Int))), .d (.v (.int .i64 v_x276)), dd, dd, dd, dd, dd, dd, dd, dd, dd, dd, dd, dd, dd, dd, dd, dd, dd, dd, dd, dd, dd, dd, dd, dd, dd, dd, dd, dd, dd, dd, dd, dd, dd, dd, dd, dd, dd, dd, dd, dd, dd, dd, dd, dd, dd, dd, dd, dd, dd, dd, dd, dd, dd, dd, dd, dd, dd, dd], [.box [.d (.v (.bool ((setA v_b277 v_y318.fWho true) 0))), .d (.v (.bool ((setA v_b277 v_y318.fWho true) 1))), .d (.v (.bool ((setA v_b277 v_y318.fWho true) 2))), .d (.v (.bool ((setA v_b277 v_y318.fWho true) 3))), .d (.v (.bool ((setA v_b277 v_y318.fWho true) 4))), .d (.v (.bool ((setA v_b277 v_y318.fWho true) 5)))], .box [.d (.v (.bool (v_b278 0))), .d (.v (.bool (v_b278 1))), .d (.v (.bool (v_b278 2))), .d (.v (.bool (v_b278 3))), .d (.v (.bool (v_b278 4))), .d (.v (.bool (v_b278 5)))]]⟩
  | .x3 v_b353 => ⟨[dd, dd, dd, dd, dd, dd, dd, dd, dd, dd, dd, .d (.sl (v_r98.1.map eB)), dd, .ref 0 0, .ref 1 0, dd, dd, dd, dd, dd, dd, dd, dd, dd, dd, dd, dd, dd, dd, dd, dd, dd, dd, dd, dd, dd, dd, dd, dd, dd, .d (.sl (v_acts96.map eS_label_Act)), .d (.v (.int .i64 (v_acts96.length : Int))), .d (.v (.int .i64 v_x276)), dd, dd, dd, dd, dd, dd, dd, dd, dd, dd, dd, dd, dd, dd, dd, dd, dd, dd, dd, dd, dd, dd, dd, dd, dd, dd, dd, dd, dd, dd, dd, dd, dd, dd, dd, dd, dd, dd, dd, dd, dd, dd, dd, dd, dd, dd, dd, dd, dd, dd, dd, dd, dd, dd, dd, dd, dd, dd], [.box [.d (.v (.bool (v_b353 0))), .d (.v (.bool (v_b353 1))), .d (.v (.bool (v_b353 2))), .d (.v (.bool (v_b353 3))), .d (.v (.bool (v_b353 4))), .d (.v (.bool (v_b353 5)))], .box [.d (.v (.bool (v_b278 0))), .d (.v (.bool (v_b278 1))), .d (.v (.bool (v_b278 2))), .d (.v (.bool (v_b278 3))), .d (.v (.bool (v_b278 4))), .d (.v (.bool (v_b278 5)))]]⟩
def G_label_Taint_C6_hd (v_r98 : ((List Bool) × Int)) (v_acts96 : (List S_label_Act)) (v_x276 : Int) (v_y318 : S_label_Act) (v_b277 : (Fin 6 → Bool)) (v_b278 : (Fin 6 → Bool))  : PS := ⟨[dd, dd, dd, dd, dd, dd, dd, dd, dd, dd, dd, .d (.sl (v_r98.1.map eB)), dd, .ref 0 0, .ref 1 0, dd, .ref 2 0, dd, dd, dd, dd, dd, dd, dd, dd, dd, dd, dd, dd, dd, dd, dd, dd, dd, dd, dd, dd, dd, dd, dd, .d (.sl (v_acts96.map eS_label_Act)), .d (.v (.int .i64 (v_acts96.length : Int))), .d (.v (.int .i64 v_x276)), dd, dd, dd, dd, dd, dd, dd, dd, dd, dd, .d (.v (.bool v_y318.fWrite)), dd, dd, dd, dd, dd, dd, dd, dd, dd, dd, dd, dd, dd, dd, dd, dd, dd, dd, dd, dd, dd, dd, dd, dd, dd, dd, dd, dd, dd, dd, dd, dd, dd, dd, dd, dd, dd, dd, dd, dd, dd, dd, dd, dd, dd, dd, dd], [.box [.d (.v (.bool (v_b277 0))), .d (.v (.bool (v_b277 1))), .d (.v (.bool (v_b277 2))), .d (.v (.bool (v_b277 3))), .d (.v (.bool (v_b277 4))), .d (.v (.bool (v_b277 5)))], .box [.d (.v (.bool (v_b278 0))), .d (.v (.bool (v_b278 1))), .d (.v (.bool (v_b278 2))), .d (.v (.bool (v_b278 3))), .d (.v (.bool (v_b278 4))), .d (.v (.bool (v_b278 5)))], .box [.d (.v (.int .i64 v_y318.fWho)), .d (.v (.int .i64 v_y318.fWhat)), .d (.v (.bool v_y318.fWrite))]]⟩
def G_label_Taint_C6 (n : Nat) (v_r98 : ((List Bool) × Int)) (v_acts96 : (List S_label_Act)) (v_x276 : Int) (v_y318 : S_label_Act) (v_b277 : (Fin 6 → Bool)) (v_b278 : (Fin 6 → Bool)) : Option G_label_Taint_C6_R :=
  if v_y318.fWrite = true then
   if 0 ≤ v_y318.fWhat ∧ v_y318.fWhat < (6 : Int) then
    (getA v_b278 v_y318.fWhat).bind fun (v_y340 : Bool) =>
    if v_y340 = true then
     if 0 ≤ v_y318.fWhat ∧ v_y318.fWhat < (6 : Int) then
      (getA v_b278 v_y318.fWhat).bind fun (v_y341 : Bool) =>
      some (.x0 )
     else none
    else
     if 0 ≤ v_y318.fWho ∧ v_y318.fWho < (6 : Int) then
      (getA v_b277 v_y318.fWho).bind fun (v_y342 : Bool) =>
      if 0 ≤ v_y318.fWhat ∧ v_y318.fWhat < (6 : Int) then
       (getA v_b278 v_y318.fWhat).bind fun (v_y343 : Bool) =>
       some (.x1 (setA v_b278 v_y318.fWhat v_y342))
      else none
     else none
   else none
  else
   if 0 ≤ v_y318.fWho ∧ v_y318.fWho < (6 : Int) then
    (getA v_b277 v_y318.fWho).bind fun (v_y349 : Bool) =>
    if v_y349 = true then
     if 0 ≤ v_y318.fWho ∧ v_y318.fWho < (6 : Int) then
      (getA v_b277 v_y318.fWho).bind fun (v_y350 : Bool) =>
      some (.x2 )
     else none
    else
     if 0 ≤ v_y318.fWhat ∧ v_y318.fWhat < (6 : Int) then
      (getA v_b278 v_y318.fWhat).bind fun (v_y351 : Bool) =>
      if 0 ≤ v_y318.fWho ∧ v_y318.fWho < (6 : Int) then
       (getA v_b277 v_y318.fWho).bind fun (v_y352 : Bool) =>
       some (.x3 (setA v_b277 v_y318.fWho v_y351))
      else none
     else none
   else none
theorem G_label_Taint_C6_ok {Fi : Ex → PS → Prop} (hF : KC 101 Fi) (ks : List Fr) (n : Nat) (v_r98 : ((List Bool) × Int)) (v_acts96 : (List S_label_Act)) (v_x276 : Int) (v_y318 : S_label_Act) (v_b277 : (Fin 6 → Bool)) (v_b278 : (Fin 6 → Bool))  (o : G_label_Taint_C6_R) (h : G_label_Taint_C6 n v_r98 v_acts96 v_x276 v_y318 v_b277 v_b278 = some o) (q : RunE Try.prog 101 Fi ks (G_label_Taint_C6_ex o) (G_label_Taint_C6_st v_r98 v_acts96 v_x276 v_y318 v_b277 v_b278 o)) : RunE Try.prog 101 Fi (.s (cR (cR (cR (cB (cL (cR (cR (cP (cB (cR (cL (cR (cR (cR (cR (cR (cR (bodyOf Try.f35)))))))))))))))))) :: ks) .normal (G_label_Taint_C6_hd v_r98 v_acts96 v_x276 v_y318 v_b277 v_b278) := by
  unfold G_label_Taint_C6 at h
  by_cases h528 : v_y318.fWrite = true
  · rw [if_pos h528] at h
    by_cases h538 : 0 ≤ v_y318.fWhat ∧ v_y318.fWhat < (6 : Int)
    · rw [if_pos h538] at h
      obtain ⟨v_y340, h539, h⟩ := bind_some h
      by_cases h540 : v_y340 = true
      · rw [if_pos h540] at h
        by_cases h541 : 0 ≤ v_y318.fWhat ∧ v_y318.fWhat < (6 : Int)
        · rw [if_pos h541] at h
          obtain ⟨v_y341, h542, h⟩ := bind_some h
          cases h
          exact pkk_sound TTok mix hF 2 (hs := [.t true, .c, .c, .l (.d (.v (.bool v_y340))), .t true, .c, .c, .c, .x [.d (.v (.bool ((setA v_b278 v_y318.fWhat true) 0))), .d (.v (.bool ((setA v_b278 v_y318.fWhat true) 1))), .d (.v (.bool ((setA v_b278 v_y318.fWhat true) 2))), .d (.v (.bool ((setA v_b278 v_y318.fWhat true) 3))), .d (.v (.bool ((setA v_b278 v_y318.fWhat true) 4))), .d (.v (.bool ((setA v_b278 v_y318.fWhat true) 5)))], .c]) (ts := []) (s := [0, 1]) (l := [11, 13, 14, 40, 41, 42]) (by kernel_rfl) (by kernel_rfl) (.cons h528 (.cons h538 (.cons (arr_cell (γ := FV) (sz := 1) (g := (fun x => [.d (.v (.bool x))])) (pre := []) (post := []) (o := 0) (fun _ => rfl) h539 rfl) (.cons h540 (.cons h541 (.cons (arr_store (γ := FV) (sz := 1) (g := (fun x => [.d (.v (.bool x))])) (pre := []) (post := []) (o := 0) (y := true) (zs := [.d (.v (.bool true))]) (fun _ => rfl) h542 rfl (Nat.le_of_ble_eq_true rfl)).1 (.cons (arr_store (γ := FV) (sz := 1) (g := (fun x => [.d (.v (.bool x))])) (pre := []) (post := []) (o := 0) (y := true) (zs := [.d (.v (.bool true))]) (fun _ => rfl) h542 rfl (Nat.le_of_ble_eq_true rfl)).2 .nil))))))) q
        · rw [if_neg h541] at h; cases h
      · rw [if_neg h540] at h
        by_cases h543 : 0 ≤ v_y318.fWho ∧ v_y318.fWho < (6 : Int)
        · rw [if_pos h543] at h
          obtain ⟨v_y342, h544, h⟩ := bind_some h
          by_cases h545 : 0 ≤ v_y318.fWhat ∧ v_y318.fWhat < (6 : Int)
          · rw [if_pos h545] at h
            obtain ⟨v_y343, h546, h⟩ := bind_some h
            cases h
            exact pkk_sound TTok mix hF 2 (hs := [.t true, .c, .c, .l (.d (.v (.bool v_y340))), .t false, .c, .c, .c, .c, .l (.d (.v (.bool v_y342))), .x [.d (.v (.bool ((setA v_b278 v_y318.fWhat v_y342) 0))), .d (.v (.bool ((setA v_b278 v_y318.fWhat v_y342) 1))), .d (.v (.bool ((setA v_b278 v_y318.fWhat v_y342) 2))), .d (.v (.bool ((setA v_b278 v_y318.fWhat v_y342) 3))), .d (.v (.bool ((setA v_b278 v_y318.fWhat v_y342) 4))), .d (.v (.bool ((setA v_b278 v_y318.fWhat v_y342) 5)))], .c]) (ts := []) (s := [0, 1]) (l := [11, 13, 14, 40, 41, 42]) (by kernel_rfl) (by kernel_rfl) (.cons h528 (.cons h538 (.cons (arr_cell (γ := FV) (sz := 1) (g := (fun x => [.d (.v (.bool x))])) (pre := []) (post := []) (o := 0) (fun _ => rfl) h539 rfl) (.cons (vf h540) (.cons h543 (.cons (arr_cell (γ := FV) (sz := 1) (g := (fun x => [.d (.v (.bool x))])) (pre := []) (post := []) (o := 0) (fun _ => rfl) h544 rfl) (.cons h545 (.cons (arr_store (γ := FV) (sz := 1) (g := (fun x => [.d (.v (.bool x))])) (pre := []) (post := []) (o := 0) (y := v_y342) (zs := [.d (.v (.bool v_y342))]) (fun _ => rfl) h546 rfl (Nat.le_of_ble_eq_true rfl)).1 (.cons (arr_store (γ := FV) (sz := 1) (g := (fun x => [.d (.v (.bool x))])) (pre := []) (post := []) (o := 0) (y := v_y342) (zs := [.d (.v (.bool v_y342))]) (fun _ => rfl) h546 rfl (Nat.le_of_ble_eq_true rfl)).2 .nil))))))))) q
          · rw [if_neg h545] at h; cases h
        · rw [if_neg h543] at h; cases h
    · rw [if_neg h538] at h; cases h
  · rw [if_neg h528] at h
    by_cases h556 : 0 ≤ v_y318.fWho ∧ v_y318.fWho < (6 : Int)
    · rw [if_pos h556] at h
      obtain ⟨v_y349, h557, h⟩ := bind_some h
      by_cases h558 : v_y349 = true
      · rw [if_pos h558] at h
        by_cases h559 : 0 ≤ v_y318.fWho ∧ v_y318.fWho < (6 : Int)
        · rw [if_pos h559] at h
          obtain ⟨v_y350, h560, h⟩ := bind_some h
          cases h
          exact pkk_sound TTok mix hF 2 (hs := [.t false, .c, .c, .l (.d (.v (.bool v_y349))), .t true, .c, .c, .c, .x [.d (.v (.bool ((setA v_b277 v_y318.fWho true) 0))), .d (.v (.bool ((setA v_b277 v_y318.fWho true) 1))), .d (.v (.bool ((setA v_b277 v_y318.fWho true) 2))), .d (.v (.bool ((setA v_b277 v_y318.fWho true) 3))), .d (.v (.bool ((setA v_b277 v_y318.fWho true) 4))), .d (.v (.bool ((setA v_b277 v_y318.fWho true) 5)))], .c]) (ts := []) (s := [0, 1]) (l := [11, 13, 14, 40, 41, 42]) (by kernel_rfl) (by kernel_rfl) (.cons (vf h528) (.cons h556 (.cons (arr_cell (γ := FV) (sz := 1) (g := (fun x => [.d (.v (.bool x))])) (pre := []) (post := []) (o := 0) (fun _ => rfl) h557 rfl) (.cons h558 (.cons h559 (.cons (arr_store (γ := FV) (sz := 1) (g := (fun x => [.d (.v (.bool x))])) (pre := []) (post := []) (o := 0) (y := true) (zs := [.d (.v (.bool true))]) (fun _ => rfl) h560 rfl (Nat.le_of_ble_eq_true rfl)).1 (.cons (arr_store (γ := FV) (sz := 1) (g := (fun x => [.d (.v (.bool x))])) (pre := []) (post := []) (o := 0) (y := true) (zs := [.d (.v (.bool true))]) (fun _ => rfl) h560 rfl (Nat.le_of_ble_eq_true rfl)).2 .nil))))))) q
        · rw [if_neg h559] at h; cases h
      · rw [if_neg h558] at h
        by_cases h561 : 0 ≤ v_y318.fWhat ∧ v_y318.fWhat < (6 : Int)
        · rw [if_pos h561] at h
          obtain ⟨v_y351, h562, h⟩ := bind_some h
          by_cases h563 : 0 ≤ v_y318.fWho ∧ v_y318.fWho < (6 : Int)
          · rw [if_pos h563] at h
            obtain ⟨v_y352, h564, h⟩ := bind_some h
            cases h
            exact pkk_sound TTok mix hF 2 (hs := [.t false, .c, .c, .l (.d (.v (.bool v_y349))), .t false, .c, .c, .c, .c, .l (.d (.v (.bool v_y351))), .x [.d (.v (.bool ((setA v_b277 v_y318.fWho v_y351) 0))), .d (.v (.bool ((setA v_b277 v_y318.fWho v_y351) 1))), .d (.v (.bool ((setA v_b277 v_y318.fWho v_y351) 2))), .d (.v (.bool ((setA v_b277 v_y318.fWho v_y351) 3))), .d (.v (.bool ((setA v_b277 v_y318.fWho v_y351) 4))), .d (.v (.bool ((setA v_b277 v_y318.fWho v_y351) 5)))], .c]) (ts := []) (s := [0, 1]) (l := [11, 13, 14, 40, 41, 42]) (by kernel_rfl) (by kernel_rfl) (.cons (vf h528) (.cons h556 (.cons (arr_cell (γ := FV) (sz := 1) (g := (fun x => [.d (.v (.bool x))])) (pre := []) (post := []) (o := 0) (fun _ => rfl) h557 rfl) (.cons (vf h558) (.cons h561 (.cons (arr_cell (γ := FV) (sz := 1) (g := (fun x => [.d (.v (.bool x))])) (pre := []) (post := []) (o := 0) (fun _ => rfl) h562 rfl) (.cons h563 (.cons (arr_store (γ := FV) (sz := 1) (g := (fun x => [.d (.v (.bool x))])) (pre := []) (post := []) (o := 0) (y := v_y351) (zs := [.d (.v (.bool v_y351))]) (fun _ => rfl) h564 rfl (Nat.le_of_ble_eq_true rfl)).1 (.cons (arr_store (γ := FV) (sz := 1) (g := (fun x => [.d (.v (.bool x))])) (pre := []) (post := []) (o := 0) (y := v_y351) (zs := [.d (.v (.bool v_y351))]) (fun _ => rfl) h564 rfl (Nat.le_of_ble_eq_true rfl)).2 .nil))))))))) q
          · rw [if_neg h563] at h; cases h
        · rw [if_neg h561] at h; cases h
    · rw [if_neg h556] at h; cases h
inductive G_label_Taint_C7_R where
  | x0 
  | x1 (v_b355 : (Fin 6 → Bool))
  | x2 (v_b358 : (Fin 6 → Bool))
def G_label_Taint_C7_ex : G_label_Taint_C7_R → Ex
  | .x0  => .normal
  | .x1 _ => .normal
  | .x2 _ => .normal
def G_label_Taint_C7_st (v_r98 : ((List Bool) × Int)) (v_acts96 : (List S_label_Act)) (v_x276 : Int) (v_b277 : (Fin 6 → Bool)) (v_b278 : (Fin 6 → Bool)) : G_label_Taint_C7_R → PS
  | .x0  => ⟨[dd, dd, dd, dd, dd, dd, dd, dd, dd, dd, dd, .d (.sl (v_r98.1.map eB)), dd, .ref 0 0, .ref 1 0, dd, dd, dd, dd, dd, dd, dd, dd, dd, dd, dd, dd, dd, dd, dd, dd, dd, dd, dd, dd, dd, dd, dd, dd, dd, .d (.sl (v_acts96.map eS_label_Act)), .d (.v (.int .i64 (v_acts96.length : Int))), .d (.v (.int .i64 v_x276)), dd, dd, dd, dd, dd, dd, dd, dd, dd, dd, dd, dd, dd, dd, dd, dd, dd, dd, dd, dd, dd, dd, dd, dd, dd, dd, dd, dd, dd, dd, dd, dd, dd, dd, dd, dd, dd, dd, dd, dd, dd, dd, dd, dd, dd, dd, dd, dd, dd, dd, dd, dd, dd, dd, dd, dd, dd, dd], [.box [.d (.v (.bool (v_b277 0))), .d (.v (.bool (v_b277 1))), .d (.v (.bool (v_b277 2))), .d (.v (.bool (v_b277 3))), .d (.v (.bool (v_b277 4))), .d (.v (.bool (v_b277 5)))], .box [.d (.v (.bool (v_b278 0))), .d (.v (.bool (v_b278 1))), .d (.v (.bool (v_b278 2))), .d (.v (.bool (v_b278 3))), .d (.v (.bool (v_b278 4))), .d (.v (.bool (v_b278 5)))]]⟩
  | .x1 v_b355 => ⟨[dd, dd, dd, dd, dd, dd, dd, dd, dd, dd, dd, .d (.sl (v_r98.1.map eB)), dd, .ref 0 0, .ref 1 0, dd, dd, dd, dd, dd, dd, dd, dd, dd, dd, dd, dd, dd, dd, dd, dd, dd, dd, dd, dd, dd, dd, dd, dd, dd, .d (.sl (v_acts96.map eS_label_Act)), .d (.v (.int .i64 (v_acts96.length : Int))), .d (.v (.int .i64 v_x276)), dd, dd, dd, dd, dd, dd, dd, dd, dd, dd, dd, dd, dd, dd, dd, dd, dd, dd, dd, dd, dd, dd, dd, dd, dd, dd, dd, dd, dd, dd, dd, dd, dd, dd, dd, dd, dd, dd, dd, dd, dd, dd, dd, dd, dd, dd, dd, dd, dd, dd, dd, dd, dd, dd, dd, dd, dd, dd], [.box [.d (.v (.bool (v_b277 0))), .d (.v (.bool (v_b277 1))), .d (.v (.bool (v_b277 2))), .d (.v (.bool (v_b277 3))), .d (.v (.bool (v_b277 4))), .d (.v (.bool (v_b277 5)))], .box [.d (.v (.bool (v_b355 0))), .d (.v (.bool (v_b355 1))), .d (.v (.bool (v_b355 2))), .d (.v (.bool (v_b355 3))), .d (.v (.bool (v_b355 4))), .d (.v (.bool (v_b355 5)))]]⟩
  | .x2 v_b358 => ⟨[dd, dd, dd, dd, dd, dd, dd, dd, dd, dd, dd, .d (.sl (v_r98.1.map eB)), dd, .ref 0 0, .ref 1 0, dd, dd, dd, dd, dd, dd, dd, dd, dd, dd, dd, dd, dd, dd, dd, dd, dd, dd, dd, dd, dd, dd, dd, dd, dd, .d (.sl (v_acts96.map eS_label_Act)), .d (.v (.int .i64 (v_acts96.length : Int))), .d (.v (.int .i64 v_x276)), dd, dd, dd, dd, dd, dd, dd, dd, dd, dd, dd, dd, dd, dd, dd, dd, dd, dd, dd, dd, dd, dd, dd, dd, dd, dd, dd, dd, dd, dd, dd, dd, dd, dd, dd, dd, dd, dd, dd, dd, dd, dd, dd, dd, dd, dd, dd, dd, dd, dd, dd, dd, dd, dd, dd, dd, dd, dd], [.box [.d (.v (.bool (v_b358 0))), .d (.v (.bool (v_b358 1))), .d (.v (.bool (v_b358 2))), .d (.v (.bool (v_b358 3))), .d (.v (.bool (v_b358 4))), .d (.v (.bool (v_b358 5)))], .box [.d (.v (.bool (v_b278 0))), .d (.v (.bool (v_b278 1))), .d (.v (.bool (v_b278 2))), .d (.v (.bool (v_b278 3))), .d (.v (.bool (v_b278 4))), .d (.v (.bool (v_b278 5)))]]⟩
def G_label_Taint_C7_hd (v_r98 : ((List Bool) × Int)) (v_acts96 : (List S_label_Act)) (v_x276 : Int) (v_b277 : (Fin 6 → Bool)) (v_b278 : (Fin 6 → Bool))  : PS := ⟨[dd, dd, dd, dd, dd, dd, dd, dd, dd, dd, dd, .d (.sl (v_r98.1.map eB)), dd, .ref 0 0, .ref 1 0, dd, dd, dd, dd, dd, dd, dd, dd, dd, dd, dd, dd, dd, dd, dd, dd, dd, dd, dd, dd, dd, dd, dd, dd, dd, .d (.sl (v_acts96.map eS_label_Act)), .d (.v (.int .i64 (v_acts96.length : Int))), .d (.v (.int .i64 v_x276)), dd, dd, dd, dd, dd, dd, dd, dd, dd, dd, dd, dd, dd, dd, dd, dd, dd, dd, dd, dd, dd, dd, dd, dd, dd, dd, dd, dd, dd, dd, dd, dd, dd, dd, dd, dd, dd, dd, dd, dd, dd, dd, dd, dd, dd, dd, dd, dd, dd, dd, dd, dd, dd, dd, dd, dd, dd, dd], [.box [.d (.v (.bool (v_b277 0))), .d (.v (.bool (v_b277 1))), .d (.v (.bool (v_b277 2))), .d (.v (.bool (v_b277 3))), .d (.v (.bool (v_b277 4))), .d (.v (.bool (v_b277 5)))], .box [.d (.v (.bool (v_b278 0))), .d (.v (.bool (v_b278 1))), .d (.v (.bool (v_b278 2))), .d (.v (.bool (v_b278 3))), .d (.v (.bool (v_b278 4))), .d (.v (.bool (v_b278 5)))]]⟩
def G_label_Taint_C7 (n : Nat) (v_r98 : ((List Bool) × Int)) (v_acts96 : (List S_label_Act)) (v_x276 : Int) (v_b277 : (Fin 6 → Bool)) (v_b278 : (Fin 6 → Bool)) : Option G_label_Taint_C7_R :=
  (getI v_acts96 v_x276).bind fun (v_y318 : S_label_Act) =>
  (getI v_r98.1 v_x276).bind fun (v_y319 : Bool) =>
  if v_y319 = true then
   (G_label_Taint_C6 n v_r98 v_acts96 v_x276 v_y318 v_b277 v_b278).bind fun v_o354 => match v_o354 with
   | .x0  =>
     some (.x1 (setA v_b278 v_y318.fWhat true))
   | .x1 v_z356 =>
     some (.x1 v_z356)
   | .x2  =>
     some (.x2 (setA v_b277 v_y318.fWho true))
   | .x3 v_z359 =>
     some (.x2 v_z359)
  else
   some (.x0 )
theorem G_label_Taint_C7_ok {Fi : Ex → PS → Prop} (hF : KC 101 Fi) (ks : List Fr) (n : Nat) (v_r98 : ((List Bool) × Int)) (v_acts96 : (List S_label_Act)) (v_x276 : Int) (v_b277 : (Fin 6 → Bool)) (v_b278 : (Fin 6 → Bool))  (o : G_label_Taint_C7_R) (h : G_label_Taint_C7 n v_r98 v_acts96 v_x276 v_b277 v_b278 = some o) (q : RunE Try.prog 101 Fi ks (G_label_Taint_C7_ex o) (G_label_Taint_C7_st v_r98 v_acts96 v_x276 v_b277 v_b278 o)) : RunE Try.prog 101 Fi (.s (cL (cR (cR (cP (cB (cR (cL (cR (cR (cR (cR (cR (cR (bodyOf Try.f35)))))))))))))) :: ks) .normal (G_label_Taint_C7_hd v_r98 v_acts96 v_x276 v_b277 v_b278) := by
  unfold G_label_Taint_C7 at h
  obtain ⟨v_y318, h488, h⟩ := bind_some h
  obtain ⟨v_y319, h489, h⟩ := bind_some h
  by_cases h490 : v_y319 = true
  · rw [if_pos h490] at h
    obtain ⟨v_o354, h565, h⟩ := bind_some h
    refine pkk_sound TTok mix hF 10 (hs := [.y (eS_label_Act v_y318), .c, .y (eB v_y319), .c, .t false, .c]) (ts := []) (s := [0, 1, 11]) (l := [11, 13, 14, 16, 40, 41, 42, 53]) (by kernel_rfl) (by kernel_rfl) (.cons (getI_ob (f := eS_label_Act) h488) (.cons (show 0 + 3 ≤ 3 by decide) (.cons (getI_ob (f := eB) h489) (.cons (bnf h490) .nil)))) (G_label_Taint_C6_ok hF (.b 1 :: ks) n v_r98 v_acts96 v_x276 v_y318 v_b277 v_b278 _ h565 ?_)
    cases v_o354 with
    | x0  =>
      try dsimp only at h
      cases h
      exact pkk_sound TTok mix hF 1 (hs := []) (ts := []) (s := [0, 1]) (l := [11, 13, 14, 40, 41, 42]) (by kernel_rfl) (by kernel_rfl) .nil q
    | x1 v_z356 =>
      try dsimp only at h
      cases h
      exact pkk_sound TTok mix hF 1 (hs := []) (ts := []) (s := [0, 1]) (l := [11, 13, 14, 40, 41, 42]) (by kernel_rfl) (by kernel_rfl) .nil q
    | x2  =>
      try dsimp only at h
      cases h
      exact pkk_sound TTok mix hF 1 (hs := []) (ts := []) (s := [0, 1]) (l := [11, 13, 14, 40, 41, 42]) (by kernel_rfl) (by kernel_rfl) .nil q
    | x3 v_z359 =>
      try dsimp only at h
      cases h
      exact pkk_sound TTok mix hF 1 (hs := []) (ts := []) (s := [0, 1]) (l := [11, 13, 14, 40, 41, 42]) (by kernel_rfl) (by kernel_rfl) .nil q
  · rw [if_neg h490] at h
    cases h
    exact pkk_sound TTok mix hF 10 (hs := [.y (eS_label_Act v_y318), .c, .y (eB v_y319), .c, .t true]) (ts := []) (s := [0, 1]) (l := [11, 13, 14, 40, 41, 42]) (by kernel_rfl) (by kernel_rfl) (.cons (getI_ob (f := eS_label_Act) h488) (.cons (show 0 + 3 ≤ 3 by decide) (.cons (getI_ob (f := eB) h489) (.cons (bnt (vf h490)) .nil)))) q
inductive G_label_Taint_L8_R where
  | x0 (v_b364 : (Fin 6 → Bool)) (v_b365 : (Fin 6 → Bool))
def G_label_Taint_L8_ex : G_label_Taint_L8_R → Ex
  | .x0 _ _ => .exit 0
def G_label_Taint_L8_st (v_r98 : ((List Bool) × Int)) (v_acts96 : (List S_label_Act)) : G_label_Taint_L8_R → PS
  | .x0 v_b364 v_b365 => ⟨[dd, dd, dd, dd, dd, dd, dd, dd, dd, dd, dd, dd, dd, .ref 0 0, .ref 1 0, dd, dd, dd, dd, dd, dd, dd, dd, dd, dd, dd, dd, dd, dd, dd, dd, dd, dd, dd, dd, dd, dd, dd, dd, dd, dd, dd, dd, dd, dd, dd, dd, dd, dd, dd, dd, dd, dd, dd, dd, dd, dd, dd, dd, dd, dd, dd, dd, dd, dd, dd, dd, dd, dd, dd, dd, dd, dd, dd, dd, dd, dd, dd, dd, dd, dd, dd, dd, dd, dd, dd, dd, dd, dd, dd, dd, dd, dd, dd, dd, dd, dd, dd, dd, dd, dd], [.box [.d (.v (.bool (v_b364 0))), .d (.v (.bool (v_b364 1))), .d (.v (.bool (v_b364 2))), .d (.v (.bool (v_b364 3))), .d (.v (.bool (v_b364 4))), .d (.v (.bool (v_b364 5)))], .box [.d (.v (.bool (v_b365 0))), .d (.v (.bool (v_b365 1))), .d (.v (.bool (v_b365 2))), .d (.v (.bool (v_b365 3))), .d (.v (.bool (v_b365 4))), .d (.v (.bool (v_b365 5)))]]⟩
def G_label_Taint_L8_hd (v_r98 : ((List Bool) × Int)) (v_acts96 : (List S_label_Act)) (v_x276 : Int) (v_b277 : (Fin 6 → Bool)) (v_b278 : (Fin 6 → Bool)) : PS := ⟨[dd, dd, dd, dd, dd, dd, dd, dd, dd, dd, dd, .d (.sl (v_r98.1.map eB)), dd, .ref 0 0, .ref 1 0, dd, dd, dd, dd, dd, dd, dd, dd, dd, dd, dd, dd, dd, dd, dd, dd, dd, dd, dd, dd, dd, dd, dd, dd, dd, .d (.sl (v_acts96.map eS_label_Act)), .d (.v (.int .i64 (v_acts96.length : Int))), .d (.v (.int .i64 v_x276)), dd, dd, dd, dd, dd, dd, dd, dd, dd, dd, dd, dd, dd, dd, dd, dd, dd, dd, dd, dd, dd, dd, dd, dd, dd, dd, dd, dd, dd, dd, dd, dd, dd, dd, dd, dd, dd, dd, dd, dd, dd, dd, dd, dd, dd, dd, dd, dd, dd, dd, dd, dd, dd, dd, dd, dd, dd, dd], [.box [.d (.v (.bool (v_b277 0))), .d (.v (.bool (v_b277 1))), .d (.v (.bool (v_b277 2))), .d (.v (.bool (v_b277 3))), .d (.v (.bool (v_b277 4))), .d (.v (.bool (v_b277 5)))], .box [.d (.v (.bool (v_b278 0))), .d (.v (.bool (v_b278 1))), .d (.v (.bool (v_b278 2))), .d (.v (.bool (v_b278 3))), .d (.v (.bool (v_b278 4))), .d (.v (.bool (v_b278 5)))]]⟩
def G_label_Taint_L8 (n : Nat) (v_r98 : ((List Bool) × Int)) (v_acts96 : (List S_label_Act)) : Nat → Int → (Fin 6 → Bool) → (Fin 6 → Bool) → Option G_label_Taint_L8_R
  | 0, _, _, _ => none
  | k + 1, v_x276, v_b277, v_b278 =>
    if v_x276 < (v_acts96.length : Int) then
     (G_label_Taint_C7 n v_r98 v_acts96 v_x276 v_b277 v_b278).bind fun v_o361 => match v_o361 with
     | .x0  =>
       G_label_Taint_L8 n v_r98 v_acts96 k (wi .i64 (v_x276 + 1)) v_b277 v_b278
     | .x1 v_z362 =>
       G_label_Taint_L8 n v_r98 v_acts96 k (wi .i64 (v_x276 + 1)) v_b277 v_z362
     | .x2 v_z363 =>
       G_label_Taint_L8 n v_r98 v_acts96 k (wi .i64 (v_x276 + 1)) v_z363 v_b278
    else
     some (.x0 v_b277 v_b278)
theorem G_label_Taint_L8_ok {Fi : Ex → PS → Prop} (hF : KC 101 Fi) (ks : List Fr) (n : Nat) (v_r98 : ((List Bool) × Int)) (v_acts96 : (List S_label_Act))  : ∀ (k : Nat) (v_x276 : Int) (v_b277 : (Fin 6 → Bool)) (v_b278 : (Fin 6 → Bool)) (o : G_label_Taint_L8_R), G_label_Taint_L8 n v_r98 v_acts96 k v_x276 v_b277 v_b278 = some o → RunE Try.prog 101 Fi ks (G_label_Taint_L8_ex o) (G_label_Taint_L8_st v_r98 v_acts96 o) → RunE Try.prog 101 Fi (.l k (cP (cB (cR (cL (cR (cR (cR (cR (cR (cR (bodyOf Try.f35))))))))))) :: ks) .normal (G_label_Taint_L8_hd v_r98 v_acts96 v_x276 v_b277 v_b278)
  | 0, v_x276, v_b277, v_b278, o, h, q => by rw [G_label_Taint_L8] at h; cases h
  | k + 1, v_x276, v_b277, v_b278, o, h, q => by
    rw [G_label_Taint_L8] at h
    by_cases h409 : v_x276 < (v_acts96.length : Int)
    · rw [if_pos h409] at h
      obtain ⟨v_o361, h566, h⟩ := bind_some h
      refine pkk_sound TTok mix hF 7 (hs := [.t true]) (ts := []) (s := [0, 1]) (l := [11, 13, 14, 40, 41, 42]) (by kernel_rfl) (by kernel_rfl) (.cons (dt h409) .nil) (G_label_Taint_C7_ok hF (.s (cR (cR (cR (cP (cB (cR (cL (cR (cR (cR (cR (cR (cR (bodyOf Try.f35)))))))))))))) :: .l k (cP (cB (cR (cL (cR (cR (cR (cR (cR (cR (bodyOf Try.f35))))))))))) :: ks) n v_r98 v_acts96 v_x276 v_b277 v_b278 _ h566 ?_)
      cases v_o361 with
      | x0  =>
        try dsimp only at h
        exact pkk_sound TTok mix hF 1 (hs := []) (ts := []) (s := [0, 1]) (l := [11, 13, 14, 40, 41, 42]) (by kernel_rfl) (by kernel_rfl) .nil (G_label_Taint_L8_ok hF ks n v_r98 v_acts96 k (wi .i64 (v_x276 + 1)) v_b277 v_b278 _ h q)
      | x1 v_z362 =>
        try dsimp only at h
        exact pkk_sound TTok mix hF 1 (hs := []) (ts := []) (s := [0, 1]) (l := [11, 13, 14, 40, 41, 42]) (by kernel_rfl) (by kernel_rfl) .nil (G_label_Taint_L8_ok hF ks n v_r98 v_acts96 k (wi .i64 (v_x276 + 1)) v_b277 v_z362 _ h q)
      | x2 v_z363 =>
        try dsimp only at h
        exact pkk_sound TTok mix hF 1 (hs := []) (ts := []) (s := [0, 1]) (l := [11, 13, 14, 40, 41, 42]) (by kernel_rfl) (by kernel_rfl) .nil (G_label_Taint_L8_ok hF ks n v_r98 v_acts96 k (wi .i64 (v_x276 + 1)) v_z363 v_b278 _ h q)
    · rw [if_neg h409] at h
      cases h
      exact pkk_sound TTok mix hF 8 (hs := [.t false]) (ts := []) (s := [0, 1]) (l := [13, 14]) (by kernel_rfl) (by kernel_rfl) (.cons (df h409) .nil) q
inductive G_label_Taint_C9_R where
  | x0 (v_w387 : (List Int)) (v_w388 : (List Int))
def G_label_Taint_C9_ex : G_label_Taint_C9_R → Ex
  | .x0 _ _ => .normal
def G_label_Taint_C9_st (v_x369 : Int) (v_z367 : (Fin 6 → Bool)) (v_z368 : (Fin 6 → Bool)) (v_w370 : (List Int)) (v_w371 : (List Int)) : G_label_Taint_C9_R → PS
  | .x0 v_w387 v_w388 => ⟨[dd, dd, dd, dd, dd, dd, dd, dd, dd, dd, dd, dd, dd, .ref 0 0, .ref 1 0, dd, dd, .srf 2, .srf 3, dd, dd, dd, dd, dd, dd, dd, dd, dd, dd, dd, dd, dd, dd, dd, dd, dd, dd, dd, dd, dd, dd, dd, dd, dd, dd, dd, dd, dd, dd, dd, dd, dd, dd, dd, dd, dd, dd, dd, dd, dd, dd, dd, dd, dd, dd, dd, dd, dd, dd, dd, dd, dd, dd, dd, dd, dd, dd, dd, dd, dd, dd, .d (.v (.int .i64 v_x369)), dd, dd, dd, dd, dd, dd, dd, dd, dd, dd, dd, dd, dd, dd, dd, dd, dd, dd, dd], [.box [.d (.v (.bool (v_z367 0))), .d (.v (.bool (v_z367 1))), .d (.v (.bool (v_z367 2))), .d (.v (.bool (v_z367 3))), .d (.v (.bool (v_z367 4))), .d (.v (.bool (v_z367 5)))], .box [.d (.v (.bool (v_z368 0))), .d (.v (.bool (v_z368 1))), .d (.v (.bool (v_z368 2))), .d (.v (.bool (v_z368 3))), .d (.v (.bool (v_z368 4))), .d (.v (.bool (v_z368 5)))], .row 3 1 (v_w387.map (eI .i64)), .row 3 1 (v_w388.map (eI .i64))]⟩
def G_label_Taint_C9_hd (v_x369 : Int) (v_z367 : (Fin 6 → Bool)) (v_z368 : (Fin 6 → Bool)) (v_w370 : (List Int)) (v_w371 : (List Int))  : PS := ⟨[dd, dd, dd, dd, dd, dd, dd, dd, dd, dd, dd, dd, dd, .ref 0 0, .ref 1 0, dd, dd, .srf 2, .srf 3, dd, dd, dd, dd, dd, dd, dd, dd, dd, dd, dd, dd, dd, dd, dd, dd, dd, dd, dd, dd, dd, dd, dd, dd, dd, dd, dd, dd, dd, dd, dd, dd, dd, dd, dd, dd, dd, dd, dd, dd, dd, dd, dd, dd, dd, dd, dd, dd, dd, dd, dd, dd, dd, dd, dd, dd, dd, dd, dd, dd, dd, dd, .d (.v (.int .i64 v_x369)), dd, dd, dd, dd, dd, dd, dd, dd, dd, dd, dd, dd, dd, dd, dd, dd, dd, dd, dd], [.box [.d (.v (.bool (v_z367 0))), .d (.v (.bool (v_z367 1))), .d (.v (.bool (v_z367 2))), .d (.v (.bool (v_z367 3))), .d (.v (.bool (v_z367 4))), .d (.v (.bool (v_z367 5)))], .box [.d (.v (.bool (v_z368 0))), .d (.v (.bool (v_z368 1))), .d (.v (.bool (v_z368 2))), .d (.v (.bool (v_z368 3))), .d (.v (.bool (v_z368 4))), .d (.v (.bool (v_z368 5)))], .row 3 1 (v_w370.map (eI .i64)), .row 3 1 (v_w371.map (eI .i64))]⟩
def G_label_Taint_C9 (n : Nat) (v_x369 : Int) (v_z367 : (Fin 6 → Bool)) (v_z368 : (Fin 6 → Bool)) (v_w370 : (List Int)) (v_w371 : (List Int)) : Option G_label_Taint_C9_R :=
  if 0 ≤ v_x369 ∧ v_x369 < (6 : Int) then
   (getA v_z367 v_x369).bind fun (v_y381 : Bool) =>
   if v_y381 = true then
    (app 8 v_w370 ([v_x369])).bind fun (v_a383 : (List Int)) =>
    if 0 ≤ v_x369 ∧ v_x369 < (6 : Int) then
     (getA v_z368 v_x369).bind fun (v_y384 : Bool) =>
     if v_y384 = true then
      (app 8 v_w371 ([v_x369])).bind fun (v_a386 : (List Int)) =>
      some (.x0 v_a383 v_a386)
     else
      some (.x0 v_a383 v_w371)
    else none
   else
    if 0 ≤ v_x369 ∧ v_x369 < (6 : Int) then
     (getA v_z368 v_x369).bind fun (v_y391 : Bool) =>
     if v_y391 = true then
      (app 8 v_w371 ([v_x369])).bind fun (v_a393 : (List Int)) =>
      some (.x0 v_w370 v_a393)
     else
      some (.x0 v_w370 v_w371)
    else none
  else none
theorem G_label_Taint_C9_ok {Fi : Ex → PS → Prop} (hF : KC 101 Fi) (ks : List Fr) (n : Nat) (v_x369 : Int) (v_z367 : (Fin 6 → Bool)) (v_z368 : (Fin 6 → Bool)) (v_w370 : (List Int)) (v_w371 : (List Int))  (o : G_label_Taint_C9_R) (h : G_label_Taint_C9 n v_x369 v_z367 v_z368 v_w370 v_w371 = some o) (q : RunE Try.prog 101 Fi ks (G_label_Taint_C9_ex o) (G_label_Taint_C9_st v_x369 v_z367 v_z368 v_w370 v_w371 o)) : RunE Try.prog 101 Fi (.s (cL (cR (cR (cP (cB (cR (cL (cR (cR (cR (cR (cR (cR (cR (cR (bodyOf Try.f35)))))))))))))))) :: ks) .normal (G_label_Taint_C9_hd v_x369 v_z367 v_z368 v_w370 v_w371) := by
  unfold G_label_Taint_C9 at h
  by_cases h587 : 0 ≤ v_x369 ∧ v_x369 < (6 : Int)
  · rw [if_pos h587] at h
    obtain ⟨v_y381, h588, h⟩ := bind_some h
    by_cases h591 : v_y381 = true
    · rw [if_pos h591] at h
      obtain ⟨v_a383, h592, h⟩ := bind_some h
      by_cases h593 : 0 ≤ v_x369 ∧ v_x369 < (6 : Int)
      · rw [if_pos h593] at h
        obtain ⟨v_y384, h594, h⟩ := bind_some h
        by_cases h597 : v_y384 = true
        · rw [if_pos h597] at h
          obtain ⟨v_a386, h598, h⟩ := bind_some h
          cases h
          exact pkk_sound TTok mix hF 13 (hs := [.l (.d (.v (.bool v_y381))), .t true, .bd, .w (v_a383.map (eI .i64)), .l (.d (.v (.bool v_y384))), .t true, .bd, .w (v_a386.map (eI .i64))]) (ts := []) (s := [0, 1, 28, 52]) (l := [13, 14, 17, 18, 81]) (by kernel_rfl) (by kernel_rfl) (.cons h587 (.cons (arr_cell (γ := FV) (sz := 1) (g := (fun x => [.d (.v (.bool x))])) (pre := []) (post := []) (o := 0) (fun _ => rfl) h588 rfl) (.cons h591 (.cons (app_ob (f := (eI .i64)) (s := 1) h592 (fun _ => rfl)).1 (.cons (app_ob (f := (eI .i64)) (s := 1) h592 (fun _ => rfl)).2.1 (.cons (app_ob (f := (eI .i64)) (s := 1) h592 (fun _ => rfl)).2.2.1 (.cons (app_ob (f := (eI .i64)) (s := 1) h592 (fun _ => rfl)).2.2.2 (.cons h593 (.cons (arr_cell (γ := FV) (sz := 1) (g := (fun x => [.d (.v (.bool x))])) (pre := []) (post := []) (o := 0) (fun _ => rfl) h594 rfl) (.cons h597 (.cons (app_ob (f := (eI .i64)) (s := 1) h598 (fun _ => rfl)).1 (.cons (app_ob (f := (eI .i64)) (s := 1) h598 (fun _ => rfl)).2.1 (.cons (app_ob (f := (eI .i64)) (s := 1) h598 (fun _ => rfl)).2.2.1 (.cons (app_ob (f := (eI .i64)) (s := 1) h598 (fun _ => rfl)).2.2.2 .nil)))))))))))))) q
        · rw [if_neg h597] at h
          cases h
          exact pkk_sound TTok mix hF 13 (hs := [.l (.d (.v (.bool v_y381))), .t true, .bd, .w (v_a383.map (eI .i64)), .l (.d (.v (.bool v_y384))), .t false]) (ts := []) (s := [0, 1, 28, 3]) (l := [13, 14, 17, 18, 81]) (by kernel_rfl) (by kernel_rfl) (.cons h587 (.cons (arr_cell (γ := FV) (sz := 1) (g := (fun x => [.d (.v (.bool x))])) (pre := []) (post := []) (o := 0) (fun _ => rfl) h588 rfl) (.cons h591 (.cons (app_ob (f := (eI .i64)) (s := 1) h592 (fun _ => rfl)).1 (.cons (app_ob (f := (eI .i64)) (s := 1) h592 (fun _ => rfl)).2.1 (.cons (app_ob (f := (eI .i64)) (s := 1) h592 (fun _ => rfl)).2.2.1 (.cons (app_ob (f := (eI .i64)) (s := 1) h592 (fun _ => rfl)).2.2.2 (.cons h593 (.cons (arr_cell (γ := FV) (sz := 1) (g := (fun x => [.d (.v (.bool x))])) (pre := []) (post := []) (o := 0) (fun _ => rfl) h594 rfl) (.cons (vf h597) .nil)))))))))) q
      · rw [if_neg h593] at h; cases h
    · rw [if_neg h591] at h
      by_cases h599 : 0 ≤ v_x369 ∧ v_x369 < (6 : Int)
      · rw [if_pos h599] at h
        obtain ⟨v_y391, h600, h⟩ := bind_some h
        by_cases h603 : v_y391 = true
        · rw [if_pos h603] at h
          obtain ⟨v_a393, h604, h⟩ := bind_some h
          cases h
          exact pkk_sound TTok mix hF 13 (hs := [.l (.d (.v (.bool v_y381))), .t false, .l (.d (.v (.bool v_y391))), .t true, .bd, .w (v_a393.map (eI .i64))]) (ts := []) (s := [0, 1, 2, 37]) (l := [13, 14, 17, 18, 81]) (by kernel_rfl) (by kernel_rfl) (.cons h587 (.cons (arr_cell (γ := FV) (sz := 1) (g := (fun x => [.d (.v (.bool x))])) (pre := []) (post := []) (o := 0) (fun _ => rfl) h588 rfl) (.cons (vf h591) (.cons h599 (.cons (arr_cell (γ := FV) (sz := 1) (g := (fun x => [.d (.v (.bool x))])) (pre := []) (post := []) (o := 0) (fun _ => rfl) h600 rfl) (.cons h603 (.cons (app_ob (f := (eI .i64)) (s := 1) h604 (fun _ => rfl)).1 (.cons (app_ob (f := (eI .i64)) (s := 1) h604 (fun _ => rfl)).2.1 (.cons (app_ob (f := (eI .i64)) (s := 1) h604 (fun _ => rfl)).2.2.1 (.cons (app_ob (f := (eI .i64)) (s := 1) h604 (fun _ => rfl)).2.2.2 .nil)))))))))) q
        · rw [if_neg h603] at h
          cases h
          exact pkk_sound TTok mix hF 13 (hs := [.l (.d (.v (.bool v_y381))), .t false, .l (.d (.v (.bool v_y391))), .t false]) (ts := []) (s := [0, 1, 2, 3]) (l := [13, 14, 17, 18, 81]) (by kernel_rfl) (by kernel_rfl) (.cons h587 (.cons (arr_cell (γ := FV) (sz := 1) (g := (fun x => [.d (.v (.bool x))])) (pre := []) (post := []) (o := 0) (fun _ => rfl) h588 rfl) (.cons (vf h591) (.cons h599 (.cons (arr_cell (γ := FV) (sz := 1) (g := (fun x => [.d (.v (.bool x))])) (pre := []) (post := []) (o := 0) (fun _ => rfl) h600 rfl) (.cons (vf h603) .nil)))))) q
      · rw [if_neg h599] at h; cases h
  · rw [if_neg h587] at h; cases h
inductive G_label_Taint_L10_R where
  | x0 (v_w401 : (List Int)) (v_w402 : (List Int))
def G_label_Taint_L10_ex : G_label_Taint_L10_R → Ex
  | .x0 _ _ => .exit 2
def G_label_Taint_L10_st (v_z367 : (Fin 6 → Bool)) (v_z368 : (Fin 6 → Bool)) : G_label_Taint_L10_R → PS
  | .x0 v_w401 v_w402 => ⟨[dd, dd, dd, dd, dd, dd, dd, dd, dd, dd, dd, dd, dd, dd, dd, dd, dd, .srf 0, .srf 1, dd, dd, dd, dd, dd, dd, dd, dd, dd, dd, dd, dd, dd, dd, dd, dd, dd, dd, dd, dd, dd, dd, dd, dd, dd, dd, dd, dd, dd, dd, dd, dd, dd, dd, dd, dd, dd, dd, dd, dd, dd, dd, dd, dd, dd, dd, dd, dd, dd, dd, dd, dd, dd, dd, dd, dd, dd, dd, dd, dd, dd, dd, dd, dd, dd, dd, dd, dd, dd, dd, dd, dd, dd, dd, dd, dd, dd, dd, dd, dd, dd, dd], [.row 3 1 (v_w401.map (eI .i64)), .row 3 1 (v_w402.map (eI .i64))]⟩
def G_label_Taint_L10_hd (v_z367 : (Fin 6 → Bool)) (v_z368 : (Fin 6 → Bool)) (v_x369 : Int) (v_w370 : (List Int)) (v_w371 : (List Int)) : PS := ⟨[dd, dd, dd, dd, dd, dd, dd, dd, dd, dd, dd, dd, dd, .ref 0 0, .ref 1 0, dd, dd, .srf 2, .srf 3, dd, dd, dd, dd, dd, dd, dd, dd, dd, dd, dd, dd, dd, dd, dd, dd, dd, dd, dd, dd, dd, dd, dd, dd, dd, dd, dd, dd, dd, dd, dd, dd, dd, dd, dd, dd, dd, dd, dd, dd, dd, dd, dd, dd, dd, dd, dd, dd, dd, dd, dd, dd, dd, dd, dd, dd, dd, dd, dd, dd, dd, dd, .d (.v (.int .i64 v_x369)), dd, dd, dd, dd, dd, dd, dd, dd, dd, dd, dd, dd, dd, dd, dd, dd, dd, dd, dd], [.box [.d (.v (.bool (v_z367 0))), .d (.v (.bool (v_z367 1))), .d (.v (.bool (v_z367 2))), .d (.v (.bool (v_z367 3))), .d (.v (.bool (v_z367 4))), .d (.v (.bool (v_z367 5)))], .box [.d (.v (.bool (v_z368 0))), .d (.v (.bool (v_z368 1))), .d (.v (.bool (v_z368 2))), .d (.v (.bool (v_z368 3))), .d (.v (.bool (v_z368 4))), .d (.v (.bool (v_z368 5)))], .row 3 1 (v_w370.map (eI .i64)), .row 3 1 (v_w371.map (eI .i64))]⟩
def G_label_Taint_L10 (n : Nat) (v_z367 : (Fin 6 → Bool)) (v_z368 : (Fin 6 → Bool)) : Nat → Int → (List Int) → (List Int) → Option G_label_Taint_L10_R
  | 0, _, _, _ => none
  | k + 1, v_x369, v_w370, v_w371 =>
    if v_x369 < 6 then
     (G_label_Taint_C9 n v_x369 v_z367 v_z368 v_w370 v_w371).bind fun v_o398 => match v_o398 with
     | .x0 v_z399 v_z400 =>
       G_label_Taint_L10 n v_z367 v_z368 k (wi .i64 (v_x369 + 1)) v_z399 v_z400
    else
     some (.x0 v_w370 v_w371)
theorem G_label_Taint_L10_ok {Fi : Ex → PS → Prop} (hF : KC 101 Fi) (ks : List Fr) (n : Nat) (v_z367 : (Fin 6 → Bool)) (v_z368 : (Fin 6 → Bool))  : ∀ (k : Nat) (v_x369 : Int) (v_w370 : (List Int)) (v_w371 : (List Int)) (o : G_label_Taint_L10_R), G_label_Taint_L10 n v_z367 v_z368 k v_x369 v_w370 v_w371 = some o → RunE Try.prog 101 Fi ks (G_label_Taint_L10_ex o) (G_label_Taint_L10_st v_z367 v_z368 o) → RunE Try.prog 101 Fi (.l k (cP (cB (cR (cL (cR (cR (cR (cR (cR (cR (cR (cR (bodyOf Try.f35))))))))))))) :: ks) .normal (G_label_Taint_L10_hd v_z367 v_z368 v_x369 v_w370 v_w371)
  | 0, v_x369, v_w370, v_w371, o, h, q => by rw [G_label_Taint_L10] at h; cases h
  | k + 1, v_x369, v_w370, v_w371, o, h, q => by
    rw [G_label_Taint_L10] at h
    by_cases h568 : v_x369 < 6
    · rw [if_pos h568] at h
      obtain ⟨v_o398, h605, h⟩ := bind_some h
      refine pkk_sound TTok mix hF 7 (hs := [.t true]) (ts := []) (s := [0, 1, 2, 3]) (l := [13, 14, 17, 18, 81]) (by kernel_rfl) (by kernel_rfl) (.cons (dt h568) .nil) (G_label_Taint_C9_ok hF (.s (cR (cR (cR (cP (cB (cR (cL (cR (cR (cR (cR (cR (cR (cR (cR (bodyOf Try.f35)))))))))))))))) :: .l k (cP (cB (cR (cL (cR (cR (cR (cR (cR (cR (cR (cR (bodyOf Try.f35))))))))))))) :: ks) n v_x369 v_z367 v_z368 v_w370 v_w371 _ h605 ?_)
      cases v_o398 with
      | x0 v_z399 v_z400 =>
        try dsimp only at h
        exact pkk_sound TTok mix hF 1 (hs := []) (ts := []) (s := [0, 1, 2, 3]) (l := [13, 14, 17, 18, 81]) (by kernel_rfl) (by kernel_rfl) .nil (G_label_Taint_L10_ok hF ks n v_z367 v_z368 k (wi .i64 (v_x369 + 1)) v_z399 v_z400 _ h q)
    · rw [if_neg h568] at h
      cases h
      exact pkk_sound TTok mix hF 8 (hs := [.t false]) (ts := []) (s := [2, 3]) (l := [17, 18]) (by kernel_rfl) (by kernel_rfl) (.cons (df h568) .nil) q
/- ringhall/label.Taint -/
def G_label_Taint (n : Nat) (v_who94 : (List S_label_Label)) (v_what95 : (List S_label_Label)) (v_acts96 : (List S_label_Act)) (v_from97 : Int) : Option ((List Int) × (List Int) × Int) :=
  (G_label_Run n v_who94 v_what95 v_acts96).bind fun (v_r98 : ((List Bool) × Int)) =>
  if v_r98.2 = 0 then
   (G_label_Taint_C1 n v_what95 v_acts96 v_from97 v_r98).bind fun v_o101 => match v_o101 with
   | .x0 v_z102 =>
     if v_z102 = true then
      some (([] : (List Int)), ([] : (List Int)), 4)
     else
      if 0 ≤ v_from97 ∧ v_from97 < (6 : Int) then
       (getA (fun (_ : Fin 6) => false) v_from97).bind fun (v_y103 : Bool) =>
       (G_label_Taint_L8 n v_r98 v_acts96 n 0 (fun (_ : Fin 6) => false) (setA (fun (_ : Fin 6) => false) v_from97 true)).bind fun v_o366 => match v_o366 with
       | .x0 v_z367 v_z368 =>
         (G_label_Taint_L10 n v_z367 v_z368 n 0 ([] : List Int) ([] : List Int)).bind fun v_o403 => match v_o403 with
         | .x0 v_z404 v_z405 =>
           some (v_z404, v_z405, 0)
      else none
  else
   some (([] : (List Int)), ([] : (List Int)), v_r98.2)
theorem G_label_Taint_ok (n : Nat) (v_who94 : (List S_label_Label)) (v_what95 : (List S_label_Label)) (v_acts96 : (List S_label_Act)) (v_from97 : Int) (r : (List Int) × (List Int) × Int) (h : G_label_Taint n v_who94 v_what95 v_acts96 v_from97 = some r) : Ret Try.prog 35 [(eL eS_label_Label) v_who94, (eL eS_label_Label) v_what95, (eL eS_label_Act) v_acts96, (eI .i64) v_from97] (.tup [(eL (eI .i64)) r.1, (eL (eI .i64)) r.2.1, (eI .i64) r.2.2]) := by
  refine ret_run (n := 101) (fn := Try.f35) (c := bodyOf Try.f35) (by kernel_rfl) (by kernel_rfl) (by kernel_rfl) (by kernel_rfl) ?_
  have hF : KC 101 (FinR Try.prog Try.f35 (.tup [(eL (eI .i64)) r.1, (eL (eI .i64)) r.2.1, (eI .i64) r.2.2])) := FinR.kc' (by kernel_rfl)
  unfold G_label_Taint at h
  obtain ⟨v_r98, h83, h⟩ := bind_some h
  by_cases h85 : v_r98.2 = 0
  · rw [if_pos h85] at h
    obtain ⟨v_o101, h88, h⟩ := bind_some h
    refine pkk_sound TTok mix hF 11 (hs := [.r (.tup [(eL eB) v_r98.1, (eI .i64) v_r98.2]), .t false]) (ts := []) (s := []) (l := [1, 2, 3, 11]) (by kernel_rfl) (by kernel_rfl) (.cons (G_label_Run_ok n v_who94 v_what95 v_acts96 _ h83) (.cons (nf h85) .nil)) (G_label_Taint_C1_ok hF (.s (cR (cL (cR (cR (cR (bodyOf Try.f35)))))) :: .s (cR (cR (cR (cR (bodyOf Try.f35))))) :: []) n v_what95 v_acts96 v_from97 v_r98 _ h88 ?_)
    cases v_o101 with
    | x0 v_z102 =>
      try dsimp only at h
      by_cases h90 : v_z102 = true
      · rw [if_pos h90] at h
        obtain rfl := Option.some.inj h
        exact pend_sound TTok mix 5 (hs := [.t true]) (by kernel_rfl) (by kernel_rfl) (by kernel_rfl) (.cons h90 .nil)
      · rw [if_neg h90] at h
        by_cases h91 : 0 ≤ v_from97 ∧ v_from97 < (6 : Int)
        · rw [if_pos h91] at h
          obtain ⟨v_y103, h92, h⟩ := bind_some h
          obtain ⟨v_o366, h567, h⟩ := bind_some h
          refine pkk_sound TTok mix hF 11 (hs := [.t false, .x [.d (.v (.bool ((setA (fun (_ : Fin 6) => false) v_from97 true) 0))), .d (.v (.bool ((setA (fun (_ : Fin 6) => false) v_from97 true) 1))), .d (.v (.bool ((setA (fun (_ : Fin 6) => false) v_from97 true) 2))), .d (.v (.bool ((setA (fun (_ : Fin 6) => false) v_from97 true) 3))), .d (.v (.bool ((setA (fun (_ : Fin 6) => false) v_from97 true) 4))), .d (.v (.bool ((setA (fun (_ : Fin 6) => false) v_from97 true) 5)))], .c, .u (.d (.v (.int .i64 (v_acts96.length : Int)))), .n n]) (ts := []) (s := [0, 3]) (l := [11, 13, 14, 40, 41, 42]) (by kernel_rfl) (by kernel_rfl) (.cons (vf h90) (.cons h91 (.cons (arr_store (γ := FV) (sz := 1) (g := (fun x => [.d (.v (.bool x))])) (pre := []) (post := []) (o := 0) (y := true) (zs := [.d (.v (.bool true))]) (fun _ => rfl) h92 rfl (Nat.le_of_ble_eq_true rfl)).1 (.cons (arr_store (γ := FV) (sz := 1) (g := (fun x => [.d (.v (.bool x))])) (pre := []) (post := []) (o := 0) (y := true) (zs := [.d (.v (.bool true))]) (fun _ => rfl) h92 rfl (Nat.le_of_ble_eq_true rfl)).2 (.cons (len_ob (f := eS_label_Act) (l := v_acts96)) .nil))))) (G_label_Taint_L8_ok hF (.b 0 :: .s (cR (cR (cR (cR (cR (cR (cR (bodyOf Try.f35)))))))) :: []) n v_r98 v_acts96 n 0 (fun (_ : Fin 6) => false) (setA (fun (_ : Fin 6) => false) v_from97 true) _ h567 ?_)
          cases v_o366 with
          | x0 v_z367 v_z368 =>
            try dsimp only at h
            obtain ⟨v_o403, h606, h⟩ := bind_some h
            refine pkk_sound TTok mix hF 8 (hs := [.n n]) (ts := [(17, 3, 1), (18, 3, 1)]) (s := [0, 1, 11, 12]) (l := [13, 14, 17, 18, 81]) (by kernel_rfl) (by kernel_rfl) .nil (G_label_Taint_L10_ok hF (.b 2 :: .s (cR (cR (cR (cR (cR (cR (cR (cR (cR (bodyOf Try.f35)))))))))) :: []) n v_z367 v_z368 n 0 ([] : List Int) ([] : List Int) _ h606 ?_)
            cases v_o403 with
            | x0 v_z404 v_z405 =>
              try dsimp only at h
              obtain rfl := Option.some.inj h
              exact pend_sound TTok mix 4 (hs := []) (by kernel_rfl) (by kernel_rfl) (by kernel_rfl) .nil
        · rw [if_neg h91] at h; cases h
  · rw [if_neg h85] at h
    obtain rfl := Option.some.inj h
    exact pend_sound TTok mix 12 (hs := [.r (.tup [(eL eB) v_r98.1, (eI .i64) v_r98.2]), .t true]) (by kernel_rfl) (by kernel_rfl) (by kernel_rfl) (.cons (G_label_Run_ok n v_who94 v_what95 v_acts96 _ h83) (.cons (nt h85) .nil))
/- slices.Grow[[]ringhall/label.Label,ringhall/label.Label] -/
def G_slices_Grow_label_Label_label_Label_h (n : Nat) (v_n420 : Int) : Option ((List S_label_Label)) :=
  if v_n420 < 0 then
   none
  else
   if (wi .i64 (v_n420 - (wi .i64 (0 - 0)))) > 0 then
    (appZ 16 (S_label_Label.mk 0 0) (wi .i64 (v_n420 - (wi .i64 (0 - 0))))).bind fun (v_a423 : (List S_label_Label)) =>
    (sub v_a423 0 0).bind fun (v_s424 : (List S_label_Label)) =>
    some v_s424
   else
    some ([] : List S_label_Label)
theorem G_slices_Grow_label_Label_label_Label_h_ok (n : Nat) (v_n420 : Int) (r : (List S_label_Label)) (h : G_slices_Grow_label_Label_label_Label_h n v_n420 = some r) : RetH Try.prog 127 [.d vnil, .d ((eI .i64) v_n420)] [] (.srf 0) [.row 59 2 (r.map eS_label_Label)] := by
  refine retH_run (n := 27) (fn := Try.f127) (c := bodyOf Try.f127) (by kernel_rfl) (by kernel_rfl) (by kernel_rfl) (by kernel_rfl) ?_
  have hF : KC 27 (FinH Try.prog Try.f127 [] (.srf 0) [.row 59 2 (r.map eS_label_Label)]) := FinH.kc' (by kernel_rfl)
  unfold G_slices_Grow_label_Label_label_Label_h at h
  by_cases h620 : v_n420 < 0
  · rw [if_pos h620] at h
    cases h
  · rw [if_neg h620] at h
    by_cases h624 : (wi .i64 (v_n420 - (wi .i64 (0 - 0)))) > 0
    · rw [if_pos h624] at h
      obtain ⟨v_a423, h625, h⟩ := bind_some h
      obtain ⟨v_s424, h626, h⟩ := bind_some h
      obtain rfl := Option.some.inj h
      exact pendH_sound TTok mix 17 (hs := [.t false, .u (.d (.v (.int .i64 0))), .t true, .c, .w (v_a423.map eS_label_Label), .u (.d (.v (.int .i64 0))), .w (v_s424.map eS_label_Label)]) [63] (by kernel_rfl) (by kernel_rfl) (by kernel_rfl) (.cons (df h620) (.cons (Eq.refl (FV.d (.v (.int .i64 0)))) (.cons (dt h624) (.cons (Eq.refl (0 : Int)) (.cons (Eq.refl (0 : Int)) (.cons (appZ_ob (f := eS_label_Label) (p := .agg [.v (.int .i64 0), .v (.int .i64 0)]) h625 rfl).1 (.cons (appZ_ob (f := eS_label_Label) (p := .agg [.v (.int .i64 0), .v (.int .i64 0)]) h625 rfl).2.1 (.cons (appZ_ob (f := eS_label_Label) (p := .agg [.v (.int .i64 0), .v (.int .i64 0)]) h625 rfl).2.2.1 (.cons (appZ_ob (f := eS_label_Label) (p := .agg [.v (.int .i64 0), .v (.int .i64 0)]) h625 rfl).2.2.2 (.cons (Eq.refl (FV.d (.v (.int .i64 0)))) (.cons (Eq.refl (0 : Int)) (.cons (subR_ob (f := eS_label_Label) h626).1 (.cons (subR_ob (f := eS_label_Label) h626).2.1 (.cons (subR_ob (f := eS_label_Label) h626).2.2 .nil))))))))))))))
    · rw [if_neg h624] at h
      obtain rfl := Option.some.inj h
      exact pendH_sound TTok mix 18 (hs := [.t false, .u (.d (.v (.int .i64 0))), .t false, .dl 4, .th 4 59 2]) [45] (by kernel_rfl) (by kernel_rfl) (by kernel_rfl) (.cons (df h620) (.cons (Eq.refl (FV.d (.v (.int .i64 0)))) (.cons (df h624) .nil)))
inductive G_slices_Concat_label_Label_label_Label_h_L1_R where
  | x0 (v_size417 : Int)
def G_slices_Concat_label_Label_label_Label_h_L1_ex : G_slices_Concat_label_Label_label_Label_h_L1_R → Ex
  | .x0 _ => .exit 0
def G_slices_Concat_label_Label_label_Label_h_L1_st (v_slices412 : (List (List S_label_Label))) : G_slices_Concat_label_Label_label_Label_h_L1_R → PS
  | .x0 v_size417 => ⟨[.d (.sl (v_slices412.map (eL eS_label_Label))), dd, dd, .d (.v (.int .i64 v_size417)), dd, dd, dd, dd, dd, dd, dd, dd, dd, dd, dd, dd, dd, dd, dd, dd, dd, dd, dd, dd, dd, dd, dd, dd, dd, dd, dd, dd, dd, dd, dd, dd], []⟩
def G_slices_Concat_label_Label_label_Label_h_L1_hd (v_slices412 : (List (List S_label_Label))) (v_size413 : Int) (v_x414 : Int) : PS := ⟨[.d (.sl (v_slices412.map (eL eS_label_Label))), dd, dd, .d (.v (.int .i64 v_size413)), dd, dd, dd, dd, dd, .d (.sl (v_slices412.map (eL eS_label_Label))), .d (.v (.int .i64 (v_slices412.length : Int))), .d (.v (.int .i64 v_x414)), dd, dd, dd, dd, dd, dd, dd, dd, dd, dd, dd, dd, dd, dd, dd, dd, dd, dd, dd, dd, dd, dd, dd, dd], []⟩
def G_slices_Concat_label_Label_label_Label_h_L1 (n : Nat) (v_slices412 : (List (List S_label_Label))) : Nat → Int → Int → Option G_slices_Concat_label_Label_label_Label_h_L1_R
  | 0, _, _ => none
  | k + 1, v_size413, v_x414 =>
    if v_x414 < (v_slices412.length : Int) then
     (getI v_slices412 v_x414).bind fun (v_y416 : (List S_label_Label)) =>
     if (wi .i64 (v_size413 + (v_y416.length : Int))) < 0 then
      none
     else
      G_slices_Concat_label_Label_label_Label_h_L1 n v_slices412 k (wi .i64 (v_size413 + (v_y416.length : Int))) (wi .i64 (v_x414 + 1))
    else
     some (.x0 v_size413)
theorem G_slices_Concat_label_Label_label_Label_h_L1_ok {Fi : Ex → PS → Prop} (hF : KC 36 Fi) (ks : List Fr) (n : Nat) (v_slices412 : (List (List S_label_Label)))  : ∀ (k : Nat) (v_size413 : Int) (v_x414 : Int) (o : G_slices_Concat_label_Label_label_Label_h_L1_R), G_slices_Concat_label_Label_label_Label_h_L1 n v_slices412 k v_size413 v_x414 = some o → RunE Try.prog 36 Fi ks (G_slices_Concat_label_Label_label_Label_h_L1_ex o) (G_slices_Concat_label_Label_label_Label_h_L1_st v_slices412 o) → RunE Try.prog 36 Fi (.l k (cP (cB (cR (cL (cR (cR (bodyOf Try.f37))))))) :: ks) .normal (G_slices_Concat_label_Label_label_Label_h_L1_hd v_slices412 v_size413 v_x414)
  | 0, v_size413, v_x414, o, h, q => by rw [G_slices_Concat_label_Label_label_Label_h_L1] at h; cases h
  | k + 1, v_size413, v_x414, o, h, q => by
    rw [G_slices_Concat_label_Label_label_Label_h_L1] at h
    by_cases h614 : v_x414 < (v_slices412.length : Int)
    · rw [if_pos h614] at h
      obtain ⟨v_y416, h617, h⟩ := bind_some h
      by_cases h618 : (wi .i64 (v_size413 + (v_y416.length : Int))) < 0
      · rw [if_pos h618] at h
        cases h
      · rw [if_neg h618] at h
        exact pkk_sound TTok mix hF 18 (hs := [.t true, .y ((eL eS_label_Label) v_y416), .c, .u (.d (.v (.int .i64 (v_y416.length : Int)))), .t false]) (ts := []) (s := []) (l := [0, 3, 9, 10, 11]) (by kernel_rfl) (by kernel_rfl) (.cons (dt h614) (.cons (getI_ob (f := (eL eS_label_Label)) h617) (.cons (len_ob (f := eS_label_Label) (l := v_y416)) (.cons (df h618) .nil)))) (G_slices_Concat_label_Label_label_Label_h_L1_ok hF ks n v_slices412 k (wi .i64 (v_size413 + (v_y416.length : Int))) (wi .i64 (v_x414 + 1)) _ h q)
    · rw [if_neg h614] at h
      cases h
      exact pkk_sound TTok mix hF 8 (hs := [.t false]) (ts := []) (s := []) (l := [0, 3]) (by kernel_rfl) (by kernel_rfl) (.cons (df h614) .nil) q
inductive G_slices_Concat_label_Label_label_Label_h_L2_R where
  | x0 (v_w432 : (List S_label_Label))
def G_slices_Concat_label_Label_label_Label_h_L2_ex : G_slices_Concat_label_Label_label_Label_h_L2_R → Ex
  | .x0 _ => .exit 2
def G_slices_Concat_label_Label_label_Label_h_L2_st (v_slices412 : (List (List S_label_Label))) : G_slices_Concat_label_Label_label_Label_h_L2_R → PS
  | .x0 v_w432 => ⟨[dd, dd, dd, dd, dd, dd, .srf 0, dd, dd, dd, dd, dd, dd, dd, dd, dd, dd, dd, dd, dd, dd, dd, dd, dd, dd, dd, dd, dd, dd, dd, dd, dd, dd, dd, dd, dd], [.row 59 2 (v_w432.map eS_label_Label)]⟩
def G_slices_Concat_label_Label_label_Label_h_L2_hd (v_slices412 : (List (List S_label_Label))) (v_x426 : Int) (v_w427 : (List S_label_Label)) : PS := ⟨[dd, dd, dd, dd, dd, dd, .srf 0, dd, dd, dd, dd, dd, dd, dd, dd, dd, dd, dd, dd, dd, dd, dd, dd, dd, dd, .d (.sl (v_slices412.map (eL eS_label_Label))), .d (.v (.int .i64 (v_slices412.length : Int))), .d (.v (.int .i64 v_x426)), dd, dd, dd, dd, dd, dd, dd, dd], [.row 59 2 (v_w427.map eS_label_Label)]⟩
def G_slices_Concat_label_Label_label_Label_h_L2 (n : Nat) (v_slices412 : (List (List S_label_Label))) : Nat → Int → (List S_label_Label) → Option G_slices_Concat_label_Label_label_Label_h_L2_R
  | 0, _, _ => none
  | k + 1, v_x426, v_w427 =>
    if v_x426 < (v_slices412.length : Int) then
     (getI v_slices412 v_x426).bind fun (v_y430 : (List S_label_Label)) =>
     (app 16 v_w427 v_y430).bind fun (v_a431 : (List S_label_Label)) =>
     G_slices_Concat_label_Label_label_Label_h_L2 n v_slices412 k (wi .i64 (v_x426 + 1)) v_a431
    else
     some (.x0 v_w427)
theorem G_slices_Concat_label_Label_label_Label_h_L2_ok {Fi : Ex → PS → Prop} (hF : KC 36 Fi) (ks : List Fr) (n : Nat) (v_slices412 : (List (List S_label_Label)))  : ∀ (k : Nat) (v_x426 : Int) (v_w427 : (List S_label_Label)) (o : G_slices_Concat_label_Label_label_Label_h_L2_R), G_slices_Concat_label_Label_label_Label_h_L2 n v_slices412 k v_x426 v_w427 = some o → RunE Try.prog 36 Fi ks (G_slices_Concat_label_Label_label_Label_h_L2_ex o) (G_slices_Concat_label_Label_label_Label_h_L2_st v_slices412 o) → RunE Try.prog 36 Fi (.l k (cP (cB (cR (cL (cR (cR (cR (cR (bodyOf Try.f37))))))))) :: ks) .normal (G_slices_Concat_label_Label_label_Label_h_L2_hd v_slices412 v_x426 v_w427)
  | 0, v_x426, v_w427, o, h, q => by rw [G_slices_Concat_label_Label_label_Label_h_L2] at h; cases h
  | k + 1, v_x426, v_w427, o, h, q => by
    rw [G_slices_Concat_label_Label_label_Label_h_L2] at h
    by_cases h628 : v_x426 < (v_slices412.length : Int)
    · rw [if_pos h628] at h
      obtain ⟨v_y430, h631, h⟩ := bind_some h
      obtain ⟨v_a431, h632, h⟩ := bind_some h
      exact pkk_sound TTok mix hF 13 (hs := [.t true, .y ((eL eS_label_Label) v_y430), .c, .w (v_a431.map eS_label_Label)]) (ts := []) (s := [19]) (l := [6, 25, 26, 27]) (by kernel_rfl) (by kernel_rfl) (.cons (dt h628) (.cons (getI_ob (f := (eL eS_label_Label)) h631) (.cons (app_ob (f := eS_label_Label) (s := 2) h632 (fun _ => rfl)).1 (.cons (app_ob (f := eS_label_Label) (s := 2) h632 (fun _ => rfl)).2.1 (.cons (app_ob (f := eS_label_Label) (s := 2) h632 (fun _ => rfl)).2.2.1 (.cons (app_ob (f := eS_label_Label) (s := 2) h632 (fun _ => rfl)).2.2.2 .nil)))))) (G_slices_Concat_label_Label_label_Label_h_L2_ok hF ks n v_slices412 k (wi .i64 (v_x426 + 1)) v_a431 _ h q)
    · rw [if_neg h628] at h
      cases h
      exact pkk_sound TTok mix hF 8 (hs := [.t false]) (ts := []) (s := [0]) (l := [6]) (by kernel_rfl) (by kernel_rfl) (.cons (df h628) .nil) q
/- slices.Concat[[]ringhall/label.Label,ringhall/label.Label] -/
def G_slices_Concat_label_Label_label_Label_h (n : Nat) (v_slices412 : (List (List S_label_Label))) : Option ((List S_label_Label)) :=
  (G_slices_Concat_label_Label_label_Label_h_L1 n v_slices412 n 0 0).bind fun v_o418 => match v_o418 with
  | .x0 v_z419 =>
    (G_slices_Grow_label_Label_label_Label_h n v_z419).bind fun (v_r425 : ((List S_label_Label))) =>
    (G_slices_Concat_label_Label_label_Label_h_L2 n v_slices412 n 0 v_r425).bind fun v_o433 => match v_o433 with
    | .x0 v_z434 =>
      some v_z434
theorem G_slices_Concat_label_Label_label_Label_h_ok (n : Nat) (v_slices412 : (List (List S_label_Label))) (r : (List S_label_Label)) (h : G_slices_Concat_label_Label_label_Label_h n v_slices412 = some r) : RetH Try.prog 37 [.d ((eL (eL eS_label_Label)) v_slices412)] [] (.srf 0) [.row 59 2 (r.map eS_label_Label)] := by
  refine retH_run (n := 36) (fn := Try.f37) (c := bodyOf Try.f37) (by kernel_rfl) (by kernel_rfl) (by kernel_rfl) (by kernel_rfl) ?_
  have hF : KC 36 (FinH Try.prog Try.f37 [] (.srf 0) [.row 59 2 (r.map eS_label_Label)]) := FinH.kc' (by kernel_rfl)
  unfold G_slices_Concat_label_Label_label_Label_h at h
  obtain ⟨v_o418, h619, h⟩ := bind_some h
  refine pkk_sound TTok mix hF 9 (hs := [.u (.d (.v (.int .i64 (v_slices412.length : Int)))), .n n]) (ts := []) (s := []) (l := [0, 3, 9, 10, 11]) (by kernel_rfl) (by kernel_rfl) (.cons (len_ob (f := (eL eS_label_Label)) (l := v_slices412)) .nil) (G_slices_Concat_label_Label_label_Label_h_L1_ok hF (.b 0 :: .s (cR (cR (cR (bodyOf Try.f37)))) :: []) n v_slices412 n 0 0 _ h619 ?_)
  cases v_o418 with
  | x0 v_z419 =>
    try dsimp only at h
    obtain ⟨v_r425, h627, h⟩ := bind_some h
    obtain ⟨v_o433, h633, h⟩ := bind_some h
    refine pkk_sound TTok mix hF 8 (hs := [.h [] [false] [.row 59 2 (v_r425.map eS_label_Label)] (.srf 0), .u (.d (.v (.int .i64 (v_slices412.length : Int)))), .n n]) (ts := []) (s := [3]) (l := [6, 25, 26, 27]) (by kernel_rfl) (by kernel_rfl) (.cons (G_slices_Grow_label_Label_label_Label_h_ok n v_z419 _ h627) (.cons (len_ob (f := (eL eS_label_Label)) (l := v_slices412)) .nil)) (G_slices_Concat_label_Label_label_Label_h_L2_ok hF (.b 2 :: .s (cR (cR (cR (cR (cR (bodyOf Try.f37)))))) :: []) n v_slices412 n 0 v_r425 _ h633 ?_)
    cases v_o433 with
    | x0 v_z434 =>
      try dsimp only at h
      obtain rfl := Option.some.inj h
      exact pendH_sound TTok mix 4 (hs := []) [0] (by kernel_rfl) (by kernel_rfl) (by kernel_rfl) .nil
inductive G_slices_IndexFunc_label_Label_label_Label_L1_R where
  | x0 (v_x445 : Int)
  | x1 
def G_slices_IndexFunc_label_Label_label_Label_L1_ex : G_slices_IndexFunc_label_Label_label_Label_L1_R → Ex
  | .x0 _ => .ret
  | .x1  => .exit 0
def G_slices_IndexFunc_label_Label_label_Label_L1_st (v_s438 : (List S_label_Label)) (v_f439 : (S_label_Label → Option (Bool))) (v_f439_g : FuncId) (v_f439_c : (List PV)) : G_slices_IndexFunc_label_Label_label_Label_L1_R → PS
  | .x0 v_x445 => ⟨[dd, dd, dd, dd, .d (.v (.int .i64 v_x445)), dd, dd, dd, dd, dd, dd, dd, dd, dd, dd, dd, dd, dd, dd], []⟩
  | .x1  => ⟨[dd, dd, dd, dd, dd, dd, dd, dd, dd, dd, dd, dd, dd, dd, dd, dd, dd, dd, dd], []⟩
def G_slices_IndexFunc_label_Label_label_Label_L1_hd (v_s438 : (List S_label_Label)) (v_f439 : (S_label_Label → Option (Bool))) (v_f439_g : FuncId) (v_f439_c : (List PV)) (v_x440 : Int) : PS := ⟨[.d (.sl (v_s438.map eS_label_Label)), .d (.clo v_f439_g v_f439_c), dd, dd, dd, dd, dd, .d (.v (.int .i64 (v_s438.length : Int))), .d (.v (.int .i64 v_x440)), dd, dd, dd, dd, dd, dd, dd, dd, dd, dd], []⟩
def G_slices_IndexFunc_label_Label_label_Label_L1 (n : Nat) (v_s438 : (List S_label_Label)) (v_f439 : (S_label_Label → Option (Bool))) : Nat → Int → Option G_slices_IndexFunc_label_Label_label_Label_L1_R
  | 0, _ => none
  | k + 1, v_x440 =>
    if v_x440 < (v_s438.length : Int) then
     (getI v_s438 v_x440).bind fun (v_y443 : S_label_Label) =>
     (v_f439 v_y443).bind fun (v_r444 : (Bool)) =>
     if v_r444 = true then
      some (.x0 v_x440)
     else
      G_slices_IndexFunc_label_Label_label_Label_L1 n v_s438 v_f439 k (wi .i64 (v_x440 + 1))
    else
     some (.x1 )
theorem G_slices_IndexFunc_label_Label_label_Label_L1_ok {Fi : Ex → PS → Prop} (hF : KC 19 Fi) (ks : List Fr) (n : Nat) (v_s438 : (List S_label_Label)) (v_f439 : (S_label_Label → Option (Bool))) (v_f439_g : FuncId) (v_f439_c : (List PV)) (v_f439_h : ∀ (x0 : S_label_Label) (r : Bool), v_f439 x0 = some r → Ret Try.prog v_f439_g ([eS_label_Label x0] ++ v_f439_c) (eB r)) : ∀ (k : Nat) (v_x440 : Int) (o : G_slices_IndexFunc_label_Label_label_Label_L1_R), G_slices_IndexFunc_label_Label_label_Label_L1 n v_s438 v_f439 k v_x440 = some o → RunE Try.prog 19 Fi ks (G_slices_IndexFunc_label_Label_label_Label_L1_ex o) (G_slices_IndexFunc_label_Label_label_Label_L1_st v_s438 v_f439 v_f439_g v_f439_c o) → RunE Try.prog 19 Fi (.l k (cP (cB (cR (cL (cR (bodyOf Try.f126)))))) :: ks) .normal (G_slices_IndexFunc_label_Label_label_Label_L1_hd v_s438 v_f439 v_f439_g v_f439_c v_x440)
  | 0, v_x440, o, h, q => by rw [G_slices_IndexFunc_label_Label_label_Label_L1] at h; cases h
  | k + 1, v_x440, o, h, q => by
    rw [G_slices_IndexFunc_label_Label_label_Label_L1] at h
    by_cases h635 : v_x440 < (v_s438.length : Int)
    · rw [if_pos h635] at h
      obtain ⟨v_y443, h639, h⟩ := bind_some h
      obtain ⟨v_r444, h640, h⟩ := bind_some h
      by_cases h641 : v_r444 = true
      · rw [if_pos h641] at h
        cases h
        exact pkk_sound TTok mix hF 19 (hs := [.t true, .y (eS_label_Label v_y443), .r (eB v_r444), .t true]) (ts := []) (s := []) (l := [4]) (by kernel_rfl) (by kernel_rfl) (.cons (dt h635) (.cons (getI_ob (f := eS_label_Label) h639) (.cons (v_f439_h v_y443 _ h640) (.cons h641 .nil)))) q
      · rw [if_neg h641] at h
        exact pkk_sound TTok mix hF 16 (hs := [.t true, .y (eS_label_Label v_y443), .r (eB v_r444), .t false]) (ts := []) (s := []) (l := [0, 1, 7, 8]) (by kernel_rfl) (by kernel_rfl) (.cons (dt h635) (.cons (getI_ob (f := eS_label_Label) h639) (.cons (v_f439_h v_y443 _ h640) (.cons (vf h641) .nil)))) (G_slices_IndexFunc_label_Label_label_Label_L1_ok hF ks n v_s438 v_f439 v_f439_g v_f439_c v_f439_h k (wi .i64 (v_x440 + 1)) _ h q)
    · rw [if_neg h635] at h
      cases h
      exact pkk_sound TTok mix hF 8 (hs := [.t false]) (ts := []) (s := []) (l := []) (by kernel_rfl) (by kernel_rfl) (.cons (df h635) .nil) q
/- slices.IndexFunc[[]ringhall/label.Label,ringhall/label.Label] -/
def G_slices_IndexFunc_label_Label_label_Label (n : Nat) (v_s438 : (List S_label_Label)) (v_f439 : (S_label_Label → Option (Bool))) : Option (Int) :=
  (G_slices_IndexFunc_label_Label_label_Label_L1 n v_s438 v_f439 n 0).bind fun v_o446 => match v_o446 with
  | .x0 v_z447 =>
    some v_z447
  | .x1  =>
    some (-1)
theorem G_slices_IndexFunc_label_Label_label_Label_ok (n : Nat) (v_s438 : (List S_label_Label)) (v_f439 : (S_label_Label → Option (Bool))) (v_f439_g : FuncId) (v_f439_c : List PV) (v_f439_h : ∀ (x0 : S_label_Label) (r : Bool), v_f439 x0 = some r → Ret Try.prog v_f439_g ([eS_label_Label x0] ++ v_f439_c) (eB r)) (r : Int) (h : G_slices_IndexFunc_label_Label_label_Label n v_s438 v_f439 = some r) : Ret Try.prog 126 [(eL eS_label_Label) v_s438, (.clo v_f439_g v_f439_c)] ((eI .i64) r) := by
  refine ret_run (n := 19) (fn := Try.f126) (c := bodyOf Try.f126) (by kernel_rfl) (by kernel_rfl) (by kernel_rfl) (by kernel_rfl) ?_
  have hF : KC 19 (FinR Try.prog Try.f126 ((eI .i64) r)) := FinR.kc' (by kernel_rfl)
  unfold G_slices_IndexFunc_label_Label_label_Label at h
  obtain ⟨v_o446, h642, h⟩ := bind_some h
  refine pkk_sound TTok mix hF 7 (hs := [.u (.d (.v (.int .i64 (v_s438.length : Int)))), .n n]) (ts := []) (s := []) (l := [0, 1, 7, 8]) (by kernel_rfl) (by kernel_rfl) (.cons (len_ob (f := eS_label_Label) (l := v_s438)) .nil) (G_slices_IndexFunc_label_Label_label_Label_L1_ok hF (.b 0 :: .s (cR (cR (bodyOf Try.f126))) :: []) n v_s438 v_f439 v_f439_g v_f439_c v_f439_h n 0 _ h642 ?_)
  cases v_o446 with
  | x0 v_z447 =>
    try dsimp only at h
    obtain rfl := Option.some.inj h
    exact pend_sound TTok mix 2 (hs := []) (by kernel_rfl) (by kernel_rfl) (by kernel_rfl) .nil
  | x1  =>
    try dsimp only at h
    obtain rfl := Option.some.inj h
    exact pend_sound TTok mix 4 (hs := []) (by kernel_rfl) (by kernel_rfl) (by kernel_rfl) .nil
/- slices.ContainsFunc[[]ringhall/label.Label,ringhall/label.Label] -/
def G_slices_ContainsFunc_label_Label_label_Label (n : Nat) (v_s436 : (List S_label_Label)) (v_f437 : (S_label_Label → Option (Bool))) : Option (Bool) :=
  (G_slices_IndexFunc_label_Label_label_Label n v_s436 v_f437).bind fun (v_r448 : (Int)) =>
  some (decide (v_r448 ≥ 0))
theorem G_slices_ContainsFunc_label_Label_label_Label_ok (n : Nat) (v_s436 : (List S_label_Label)) (v_f437 : (S_label_Label → Option (Bool))) (v_f437_g : FuncId) (v_f437_c : List PV) (v_f437_h : ∀ (x0 : S_label_Label) (r : Bool), v_f437 x0 = some r → Ret Try.prog v_f437_g ([eS_label_Label x0] ++ v_f437_c) (eB r)) (r : Bool) (h : G_slices_ContainsFunc_label_Label_label_Label n v_s436 v_f437 = some r) : Ret Try.prog 36 [(eL eS_label_Label) v_s436, (.clo v_f437_g v_f437_c)] (eB r) := by
  refine ret_run (n := 9) (fn := Try.f36) (c := bodyOf Try.f36) (by kernel_rfl) (by kernel_rfl) (by kernel_rfl) (by kernel_rfl) ?_
  have hF : KC 9 (FinR Try.prog Try.f36 (eB r)) := FinR.kc' (by kernel_rfl)
  unfold G_slices_ContainsFunc_label_Label_label_Label at h
  obtain ⟨v_r448, h643, h⟩ := bind_some h
  obtain rfl := Option.some.inj h
  exact pend_sound TTok mix 5 (hs := [.r ((eI .i64) v_r448)]) (by kernel_rfl) (by kernel_rfl) (by kernel_rfl) (.cons (G_slices_IndexFunc_label_Label_label_Label_ok n v_s436 v_f437 v_f437_g v_f437_c v_f437_h _ h643) .nil)
/- ringhall/ringlaw5.LabelRuns$1 -/
def G_ringlaw5_LabelRuns_1 (n : Nat) (v_l449 : S_label_Label) : Option (Bool) :=
  (G_label_Check n v_l449).bind fun (v_r450 : (Int)) =>
  some (v_r450 != 0)
theorem G_ringlaw5_LabelRuns_1_ok (n : Nat) (v_l449 : S_label_Label) (r : Bool) (h : G_ringlaw5_LabelRuns_1 n v_l449 = some r) : Ret Try.prog 38 [eS_label_Label v_l449] (eB r) := by
  refine ret_run (n := 6) (fn := Try.f38) (c := bodyOf Try.f38) (by kernel_rfl) (by kernel_rfl) (by kernel_rfl) (by kernel_rfl) ?_
  have hF : KC 6 (FinR Try.prog Try.f38 (eB r)) := FinR.kc' (by kernel_rfl)
  unfold G_ringlaw5_LabelRuns_1 at h
  obtain ⟨v_r450, h644, h⟩ := bind_some h
  obtain rfl := Option.some.inj h
  exact pend_sound TTok mix 5 (hs := [.c, .r ((eI .i64) v_r450)]) (by kernel_rfl) (by kernel_rfl) (by kernel_rfl) (.cons (G_label_Check_ok n v_l449 _ h644) .nil)
inductive G_slices_IndexFunc_label_Act_label_Act_L1_R where
  | x0 (v_x461 : Int)
  | x1 
def G_slices_IndexFunc_label_Act_label_Act_L1_ex : G_slices_IndexFunc_label_Act_label_Act_L1_R → Ex
  | .x0 _ => .ret
  | .x1  => .exit 0
def G_slices_IndexFunc_label_Act_label_Act_L1_st (v_s454 : (List S_label_Act)) (v_f455 : (S_label_Act → Option (Bool))) (v_f455_g : FuncId) (v_f455_c : (List PV)) : G_slices_IndexFunc_label_Act_label_Act_L1_R → PS
  | .x0 v_x461 => ⟨[dd, dd, dd, dd, .d (.v (.int .i64 v_x461)), dd, dd, dd, dd, dd, dd, dd, dd, dd, dd, dd, dd, dd, dd], []⟩
  | .x1  => ⟨[dd, dd, dd, dd, dd, dd, dd, dd, dd, dd, dd, dd, dd, dd, dd, dd, dd, dd, dd], []⟩
def G_slices_IndexFunc_label_Act_label_Act_L1_hd (v_s454 : (List S_label_Act)) (v_f455 : (S_label_Act → Option (Bool))) (v_f455_g : FuncId) (v_f455_c : (List PV)) (v_x456 : Int) : PS := ⟨[.d (.sl (v_s454.map eS_label_Act)), .d (.clo v_f455_g v_f455_c), dd, dd, dd, dd, dd, .d (.v (.int .i64 (v_s454.length : Int))), .d (.v (.int .i64 v_x456)), dd, dd, dd, dd, dd, dd, dd, dd, dd, dd], []⟩
def G_slices_IndexFunc_label_Act_label_Act_L1 (n : Nat) (v_s454 : (List S_label_Act)) (v_f455 : (S_label_Act → Option (Bool))) : Nat → Int → Option G_slices_IndexFunc_label_Act_label_Act_L1_R
  | 0, _ => none
  | k + 1, v_x456 =>
    if v_x456 < (v_s454.length : Int) then
     (getI v_s454 v_x456).bind fun (v_y459 : S_label_Act) =>
     (v_f455 v_y459).bind fun (v_r460 : (Bool)) =>
     if v_r460 = true then
      some (.x0 v_x456)
     else
      G_slices_IndexFunc_label_Act_label_Act_L1 n v_s454 v_f455 k (wi .i64 (v_x456 + 1))
    else
     some (.x1 )
theorem G_slices_IndexFunc_label_Act_label_Act_L1_ok {Fi : Ex → PS → Prop} (hF : KC 19 Fi) (ks : List Fr) (n : Nat) (v_s454 : (List S_label_Act)) (v_f455 : (S_label_Act → Option (Bool))) (v_f455_g : FuncId) (v_f455_c : (List PV)) (v_f455_h : ∀ (x0 : S_label_Act) (r : Bool), v_f455 x0 = some r → Ret Try.prog v_f455_g ([eS_label_Act x0] ++ v_f455_c) (eB r)) : ∀ (k : Nat) (v_x456 : Int) (o : G_slices_IndexFunc_label_Act_label_Act_L1_R), G_slices_IndexFunc_label_Act_label_Act_L1 n v_s454 v_f455 k v_x456 = some o → RunE Try.prog 19 Fi ks (G_slices_IndexFunc_label_Act_label_Act_L1_ex o) (G_slices_IndexFunc_label_Act_label_Act_L1_st v_s454 v_f455 v_f455_g v_f455_c o) → RunE Try.prog 19 Fi (.l k (cP (cB (cR (cL (cR (bodyOf Try.f128)))))) :: ks) .normal (G_slices_IndexFunc_label_Act_label_Act_L1_hd v_s454 v_f455 v_f455_g v_f455_c v_x456)
  | 0, v_x456, o, h, q => by rw [G_slices_IndexFunc_label_Act_label_Act_L1] at h; cases h
  | k + 1, v_x456, o, h, q => by
    rw [G_slices_IndexFunc_label_Act_label_Act_L1] at h
    by_cases h647 : v_x456 < (v_s454.length : Int)
    · rw [if_pos h647] at h
      obtain ⟨v_y459, h651, h⟩ := bind_some h
      obtain ⟨v_r460, h652, h⟩ := bind_some h
      by_cases h653 : v_r460 = true
      · rw [if_pos h653] at h
        cases h
        exact pkk_sound TTok mix hF 19 (hs := [.t true, .y (eS_label_Act v_y459), .r (eB v_r460), .t true]) (ts := []) (s := []) (l := [4]) (by kernel_rfl) (by kernel_rfl) (.cons (dt h647) (.cons (getI_ob (f := eS_label_Act) h651) (.cons (v_f455_h v_y459 _ h652) (.cons h653 .nil)))) q
      · rw [if_neg h653] at h
        exact pkk_sound TTok mix hF 16 (hs := [.t true, .y (eS_label_Act v_y459), .r (eB v_r460), .t false]) (ts := []) (s := []) (l := [0, 1, 7, 8]) (by kernel_rfl) (by kernel_rfl) (.cons (dt h647) (.cons (getI_ob (f := eS_label_Act) h651) (.cons (v_f455_h v_y459 _ h652) (.cons (vf h653) .nil)))) (G_slices_IndexFunc_label_Act_label_Act_L1_ok hF ks n v_s454 v_f455 v_f455_g v_f455_c v_f455_h k (wi .i64 (v_x456 + 1)) _ h q)
    · rw [if_neg h647] at h
      cases h
      exact pkk_sound TTok mix hF 8 (hs := [.t false]) (ts := []) (s := []) (l := []) (by kernel_rfl) (by kernel_rfl) (.cons (df h647) .nil) q
/- slices.IndexFunc[[]ringhall/label.Act,ringhall/label.Act] -/
def G_slices_IndexFunc_label_Act_label_Act (n : Nat) (v_s454 : (List S_label_Act)) (v_f455 : (S_label_Act → Option (Bool))) : Option (Int) :=
  (G_slices_IndexFunc_label_Act_label_Act_L1 n v_s454 v_f455 n 0).bind fun v_o462 => match v_o462 with
  | .x0 v_z463 =>
    some v_z463
  | .x1  =>
    some (-1)
theorem G_slices_IndexFunc_label_Act_label_Act_ok (n : Nat) (v_s454 : (List S_label_Act)) (v_f455 : (S_label_Act → Option (Bool))) (v_f455_g : FuncId) (v_f455_c : List PV) (v_f455_h : ∀ (x0 : S_label_Act) (r : Bool), v_f455 x0 = some r → Ret Try.prog v_f455_g ([eS_label_Act x0] ++ v_f455_c) (eB r)) (r : Int) (h : G_slices_IndexFunc_label_Act_label_Act n v_s454 v_f455 = some r) : Ret Try.prog 128 [(eL eS_label_Act) v_s454, (.clo v_f455_g v_f455_c)] ((eI .i64) r) := by
  refine ret_run (n := 19) (fn := Try.f128) (c := bodyOf Try.f128) (by kernel_rfl) (by kernel_rfl) (by kernel_rfl) (by kernel_rfl) ?_
  have hF : KC 19 (FinR Try.prog Try.f128 ((eI .i64) r)) := FinR.kc' (by kernel_rfl)
  unfold G_slices_IndexFunc_label_Act_label_Act at h
  obtain ⟨v_o462, h654, h⟩ := bind_some h
  refine pkk_sound TTok mix hF 7 (hs := [.u (.d (.v (.int .i64 (v_s454.length : Int)))), .n n]) (ts := []) (s := []) (l := [0, 1, 7, 8]) (by kernel_rfl) (by kernel_rfl) (.cons (len_ob (f := eS_label_Act) (l := v_s454)) .nil) (G_slices_IndexFunc_label_Act_label_Act_L1_ok hF (.b 0 :: .s (cR (cR (bodyOf Try.f128))) :: []) n v_s454 v_f455 v_f455_g v_f455_c v_f455_h n 0 _ h654 ?_)
  cases v_o462 with
  | x0 v_z463 =>
    try dsimp only at h
    obtain rfl := Option.some.inj h
    exact pend_sound TTok mix 2 (hs := []) (by kernel_rfl) (by kernel_rfl) (by kernel_rfl) .nil
  | x1  =>
    try dsimp only at h
    obtain rfl := Option.some.inj h
    exact pend_sound TTok mix 4 (hs := []) (by kernel_rfl) (by kernel_rfl) (by kernel_rfl) .nil
/- slices.ContainsFunc[[]ringhall/label.Act,ringhall/label.Act] -/
def G_slices_ContainsFunc_label_Act_label_Act (n : Nat) (v_s452 : (List S_label_Act)) (v_f453 : (S_label_Act → Option (Bool))) : Option (Bool) :=
  (G_slices_IndexFunc_label_Act_label_Act n v_s452 v_f453).bind fun (v_r464 : (Int)) =>
  some (decide (v_r464 ≥ 0))
theorem G_slices_ContainsFunc_label_Act_label_Act_ok (n : Nat) (v_s452 : (List S_label_Act)) (v_f453 : (S_label_Act → Option (Bool))) (v_f453_g : FuncId) (v_f453_c : List PV) (v_f453_h : ∀ (x0 : S_label_Act) (r : Bool), v_f453 x0 = some r → Ret Try.prog v_f453_g ([eS_label_Act x0] ++ v_f453_c) (eB r)) (r : Bool) (h : G_slices_ContainsFunc_label_Act_label_Act n v_s452 v_f453 = some r) : Ret Try.prog 40 [(eL eS_label_Act) v_s452, (.clo v_f453_g v_f453_c)] (eB r) := by
  refine ret_run (n := 9) (fn := Try.f40) (c := bodyOf Try.f40) (by kernel_rfl) (by kernel_rfl) (by kernel_rfl) (by kernel_rfl) ?_
  have hF : KC 9 (FinR Try.prog Try.f40 (eB r)) := FinR.kc' (by kernel_rfl)
  unfold G_slices_ContainsFunc_label_Act_label_Act at h
  obtain ⟨v_r464, h655, h⟩ := bind_some h
  obtain rfl := Option.some.inj h
  exact pend_sound TTok mix 5 (hs := [.r ((eI .i64) v_r464)]) (by kernel_rfl) (by kernel_rfl) (by kernel_rfl) (.cons (G_slices_IndexFunc_label_Act_label_Act_ok n v_s452 v_f453 v_f453_g v_f453_c v_f453_h _ h655) .nil)
inductive G_ringlaw5_LabelRuns_2_C1_R where
  | x0 (v_x468 : Bool)
def G_ringlaw5_LabelRuns_2_C1_ex : G_ringlaw5_LabelRuns_2_C1_R → Ex
  | .x0 _ => .normal
def G_ringlaw5_LabelRuns_2_C1_st (v_c466 : (List S_label_Label)) (v_c467 : (List S_label_Label)) (v_a465 : S_label_Act) : G_ringlaw5_LabelRuns_2_C1_R → PS
  | .x0 v_x468 => ⟨[dd, dd, dd, dd, .d (.v (.bool v_x468)), dd, dd, dd, dd, dd, dd, dd, dd, dd, dd, dd, dd, dd, dd, dd, dd, dd, dd, dd, dd, dd, dd], []⟩
def G_ringlaw5_LabelRuns_2_C1_hd (v_c466 : (List S_label_Label)) (v_c467 : (List S_label_Label)) (v_a465 : S_label_Act)  : PS := ⟨[dd, .d (.iptr [.sl (v_c466.map eS_label_Label)] 0), .d (.iptr [.sl (v_c467.map eS_label_Label)] 0), .ref 0 0, dd, dd, dd, dd, dd, dd, dd, dd, dd, dd, dd, dd, dd, dd, dd, dd, dd, dd, dd, dd, dd, dd, dd], [.box [.d (.v (.int .i64 v_a465.fWho)), .d (.v (.int .i64 v_a465.fWhat)), .d (.v (.bool v_a465.fWrite))]]⟩
def G_ringlaw5_LabelRuns_2_C1 (n : Nat) (v_c466 : (List S_label_Label)) (v_c467 : (List S_label_Label)) (v_a465 : S_label_Act) : Option G_ringlaw5_LabelRuns_2_C1_R :=
  if v_a465.fWho < 0 then
   some (.x0 true)
  else
   if v_a465.fWho ≥ (v_c466.length : Int) then
    some (.x0 true)
   else
    if v_a465.fWhat < 0 then
     some (.x0 true)
    else
     some (.x0 (decide (v_a465.fWhat ≥ (v_c467.length : Int))))
theorem G_ringlaw5_LabelRuns_2_C1_ok {Fi : Ex → PS → Prop} (hF : KC 27 Fi) (ks : List Fr) (n : Nat) (v_c466 : (List S_label_Label)) (v_c467 : (List S_label_Label)) (v_a465 : S_label_Act)  (o : G_ringlaw5_LabelRuns_2_C1_R) (h : G_ringlaw5_LabelRuns_2_C1 n v_c466 v_c467 v_a465 = some o) (q : RunE Try.prog 27 Fi ks (G_ringlaw5_LabelRuns_2_C1_ex o) (G_ringlaw5_LabelRuns_2_C1_st v_c466 v_c467 v_a465 o)) : RunE Try.prog 27 Fi (.s (cL (cR (bodyOf Try.f41))) :: ks) .normal (G_ringlaw5_LabelRuns_2_C1_hd v_c466 v_c467 v_a465) := by
  unfold G_ringlaw5_LabelRuns_2_C1 at h
  by_cases h659 : v_a465.fWho < 0
  · rw [if_pos h659] at h
    cases h
    exact pkk_sound TTok mix hF 1 (hs := [.c, .t true, .c, .c, .c, .c, .c, .c, .c, .c, .c, .c, .c, .c]) (ts := []) (s := []) (l := [4]) (by kernel_rfl) (by kernel_rfl) (.cons (dt h659) .nil) q
  · rw [if_neg h659] at h
    by_cases h660 : v_a465.fWho ≥ (v_c466.length : Int)
    · rw [if_pos h660] at h
      cases h
      exact pkk_sound TTok mix hF 1 (hs := [.c, .t false, .c, .c, .c, .c, .c, .u (.d (.v (.int .i64 (v_c466.length : Int)))), .c, .t true, .c, .c, .c, .c, .c, .c, .c]) (ts := []) (s := []) (l := [4]) (by kernel_rfl) (by kernel_rfl) (.cons (df h659) (.cons (len_ob (f := eS_label_Label) (l := v_c466)) (.cons (dt h660) .nil))) q
    · rw [if_neg h660] at h
      by_cases h661 : v_a465.fWhat < 0
      · rw [if_pos h661] at h
        cases h
        exact pkk_sound TTok mix hF 1 (hs := [.c, .t false, .c, .c, .c, .c, .c, .u (.d (.v (.int .i64 (v_c466.length : Int)))), .c, .t false, .c, .c, .c, .t true, .c, .c, .c, .c]) (ts := []) (s := []) (l := [4]) (by kernel_rfl) (by kernel_rfl) (.cons (df h659) (.cons (len_ob (f := eS_label_Label) (l := v_c466)) (.cons (df h660) (.cons (dt h661) .nil)))) q
      · rw [if_neg h661] at h
        cases h
        exact pkk_sound TTok mix hF 1 (hs := [.c, .t false, .c, .c, .c, .c, .c, .u (.d (.v (.int .i64 (v_c466.length : Int)))), .c, .t false, .c, .c, .c, .t false, .c, .c, .c, .c, .c, .u (.d (.v (.int .i64 (v_c467.length : Int)))), .c]) (ts := []) (s := []) (l := [4]) (by kernel_rfl) (by kernel_rfl) (.cons (df h659) (.cons (len_ob (f := eS_label_Label) (l := v_c466)) (.cons (df h660) (.cons (df h661) (.cons (len_ob (f := eS_label_Label) (l := v_c467)) .nil))))) q
/- ringhall/ringlaw5.LabelRuns$2 -/
def G_ringlaw5_LabelRuns_2 (n : Nat) (v_a465 : S_label_Act) (v_c466 : (List S_label_Label)) (v_c467 : (List S_label_Label)) : Option (Bool) :=
  (G_ringlaw5_LabelRuns_2_C1 n v_c466 v_c467 v_a465).bind fun v_o472 => match v_o472 with
  | .x0 v_z473 =>
    some v_z473
theorem G_ringlaw5_LabelRuns_2_ok (n : Nat) (v_a465 : S_label_Act) (v_c466 : (List S_label_Label)) (v_c467 : (List S_label_Label)) (r : Bool) (h : G_ringlaw5_LabelRuns_2 n v_a465 v_c466 v_c467 = some r) : Ret Try.prog 41 [eS_label_Act v_a465, .iptr [.sl (v_c466.map eS_label_Label)] 0, .iptr [.sl (v_c467.map eS_label_Label)] 0] (eB r) := by
  refine ret_run (n := 27) (fn := Try.f41) (c := bodyOf Try.f41) (by kernel_rfl) (by kernel_rfl) (by kernel_rfl) (by kernel_rfl) ?_
  have hF : KC 27 (FinR Try.prog Try.f41 (eB r)) := FinR.kc' (by kernel_rfl)
  unfold G_ringlaw5_LabelRuns_2 at h
  obtain ⟨v_o472, h662, h⟩ := bind_some h
  refine pkk_sound TTok mix hF 3 (hs := []) (ts := []) (s := [0]) (l := [1, 2, 3]) (by kernel_rfl) (by kernel_rfl) .nil (G_ringlaw5_LabelRuns_2_C1_ok hF (.s (cR (cR (bodyOf Try.f41))) :: []) n v_c466 v_c467 v_a465 _ h662 ?_)
  cases v_o472 with
  | x0 v_z473 =>
    try dsimp only at h
    obtain rfl := Option.some.inj h
    exact pend_sound TTok mix 1 (hs := []) (by kernel_rfl) (by kernel_rfl) (by kernel_rfl) .nil
inductive G_ringref5_FlowsOf_L1_R where
  | x0 (v_x524 : Bool)
  | x1 
def G_ringref5_FlowsOf_L1_ex : G_ringref5_FlowsOf_L1_R → Ex
  | .x0 _ => .ret
  | .x1  => .exit 0
def G_ringref5_FlowsOf_L1_st (v_level519 : Int) (v_kind520 : Int) (v_to521 : Int) (v_kinds522 : Int) : G_ringref5_FlowsOf_L1_R → PS
  | .x0 v_x524 => ⟨[dd, dd, dd, dd, dd, dd, dd, dd, .d (.v (.bool v_x524)), dd, dd, dd, dd, dd, dd, dd, dd, dd, dd, dd, dd, dd, dd, dd, dd, dd, dd, dd, dd], []⟩
  | .x1  => ⟨[.d (.v (.int .i64 v_level519)), dd, .d (.v (.int .i64 v_to521)), dd, dd, dd, dd, dd, dd, dd, dd, dd, dd, dd, dd, dd, dd, dd, dd, dd, dd, dd, dd, dd, dd, dd, dd, dd, dd], []⟩
def G_ringref5_FlowsOf_L1_hd (v_level519 : Int) (v_kind520 : Int) (v_to521 : Int) (v_kinds522 : Int) (v_x523 : Int) : PS := ⟨[.d (.v (.int .i64 v_level519)), .d (.v (.int .i64 v_kind520)), .d (.v (.int .i64 v_to521)), .d (.v (.int .i64 v_kinds522)), dd, dd, dd, dd, dd, dd, .d (.v (.int .i64 v_x523)), dd, dd, dd, dd, dd, dd, dd, dd, dd, dd, dd, dd, dd, dd, dd, dd, dd, dd], []⟩
def G_ringref5_FlowsOf_L1 (n : Nat) (v_level519 : Int) (v_kind520 : Int) (v_to521 : Int) (v_kinds522 : Int) : Nat → Int → Option G_ringref5_FlowsOf_L1_R
  | 0, _ => none
  | k + 1, v_x523 =>
    if v_x523 < 8 then
     if 0 ≤ v_x523 then
      if (bits .and .i64 (shrI .i64 v_kind520 v_x523) 1) = 1 then
       if 0 ≤ v_x523 then
        if (bits .and .i64 (shrI .i64 v_kinds522 v_x523) 1) = 0 then
         some (.x0 false)
        else
         G_ringref5_FlowsOf_L1 n v_level519 v_kind520 v_to521 v_kinds522 k (wi .i64 (v_x523 + 1))
       else none
      else
       G_ringref5_FlowsOf_L1 n v_level519 v_kind520 v_to521 v_kinds522 k (wi .i64 (v_x523 + 1))
     else none
    else
     some (.x1 )
theorem G_ringref5_FlowsOf_L1_ok {Fi : Ex → PS → Prop} (hF : KC 29 Fi) (ks : List Fr) (n : Nat) (v_level519 : Int) (v_kind520 : Int) (v_to521 : Int) (v_kinds522 : Int)  : ∀ (k : Nat) (v_x523 : Int) (o : G_ringref5_FlowsOf_L1_R), G_ringref5_FlowsOf_L1 n v_level519 v_kind520 v_to521 v_kinds522 k v_x523 = some o → RunE Try.prog 29 Fi ks (G_ringref5_FlowsOf_L1_ex o) (G_ringref5_FlowsOf_L1_st v_level519 v_kind520 v_to521 v_kinds522 o) → RunE Try.prog 29 Fi (.l k (cP (cB (cR (cL (cR (bodyOf Try.f42)))))) :: ks) .normal (G_ringref5_FlowsOf_L1_hd v_level519 v_kind520 v_to521 v_kinds522 v_x523)
  | 0, v_x523, o, h, q => by rw [G_ringref5_FlowsOf_L1] at h; cases h
  | k + 1, v_x523, o, h, q => by
    rw [G_ringref5_FlowsOf_L1] at h
    by_cases h702 : v_x523 < 8
    · rw [if_pos h702] at h
      by_cases h713 : 0 ≤ v_x523
      · rw [if_pos h713] at h
        by_cases h714 : (bits .and .i64 (shrI .i64 v_kind520 v_x523) 1) = 1
        · rw [if_pos h714] at h
          by_cases h715 : 0 ≤ v_x523
          · rw [if_pos h715] at h
            by_cases h716 : (bits .and .i64 (shrI .i64 v_kinds522 v_x523) 1) = 0
            · rw [if_pos h716] at h
              cases h
              exact pkk_sound TTok mix hF 19 (hs := [.t true, .t true, .c, .c, .c, .c, .t true]) (ts := []) (s := []) (l := [8]) (by kernel_rfl) (by kernel_rfl) (.cons (dt h702) (.cons h713 (.cons (bt h714) (.cons h715 (.cons (bt h716) .nil))))) q
            · rw [if_neg h716] at h
              exact pkk_sound TTok mix hF 16 (hs := [.t true, .t true, .c, .c, .c, .c, .t false]) (ts := []) (s := []) (l := [0, 1, 2, 3, 10]) (by kernel_rfl) (by kernel_rfl) (.cons (dt h702) (.cons h713 (.cons (bt h714) (.cons h715 (.cons (bf h716) .nil))))) (G_ringref5_FlowsOf_L1_ok hF ks n v_level519 v_kind520 v_to521 v_kinds522 k (wi .i64 (v_x523 + 1)) _ h q)
          · rw [if_neg h715] at h; cases h
        · rw [if_neg h714] at h
          exact pkk_sound TTok mix hF 16 (hs := [.t true, .t false, .c, .c, .c, .c, .c]) (ts := []) (s := []) (l := [0, 1, 2, 3, 10]) (by kernel_rfl) (by kernel_rfl) (.cons (dt h702) (.cons h713 (.cons (bf h714) .nil))) (G_ringref5_FlowsOf_L1_ok hF ks n v_level519 v_kind520 v_to521 v_kinds522 k (wi .i64 (v_x523 + 1)) _ h q)
      · rw [if_neg h713] at h; cases h
    · rw [if_neg h702] at h
      cases h
      exact pkk_sound TTok mix hF 8 (hs := [.t false]) (ts := []) (s := []) (l := [0, 2]) (by kernel_rfl) (by kernel_rfl) (.cons (df h702) .nil) q
/- ringhall/ringref5.FlowsOf -/
def G_ringref5_FlowsOf (n : Nat) (v_level519 : Int) (v_kind520 : Int) (v_to521 : Int) (v_kinds522 : Int) : Option (Bool) :=
  (G_ringref5_FlowsOf_L1 n v_level519 v_kind520 v_to521 v_kinds522 n 0).bind fun v_o525 => match v_o525 with
  | .x0 v_z526 =>
    some v_z526
  | .x1  =>
    some (decide (v_level519 ≤ v_to521))
theorem G_ringref5_FlowsOf_ok (n : Nat) (v_level519 : Int) (v_kind520 : Int) (v_to521 : Int) (v_kinds522 : Int) (r : Bool) (h : G_ringref5_FlowsOf n v_level519 v_kind520 v_to521 v_kinds522 = some r) : Ret Try.prog 42 [(eI .i64) v_level519, (eI .i64) v_kind520, (eI .i64) v_to521, (eI .i64) v_kinds522] (eB r) := by
  refine ret_run (n := 29) (fn := Try.f42) (c := bodyOf Try.f42) (by kernel_rfl) (by kernel_rfl) (by kernel_rfl) (by kernel_rfl) ?_
  have hF : KC 29 (FinR Try.prog Try.f42 (eB r)) := FinR.kc' (by kernel_rfl)
  unfold G_ringref5_FlowsOf at h
  obtain ⟨v_o525, h717, h⟩ := bind_some h
  refine pkk_sound TTok mix hF 7 (hs := [.n n]) (ts := []) (s := []) (l := [0, 1, 2, 3, 10]) (by kernel_rfl) (by kernel_rfl) .nil (G_ringref5_FlowsOf_L1_ok hF (.b 0 :: .s (cR (cR (bodyOf Try.f42))) :: []) n v_level519 v_kind520 v_to521 v_kinds522 n 0 _ h717 ?_)
  cases v_o525 with
  | x0 v_z526 =>
    try dsimp only at h
    obtain rfl := Option.some.inj h
    exact pend_sound TTok mix 2 (hs := []) (by kernel_rfl) (by kernel_rfl) (by kernel_rfl) .nil
  | x1  =>
    try dsimp only at h
    obtain rfl := Option.some.inj h
    exact pend_sound TTok mix 4 (hs := []) (by kernel_rfl) (by kernel_rfl) (by kernel_rfl) .nil
inductive G_slices_Index_int_int_L1_R where
  | x0 (v_x536 : Int)
  | x1 
def G_slices_Index_int_int_L1_ex : G_slices_Index_int_int_L1_R → Ex
  | .x0 _ => .ret
  | .x1  => .exit 0
def G_slices_Index_int_int_L1_st (v_s531 : (List Int)) (v_v532 : Int) : G_slices_Index_int_int_L1_R → PS
  | .x0 v_x536 => ⟨[dd, dd, dd, dd, .d (.v (.int .i64 v_x536)), dd, dd, dd, dd, dd, dd, dd, dd, dd, dd, dd, dd, dd, dd], []⟩
  | .x1  => ⟨[dd, dd, dd, dd, dd, dd, dd, dd, dd, dd, dd, dd, dd, dd, dd, dd, dd, dd, dd], []⟩
def G_slices_Index_int_int_L1_hd (v_s531 : (List Int)) (v_v532 : Int) (v_x533 : Int) : PS := ⟨[.d (.sl (v_s531.map (eI .i64))), .d (.v (.int .i64 v_v532)), dd, dd, dd, dd, dd, .d (.v (.int .i64 (v_s531.length : Int))), .d (.v (.int .i64 v_x533)), dd, dd, dd, dd, dd, dd, dd, dd, dd, dd], []⟩
def G_slices_Index_int_int_L1 (n : Nat) (v_s531 : (List Int)) (v_v532 : Int) : Nat → Int → Option G_slices_Index_int_int_L1_R
  | 0, _ => none
  | k + 1, v_x533 =>
    if v_x533 < (v_s531.length : Int) then
     (getI v_s531 v_x533).bind fun (v_y535 : Int) =>
     if v_v532 = v_y535 then
      some (.x0 v_x533)
     else
      G_slices_Index_int_int_L1 n v_s531 v_v532 k (wi .i64 (v_x533 + 1))
    else
     some (.x1 )
theorem G_slices_Index_int_int_L1_ok {Fi : Ex → PS → Prop} (hF : KC 19 Fi) (ks : List Fr) (n : Nat) (v_s531 : (List Int)) (v_v532 : Int)  : ∀ (k : Nat) (v_x533 : Int) (o : G_slices_Index_int_int_L1_R), G_slices_Index_int_int_L1 n v_s531 v_v532 k v_x533 = some o → RunE Try.prog 19 Fi ks (G_slices_Index_int_int_L1_ex o) (G_slices_Index_int_int_L1_st v_s531 v_v532 o) → RunE Try.prog 19 Fi (.l k (cP (cB (cR (cL (cR (bodyOf Try.f119)))))) :: ks) .normal (G_slices_Index_int_int_L1_hd v_s531 v_v532 v_x533)
  | 0, v_x533, o, h, q => by rw [G_slices_Index_int_int_L1] at h; cases h
  | k + 1, v_x533, o, h, q => by
    rw [G_slices_Index_int_int_L1] at h
    by_cases h723 : v_x533 < (v_s531.length : Int)
    · rw [if_pos h723] at h
      obtain ⟨v_y535, h726, h⟩ := bind_some h
      by_cases h727 : v_v532 = v_y535
      · rw [if_pos h727] at h
        cases h
        exact pkk_sound TTok mix hF 19 (hs := [.t true, .y ((eI .i64) v_y535), .c, .t true]) (ts := []) (s := []) (l := [4]) (by kernel_rfl) (by kernel_rfl) (.cons (dt h723) (.cons (getI_ob (f := (eI .i64)) h726) (.cons (bt h727) .nil))) q
      · rw [if_neg h727] at h
        exact pkk_sound TTok mix hF 16 (hs := [.t true, .y ((eI .i64) v_y535), .c, .t false]) (ts := []) (s := []) (l := [0, 1, 7, 8]) (by kernel_rfl) (by kernel_rfl) (.cons (dt h723) (.cons (getI_ob (f := (eI .i64)) h726) (.cons (bf h727) .nil))) (G_slices_Index_int_int_L1_ok hF ks n v_s531 v_v532 k (wi .i64 (v_x533 + 1)) _ h q)
    · rw [if_neg h723] at h
      cases h
      exact pkk_sound TTok mix hF 8 (hs := [.t false]) (ts := []) (s := []) (l := []) (by kernel_rfl) (by kernel_rfl) (.cons (df h723) .nil) q
/- slices.Index[[]int,int] -/
def G_slices_Index_int_int (n : Nat) (v_s531 : (List Int)) (v_v532 : Int) : Option (Int) :=
  (G_slices_Index_int_int_L1 n v_s531 v_v532 n 0).bind fun v_o537 => match v_o537 with
  | .x0 v_z538 =>
    some v_z538
  | .x1  =>
    some (-1)
theorem G_slices_Index_int_int_ok (n : Nat) (v_s531 : (List Int)) (v_v532 : Int) (r : Int) (h : G_slices_Index_int_int n v_s531 v_v532 = some r) : Ret Try.prog 119 [(eL (eI .i64)) v_s531, (eI .i64) v_v532] ((eI .i64) r) := by
  refine ret_run (n := 19) (fn := Try.f119) (c := bodyOf Try.f119) (by kernel_rfl) (by kernel_rfl) (by kernel_rfl) (by kernel_rfl) ?_
  have hF : KC 19 (FinR Try.prog Try.f119 ((eI .i64) r)) := FinR.kc' (by kernel_rfl)
  unfold G_slices_Index_int_int at h
  obtain ⟨v_o537, h728, h⟩ := bind_some h
  refine pkk_sound TTok mix hF 7 (hs := [.u (.d (.v (.int .i64 (v_s531.length : Int)))), .n n]) (ts := []) (s := []) (l := [0, 1, 7, 8]) (by kernel_rfl) (by kernel_rfl) (.cons (len_ob (f := (eI .i64)) (l := v_s531)) .nil) (G_slices_Index_int_int_L1_ok hF (.b 0 :: .s (cR (cR (bodyOf Try.f119))) :: []) n v_s531 v_v532 n 0 _ h728 ?_)
  cases v_o537 with
  | x0 v_z538 =>
    try dsimp only at h
    obtain rfl := Option.some.inj h
    exact pend_sound TTok mix 2 (hs := []) (by kernel_rfl) (by kernel_rfl) (by kernel_rfl) .nil
  | x1  =>
    try dsimp only at h
    obtain rfl := Option.some.inj h
    exact pend_sound TTok mix 4 (hs := []) (by kernel_rfl) (by kernel_rfl) (by kernel_rfl) .nil
/- slices.Contains[[]int,int] -/
def G_slices_Contains_int_int (n : Nat) (v_s529 : (List Int)) (v_v530 : Int) : Option (Bool) :=
  (G_slices_Index_int_int n v_s529 v_v530).bind fun (v_r539 : (Int)) =>
  some (decide (v_r539 ≥ 0))
theorem G_slices_Contains_int_int_ok (n : Nat) (v_s529 : (List Int)) (v_v530 : Int) (r : Bool) (h : G_slices_Contains_int_int n v_s529 v_v530 = some r) : Ret Try.prog 21 [(eL (eI .i64)) v_s529, (eI .i64) v_v530] (eB r) := by
  refine ret_run (n := 9) (fn := Try.f21) (c := bodyOf Try.f21) (by kernel_rfl) (by kernel_rfl) (by kernel_rfl) (by kernel_rfl) ?_
  have hF : KC 9 (FinR Try.prog Try.f21 (eB r)) := FinR.kc' (by kernel_rfl)
  unfold G_slices_Contains_int_int at h
  obtain ⟨v_r539, h729, h⟩ := bind_some h
  obtain rfl := Option.some.inj h
  exact pend_sound TTok mix 5 (hs := [.r ((eI .i64) v_r539)]) (by kernel_rfl) (by kernel_rfl) (by kernel_rfl) (.cons (G_slices_Index_int_int_ok n v_s529 v_v530 _ h729) .nil)
/- math/bits.Len64 -/
def G_math_bits_Len64 (n : Nat) (v_x802 : Int) : Option (Int) :=
  if v_x802 ≥ 4294967296 then
   if (shrI .u64 v_x802 32) ≥ 65536 then
    if (shrI .u64 (shrI .u64 v_x802 32) 16) ≥ 256 then
     (getS (ByteArray.mk #[0, 1, 2, 2, 3, 3, 3, 3, 4, 4, 4, 4, 4, 4, 4, 4, 5, 5, 5, 5, 5, 5, 5, 5, 5, 5, 5, 5, 5, 5, 5, 5, 6, 6, 6, 6, 6, 6, 6, 6, 6, 6, 6, 6, 6, 6, 6, 6, 6, 6, 6, 6, 6, 6, 6, 6, 6, 6, 6, 6, 6, 6, 6, 6, 7, 7, 7, 7, 7, 7, 7, 7, 7, 7, 7, 7, 7, 7, 7, 7, 7, 7, 7, 7, 7, 7, 7, 7, 7, 7, 7, 7, 7, 7, 7, 7, 7, 7, 7, 7, 7, 7, 7, 7, 7, 7, 7, 7, 7, 7, 7, 7, 7, 7, 7, 7, 7, 7, 7, 7, 7, 7, 7, 7, 7, 7, 7, 7, 8, 8, 8, 8, 8, 8, 8, 8, 8, 8, 8, 8, 8, 8, 8, 8, 8, 8, 8, 8, 8, 8, 8, 8, 8, 8, 8, 8, 8, 8, 8, 8, 8, 8, 8, 8, 8, 8, 8, 8, 8, 8, 8, 8, 8, 8, 8, 8, 8, 8, 8, 8, 8, 8, 8, 8, 8, 8, 8, 8, 8, 8, 8, 8, 8, 8, 8, 8, 8, 8, 8, 8, 8, 8, 8, 8, 8, 8, 8, 8, 8, 8, 8, 8, 8, 8, 8, 8, 8, 8, 8, 8, 8, 8, 8, 8, 8, 8, 8, 8, 8, 8, 8, 8, 8, 8, 8, 8, 8, 8, 8, 8, 8, 8, 8, 8, 8, 8, 8, 8, 8, 8, 8, 8, 8, 8, 8, 8]) (wi .u8 (shrI .u64 (shrI .u64 (shrI .u64 v_x802 32) 16) 8))).bind fun (v_y803 : Int) =>
     some (wi .i64 ((wi .i64 ((wi .i64 (32 + 16)) + 8)) + (wi .i64 v_y803)))
    else
     (getS (ByteArray.mk #[0, 1, 2, 2, 3, 3, 3, 3, 4, 4, 4, 4, 4, 4, 4, 4, 5, 5, 5, 5, 5, 5, 5, 5, 5, 5, 5, 5, 5, 5, 5, 5, 6, 6, 6, 6, 6, 6, 6, 6, 6, 6, 6, 6, 6, 6, 6, 6, 6, 6, 6, 6, 6, 6, 6, 6, 6, 6, 6, 6, 6, 6, 6, 6, 7, 7, 7, 7, 7, 7, 7, 7, 7, 7, 7, 7, 7, 7, 7, 7, 7, 7, 7, 7, 7, 7, 7, 7, 7, 7, 7, 7, 7, 7, 7, 7, 7, 7, 7, 7, 7, 7, 7, 7, 7, 7, 7, 7, 7, 7, 7, 7, 7, 7, 7, 7, 7, 7, 7, 7, 7, 7, 7, 7, 7, 7, 7, 7, 8, 8, 8, 8, 8, 8, 8, 8, 8, 8, 8, 8, 8, 8, 8, 8, 8, 8, 8, 8, 8, 8, 8, 8, 8, 8, 8, 8, 8, 8, 8, 8, 8, 8, 8, 8, 8, 8, 8, 8, 8, 8, 8, 8, 8, 8, 8, 8, 8, 8, 8, 8, 8, 8, 8, 8, 8, 8, 8, 8, 8, 8, 8, 8, 8, 8, 8, 8, 8, 8, 8, 8, 8, 8, 8, 8, 8, 8, 8, 8, 8, 8, 8, 8, 8, 8, 8, 8, 8, 8, 8, 8, 8, 8, 8, 8, 8, 8, 8, 8, 8, 8, 8, 8, 8, 8, 8, 8, 8, 8, 8, 8, 8, 8, 8, 8, 8, 8, 8, 8, 8, 8, 8, 8, 8, 8, 8, 8]) (wi .u8 (shrI .u64 (shrI .u64 v_x802 32) 16))).bind fun (v_y804 : Int) =>
     some (wi .i64 ((wi .i64 (32 + 16)) + (wi .i64 v_y804)))
   else
    if (shrI .u64 v_x802 32) ≥ 256 then
     (getS (ByteArray.mk #[0, 1, 2, 2, 3, 3, 3, 3, 4, 4, 4, 4, 4, 4, 4, 4, 5, 5, 5, 5, 5, 5, 5, 5, 5, 5, 5, 5, 5, 5, 5, 5, 6, 6, 6, 6, 6, 6, 6, 6, 6, 6, 6, 6, 6, 6, 6, 6, 6, 6, 6, 6, 6, 6, 6, 6, 6, 6, 6, 6, 6, 6, 6, 6, 7, 7, 7, 7, 7, 7, 7, 7, 7, 7, 7, 7, 7, 7, 7, 7, 7, 7, 7, 7, 7, 7, 7, 7, 7, 7, 7, 7, 7, 7, 7, 7, 7, 7, 7, 7, 7, 7, 7, 7, 7, 7, 7, 7, 7, 7, 7, 7, 7, 7, 7, 7, 7, 7, 7, 7, 7, 7, 7, 7, 7, 7, 7, 7, 8, 8, 8, 8, 8, 8, 8, 8, 8, 8, 8, 8, 8, 8, 8, 8, 8, 8, 8, 8, 8, 8, 8, 8, 8, 8, 8, 8, 8, 8, 8, 8, 8, 8, 8, 8, 8, 8, 8, 8, 8, 8, 8, 8, 8, 8, 8, 8, 8, 8, 8, 8, 8, 8, 8, 8, 8, 8, 8, 8, 8, 8, 8, 8, 8, 8, 8, 8, 8, 8, 8, 8, 8, 8, 8, 8, 8, 8, 8, 8, 8, 8, 8, 8, 8, 8, 8, 8, 8, 8, 8, 8, 8, 8, 8, 8, 8, 8, 8, 8, 8, 8, 8, 8, 8, 8, 8, 8, 8, 8, 8, 8, 8, 8, 8, 8, 8, 8, 8, 8, 8, 8, 8, 8, 8, 8, 8, 8]) (wi .u8 (shrI .u64 (shrI .u64 v_x802 32) 8))).bind fun (v_y805 : Int) =>
     some (wi .i64 ((wi .i64 (32 + 8)) + (wi .i64 v_y805)))
    else
     (getS (ByteArray.mk #[0, 1, 2, 2, 3, 3, 3, 3, 4, 4, 4, 4, 4, 4, 4, 4, 5, 5, 5, 5, 5, 5, 5, 5, 5, 5, 5, 5, 5, 5, 5, 5, 6, 6, 6, 6, 6, 6, 6, 6, 6, 6, 6, 6, 6, 6, 6, 6, 6, 6, 6, 6, 6, 6, 6, 6, 6, 6, 6, 6, 6, 6, 6, 6, 7, 7, 7, 7, 7, 7, 7, 7, 7, 7, 7, 7, 7, 7, 7, 7, 7, 7, 7, 7, 7, 7, 7, 7, 7, 7, 7, 7, 7, 7, 7, 7, 7, 7, 7, 7, 7, 7, 7, 7, 7, 7, 7, 7, 7, 7, 7, 7, 7, 7, 7, 7, 7, 7, 7, 7, 7, 7, 7, 7, 7, 7, 7, 7, 8, 8, 8, 8, 8, 8, 8, 8, 8, 8, 8, 8, 8, 8, 8, 8, 8, 8, 8, 8, 8, 8, 8, 8, 8, 8, 8, 8, 8, 8, 8, 8, 8, 8, 8, 8, 8, 8, 8, 8, 8, 8, 8, 8, 8, 8, 8, 8, 8, 8, 8, 8, 8, 8, 8, 8, 8, 8, 8, 8, 8, 8, 8, 8, 8, 8, 8, 8, 8, 8, 8, 8, 8, 8, 8, 8, 8, 8, 8, 8, 8, 8, 8, 8, 8, 8, 8, 8, 8, 8, 8, 8, 8, 8, 8, 8, 8, 8, 8, 8, 8, 8, 8, 8, 8, 8, 8, 8, 8, 8, 8, 8, 8, 8, 8, 8, 8, 8, 8, 8, 8, 8, 8, 8, 8, 8, 8, 8]) (wi .u8 (shrI .u64 v_x802 32))).bind fun (v_y806 : Int) =>
     some (wi .i64 (32 + (wi .i64 v_y806)))
  else
   if v_x802 ≥ 65536 then
    if (shrI .u64 v_x802 16) ≥ 256 then
     (getS (ByteArray.mk #[0, 1, 2, 2, 3, 3, 3, 3, 4, 4, 4, 4, 4, 4, 4, 4, 5, 5, 5, 5, 5, 5, 5, 5, 5, 5, 5, 5, 5, 5, 5, 5, 6, 6, 6, 6, 6, 6, 6, 6, 6, 6, 6, 6, 6, 6, 6, 6, 6, 6, 6, 6, 6, 6, 6, 6, 6, 6, 6, 6, 6, 6, 6, 6, 7, 7, 7, 7, 7, 7, 7, 7, 7, 7, 7, 7, 7, 7, 7, 7, 7, 7, 7, 7, 7, 7, 7, 7, 7, 7, 7, 7, 7, 7, 7, 7, 7, 7, 7, 7, 7, 7, 7, 7, 7, 7, 7, 7, 7, 7, 7, 7, 7, 7, 7, 7, 7, 7, 7, 7, 7, 7, 7, 7, 7, 7, 7, 7, 8, 8, 8, 8, 8, 8, 8, 8, 8, 8, 8, 8, 8, 8, 8, 8, 8, 8, 8, 8, 8, 8, 8, 8, 8, 8, 8, 8, 8, 8, 8, 8, 8, 8, 8, 8, 8, 8, 8, 8, 8, 8, 8, 8, 8, 8, 8, 8, 8, 8, 8, 8, 8, 8, 8, 8, 8, 8, 8, 8, 8, 8, 8, 8, 8, 8, 8, 8, 8, 8, 8, 8, 8, 8, 8, 8, 8, 8, 8, 8, 8, 8, 8, 8, 8, 8, 8, 8, 8, 8, 8, 8, 8, 8, 8, 8, 8, 8, 8, 8, 8, 8, 8, 8, 8, 8, 8, 8, 8, 8, 8, 8, 8, 8, 8, 8, 8, 8, 8, 8, 8, 8, 8, 8, 8, 8, 8, 8]) (wi .u8 (shrI .u64 (shrI .u64 v_x802 16) 8))).bind fun (v_y807 : Int) =>
     some (wi .i64 ((wi .i64 ((wi .i64 (0 + 16)) + 8)) + (wi .i64 v_y807)))
    else
     (getS (ByteArray.mk #[0, 1, 2, 2, 3, 3, 3, 3, 4, 4, 4, 4, 4, 4, 4, 4, 5, 5, 5, 5, 5, 5, 5, 5, 5, 5, 5, 5, 5, 5, 5, 5, 6, 6, 6, 6, 6, 6, 6, 6, 6, 6, 6, 6, 6, 6, 6, 6, 6, 6, 6, 6, 6, 6, 6, 6, 6, 6, 6, 6, 6, 6, 6, 6, 7, 7, 7, 7, 7, 7, 7, 7, 7, 7, 7, 7, 7, 7, 7, 7, 7, 7, 7, 7, 7, 7, 7, 7, 7, 7, 7, 7, 7, 7, 7, 7, 7, 7, 7, 7, 7, 7, 7, 7, 7, 7, 7, 7, 7, 7, 7, 7, 7, 7, 7, 7, 7, 7, 7, 7, 7, 7, 7, 7, 7, 7, 7, 7, 8, 8, 8, 8, 8, 8, 8, 8, 8, 8, 8, 8, 8, 8, 8, 8, 8, 8, 8, 8, 8, 8, 8, 8, 8, 8, 8, 8, 8, 8, 8, 8, 8, 8, 8, 8, 8, 8, 8, 8, 8, 8, 8, 8, 8, 8, 8, 8, 8, 8, 8, 8, 8, 8, 8, 8, 8, 8, 8, 8, 8, 8, 8, 8, 8, 8, 8, 8, 8, 8, 8, 8, 8, 8, 8, 8, 8, 8, 8, 8, 8, 8, 8, 8, 8, 8, 8, 8, 8, 8, 8, 8, 8, 8, 8, 8, 8, 8, 8, 8, 8, 8, 8, 8, 8, 8, 8, 8, 8, 8, 8, 8, 8, 8, 8, 8, 8, 8, 8, 8, 8, 8, 8, 8, 8, 8, 8, 8]) (wi .u8 (shrI .u64 v_x802 16))).bind fun (v_y808 : Int) =>
     some (wi .i64 ((wi .i64 (0 + 16)) + (wi .i64 v_y808)))
   else
    if v_x802 ≥ 256 then
     (getS (ByteArray.mk #[0, 1, 2, 2, 3, 3, 3, 3, 4, 4, 4, 4, 4, 4, 4, 4, 5, 5, 5, 5, 5, 5, 5, 5, 5, 5, 5, 5, 5, 5, 5, 5, 6, 6, 6, 6, 6, 6, 6, 6, 6, 6, 6, 6, 6, 6, 6, 6, 6, 6, 6, 6, 6, 6, 6, 6, 6, 6, 6, 6, 6, 6, 6, 6, 7, 7, 7, 7, 7, 7, 7, 7, 7, 7, 7, 7, 7, 7, 7, 7, 7, 7, 7, 7, 7, 7, 7, 7, 7, 7, 7, 7, 7, 7, 7, 7, 7, 7, 7, 7, 7, 7, 7, 7, 7, 7, 7, 7, 7, 7, 7, 7, 7, 7, 7, 7, 7, 7, 7, 7, 7, 7, 7, 7, 7, 7, 7, 7, 8, 8, 8, 8, 8, 8, 8, 8, 8, 8, 8, 8, 8, 8, 8, 8, 8, 8, 8, 8, 8, 8, 8, 8, 8, 8, 8, 8, 8, 8, 8, 8, 8, 8, 8, 8, 8, 8, 8, 8, 8, 8, 8, 8, 8, 8, 8, 8, 8, 8, 8, 8, 8, 8, 8, 8, 8, 8, 8, 8, 8, 8, 8, 8, 8, 8, 8, 8, 8, 8, 8, 8, 8, 8, 8, 8, 8, 8, 8, 8, 8, 8, 8, 8, 8, 8, 8, 8, 8, 8, 8, 8, 8, 8, 8, 8, 8, 8, 8, 8, 8, 8, 8, 8, 8, 8, 8, 8, 8, 8, 8, 8, 8, 8, 8, 8, 8, 8, 8, 8, 8, 8, 8, 8, 8, 8, 8, 8]) (wi .u8 (shrI .u64 v_x802 8))).bind fun (v_y809 : Int) =>
     some (wi .i64 ((wi .i64 (0 + 8)) + (wi .i64 v_y809)))
    else
     (getS (ByteArray.mk #[0, 1, 2, 2, 3, 3, 3, 3, 4, 4, 4, 4, 4, 4, 4, 4, 5, 5, 5, 5, 5, 5, 5, 5, 5, 5, 5, 5, 5, 5, 5, 5, 6, 6, 6, 6, 6, 6, 6, 6, 6, 6, 6, 6, 6, 6, 6, 6, 6, 6, 6, 6, 6, 6, 6, 6, 6, 6, 6, 6, 6, 6, 6, 6, 7, 7, 7, 7, 7, 7, 7, 7, 7, 7, 7, 7, 7, 7, 7, 7, 7, 7, 7, 7, 7, 7, 7, 7, 7, 7, 7, 7, 7, 7, 7, 7, 7, 7, 7, 7, 7, 7, 7, 7, 7, 7, 7, 7, 7, 7, 7, 7, 7, 7, 7, 7, 7, 7, 7, 7, 7, 7, 7, 7, 7, 7, 7, 7, 8, 8, 8, 8, 8, 8, 8, 8, 8, 8, 8, 8, 8, 8, 8, 8, 8, 8, 8, 8, 8, 8, 8, 8, 8, 8, 8, 8, 8, 8, 8, 8, 8, 8, 8, 8, 8, 8, 8, 8, 8, 8, 8, 8, 8, 8, 8, 8, 8, 8, 8, 8, 8, 8, 8, 8, 8, 8, 8, 8, 8, 8, 8, 8, 8, 8, 8, 8, 8, 8, 8, 8, 8, 8, 8, 8, 8, 8, 8, 8, 8, 8, 8, 8, 8, 8, 8, 8, 8, 8, 8, 8, 8, 8, 8, 8, 8, 8, 8, 8, 8, 8, 8, 8, 8, 8, 8, 8, 8, 8, 8, 8, 8, 8, 8, 8, 8, 8, 8, 8, 8, 8, 8, 8, 8, 8, 8, 8]) (wi .u8 v_x802)).bind fun (v_y810 : Int) =>
     some (wi .i64 (0 + (wi .i64 v_y810)))
theorem G_math_bits_Len64_ok (n : Nat) (v_x802 : Int) (r : Int) (h : G_math_bits_Len64 n v_x802 = some r) : Ret Try.prog 185 [(eI .u64) v_x802] ((eI .i64) r) := by
  refine ret_run (n := 25) (fn := Try.f185) (c := bodyOf Try.f185) (by kernel_rfl) (by kernel_rfl) (by kernel_rfl) (by kernel_rfl) ?_
  have hF : KC 25 (FinR Try.prog Try.f185 ((eI .i64) r)) := FinR.kc' (by kernel_rfl)
  unfold G_math_bits_Len64 at h
  by_cases h892 : v_x802 ≥ 4294967296
  · rw [if_pos h892] at h
    by_cases h896 : (shrI .u64 v_x802 32) ≥ 65536
    · rw [if_pos h896] at h
      by_cases h900 : (shrI .u64 (shrI .u64 v_x802 32) 16) ≥ 256
      · rw [if_pos h900] at h
        obtain ⟨v_y803, h902, h⟩ := bind_some h
        obtain rfl := Option.some.inj h
        exact pend_sound TTok mix 26 (hs := [.t true, .t true, .t true, .l (.d (.v (.int .u8 v_y803)))]) (by kernel_rfl) (by kernel_rfl) (by kernel_rfl) (.cons (dt h892) (.cons (show (0 : Int) ≤ 32 by decide) (.cons (dt h896) (.cons (show (0 : Int) ≤ 16 by decide) (.cons (dt h900) (.cons (show (0 : Int) ≤ 8 by decide) (.cons (getS_ob h902) .nil)))))))
      · rw [if_neg h900] at h
        obtain ⟨v_y804, h903, h⟩ := bind_some h
        obtain rfl := Option.some.inj h
        exact pend_sound TTok mix 24 (hs := [.t true, .t true, .t false, .l (.d (.v (.int .u8 v_y804)))]) (by kernel_rfl) (by kernel_rfl) (by kernel_rfl) (.cons (dt h892) (.cons (show (0 : Int) ≤ 32 by decide) (.cons (dt h896) (.cons (show (0 : Int) ≤ 16 by decide) (.cons (df h900) (.cons (getS_ob h903) .nil))))))
    · rw [if_neg h896] at h
      by_cases h906 : (shrI .u64 v_x802 32) ≥ 256
      · rw [if_pos h906] at h
        obtain ⟨v_y805, h908, h⟩ := bind_some h
        obtain rfl := Option.some.inj h
        exact pend_sound TTok mix 24 (hs := [.t true, .t false, .t true, .l (.d (.v (.int .u8 v_y805)))]) (by kernel_rfl) (by kernel_rfl) (by kernel_rfl) (.cons (dt h892) (.cons (show (0 : Int) ≤ 32 by decide) (.cons (df h896) (.cons (dt h906) (.cons (show (0 : Int) ≤ 8 by decide) (.cons (getS_ob h908) .nil))))))
      · rw [if_neg h906] at h
        obtain ⟨v_y806, h909, h⟩ := bind_some h
        obtain rfl := Option.some.inj h
        exact pend_sound TTok mix 22 (hs := [.t true, .t false, .t false, .l (.d (.v (.int .u8 v_y806)))]) (by kernel_rfl) (by kernel_rfl) (by kernel_rfl) (.cons (dt h892) (.cons (show (0 : Int) ≤ 32 by decide) (.cons (df h896) (.cons (df h906) (.cons (getS_ob h909) .nil)))))
  · rw [if_neg h892] at h
    by_cases h912 : v_x802 ≥ 65536
    · rw [if_pos h912] at h
      by_cases h916 : (shrI .u64 v_x802 16) ≥ 256
      · rw [if_pos h916] at h
        obtain ⟨v_y807, h918, h⟩ := bind_some h
        obtain rfl := Option.some.inj h
        exact pend_sound TTok mix 24 (hs := [.t false, .t true, .t true, .l (.d (.v (.int .u8 v_y807)))]) (by kernel_rfl) (by kernel_rfl) (by kernel_rfl) (.cons (df h892) (.cons (dt h912) (.cons (show (0 : Int) ≤ 16 by decide) (.cons (dt h916) (.cons (show (0 : Int) ≤ 8 by decide) (.cons (getS_ob h918) .nil))))))
      · rw [if_neg h916] at h
        obtain ⟨v_y808, h919, h⟩ := bind_some h
        obtain rfl := Option.some.inj h
        exact pend_sound TTok mix 22 (hs := [.t false, .t true, .t false, .l (.d (.v (.int .u8 v_y808)))]) (by kernel_rfl) (by kernel_rfl) (by kernel_rfl) (.cons (df h892) (.cons (dt h912) (.cons (show (0 : Int) ≤ 16 by decide) (.cons (df h916) (.cons (getS_ob h919) .nil)))))
    · rw [if_neg h912] at h
      by_cases h922 : v_x802 ≥ 256
      · rw [if_pos h922] at h
        obtain ⟨v_y809, h924, h⟩ := bind_some h
        obtain rfl := Option.some.inj h
        exact pend_sound TTok mix 22 (hs := [.t false, .t false, .t true, .l (.d (.v (.int .u8 v_y809)))]) (by kernel_rfl) (by kernel_rfl) (by kernel_rfl) (.cons (df h892) (.cons (df h912) (.cons (dt h922) (.cons (show (0 : Int) ≤ 8 by decide) (.cons (getS_ob h924) .nil)))))
      · rw [if_neg h922] at h
        obtain ⟨v_y810, h925, h⟩ := bind_some h
        obtain rfl := Option.some.inj h
        exact pend_sound TTok mix 20 (hs := [.t false, .t false, .t false, .l (.d (.v (.int .u8 v_y810)))]) (by kernel_rfl) (by kernel_rfl) (by kernel_rfl) (.cons (df h892) (.cons (df h912) (.cons (df h922) (.cons (getS_ob h925) .nil))))
/- math/bits.Len -/
def G_math_bits_Len (n : Nat) (v_x801 : Int) : Option (Int) :=
  (G_math_bits_Len64 n v_x801).bind fun (v_r811 : (Int)) =>
  some v_r811
theorem G_math_bits_Len_ok (n : Nat) (v_x801 : Int) (r : Int) (h : G_math_bits_Len n v_x801 = some r) : Ret Try.prog 121 [(eI .u64) v_x801] ((eI .i64) r) := by
  refine ret_run (n := 8) (fn := Try.f121) (c := bodyOf Try.f121) (by kernel_rfl) (by kernel_rfl) (by kernel_rfl) (by kernel_rfl) ?_
  have hF : KC 8 (FinR Try.prog Try.f121 ((eI .i64) r)) := FinR.kc' (by kernel_rfl)
  unfold G_math_bits_Len at h
  obtain ⟨v_r811, h926, h⟩ := bind_some h
  obtain rfl := Option.some.inj h
  exact pend_sound TTok mix 8 (hs := [.c, .r ((eI .i64) v_r811)]) (by kernel_rfl) (by kernel_rfl) (by kernel_rfl) (.cons (G_math_bits_Len64_ok n v_x801 _ h926) .nil)
/- cmp.isNaN[int] -/
def G_cmp_isNaN_int (n : Nat) (v_x834 : Int) : Option (Bool) :=
  some (v_x834 != v_x834)
theorem G_cmp_isNaN_int_ok (n : Nat) (v_x834 : Int) (r : Bool) (h : G_cmp_isNaN_int n v_x834 = some r) : Ret Try.prog 212 [(eI .i64) v_x834] (eB r) := by
  refine ret_run (n := 6) (fn := Try.f212) (c := bodyOf Try.f212) (by kernel_rfl) (by kernel_rfl) (by kernel_rfl) (by kernel_rfl) ?_
  have hF : KC 6 (FinR Try.prog Try.f212 (eB r)) := FinR.kc' (by kernel_rfl)
  unfold G_cmp_isNaN_int at h
  obtain rfl := Option.some.inj h
  exact pend_sound TTok mix 5 (hs := []) (by kernel_rfl) (by kernel_rfl) (by kernel_rfl) .nil
inductive G_cmp_Less_int_C1_R where
  | x0 (v_x839 : Bool)
def G_cmp_Less_int_C1_ex : G_cmp_Less_int_C1_R → Ex
  | .x0 _ => .normal
def G_cmp_Less_int_C1_st (v_x832 : Int) (v_y833 : Int) : G_cmp_Less_int_C1_R → PS
  | .x0 v_x839 => ⟨[dd, dd, dd, dd, .d (.v (.bool v_x839)), dd, dd, dd, dd, dd, dd, dd, dd, dd, dd, dd, dd], []⟩
def G_cmp_Less_int_C1_hd (v_x832 : Int) (v_y833 : Int)  : PS := ⟨[.d (.v (.int .i64 v_x832)), .d (.v (.int .i64 v_y833)), dd, dd, dd, dd, dd, dd, dd, dd, dd, dd, dd, dd, dd, dd, dd], []⟩
def G_cmp_Less_int_C1 (n : Nat) (v_x832 : Int) (v_y833 : Int) : Option G_cmp_Less_int_C1_R :=
  (G_cmp_isNaN_int n v_x832).bind fun (v_r837 : (Bool)) =>
  if v_r837 = true then
   (G_cmp_isNaN_int n v_y833).bind fun (v_r838 : (Bool)) =>
   if v_r838 = true then
    some (.x0 (decide (v_x832 < v_y833)))
   else
    some (.x0 true)
  else
   some (.x0 (decide (v_x832 < v_y833)))
theorem G_cmp_Less_int_C1_ok {Fi : Ex → PS → Prop} (hF : KC 17 Fi) (ks : List Fr) (n : Nat) (v_x832 : Int) (v_y833 : Int)  (o : G_cmp_Less_int_C1_R) (h : G_cmp_Less_int_C1 n v_x832 v_y833 = some o) (q : RunE Try.prog 17 Fi ks (G_cmp_Less_int_C1_ex o) (G_cmp_Less_int_C1_st v_x832 v_y833 o)) : RunE Try.prog 17 Fi (.s (cL (cR (bodyOf Try.f181))) :: ks) .normal (G_cmp_Less_int_C1_hd v_x832 v_y833) := by
  unfold G_cmp_Less_int_C1 at h
  obtain ⟨v_r837, h939, h⟩ := bind_some h
  by_cases h940 : v_r837 = true
  · rw [if_pos h940] at h
    obtain ⟨v_r838, h941, h⟩ := bind_some h
    by_cases h942 : v_r838 = true
    · rw [if_pos h942] at h
      cases h
      exact pkk_sound TTok mix hF 1 (hs := [.r (eB v_r837), .t true, .c, .r (eB v_r838), .c, .t false, .c, .c]) (ts := []) (s := []) (l := [4]) (by kernel_rfl) (by kernel_rfl) (.cons (G_cmp_isNaN_int_ok n v_x832 _ h939) (.cons h940 (.cons (G_cmp_isNaN_int_ok n v_y833 _ h941) (.cons (bnf h942) .nil)))) q
    · rw [if_neg h942] at h
      cases h
      exact pkk_sound TTok mix hF 1 (hs := [.r (eB v_r837), .t true, .c, .r (eB v_r838), .c, .t true, .c, .c]) (ts := []) (s := []) (l := [4]) (by kernel_rfl) (by kernel_rfl) (.cons (G_cmp_isNaN_int_ok n v_x832 _ h939) (.cons h940 (.cons (G_cmp_isNaN_int_ok n v_y833 _ h941) (.cons (bnt (vf h942)) .nil)))) q
  · rw [if_neg h940] at h
    cases h
    exact pkk_sound TTok mix hF 1 (hs := [.r (eB v_r837), .t false, .c, .c, .c, .c, .c]) (ts := []) (s := []) (l := [4]) (by kernel_rfl) (by kernel_rfl) (.cons (G_cmp_isNaN_int_ok n v_x832 _ h939) (.cons (vf h940) .nil)) q
/- cmp.Less[int] -/
def G_cmp_Less_int (n : Nat) (v_x832 : Int) (v_y833 : Int) : Option (Bool) :=
  (G_cmp_Less_int_C1 n v_x832 v_y833).bind fun v_o842 => match v_o842 with
  | .x0 v_z843 =>
    some v_z843
theorem G_cmp_Less_int_ok (n : Nat) (v_x832 : Int) (v_y833 : Int) (r : Bool) (h : G_cmp_Less_int n v_x832 v_y833 = some r) : Ret Try.prog 181 [(eI .i64) v_x832, (eI .i64) v_y833] (eB r) := by
  refine ret_run (n := 17) (fn := Try.f181) (c := bodyOf Try.f181) (by kernel_rfl) (by kernel_rfl) (by kernel_rfl) (by kernel_rfl) ?_
  have hF : KC 17 (FinR Try.prog Try.f181 (eB r)) := FinR.kc' (by kernel_rfl)
  unfold G_cmp_Less_int at h
  obtain ⟨v_o842, h943, h⟩ := bind_some h
  refine pkk_sound TTok mix hF 3 (hs := []) (ts := []) (s := []) (l := [0, 1]) (by kernel_rfl) (by kernel_rfl) .nil (G_cmp_Less_int_C1_ok hF (.s (cR (cR (bodyOf Try.f181))) :: []) n v_x832 v_y833 _ h943 ?_)
  cases v_o842 with
  | x0 v_z843 =>
    try dsimp only at h
    obtain rfl := Option.some.inj h
    exact pend_sound TTok mix 1 (hs := []) (by kernel_rfl) (by kernel_rfl) (by kernel_rfl) .nil
inductive G_slices_insertionSortOrdered_int_h_L1_R where
  | x0 (v_w856 : (List Int))
def G_slices_insertionSortOrdered_int_h_L1_ex : G_slices_insertionSortOrdered_int_h_L1_R → Ex
  | .x0 _ => .exit 2
def G_slices_insertionSortOrdered_int_h_L1_st (v_a824 : Int) (v_b825 : Int) (v_i826 : Int) : G_slices_insertionSortOrdered_int_h_L1_R → PS
  | .x0 v_w856 => ⟨[.srf 1, .d (.v (.int .i64 v_a824)), .d (.v (.int .i64 v_b825)), dd, dd, dd, .d (.v (.int .i64 v_i826)), dd, dd, dd, dd, dd, dd, dd, dd, dd, dd, dd, dd, dd, dd, dd, dd, dd, dd, dd, dd, dd, dd, dd, dd, dd, dd, dd, dd, dd, dd, dd, dd, dd, dd, dd, dd, dd, dd, dd, dd, dd, dd], [.gh 0 (.srf 1), .row 3 1 (v_w856.map (eI .i64))]⟩
def G_slices_insertionSortOrdered_int_h_L1_hd (v_a824 : Int) (v_b825 : Int) (v_i826 : Int) (v_j828 : Int) (v_w829 : (List Int)) : PS := ⟨[.srf 1, .d (.v (.int .i64 v_a824)), .d (.v (.int .i64 v_b825)), dd, dd, dd, .d (.v (.int .i64 v_i826)), .d (.v (.int .i64 v_j828)), dd, dd, dd, dd, dd, dd, dd, dd, dd, dd, dd, dd, dd, dd, dd, dd, dd, dd, dd, dd, dd, dd, dd, dd, dd, dd, dd, dd, dd, dd, dd, dd, dd, dd, dd, dd, dd, dd, dd, dd, dd], [.gh 0 (.srf 1), .row 3 1 (v_w829.map (eI .i64))]⟩
def G_slices_insertionSortOrdered_int_h_L1 (n : Nat) (v_a824 : Int) (v_b825 : Int) (v_i826 : Int) : Nat → Int → (List Int) → Option G_slices_insertionSortOrdered_int_h_L1_R
  | 0, _, _ => none
  | k + 1, v_j828, v_w829 =>
    if v_j828 > v_a824 then
     if 0 ≤ v_j828 ∧ (v_j828).toNat < v_w829.length then
      (v_w829[(v_j828).toNat]?).bind fun (v_y845 : Int) =>
      if 0 ≤ (wi .i64 (v_j828 - 1)) ∧ ((wi .i64 (v_j828 - 1))).toNat < v_w829.length then
       (v_w829[((wi .i64 (v_j828 - 1))).toNat]?).bind fun (v_y846 : Int) =>
       (G_cmp_Less_int n v_y845 v_y846).bind fun (v_r847 : (Bool)) =>
       if v_r847 = true then
        if 0 ≤ (wi .i64 (v_j828 - 1)) ∧ ((wi .i64 (v_j828 - 1))).toNat < v_w829.length then
         (v_w829[((wi .i64 (v_j828 - 1))).toNat]?).bind fun (v_y852 : Int) =>
         if 0 ≤ v_j828 ∧ (v_j828).toNat < v_w829.length then
          (v_w829[(v_j828).toNat]?).bind fun (v_y853 : Int) =>
          if 0 ≤ v_j828 ∧ (v_j828).toNat < v_w829.length then
           (v_w829[(v_j828).toNat]?).bind fun (v_y854 : Int) =>
           if 0 ≤ (wi .i64 (v_j828 - 1)) ∧ ((wi .i64 (v_j828 - 1))).toNat < (v_w829.set (v_j828).toNat v_y852).length then
            ((v_w829.set (v_j828).toNat v_y852)[((wi .i64 (v_j828 - 1))).toNat]?).bind fun (v_y855 : Int) =>
            G_slices_insertionSortOrdered_int_h_L1 n v_a824 v_b825 v_i826 k (wi .i64 (v_j828 - 1)) ((v_w829.set (v_j828).toNat v_y852).set ((wi .i64 (v_j828 - 1))).toNat v_y853)
           else none
          else none
         else none
        else none
       else
        some (.x0 v_w829)
      else none
     else none
    else
     some (.x0 v_w829)
theorem G_slices_insertionSortOrdered_int_h_L1_ok {Fi : Ex → PS → Prop} (hF : KC 49 Fi) (ks : List Fr) (n : Nat) (v_a824 : Int) (v_b825 : Int) (v_i826 : Int)  : ∀ (k : Nat) (v_j828 : Int) (v_w829 : (List Int)) (o : G_slices_insertionSortOrdered_int_h_L1_R), G_slices_insertionSortOrdered_int_h_L1 n v_a824 v_b825 v_i826 k v_j828 v_w829 = some o → RunE Try.prog 49 Fi ks (G_slices_insertionSortOrdered_int_h_L1_ex o) (G_slices_insertionSortOrdered_int_h_L1_st v_a824 v_b825 v_i826 o) → RunE Try.prog 49 Fi (.l k (cP (cB (cR (cB (cL (cR (cP (cB (cR (bodyOf Try.f175)))))))))) :: ks) .normal (G_slices_insertionSortOrdered_int_h_L1_hd v_a824 v_b825 v_i826 v_j828 v_w829)
  | 0, v_j828, v_w829, o, h, q => by rw [G_slices_insertionSortOrdered_int_h_L1] at h; cases h
  | k + 1, v_j828, v_w829, o, h, q => by
    rw [G_slices_insertionSortOrdered_int_h_L1] at h
    by_cases h945 : v_j828 > v_a824
    · rw [if_pos h945] at h
      by_cases h946 : 0 ≤ v_j828 ∧ (v_j828).toNat < v_w829.length
      · rw [if_pos h946] at h
        obtain ⟨v_y845, h947, h⟩ := bind_some h
        by_cases h948 : 0 ≤ (wi .i64 (v_j828 - 1)) ∧ ((wi .i64 (v_j828 - 1))).toNat < v_w829.length
        · rw [if_pos h948] at h
          obtain ⟨v_y846, h949, h⟩ := bind_some h
          obtain ⟨v_r847, h950, h⟩ := bind_some h
          by_cases h951 : v_r847 = true
          · rw [if_pos h951] at h
            by_cases h960 : 0 ≤ (wi .i64 (v_j828 - 1)) ∧ ((wi .i64 (v_j828 - 1))).toNat < v_w829.length
            · rw [if_pos h960] at h
              obtain ⟨v_y852, h961, h⟩ := bind_some h
              by_cases h962 : 0 ≤ v_j828 ∧ (v_j828).toNat < v_w829.length
              · rw [if_pos h962] at h
                obtain ⟨v_y853, h963, h⟩ := bind_some h
                by_cases h964 : 0 ≤ v_j828 ∧ (v_j828).toNat < v_w829.length
                · rw [if_pos h964] at h
                  obtain ⟨v_y854, h965, h⟩ := bind_some h
                  by_cases h966 : 0 ≤ (wi .i64 (v_j828 - 1)) ∧ ((wi .i64 (v_j828 - 1))).toNat < (v_w829.set (v_j828).toNat v_y852).length
                  · rw [if_pos h966] at h
                    obtain ⟨v_y855, h967, h⟩ := bind_some h
                    exact pkk_sound TTok mix hF 11 (hs := [.t true, .c, .c, .c, .y ((eI .i64) v_y845), .c, .c, .c, .c, .c, .y ((eI .i64) v_y846), .c, .r (eB v_r847), .t true, .y ((eI .i64) v_y852), .y ((eI .i64) v_y853), .w ((v_w829.set (v_j828).toNat v_y852).map (eI .i64)), .y ((eI .i64) v_y854), .w (((v_w829.set (v_j828).toNat v_y852).set ((wi .i64 (v_j828 - 1))).toNat v_y853).map (eI .i64)), .y ((eI .i64) v_y855)]) (ts := []) (s := [0, 1]) (l := [0, 1, 2, 6, 7]) (by kernel_rfl) (by kernel_rfl) (.cons (dt h945) (.cons (idx_ob (f := (eI .i64)) h946) (.cons (get_ob (f := (eI .i64)) h947) (.cons (idx_ob (f := (eI .i64)) h948) (.cons (get_ob (f := (eI .i64)) h949) (.cons (G_cmp_Less_int_ok n v_y845 v_y846 _ h950) (.cons h951 (.cons (idx_ob (f := (eI .i64)) h960) (.cons (get_ob (f := (eI .i64)) h961) (.cons (idx_ob (f := (eI .i64)) h962) (.cons (get_ob (f := (eI .i64)) h963) (.cons (idx_ob (f := (eI .i64)) h964) (.cons (get_ob (f := (eI .i64)) h965) (.cons (Eq.refl (pcells (.v (.int .i64 v_y852)))) (.cons (set_ob (f := (eI .i64)) (l := v_w829) (k := (v_j828).toNat) (z := v_y852) (p := .v (.int .i64 v_y852)) rfl) (.cons (idx_ob (f := (eI .i64)) h966) (.cons (get_ob (f := (eI .i64)) h967) (.cons (Eq.refl (pcells (.v (.int .i64 v_y853)))) (.cons (set_ob (f := (eI .i64)) (l := (v_w829.set (v_j828).toNat v_y852)) (k := ((wi .i64 (v_j828 - 1))).toNat) (z := v_y853) (p := .v (.int .i64 v_y853)) rfl) .nil))))))))))))))))))) (G_slices_insertionSortOrdered_int_h_L1_ok hF ks n v_a824 v_b825 v_i826 k (wi .i64 (v_j828 - 1)) ((v_w829.set (v_j828).toNat v_y852).set ((wi .i64 (v_j828 - 1))).toNat v_y853) _ h q)
                  · rw [if_neg h966] at h; cases h
                · rw [if_neg h964] at h; cases h
              · rw [if_neg h962] at h; cases h
            · rw [if_neg h960] at h; cases h
          · rw [if_neg h951] at h
            cases h
            exact pkk_sound TTok mix hF 8 (hs := [.t true, .c, .c, .c, .y ((eI .i64) v_y845), .c, .c, .c, .c, .c, .y ((eI .i64) v_y846), .c, .r (eB v_r847), .t false]) (ts := []) (s := [0, 1]) (l := [0, 1, 2, 6]) (by kernel_rfl) (by kernel_rfl) (.cons (dt h945) (.cons (idx_ob (f := (eI .i64)) h946) (.cons (get_ob (f := (eI .i64)) h947) (.cons (idx_ob (f := (eI .i64)) h948) (.cons (get_ob (f := (eI .i64)) h949) (.cons (G_cmp_Less_int_ok n v_y845 v_y846 _ h950) (.cons (vf h951) .nil))))))) q
        · rw [if_neg h948] at h; cases h
      · rw [if_neg h946] at h; cases h
    · rw [if_neg h945] at h
      cases h
      exact pkk_sound TTok mix hF 8 (hs := [.t false, .c, .c, .c, .c, .c, .c, .c, .c, .c, .c]) (ts := []) (s := [0, 1]) (l := [0, 1, 2, 6]) (by kernel_rfl) (by kernel_rfl) (.cons (df h945) .nil) q
inductive G_slices_insertionSortOrdered_int_h_L2_R where
  | x0 (v_w860 : (List Int))
def G_slices_insertionSortOrdered_int_h_L2_ex : G_slices_insertionSortOrdered_int_h_L2_R → Ex
  | .x0 _ => .exit 0
def G_slices_insertionSortOrdered_int_h_L2_st (v_a824 : Int) (v_b825 : Int) : G_slices_insertionSortOrdered_int_h_L2_R → PS
  | .x0 v_w860 => ⟨[dd, dd, dd, dd, dd, dd, dd, dd, dd, dd, dd, dd, dd, dd, dd, dd, dd, dd, dd, dd, dd, dd, dd, dd, dd, dd, dd, dd, dd, dd, dd, dd, dd, dd, dd, dd, dd, dd, dd, dd, dd, dd, dd, dd, dd, dd, dd, dd, dd], [.gh 0 (.srf 1), .row 3 1 (v_w860.map (eI .i64))]⟩
def G_slices_insertionSortOrdered_int_h_L2_hd (v_a824 : Int) (v_b825 : Int) (v_i826 : Int) (v_w827 : (List Int)) : PS := ⟨[.srf 1, .d (.v (.int .i64 v_a824)), .d (.v (.int .i64 v_b825)), dd, dd, dd, .d (.v (.int .i64 v_i826)), dd, dd, dd, dd, dd, dd, dd, dd, dd, dd, dd, dd, dd, dd, dd, dd, dd, dd, dd, dd, dd, dd, dd, dd, dd, dd, dd, dd, dd, dd, dd, dd, dd, dd, dd, dd, dd, dd, dd, dd, dd, dd], [.gh 0 (.srf 1), .row 3 1 (v_w827.map (eI .i64))]⟩
def G_slices_insertionSortOrdered_int_h_L2 (n : Nat) (v_a824 : Int) (v_b825 : Int) : Nat → Int → (List Int) → Option G_slices_insertionSortOrdered_int_h_L2_R
  | 0, _, _ => none
  | k + 1, v_i826, v_w827 =>
    if v_i826 < v_b825 then
     (G_slices_insertionSortOrdered_int_h_L1 n v_a824 v_b825 v_i826 n v_i826 v_w827).bind fun v_o858 => match v_o858 with
     | .x0 v_z859 =>
       G_slices_insertionSortOrdered_int_h_L2 n v_a824 v_b825 k (wi .i64 (v_i826 + 1)) v_z859
    else
     some (.x0 v_w827)
theorem G_slices_insertionSortOrdered_int_h_L2_ok {Fi : Ex → PS → Prop} (hF : KC 49 Fi) (ks : List Fr) (n : Nat) (v_a824 : Int) (v_b825 : Int)  : ∀ (k : Nat) (v_i826 : Int) (v_w827 : (List Int)) (o : G_slices_insertionSortOrdered_int_h_L2_R), G_slices_insertionSortOrdered_int_h_L2 n v_a824 v_b825 k v_i826 v_w827 = some o → RunE Try.prog 49 Fi ks (G_slices_insertionSortOrdered_int_h_L2_ex o) (G_slices_insertionSortOrdered_int_h_L2_st v_a824 v_b825 o) → RunE Try.prog 49 Fi (.l k (cP (cB (cR (bodyOf Try.f175)))) :: ks) .normal (G_slices_insertionSortOrdered_int_h_L2_hd v_a824 v_b825 v_i826 v_w827)
  | 0, v_i826, v_w827, o, h, q => by rw [G_slices_insertionSortOrdered_int_h_L2] at h; cases h
  | k + 1, v_i826, v_w827, o, h, q => by
    rw [G_slices_insertionSortOrdered_int_h_L2] at h
    by_cases h929 : v_i826 < v_b825
    · rw [if_pos h929] at h
      obtain ⟨v_o858, h968, h⟩ := bind_some h
      refine pkk_sound TTok mix hF 12 (hs := [.t true, .n n]) (ts := []) (s := [0, 1]) (l := [0, 1, 2, 6, 7]) (by kernel_rfl) (by kernel_rfl) (.cons (dt h929) .nil) (G_slices_insertionSortOrdered_int_h_L1_ok hF (.b 2 :: .b 1 :: .s (cR (cR (cP (cB (cR (bodyOf Try.f175)))))) :: .l k (cP (cB (cR (bodyOf Try.f175)))) :: ks) n v_a824 v_b825 v_i826 n v_i826 v_w827 _ h968 ?_)
      cases v_o858 with
      | x0 v_z859 =>
        try dsimp only at h
        exact pkk_sound TTok mix hF 3 (hs := []) (ts := []) (s := [0, 1]) (l := [0, 1, 2, 6]) (by kernel_rfl) (by kernel_rfl) .nil (G_slices_insertionSortOrdered_int_h_L2_ok hF ks n v_a824 v_b825 k (wi .i64 (v_i826 + 1)) v_z859 _ h q)
    · rw [if_neg h929] at h
      cases h
      exact pkk_sound TTok mix hF 8 (hs := [.t false]) (ts := []) (s := [0, 1]) (l := []) (by kernel_rfl) (by kernel_rfl) (.cons (df h929) .nil) q
/- slices.insertionSortOrdered[int] -/
def G_slices_insertionSortOrdered_int_h (n : Nat) (v_data823 : (List Int)) (v_a824 : Int) (v_b825 : Int) : Option ((List Int)) :=
  (G_slices_insertionSortOrdered_int_h_L2 n v_a824 v_b825 n (wi .i64 (v_a824 + 1)) v_data823).bind fun v_o861 => match v_o861 with
  | .x0 v_z862 =>
    some v_z862
theorem G_slices_insertionSortOrdered_int_h_ok (n : Nat) (v_data823 : (List Int)) (v_a824 : Int) (v_b825 : Int) (r : (List Int)) (h : G_slices_insertionSortOrdered_int_h n v_data823 v_a824 v_b825 = some r) : RetH Try.prog 175 [.srf 0, .d ((eI .i64) v_a824), .d ((eI .i64) v_b825)] [.row 3 1 (v_data823.map (eI .i64))] (.tup []) [.row 3 1 (r.map (eI .i64))] := by
  refine retH_run (n := 49) (fn := Try.f175) (c := bodyOf Try.f175) (by kernel_rfl) (by kernel_rfl) (by kernel_rfl) (by kernel_rfl) ?_
  have hF : KC 49 (FinH Try.prog Try.f175 [.row 3 1 (v_data823.map (eI .i64))] (.tup []) [.row 3 1 (r.map (eI .i64))]) := FinH.kc' (by kernel_rfl)
  unfold G_slices_insertionSortOrdered_int_h at h
  obtain ⟨v_o861, h969, h⟩ := bind_some h
  refine pkk_sound TTok mix hF 4 (hs := [.n n]) (ts := []) (s := [1, 0]) (l := [0, 1, 2, 6]) (by kernel_rfl) (by kernel_rfl) .nil (G_slices_insertionSortOrdered_int_h_L2_ok hF (.b 0 :: []) n v_a824 v_b825 n (wi .i64 (v_a824 + 1)) v_data823 _ h969 ?_)
  cases v_o861 with
  | x0 v_z862 =>
    try dsimp only at h
    obtain rfl := Option.some.inj h
    exact pendH_sound TTok mix 1 (hs := []) [1] (by kernel_rfl) (by kernel_rfl) (by kernel_rfl) .nil
inductive G_slices_pdqsortOrdered_int_h_L1_R where
  | x0 (v_w867 : (List Int))
def G_slices_pdqsortOrdered_int_h_L1_ex : G_slices_pdqsortOrdered_int_h_L1_R → Ex
  | .x0 _ => .ret
def G_slices_pdqsortOrdered_int_h_L1_st  : G_slices_pdqsortOrdered_int_h_L1_R → PS
  | .x0 v_w867 => ⟨[dd, dd, dd, dd, dd, dd, dd, dd, dd, dd, dd, dd, dd, dd, dd, dd, dd, dd, dd, dd, dd, dd, dd, dd, dd, dd, dd, dd, dd, dd, dd, dd, dd, dd, dd, dd, dd, dd, dd, dd, dd, dd, dd, dd, dd, dd, dd, dd, dd, dd, dd, dd, dd, dd, dd, dd, dd, dd, dd, dd, dd, dd, dd, dd, dd, dd, dd, dd, dd, dd, dd, dd, dd, dd, dd, dd, dd, dd, dd, dd, dd, dd, dd, dd, dd, dd, dd, dd, dd, dd, dd, dd, dd, dd, dd, dd, dd, dd, dd, dd, dd, dd, dd, dd, dd, dd, dd, dd, dd, dd, dd, dd, dd, dd, dd, dd, dd, dd, dd, dd, dd, dd, dd, dd, dd, dd, dd, dd, dd, dd, dd, dd, dd, dd], [.gh 0 (.srf 1), .row 3 1 (v_w867.map (eI .i64))]⟩
def G_slices_pdqsortOrdered_int_h_L1_hd  (v_a817 : Int) (v_b818 : Int) (v_limit819 : Int) (v_wasBalanced820 : Bool) (v_wasPartitioned821 : Bool) (v_w822 : (List Int)) : PS := ⟨[.srf 1, .d (.v (.int .i64 v_a817)), .d (.v (.int .i64 v_b818)), .d (.v (.int .i64 v_limit819)), dd, dd, dd, dd, .d (.v (.bool v_wasBalanced820)), .d (.v (.bool v_wasPartitioned821)), dd, dd, dd, dd, dd, dd, dd, dd, dd, dd, dd, dd, dd, dd, dd, dd, dd, dd, dd, dd, dd, dd, dd, dd, dd, dd, dd, dd, dd, dd, dd, dd, dd, dd, dd, dd, dd, dd, dd, dd, dd, dd, dd, dd, dd, dd, dd, dd, dd, dd, dd, dd, dd, dd, dd, dd, dd, dd, dd, dd, dd, dd, dd, dd, dd, dd, dd, dd, dd, dd, dd, dd, dd, dd, dd, dd, dd, dd, dd, dd, dd, dd, dd, dd, dd, dd, dd, dd, dd, dd, dd, dd, dd, dd, dd, dd, dd, dd, dd, dd, dd, dd, dd, dd, dd, dd, dd, dd, dd, dd, dd, dd, dd, dd, dd, dd, dd, dd, dd, dd, dd, dd, dd, dd], [.gh 0 (.srf 1), .row 3 1 (v_w822.map (eI .i64))]⟩
def G_slices_pdqsortOrdered_int_h_L1 (n : Nat)  : Nat → Int → Int → Int → Bool → Bool → (List Int) → Option G_slices_pdqsortOrdered_int_h_L1_R
  | 0, _, _, _, _, _, _ => none
  | k + 1, v_a817, v_b818, v_limit819, v_wasBalanced820, v_wasPartitioned821, v_w822 =>
    if (wi .i64 (v_b818 - v_a817)) ≤ 12 then
     (G_slices_insertionSortOrdered_int_h n v_w822 v_a817 v_b818).bind fun (v_r866 : ((List Int))) =>
     some (.x0 v_r866)
    else
     none
theorem G_slices_pdqsortOrdered_int_h_L1_ok {Fi : Ex → PS → Prop} (hF : KC 134 Fi) (ks : List Fr) (n : Nat)   : ∀ (k : Nat) (v_a817 : Int) (v_b818 : Int) (v_limit819 : Int) (v_wasBalanced820 : Bool) (v_wasPartitioned821 : Bool) (v_w822 : (List Int)) (o : G_slices_pdqsortOrdered_int_h_L1_R), G_slices_pdqsortOrdered_int_h_L1 n  k v_a817 v_b818 v_limit819 v_wasBalanced820 v_wasPartitioned821 v_w822 = some o → RunE Try.prog 134 Fi ks (G_slices_pdqsortOrdered_int_h_L1_ex o) (G_slices_pdqsortOrdered_int_h_L1_st  o) → RunE Try.prog 134 Fi (.l k (cP (cB (cR (cR (bodyOf Try.f120))))) :: ks) .normal (G_slices_pdqsortOrdered_int_h_L1_hd  v_a817 v_b818 v_limit819 v_wasBalanced820 v_wasPartitioned821 v_w822)
  | 0, v_a817, v_b818, v_limit819, v_wasBalanced820, v_wasPartitioned821, v_w822, o, h, q => by rw [G_slices_pdqsortOrdered_int_h_L1] at h; cases h
  | k + 1, v_a817, v_b818, v_limit819, v_wasBalanced820, v_wasPartitioned821, v_w822, o, h, q => by
    rw [G_slices_pdqsortOrdered_int_h_L1] at h
    by_cases h975 : (wi .i64 (v_b818 - v_a817)) ≤ 12
    · rw [if_pos h975] at h
      obtain ⟨v_r866, h976, h⟩ := bind_some h
      cases h
      exact pkk_sound TTok mix hF 14 (hs := [.t true, .h [1] [] [.row 3 1 (v_r866.map (eI .i64))] (.tup [])]) (ts := []) (s := [0, 1]) (l := []) (by kernel_rfl) (by kernel_rfl) (.cons (dt h975) (.cons (G_slices_insertionSortOrdered_int_h_ok n v_w822 v_a817 v_b818 _ h976) .nil)) q
    · rw [if_neg h975] at h
      cases h
/- slices.pdqsortOrdered[int] -/
def G_slices_pdqsortOrdered_int_h (n : Nat) (v_data813 : (List Int)) (v_a814 : Int) (v_b815 : Int) (v_limit816 : Int) : Option ((List Int)) :=
  (G_slices_pdqsortOrdered_int_h_L1 n  n v_a814 v_b815 v_limit816 true true v_data813).bind fun v_o868 => match v_o868 with
  | .x0 v_z869 =>
    some v_z869
theorem G_slices_pdqsortOrdered_int_h_ok (n : Nat) (v_data813 : (List Int)) (v_a814 : Int) (v_b815 : Int) (v_limit816 : Int) (r : (List Int)) (h : G_slices_pdqsortOrdered_int_h n v_data813 v_a814 v_b815 v_limit816 = some r) : RetH Try.prog 120 [.srf 0, .d ((eI .i64) v_a814), .d ((eI .i64) v_b815), .d ((eI .i64) v_limit816)] [.row 3 1 (v_data813.map (eI .i64))] (.tup []) [.row 3 1 (r.map (eI .i64))] := by
  refine retH_run (n := 134) (fn := Try.f120) (c := bodyOf Try.f120) (by kernel_rfl) (by kernel_rfl) (by kernel_rfl) (by kernel_rfl) ?_
  have hF : KC 134 (FinH Try.prog Try.f120 [.row 3 1 (v_data813.map (eI .i64))] (.tup []) [.row 3 1 (r.map (eI .i64))]) := FinH.kc' (by kernel_rfl)
  unfold G_slices_pdqsortOrdered_int_h at h
  obtain ⟨v_o868, h977, h⟩ := bind_some h
  refine pkk_sound TTok mix hF 6 (hs := [.n n]) (ts := []) (s := [1, 0]) (l := [0, 1, 2, 3, 8, 9]) (by kernel_rfl) (by kernel_rfl) .nil (G_slices_pdqsortOrdered_int_h_L1_ok hF (.b 0 :: []) n  n v_a814 v_b815 v_limit816 true true v_data813 _ h977 ?_)
  cases v_o868 with
  | x0 v_z869 =>
    try dsimp only at h
    obtain rfl := Option.some.inj h
    exact pendH_sound TTok mix 1 (hs := []) [1] (by kernel_rfl) (by kernel_rfl) (by kernel_rfl) .nil
/- slices.Sort[[]int,int] -/
def G_slices_Sort_int_int_h (n : Nat) (v_x800 : (List Int)) : Option ((List Int)) :=
  (G_math_bits_Len n (wi .u64 (v_x800.length : Int))).bind fun (v_r812 : (Int)) =>
  (G_slices_pdqsortOrdered_int_h n v_x800 0 (v_x800.length : Int) v_r812).bind fun (v_r870 : ((List Int))) =>
  some v_r870
theorem G_slices_Sort_int_int_h_ok (n : Nat) (v_x800 : (List Int)) (r : (List Int)) (h : G_slices_Sort_int_int_h n v_x800 = some r) : RetH Try.prog 24 [.srf 0] [.row 3 1 (v_x800.map (eI .i64))] (.tup []) [.row 3 1 (r.map (eI .i64))] := by
  refine retH_run (n := 11) (fn := Try.f24) (c := bodyOf Try.f24) (by kernel_rfl) (by kernel_rfl) (by kernel_rfl) (by kernel_rfl) ?_
  have hF : KC 11 (FinH Try.prog Try.f24 [.row 3 1 (v_x800.map (eI .i64))] (.tup []) [.row 3 1 (r.map (eI .i64))]) := FinH.kc' (by kernel_rfl)
  unfold G_slices_Sort_int_int_h at h
  obtain ⟨v_r812, h927, h⟩ := bind_some h
  obtain ⟨v_r870, h978, h⟩ := bind_some h
  obtain rfl := Option.some.inj h
  exact pendH_sound TTok mix 3 (hs := [.u (.d (.v (.int .i64 (v_x800.length : Int)))), .r ((eI .i64) v_r812), .h [0] [] [.row 3 1 (v_r870.map (eI .i64))] (.tup [])]) [0] (by kernel_rfl) (by kernel_rfl) (by kernel_rfl) (.cons (len_ob (f := (eI .i64)) (l := v_x800)) (.cons (G_math_bits_Len_ok n (wi .u64 (v_x800.length : Int)) _ h927) (.cons (G_slices_pdqsortOrdered_int_h_ok n v_x800 0 (v_x800.length : Int) v_r812 _ h978) .nil)))
inductive G_slices_Equal_int_int_L1_R where
  | x0 (v_x880 : Bool)
  | x1 
def G_slices_Equal_int_int_L1_ex : G_slices_Equal_int_int_L1_R → Ex
  | .x0 _ => .ret
  | .x1  => .exit 0
def G_slices_Equal_int_int_L1_st (v_s873 : (List Int)) (v_s874 : (List Int)) : G_slices_Equal_int_int_L1_R → PS
  | .x0 v_x880 => ⟨[dd, dd, dd, dd, .d (.v (.bool v_x880)), dd, dd, dd, dd, dd, dd, dd, dd, dd, dd, dd, dd, dd, dd, dd, dd, dd, dd, dd, dd, dd], []⟩
  | .x1  => ⟨[dd, dd, dd, dd, dd, dd, dd, dd, dd, dd, dd, dd, dd, dd, dd, dd, dd, dd, dd, dd, dd, dd, dd, dd, dd, dd], []⟩
def G_slices_Equal_int_int_L1_hd (v_s873 : (List Int)) (v_s874 : (List Int)) (v_x875 : Int) : PS := ⟨[.d (.sl (v_s873.map (eI .i64))), .d (.sl (v_s874.map (eI .i64))), dd, dd, dd, dd, dd, dd, dd, dd, dd, dd, .d (.v (.int .i64 (v_s873.length : Int))), .d (.v (.int .i64 v_x875)), dd, dd, dd, dd, dd, dd, dd, dd, dd, dd, dd, dd], []⟩
def G_slices_Equal_int_int_L1 (n : Nat) (v_s873 : (List Int)) (v_s874 : (List Int)) : Nat → Int → Option G_slices_Equal_int_int_L1_R
  | 0, _ => none
  | k + 1, v_x875 =>
    if v_x875 < (v_s873.length : Int) then
     (getI v_s873 v_x875).bind fun (v_y878 : Int) =>
     (getI v_s874 v_x875).bind fun (v_y879 : Int) =>
     if v_y878 = v_y879 then
      G_slices_Equal_int_int_L1 n v_s873 v_s874 k (wi .i64 (v_x875 + 1))
     else
      some (.x0 false)
    else
     some (.x1 )
theorem G_slices_Equal_int_int_L1_ok {Fi : Ex → PS → Prop} (hF : KC 26 Fi) (ks : List Fr) (n : Nat) (v_s873 : (List Int)) (v_s874 : (List Int))  : ∀ (k : Nat) (v_x875 : Int) (o : G_slices_Equal_int_int_L1_R), G_slices_Equal_int_int_L1 n v_s873 v_s874 k v_x875 = some o → RunE Try.prog 26 Fi ks (G_slices_Equal_int_int_L1_ex o) (G_slices_Equal_int_int_L1_st v_s873 v_s874 o) → RunE Try.prog 26 Fi (.l k (cP (cB (cR (cL (cR (cR (bodyOf Try.f43))))))) :: ks) .normal (G_slices_Equal_int_int_L1_hd v_s873 v_s874 v_x875)
  | 0, v_x875, o, h, q => by rw [G_slices_Equal_int_int_L1] at h; cases h
  | k + 1, v_x875, o, h, q => by
    rw [G_slices_Equal_int_int_L1] at h
    by_cases h983 : v_x875 < (v_s873.length : Int)
    · rw [if_pos h983] at h
      obtain ⟨v_y878, h987, h⟩ := bind_some h
      obtain ⟨v_y879, h988, h⟩ := bind_some h
      by_cases h989 : v_y878 = v_y879
      · rw [if_pos h989] at h
        exact pkk_sound TTok mix hF 16 (hs := [.t true, .y ((eI .i64) v_y878), .c, .y ((eI .i64) v_y879), .c, .t false]) (ts := []) (s := []) (l := [0, 1, 12, 13]) (by kernel_rfl) (by kernel_rfl) (.cons (dt h983) (.cons (getI_ob (f := (eI .i64)) h987) (.cons (getI_ob (f := (eI .i64)) h988) (.cons (nf h989) .nil)))) (G_slices_Equal_int_int_L1_ok hF ks n v_s873 v_s874 k (wi .i64 (v_x875 + 1)) _ h q)
      · rw [if_neg h989] at h
        cases h
        exact pkk_sound TTok mix hF 19 (hs := [.t true, .y ((eI .i64) v_y878), .c, .y ((eI .i64) v_y879), .c, .t true]) (ts := []) (s := []) (l := [4]) (by kernel_rfl) (by kernel_rfl) (.cons (dt h983) (.cons (getI_ob (f := (eI .i64)) h987) (.cons (getI_ob (f := (eI .i64)) h988) (.cons (nt h989) .nil)))) q
    · rw [if_neg h983] at h
      cases h
      exact pkk_sound TTok mix hF 8 (hs := [.t false]) (ts := []) (s := []) (l := []) (by kernel_rfl) (by kernel_rfl) (.cons (df h983) .nil) q
/- slices.Equal[[]int,int] -/
def G_slices_Equal_int_int (n : Nat) (v_s873 : (List Int)) (v_s874 : (List Int)) : Option (Bool) :=
  if (v_s873.length : Int) = (v_s874.length : Int) then
   (G_slices_Equal_int_int_L1 n v_s873 v_s874 n 0).bind fun v_o881 => match v_o881 with
   | .x0 v_z882 =>
     some v_z882
   | .x1  =>
     some true
  else
   some false
theorem G_slices_Equal_int_int_ok (n : Nat) (v_s873 : (List Int)) (v_s874 : (List Int)) (r : Bool) (h : G_slices_Equal_int_int n v_s873 v_s874 = some r) : Ret Try.prog 43 [(eL (eI .i64)) v_s873, (eL (eI .i64)) v_s874] (eB r) := by
  refine ret_run (n := 26) (fn := Try.f43) (c := bodyOf Try.f43) (by kernel_rfl) (by kernel_rfl) (by kernel_rfl) (by kernel_rfl) ?_
  have hF : KC 26 (FinR Try.prog Try.f43 (eB r)) := FinR.kc' (by kernel_rfl)
  unfold G_slices_Equal_int_int at h
  by_cases h982 : (v_s873.length : Int) = (v_s874.length : Int)
  · rw [if_pos h982] at h
    obtain ⟨v_o881, h990, h⟩ := bind_some h
    refine pkk_sound TTok mix hF 12 (hs := [.u (.d (.v (.int .i64 (v_s873.length : Int)))), .u (.d (.v (.int .i64 (v_s874.length : Int)))), .t false, .u (.d (.v (.int .i64 (v_s873.length : Int)))), .n n]) (ts := []) (s := []) (l := [0, 1, 12, 13]) (by kernel_rfl) (by kernel_rfl) (.cons (len_ob (f := (eI .i64)) (l := v_s873)) (.cons (len_ob (f := (eI .i64)) (l := v_s874)) (.cons (nf h982) (.cons (len_ob (f := (eI .i64)) (l := v_s873)) .nil)))) (G_slices_Equal_int_int_L1_ok hF (.b 0 :: .s (cR (cR (cR (bodyOf Try.f43)))) :: []) n v_s873 v_s874 n 0 _ h990 ?_)
    cases v_o881 with
    | x0 v_z882 =>
      try dsimp only at h
      obtain rfl := Option.some.inj h
      exact pend_sound TTok mix 2 (hs := []) (by kernel_rfl) (by kernel_rfl) (by kernel_rfl) .nil
    | x1  =>
      try dsimp only at h
      obtain rfl := Option.some.inj h
      exact pend_sound TTok mix 4 (hs := []) (by kernel_rfl) (by kernel_rfl) (by kernel_rfl) .nil
  · rw [if_neg h982] at h
    obtain rfl := Option.some.inj h
    exact pend_sound TTok mix 10 (hs := [.u (.d (.v (.int .i64 (v_s873.length : Int)))), .u (.d (.v (.int .i64 (v_s874.length : Int)))), .t true]) (by kernel_rfl) (by kernel_rfl) (by kernel_rfl) (.cons (len_ob (f := (eI .i64)) (l := v_s873)) (.cons (len_ob (f := (eI .i64)) (l := v_s874)) (.cons (nt h982) .nil)))
inductive G_ringlaw5_LabelRuns_C1_R where
  | x0 (v_x407 : Bool)
def G_ringlaw5_LabelRuns_C1_ex : G_ringlaw5_LabelRuns_C1_R → Ex
  | .x0 _ => .normal
def G_ringlaw5_LabelRuns_C1_st (v_acts3 : (List S_label_Act)) (v_from4 : Int) (v_r93 : ((List Bool) × Int)) (v_r406 : ((List Int) × (List Int) × Int)) (v_who1 : (List S_label_Label)) (v_what2 : (List S_label_Label)) : G_ringlaw5_LabelRuns_C1_R → PS
  | .x0 v_x407 => ⟨[dd, dd, .d (.sl (v_acts3.map eS_label_Act)), .d (.v (.int .i64 v_from4)), .ref 0 0, .ref 1 0, dd, dd, dd, .d (.sl (v_r93.1.map eB)), .d (.v (.int .i64 v_r93.2)), .d (.sl (v_r406.1.map (eI .i64))), .d (.sl (v_r406.2.1.map (eI .i64))), .d (.v (.int .i64 v_r406.2.2)), .d (.v (.int .i64 0)), dd, dd, dd, dd, dd, dd, dd, dd, dd, dd, dd, dd, dd, dd, dd, dd, dd, dd, dd, dd, dd, dd, dd, dd, dd, dd, dd, dd, dd, dd, dd, dd, dd, dd, .d (.v (.bool v_x407)), dd, dd, dd, dd, dd, dd, dd, dd, dd, dd, dd, dd, dd, dd, dd, dd, dd, dd, dd, dd, dd, dd, dd, dd, dd, dd, dd, dd, dd, dd, dd, dd, dd, dd, dd, dd, dd, dd, dd, dd, dd, dd, dd, dd, dd, dd, dd, dd, dd, dd, dd, dd, dd, dd, dd, dd, dd, dd, dd, dd, dd, dd, dd, dd, dd, dd, dd, dd, dd, dd, dd, dd, dd, dd, dd, dd, dd, dd, dd, dd, dd, dd, dd, dd, dd, dd, dd, dd, dd, dd, dd, dd, dd, dd, dd, dd, dd, dd, dd, dd, dd, dd, dd, dd, dd, dd, dd, dd, dd, dd, dd, dd, dd, dd, dd, dd, dd, dd, dd, dd, dd, dd, dd, dd, dd, dd, dd, dd, dd, dd, dd, dd, dd, dd, dd, dd, dd, dd, dd, dd, dd, dd, dd, dd, dd, dd, dd, dd, dd, dd, dd, dd, dd, dd, dd, dd, dd, dd, dd, dd, dd, dd, dd, dd, dd, dd, dd], [.box [.d (.sl (v_who1.map eS_label_Label))], .box [.d (.sl (v_what2.map eS_label_Label))]]⟩
def G_ringlaw5_LabelRuns_C1_hd (v_acts3 : (List S_label_Act)) (v_from4 : Int) (v_r93 : ((List Bool) × Int)) (v_r406 : ((List Int) × (List Int) × Int)) (v_who1 : (List S_label_Label)) (v_what2 : (List S_label_Label))  : PS := ⟨[dd, dd, .d (.sl (v_acts3.map eS_label_Act)), .d (.v (.int .i64 v_from4)), .ref 0 0, .ref 1 0, dd, dd, dd, .d (.sl (v_r93.1.map eB)), .d (.v (.int .i64 v_r93.2)), .d (.sl (v_r406.1.map (eI .i64))), .d (.sl (v_r406.2.1.map (eI .i64))), .d (.v (.int .i64 v_r406.2.2)), .d (.v (.int .i64 0)), dd, dd, dd, dd, dd, dd, dd, dd, dd, dd, dd, dd, dd, dd, dd, dd, dd, dd, dd, dd, dd, dd, dd, dd, dd, dd, dd, dd, dd, dd, dd, dd, dd, dd, dd, dd, dd, dd, dd, dd, dd, dd, dd, dd, dd, dd, dd, dd, dd, dd, dd, dd, dd, dd, dd, dd, dd, dd, dd, dd, dd, dd, dd, dd, dd, dd, dd, dd, dd, dd, dd, dd, dd, dd, dd, dd, dd, dd, dd, dd, dd, dd, dd, dd, dd, dd, dd, dd, dd, dd, dd, dd, dd, dd, dd, dd, dd, dd, dd, dd, dd, dd, dd, dd, dd, dd, dd, dd, dd, dd, dd, dd, dd, dd, dd, dd, dd, dd, dd, dd, dd, dd, dd, dd, dd, dd, dd, dd, dd, dd, dd, dd, dd, dd, dd, dd, dd, dd, dd, dd, dd, dd, dd, dd, dd, dd, dd, dd, dd, dd, dd, dd, dd, dd, dd, dd, dd, dd, dd, dd, dd, dd, dd, dd, dd, dd, dd, dd, dd, dd, dd, dd, dd, dd, dd, dd, dd, dd, dd, dd, dd, dd, dd, dd, dd, dd, dd, dd, dd, dd, dd, dd, dd, dd, dd, dd, dd, dd, dd, dd, dd, dd], [.box [.d (.sl (v_who1.map eS_label_Label))], .box [.d (.sl (v_what2.map eS_label_Label))]]⟩
def G_ringlaw5_LabelRuns_C1 (n : Nat) (v_acts3 : (List S_label_Act)) (v_from4 : Int) (v_r93 : ((List Bool) × Int)) (v_r406 : ((List Int) × (List Int) × Int)) (v_who1 : (List S_label_Label)) (v_what2 : (List S_label_Label)) : Option G_ringlaw5_LabelRuns_C1_R :=
  if (v_who1.length : Int) > 6 then
   some (.x0 true)
  else
   if (v_what2.length : Int) > 6 then
    some (.x0 true)
   else
    some (.x0 (decide ((v_acts3.length : Int) > 40)))
theorem G_ringlaw5_LabelRuns_C1_ok {Fi : Ex → PS → Prop} (hF : KC 217 Fi) (ks : List Fr) (n : Nat) (v_acts3 : (List S_label_Act)) (v_from4 : Int) (v_r93 : ((List Bool) × Int)) (v_r406 : ((List Int) × (List Int) × Int)) (v_who1 : (List S_label_Label)) (v_what2 : (List S_label_Label))  (o : G_ringlaw5_LabelRuns_C1_R) (h : G_ringlaw5_LabelRuns_C1 n v_acts3 v_from4 v_r93 v_r406 v_who1 v_what2 = some o) (q : RunE Try.prog 217 Fi ks (G_ringlaw5_LabelRuns_C1_ex o) (G_ringlaw5_LabelRuns_C1_st v_acts3 v_from4 v_r93 v_r406 v_who1 v_what2 o)) : RunE Try.prog 217 Fi (.s (cL (cL (cR (cR (cR (cR (bodyOf Try.f5))))))) :: ks) .normal (G_ringlaw5_LabelRuns_C1_hd v_acts3 v_from4 v_r93 v_r406 v_who1 v_what2) := by
  unfold G_ringlaw5_LabelRuns_C1 at h
  by_cases h610 : (v_who1.length : Int) > 6
  · rw [if_pos h610] at h
    cases h
    exact pkk_sound TTok mix hF 1 (hs := [.c, .u (.d (.v (.int .i64 (v_who1.length : Int)))), .t true, .c, .c, .c, .c, .c]) (ts := []) (s := [0, 1]) (l := [2, 3, 4, 5, 9, 10, 11, 12, 13, 14, 49]) (by kernel_rfl) (by kernel_rfl) (.cons (len_ob (f := eS_label_Label) (l := v_who1)) (.cons (dt h610) .nil)) q
  · rw [if_neg h610] at h
    by_cases h611 : (v_what2.length : Int) > 6
    · rw [if_pos h611] at h
      cases h
      exact pkk_sound TTok mix hF 1 (hs := [.c, .u (.d (.v (.int .i64 (v_who1.length : Int)))), .t false, .c, .c, .u (.d (.v (.int .i64 (v_what2.length : Int)))), .c, .t true, .c, .c]) (ts := []) (s := [0, 1]) (l := [2, 3, 4, 5, 9, 10, 11, 12, 13, 14, 49]) (by kernel_rfl) (by kernel_rfl) (.cons (len_ob (f := eS_label_Label) (l := v_who1)) (.cons (df h610) (.cons (len_ob (f := eS_label_Label) (l := v_what2)) (.cons (dt h611) .nil)))) q
    · rw [if_neg h611] at h
      cases h
      exact pkk_sound TTok mix hF 1 (hs := [.c, .u (.d (.v (.int .i64 (v_who1.length : Int)))), .t false, .c, .c, .u (.d (.v (.int .i64 (v_what2.length : Int)))), .c, .t false, .c, .u (.d (.v (.int .i64 (v_acts3.length : Int)))), .c]) (ts := []) (s := [0, 1]) (l := [2, 3, 4, 5, 9, 10, 11, 12, 13, 14, 49]) (by kernel_rfl) (by kernel_rfl) (.cons (len_ob (f := eS_label_Label) (l := v_who1)) (.cons (df h610) (.cons (len_ob (f := eS_label_Label) (l := v_what2)) (.cons (df h611) (.cons (len_ob (f := eS_label_Act) (l := v_acts3)) .nil))))) q
inductive G_ringlaw5_LabelRuns_C2_R where
  | x0 (v_want475 : Int)
def G_ringlaw5_LabelRuns_C2_ex : G_ringlaw5_LabelRuns_C2_R → Ex
  | .x0 _ => .normal
def G_ringlaw5_LabelRuns_C2_st (v_acts3 : (List S_label_Act)) (v_from4 : Int) (v_r93 : ((List Bool) × Int)) (v_r406 : ((List Int) × (List Int) × Int)) (v_z411 : Bool) (v_who1 : (List S_label_Label)) (v_what2 : (List S_label_Label)) : G_ringlaw5_LabelRuns_C2_R → PS
  | .x0 v_want475 => ⟨[dd, dd, .d (.sl (v_acts3.map eS_label_Act)), .d (.v (.int .i64 v_from4)), .ref 0 0, .ref 1 0, dd, dd, dd, .d (.sl (v_r93.1.map eB)), .d (.v (.int .i64 v_r93.2)), .d (.sl (v_r406.1.map (eI .i64))), .d (.sl (v_r406.2.1.map (eI .i64))), .d (.v (.int .i64 v_r406.2.2)), .d (.v (.int .i64 v_want475)), dd, dd, dd, dd, dd, dd, dd, dd, dd, dd, dd, dd, dd, dd, dd, dd, dd, dd, dd, dd, dd, dd, dd, dd, dd, dd, dd, dd, dd, dd, dd, dd, dd, dd, dd, dd, dd, dd, dd, dd, dd, dd, dd, dd, dd, dd, dd, dd, dd, dd, dd, dd, dd, dd, dd, dd, dd, dd, dd, dd, dd, dd, dd, dd, dd, dd, dd, dd, dd, dd, dd, dd, dd, dd, dd, dd, dd, dd, dd, dd, dd, dd, dd, dd, dd, dd, dd, dd, dd, dd, dd, dd, dd, dd, dd, dd, dd, dd, dd, dd, dd, dd, dd, dd, dd, dd, dd, dd, dd, dd, dd, dd, dd, dd, dd, dd, dd, dd, dd, dd, dd, dd, dd, dd, dd, dd, dd, dd, dd, dd, dd, dd, dd, dd, dd, dd, dd, dd, dd, dd, dd, dd, dd, dd, dd, dd, dd, dd, dd, dd, dd, dd, dd, dd, dd, dd, dd, dd, dd, dd, dd, dd, dd, dd, dd, dd, dd, dd, dd, dd, dd, dd, dd, dd, dd, dd, dd, dd, dd, dd, dd, dd, dd, dd, dd, dd, dd, dd, dd, dd, dd, dd, dd, dd, dd, dd, dd, dd, dd, dd, dd, dd], [.box [.d (.sl (v_who1.map eS_label_Label))], .box [.d (.sl (v_what2.map eS_label_Label))]]⟩
def G_ringlaw5_LabelRuns_C2_hd (v_acts3 : (List S_label_Act)) (v_from4 : Int) (v_r93 : ((List Bool) × Int)) (v_r406 : ((List Int) × (List Int) × Int)) (v_z411 : Bool) (v_who1 : (List S_label_Label)) (v_what2 : (List S_label_Label))  : PS := ⟨[dd, dd, .d (.sl (v_acts3.map eS_label_Act)), .d (.v (.int .i64 v_from4)), .ref 0 0, .ref 1 0, dd, dd, dd, .d (.sl (v_r93.1.map eB)), .d (.v (.int .i64 v_r93.2)), .d (.sl (v_r406.1.map (eI .i64))), .d (.sl (v_r406.2.1.map (eI .i64))), .d (.v (.int .i64 v_r406.2.2)), .d (.v (.int .i64 0)), dd, dd, dd, dd, dd, dd, dd, dd, dd, dd, dd, dd, dd, dd, dd, dd, dd, dd, dd, dd, dd, dd, dd, dd, dd, dd, dd, dd, dd, dd, dd, dd, dd, dd, .d (.v (.bool v_z411)), dd, dd, dd, dd, dd, dd, dd, dd, dd, dd, dd, dd, dd, dd, dd, dd, dd, dd, dd, dd, dd, dd, dd, dd, dd, dd, dd, dd, dd, dd, dd, dd, dd, dd, dd, dd, dd, dd, dd, dd, dd, dd, dd, dd, dd, dd, dd, dd, dd, dd, dd, dd, dd, dd, dd, dd, dd, dd, dd, dd, dd, dd, dd, dd, dd, dd, dd, dd, dd, dd, dd, dd, dd, dd, dd, dd, dd, dd, dd, dd, dd, dd, dd, dd, dd, dd, dd, dd, dd, dd, dd, dd, dd, dd, dd, dd, dd, dd, dd, dd, dd, dd, dd, dd, dd, dd, dd, dd, dd, dd, dd, dd, dd, dd, dd, dd, dd, dd, dd, dd, dd, dd, dd, dd, dd, dd, dd, dd, dd, dd, dd, dd, dd, dd, dd, dd, dd, dd, dd, dd, dd, dd, dd, dd, dd, dd, dd, dd, dd, dd, dd, dd, dd, dd, dd, dd, dd, dd, dd, dd, dd, dd, dd, dd, dd, dd, dd], [.box [.d (.sl (v_who1.map eS_label_Label))], .box [.d (.sl (v_what2.map eS_label_Label))]]⟩
def G_ringlaw5_LabelRuns_C2 (n : Nat) (v_acts3 : (List S_label_Act)) (v_from4 : Int) (v_r93 : ((List Bool) × Int)) (v_r406 : ((List Int) × (List Int) × Int)) (v_z411 : Bool) (v_who1 : (List S_label_Label)) (v_what2 : (List S_label_Label)) : Option G_ringlaw5_LabelRuns_C2_R :=
  if v_z411 = true then
   some (.x0 2)
  else
   (G_slices_Concat_label_Label_label_Label_h n ([v_who1, v_what2])).bind fun (v_r476 : ((List S_label_Label))) =>
   (G_slices_ContainsFunc_label_Label_label_Label n v_r476 (fun (y0 : S_label_Label) => G_ringlaw5_LabelRuns_1 n y0)).bind fun (v_r477 : (Bool)) =>
   if v_r477 = true then
    some (.x0 1)
   else
    (G_slices_ContainsFunc_label_Act_label_Act n v_acts3 (fun (y0 : S_label_Act) => G_ringlaw5_LabelRuns_2 n y0 v_who1 v_what2)).bind fun (v_r479 : (Bool)) =>
    if v_r479 = true then
     some (.x0 4)
    else
     some (.x0 0)
theorem G_ringlaw5_LabelRuns_C2_ok {Fi : Ex → PS → Prop} (hF : KC 217 Fi) (ks : List Fr) (n : Nat) (v_acts3 : (List S_label_Act)) (v_from4 : Int) (v_r93 : ((List Bool) × Int)) (v_r406 : ((List Int) × (List Int) × Int)) (v_z411 : Bool) (v_who1 : (List S_label_Label)) (v_what2 : (List S_label_Label))  (o : G_ringlaw5_LabelRuns_C2_R) (h : G_ringlaw5_LabelRuns_C2 n v_acts3 v_from4 v_r93 v_r406 v_z411 v_who1 v_what2 = some o) (q : RunE Try.prog 217 Fi ks (G_ringlaw5_LabelRuns_C2_ex o) (G_ringlaw5_LabelRuns_C2_st v_acts3 v_from4 v_r93 v_r406 v_z411 v_who1 v_what2 o)) : RunE Try.prog 217 Fi (.s (cR (cL (cR (cR (cR (cR (bodyOf Try.f5))))))) :: ks) .normal (G_ringlaw5_LabelRuns_C2_hd v_acts3 v_from4 v_r93 v_r406 v_z411 v_who1 v_what2) := by
  unfold G_ringlaw5_LabelRuns_C2 at h
  by_cases h665 : v_z411 = true
  · rw [if_pos h665] at h
    cases h
    exact pkk_sound TTok mix hF 2 (hs := [.t true]) (ts := []) (s := [0, 1]) (l := [2, 3, 4, 5, 9, 10, 11, 12, 13, 14]) (by kernel_rfl) (by kernel_rfl) (.cons h665 .nil) q
  · rw [if_neg h665] at h
    obtain ⟨v_r476, h666, h⟩ := bind_some h
    obtain ⟨v_r477, h667, h⟩ := bind_some h
    by_cases h668 : v_r477 = true
    · rw [if_pos h668] at h
      cases h
      exact pkk_sound TTok mix hF 5 (hs := [.t false, .c, .c, .bd, .h [] [] [.row 59 2 (v_r476.map eS_label_Label)] (.srf 0), .c, .r (eB v_r477), .t true]) (ts := []) (s := [0, 1]) (l := [2, 3, 4, 5, 9, 10, 11, 12, 13, 14]) (by kernel_rfl) (by kernel_rfl) (.cons (vf h665) (.cons (G_slices_Concat_label_Label_label_Label_h_ok n ([v_who1, v_what2]) _ h666) (.cons (G_slices_ContainsFunc_label_Label_label_Label_ok n v_r476 (fun (y0 : S_label_Label) => G_ringlaw5_LabelRuns_1 n y0) 38 [] (fun y0 r h => G_ringlaw5_LabelRuns_1_ok n y0 r h) _ h667) (.cons h668 .nil)))) q
    · rw [if_neg h668] at h
      obtain ⟨v_r479, h669, h⟩ := bind_some h
      by_cases h670 : v_r479 = true
      · rw [if_pos h670] at h
        cases h
        exact pkk_sound TTok mix hF 8 (hs := [.t false, .c, .c, .bd, .h [] [] [.row 59 2 (v_r476.map eS_label_Label)] (.srf 0), .c, .r (eB v_r477), .t false, .c, .r (eB v_r479), .t true]) (ts := []) (s := [0, 1]) (l := [2, 3, 4, 5, 9, 10, 11, 12, 13, 14]) (by kernel_rfl) (by kernel_rfl) (.cons (vf h665) (.cons (G_slices_Concat_label_Label_label_Label_h_ok n ([v_who1, v_what2]) _ h666) (.cons (G_slices_ContainsFunc_label_Label_label_Label_ok n v_r476 (fun (y0 : S_label_Label) => G_ringlaw5_LabelRuns_1 n y0) 38 [] (fun y0 r h => G_ringlaw5_LabelRuns_1_ok n y0 r h) _ h667) (.cons (vf h668) (.cons (G_slices_ContainsFunc_label_Act_label_Act_ok n v_acts3 (fun (y0 : S_label_Act) => G_ringlaw5_LabelRuns_2 n y0 v_who1 v_what2) 41 [.iptr [.sl (v_who1.map eS_label_Label)] 0, .iptr [.sl (v_what2.map eS_label_Label)] 0] (fun y0 r h => G_ringlaw5_LabelRuns_2_ok n y0 v_who1 v_what2 r h) _ h669) (.cons h670 .nil)))))) q
      · rw [if_neg h670] at h
        cases h
        exact pkk_sound TTok mix hF 8 (hs := [.t false, .c, .c, .bd, .h [] [] [.row 59 2 (v_r476.map eS_label_Label)] (.srf 0), .c, .r (eB v_r477), .t false, .c, .r (eB v_r479), .t false]) (ts := []) (s := [0, 1]) (l := [2, 3, 4, 5, 9, 10, 11, 12, 13, 14]) (by kernel_rfl) (by kernel_rfl) (.cons (vf h665) (.cons (G_slices_Concat_label_Label_label_Label_h_ok n ([v_who1, v_what2]) _ h666) (.cons (G_slices_ContainsFunc_label_Label_label_Label_ok n v_r476 (fun (y0 : S_label_Label) => G_ringlaw5_LabelRuns_1 n y0) 38 [] (fun y0 r h => G_ringlaw5_LabelRuns_1_ok n y0 r h) _ h667) (.cons (vf h668) (.cons (G_slices_ContainsFunc_label_Act_label_Act_ok n v_acts3 (fun (y0 : S_label_Act) => G_ringlaw5_LabelRuns_2 n y0 v_who1 v_what2) 41 [.iptr [.sl (v_who1.map eS_label_Label)] 0, .iptr [.sl (v_what2.map eS_label_Label)] 0] (fun y0 r h => G_ringlaw5_LabelRuns_2_ok n y0 v_who1 v_what2 r h) _ h669) (.cons (vf h670) .nil)))))) q
inductive G_ringlaw5_LabelRuns_C3_R where
  | x0 (v_x489 : Bool)
def G_ringlaw5_LabelRuns_C3_ex : G_ringlaw5_LabelRuns_C3_R → Ex
  | .x0 _ => .normal
def G_ringlaw5_LabelRuns_C3_st (v_r93 : ((List Bool) × Int)) (v_r406 : ((List Int) × (List Int) × Int)) (v_z483 : Int) : G_ringlaw5_LabelRuns_C3_R → PS
  | .x0 v_x489 => ⟨[dd, dd, dd, dd, dd, dd, dd, dd, .d (.v (.bool v_x489)), dd, dd, dd, dd, dd, dd, dd, dd, dd, dd, dd, dd, dd, dd, dd, dd, dd, dd, dd, dd, dd, dd, dd, dd, dd, dd, dd, dd, dd, dd, dd, dd, dd, dd, dd, dd, dd, dd, dd, dd, dd, dd, dd, dd, dd, dd, dd, dd, dd, dd, dd, dd, dd, dd, dd, dd, dd, dd, dd, dd, dd, dd, dd, dd, dd, dd, dd, dd, dd, dd, dd, dd, dd, dd, dd, dd, dd, dd, dd, dd, dd, dd, dd, dd, dd, dd, dd, dd, dd, dd, dd, dd, dd, dd, dd, dd, dd, dd, dd, dd, dd, dd, dd, dd, dd, dd, dd, dd, dd, dd, dd, dd, dd, dd, dd, dd, dd, dd, dd, dd, dd, dd, dd, dd, dd, dd, dd, dd, dd, dd, dd, dd, dd, dd, dd, dd, dd, dd, dd, dd, dd, dd, dd, dd, dd, dd, dd, dd, dd, dd, dd, dd, dd, dd, dd, dd, dd, dd, dd, dd, dd, dd, dd, dd, dd, dd, dd, dd, dd, dd, dd, dd, dd, dd, dd, dd, dd, dd, dd, dd, dd, dd, dd, dd, dd, dd, dd, dd, dd, dd, dd, dd, dd, dd, dd, dd, dd, dd, dd, dd, dd, dd, dd, dd, dd, dd, dd, dd], []⟩
def G_ringlaw5_LabelRuns_C3_hd (v_r93 : ((List Bool) × Int)) (v_r406 : ((List Int) × (List Int) × Int)) (v_z483 : Int)  : PS := ⟨[dd, dd, dd, dd, dd, dd, dd, dd, dd, .d (.sl (v_r93.1.map eB)), .d (.v (.int .i64 v_r93.2)), .d (.sl (v_r406.1.map (eI .i64))), .d (.sl (v_r406.2.1.map (eI .i64))), .d (.v (.int .i64 v_r406.2.2)), .d (.v (.int .i64 v_z483)), dd, dd, dd, dd, dd, dd, dd, dd, dd, dd, dd, dd, dd, dd, dd, dd, dd, dd, dd, dd, dd, dd, dd, dd, dd, dd, dd, dd, dd, dd, dd, dd, dd, dd, dd, dd, dd, dd, dd, dd, dd, dd, dd, dd, dd, dd, dd, dd, dd, dd, dd, dd, dd, dd, dd, dd, dd, dd, dd, dd, dd, dd, dd, dd, dd, dd, dd, dd, dd, dd, dd, dd, dd, dd, dd, dd, dd, dd, dd, dd, dd, dd, dd, dd, dd, dd, dd, dd, dd, dd, dd, dd, dd, dd, dd, dd, dd, dd, dd, dd, dd, dd, dd, dd, dd, dd, dd, dd, dd, dd, dd, dd, dd, dd, dd, dd, dd, dd, dd, dd, dd, dd, dd, dd, dd, dd, dd, dd, dd, dd, dd, dd, dd, dd, dd, dd, dd, dd, dd, dd, dd, dd, dd, dd, dd, dd, dd, dd, dd, dd, dd, dd, dd, dd, dd, dd, dd, dd, dd, dd, dd, dd, dd, dd, dd, dd, dd, dd, dd, dd, dd, dd, dd, dd, dd, dd, dd, dd, dd, dd, dd, dd, dd, dd, dd, dd, dd, dd, dd, dd, dd, dd, dd, dd, dd, dd, dd, dd, dd, dd, dd, dd], []⟩
def G_ringlaw5_LabelRuns_C3 (n : Nat) (v_r93 : ((List Bool) × Int)) (v_r406 : ((List Int) × (List Int) × Int)) (v_z483 : Int) : Option G_ringlaw5_LabelRuns_C3_R :=
  if v_r93.2 = v_z483 then
   if v_r406.2.2 = v_z483 then
    some (.x0 ((wi .i64 ((wi .i64 ((v_r93.1.length : Int) + (v_r406.1.length : Int))) + (v_r406.2.1.length : Int))) == 0))
   else
    some (.x0 false)
  else
   some (.x0 false)
theorem G_ringlaw5_LabelRuns_C3_ok {Fi : Ex → PS → Prop} (hF : KC 217 Fi) (ks : List Fr) (n : Nat) (v_r93 : ((List Bool) × Int)) (v_r406 : ((List Int) × (List Int) × Int)) (v_z483 : Int)  (o : G_ringlaw5_LabelRuns_C3_R) (h : G_ringlaw5_LabelRuns_C3 n v_r93 v_r406 v_z483 = some o) (q : RunE Try.prog 217 Fi ks (G_ringlaw5_LabelRuns_C3_ex o) (G_ringlaw5_LabelRuns_C3_st v_r93 v_r406 v_z483 o)) : RunE Try.prog 217 Fi (.s (cL (cT (cR (cL (cR (cR (cR (cR (cR (bodyOf Try.f5)))))))))) :: ks) .normal (G_ringlaw5_LabelRuns_C3_hd v_r93 v_r406 v_z483) := by
  unfold G_ringlaw5_LabelRuns_C3 at h
  by_cases h681 : v_r93.2 = v_z483
  · rw [if_pos h681] at h
    by_cases h682 : v_r406.2.2 = v_z483
    · rw [if_pos h682] at h
      cases h
      exact pkk_sound TTok mix hF 1 (hs := [.t true, .c, .c, .t true, .c, .u (.d (.v (.int .i64 (v_r93.1.length : Int)))), .c, .c, .u (.d (.v (.int .i64 (v_r406.1.length : Int)))), .c, .c, .c, .u (.d (.v (.int .i64 (v_r406.2.1.length : Int)))), .c, .c]) (ts := []) (s := []) (l := [8]) (by kernel_rfl) (by kernel_rfl) (.cons (bt h681) (.cons (bt h682) (.cons (len_ob (f := eB) (l := v_r93.1)) (.cons (len_ob (f := (eI .i64)) (l := v_r406.1)) (.cons (len_ob (f := (eI .i64)) (l := v_r406.2.1)) .nil))))) q
    · rw [if_neg h682] at h
      cases h
      exact pkk_sound TTok mix hF 1 (hs := [.t true, .c, .c, .t false, .c, .c, .c, .c, .c, .c, .c, .c]) (ts := []) (s := []) (l := [8]) (by kernel_rfl) (by kernel_rfl) (.cons (bt h681) (.cons (bf h682) .nil)) q
  · rw [if_neg h681] at h
    cases h
    exact pkk_sound TTok mix hF 1 (hs := [.t false, .c, .c, .c, .c, .c, .c, .c, .c, .c, .c, .c]) (ts := []) (s := []) (l := [8]) (by kernel_rfl) (by kernel_rfl) (.cons (bf h681) .nil) q
inductive G_ringlaw5_LabelRuns_C4_R where
  | x0 (v_x494 : Bool)
def G_ringlaw5_LabelRuns_C4_ex : G_ringlaw5_LabelRuns_C4_R → Ex
  | .x0 _ => .normal
def G_ringlaw5_LabelRuns_C4_st (v_acts3 : (List S_label_Act)) (v_from4 : Int) (v_r93 : ((List Bool) × Int)) (v_r406 : ((List Int) × (List Int) × Int)) (v_who1 : (List S_label_Label)) (v_what2 : (List S_label_Label)) : G_ringlaw5_LabelRuns_C4_R → PS
  | .x0 v_x494 => ⟨[dd, dd, .d (.sl (v_acts3.map eS_label_Act)), .d (.v (.int .i64 v_from4)), .ref 0 0, .ref 1 0, dd, dd, dd, .d (.sl (v_r93.1.map eB)), dd, .d (.sl (v_r406.1.map (eI .i64))), .d (.sl (v_r406.2.1.map (eI .i64))), .d (.v (.int .i64 v_r406.2.2)), dd, dd, dd, dd, dd, dd, dd, dd, dd, dd, dd, dd, dd, dd, dd, dd, dd, dd, dd, dd, dd, dd, dd, dd, dd, dd, dd, dd, dd, dd, dd, dd, dd, dd, dd, dd, dd, dd, dd, dd, dd, dd, dd, dd, dd, dd, dd, dd, dd, dd, dd, dd, dd, dd, dd, dd, dd, dd, dd, dd, dd, dd, dd, dd, dd, dd, dd, dd, dd, dd, dd, dd, dd, .d (.v (.bool v_x494)), dd, dd, dd, dd, dd, dd, dd, dd, dd, dd, dd, dd, dd, dd, dd, dd, dd, dd, dd, dd, dd, dd, dd, dd, dd, dd, dd, dd, dd, dd, dd, dd, dd, dd, dd, dd, dd, dd, dd, dd, dd, dd, dd, dd, dd, dd, dd, dd, dd, dd, dd, dd, dd, dd, dd, dd, dd, dd, dd, dd, dd, dd, dd, dd, dd, dd, dd, dd, dd, dd, dd, dd, dd, dd, dd, dd, dd, dd, dd, dd, dd, dd, dd, dd, dd, dd, dd, dd, dd, dd, dd, dd, dd, dd, dd, dd, dd, dd, dd, dd, dd, dd, dd, dd, dd, dd, dd, dd, dd, dd, dd, dd, dd, dd, dd, dd, dd, dd, dd, dd, dd, dd, dd, dd, dd, dd, dd, dd, dd], [.box [.d (.sl (v_who1.map eS_label_Label))], .box [.d (.sl (v_what2.map eS_label_Label))]]⟩
def G_ringlaw5_LabelRuns_C4_hd (v_acts3 : (List S_label_Act)) (v_from4 : Int) (v_r93 : ((List Bool) × Int)) (v_r406 : ((List Int) × (List Int) × Int)) (v_who1 : (List S_label_Label)) (v_what2 : (List S_label_Label))  : PS := ⟨[dd, dd, .d (.sl (v_acts3.map eS_label_Act)), .d (.v (.int .i64 v_from4)), .ref 0 0, .ref 1 0, dd, dd, dd, .d (.sl (v_r93.1.map eB)), .d (.v (.int .i64 v_r93.2)), .d (.sl (v_r406.1.map (eI .i64))), .d (.sl (v_r406.2.1.map (eI .i64))), .d (.v (.int .i64 v_r406.2.2)), dd, dd, dd, dd, dd, dd, dd, dd, dd, dd, dd, dd, dd, dd, dd, dd, dd, dd, dd, dd, dd, dd, dd, dd, dd, dd, dd, dd, dd, dd, dd, dd, dd, dd, dd, dd, dd, dd, dd, dd, dd, dd, dd, dd, dd, dd, dd, dd, dd, dd, dd, dd, dd, dd, dd, dd, dd, dd, dd, dd, dd, dd, dd, dd, dd, dd, dd, dd, dd, dd, dd, dd, dd, dd, dd, dd, dd, dd, dd, dd, dd, dd, dd, dd, dd, dd, dd, dd, dd, dd, dd, dd, dd, dd, dd, dd, dd, dd, dd, dd, dd, dd, dd, dd, dd, dd, dd, dd, dd, dd, dd, dd, dd, dd, dd, dd, dd, dd, dd, dd, dd, dd, dd, dd, dd, dd, dd, dd, dd, dd, dd, dd, dd, dd, dd, dd, dd, dd, dd, dd, dd, dd, dd, dd, dd, dd, dd, dd, dd, dd, dd, dd, dd, dd, dd, dd, dd, dd, dd, dd, dd, dd, dd, dd, dd, dd, dd, dd, dd, dd, dd, dd, dd, dd, dd, dd, dd, dd, dd, dd, dd, dd, dd, dd, dd, dd, dd, dd, dd, dd, dd, dd, dd, dd, dd, dd, dd, dd, dd, dd, dd, dd, dd], [.box [.d (.sl (v_who1.map eS_label_Label))], .box [.d (.sl (v_what2.map eS_label_Label))]]⟩
def G_ringlaw5_LabelRuns_C4 (n : Nat) (v_acts3 : (List S_label_Act)) (v_from4 : Int) (v_r93 : ((List Bool) × Int)) (v_r406 : ((List Int) × (List Int) × Int)) (v_who1 : (List S_label_Label)) (v_what2 : (List S_label_Label)) : Option G_ringlaw5_LabelRuns_C4_R :=
  if v_r93.2 = 0 then
   some (.x0 ((v_r93.1.length : Int) != (v_acts3.length : Int)))
  else
   some (.x0 true)
theorem G_ringlaw5_LabelRuns_C4_ok {Fi : Ex → PS → Prop} (hF : KC 217 Fi) (ks : List Fr) (n : Nat) (v_acts3 : (List S_label_Act)) (v_from4 : Int) (v_r93 : ((List Bool) × Int)) (v_r406 : ((List Int) × (List Int) × Int)) (v_who1 : (List S_label_Label)) (v_what2 : (List S_label_Label))  (o : G_ringlaw5_LabelRuns_C4_R) (h : G_ringlaw5_LabelRuns_C4 n v_acts3 v_from4 v_r93 v_r406 v_who1 v_what2 = some o) (q : RunE Try.prog 217 Fi ks (G_ringlaw5_LabelRuns_C4_ex o) (G_ringlaw5_LabelRuns_C4_st v_acts3 v_from4 v_r93 v_r406 v_who1 v_what2 o)) : RunE Try.prog 217 Fi (.s (cL (cL (cR (cR (cR (cR (cR (cR (bodyOf Try.f5))))))))) :: ks) .normal (G_ringlaw5_LabelRuns_C4_hd v_acts3 v_from4 v_r93 v_r406 v_who1 v_what2) := by
  unfold G_ringlaw5_LabelRuns_C4 at h
  by_cases h685 : v_r93.2 = 0
  · rw [if_pos h685] at h
    cases h
    exact pkk_sound TTok mix hF 1 (hs := [.t false, .c, .u (.d (.v (.int .i64 (v_r93.1.length : Int)))), .c, .c, .u (.d (.v (.int .i64 (v_acts3.length : Int)))), .c]) (ts := []) (s := [0, 1]) (l := [2, 3, 4, 5, 9, 11, 12, 13, 87]) (by kernel_rfl) (by kernel_rfl) (.cons (nf h685) (.cons (len_ob (f := eB) (l := v_r93.1)) (.cons (len_ob (f := eS_label_Act) (l := v_acts3)) .nil))) q
  · rw [if_neg h685] at h
    cases h
    exact pkk_sound TTok mix hF 1 (hs := [.t true, .c, .c, .c, .c]) (ts := []) (s := [0, 1]) (l := [2, 3, 4, 5, 9, 11, 12, 13, 87]) (by kernel_rfl) (by kernel_rfl) (.cons (nt h685) .nil) q
inductive G_ringlaw5_LabelRuns_C5_R where
  | x0 (v_x498 : Bool)
def G_ringlaw5_LabelRuns_C5_ex : G_ringlaw5_LabelRuns_C5_R → Ex
  | .x0 _ => .normal
def G_ringlaw5_LabelRuns_C5_st (v_acts3 : (List S_label_Act)) (v_from4 : Int) (v_r93 : ((List Bool) × Int)) (v_r406 : ((List Int) × (List Int) × Int)) (v_who1 : (List S_label_Label)) (v_what2 : (List S_label_Label)) : G_ringlaw5_LabelRuns_C5_R → PS
  | .x0 v_x498 => ⟨[dd, dd, .d (.sl (v_acts3.map eS_label_Act)), .d (.v (.int .i64 v_from4)), .ref 0 0, .ref 1 0, dd, dd, dd, .d (.sl (v_r93.1.map eB)), dd, .d (.sl (v_r406.1.map (eI .i64))), .d (.sl (v_r406.2.1.map (eI .i64))), .d (.v (.int .i64 v_r406.2.2)), dd, .d (vnil), .d (vnil), dd, dd, dd, dd, dd, dd, dd, dd, dd, dd, dd, dd, dd, dd, dd, dd, dd, dd, dd, dd, dd, dd, dd, dd, dd, dd, dd, dd, dd, dd, dd, dd, dd, dd, dd, dd, dd, dd, dd, dd, dd, dd, dd, dd, dd, dd, dd, dd, dd, dd, dd, dd, dd, dd, dd, dd, dd, dd, dd, dd, dd, dd, dd, dd, dd, dd, dd, dd, dd, dd, dd, dd, dd, dd, dd, dd, dd, dd, .d (.v (.bool v_x498)), dd, dd, dd, dd, dd, dd, dd, dd, dd, dd, dd, dd, dd, dd, dd, dd, dd, dd, dd, dd, dd, dd, dd, dd, dd, dd, dd, dd, dd, dd, dd, dd, dd, dd, dd, dd, dd, dd, dd, dd, dd, dd, dd, dd, dd, dd, dd, dd, dd, dd, dd, dd, dd, dd, dd, dd, dd, dd, dd, dd, dd, dd, dd, dd, dd, dd, dd, dd, dd, dd, dd, dd, dd, dd, dd, dd, dd, dd, dd, dd, dd, dd, dd, dd, dd, dd, dd, dd, dd, dd, dd, dd, dd, dd, dd, dd, dd, dd, dd, dd, dd, dd, dd, dd, dd, dd, dd, dd, dd, dd, dd, dd, dd, dd, dd, dd, dd, dd, dd, dd, dd], [.box [.d (.sl (v_who1.map eS_label_Label))], .box [.d (.sl (v_what2.map eS_label_Label))]]⟩
def G_ringlaw5_LabelRuns_C5_hd (v_acts3 : (List S_label_Act)) (v_from4 : Int) (v_r93 : ((List Bool) × Int)) (v_r406 : ((List Int) × (List Int) × Int)) (v_who1 : (List S_label_Label)) (v_what2 : (List S_label_Label))  : PS := ⟨[dd, dd, .d (.sl (v_acts3.map eS_label_Act)), .d (.v (.int .i64 v_from4)), .ref 0 0, .ref 1 0, dd, dd, dd, .d (.sl (v_r93.1.map eB)), dd, .d (.sl (v_r406.1.map (eI .i64))), .d (.sl (v_r406.2.1.map (eI .i64))), .d (.v (.int .i64 v_r406.2.2)), dd, .d (vnil), .d (vnil), dd, dd, dd, dd, dd, dd, dd, dd, dd, dd, dd, dd, dd, dd, dd, dd, dd, dd, dd, dd, dd, dd, dd, dd, dd, dd, dd, dd, dd, dd, dd, dd, dd, dd, dd, dd, dd, dd, dd, dd, dd, dd, dd, dd, dd, dd, dd, dd, dd, dd, dd, dd, dd, dd, dd, dd, dd, dd, dd, dd, dd, dd, dd, dd, dd, dd, dd, dd, dd, dd, dd, dd, dd, dd, dd, dd, dd, dd, dd, dd, dd, dd, dd, dd, dd, dd, dd, dd, dd, dd, dd, dd, dd, dd, dd, dd, dd, dd, dd, dd, dd, dd, dd, dd, dd, dd, dd, dd, dd, dd, dd, dd, dd, dd, dd, dd, dd, dd, dd, dd, dd, dd, dd, dd, dd, dd, dd, dd, dd, dd, dd, dd, dd, dd, dd, dd, dd, dd, dd, dd, dd, dd, dd, dd, dd, dd, dd, dd, dd, dd, dd, dd, dd, dd, dd, dd, dd, dd, dd, dd, dd, dd, dd, dd, dd, dd, dd, dd, dd, dd, dd, dd, dd, dd, dd, dd, dd, dd, dd, dd, dd, dd, dd, dd, dd, dd, dd, dd, dd, dd, dd, dd, dd, dd, dd, dd, dd, dd, dd, dd], [.box [.d (.sl (v_who1.map eS_label_Label))], .box [.d (.sl (v_what2.map eS_label_Label))]]⟩
def G_ringlaw5_LabelRuns_C5 (n : Nat) (v_acts3 : (List S_label_Act)) (v_from4 : Int) (v_r93 : ((List Bool) × Int)) (v_r406 : ((List Int) × (List Int) × Int)) (v_who1 : (List S_label_Label)) (v_what2 : (List S_label_Label)) : Option G_ringlaw5_LabelRuns_C5_R :=
  if v_from4 ≥ 0 then
   some (.x0 (decide (v_from4 < (v_what2.length : Int))))
  else
   some (.x0 false)
theorem G_ringlaw5_LabelRuns_C5_ok {Fi : Ex → PS → Prop} (hF : KC 217 Fi) (ks : List Fr) (n : Nat) (v_acts3 : (List S_label_Act)) (v_from4 : Int) (v_r93 : ((List Bool) × Int)) (v_r406 : ((List Int) × (List Int) × Int)) (v_who1 : (List S_label_Label)) (v_what2 : (List S_label_Label))  (o : G_ringlaw5_LabelRuns_C5_R) (h : G_ringlaw5_LabelRuns_C5 n v_acts3 v_from4 v_r93 v_r406 v_who1 v_what2 = some o) (q : RunE Try.prog 217 Fi ks (G_ringlaw5_LabelRuns_C5_ex o) (G_ringlaw5_LabelRuns_C5_st v_acts3 v_from4 v_r93 v_r406 v_who1 v_what2 o)) : RunE Try.prog 217 Fi (.s (cL (cL (cR (cR (cR (cR (cR (cR (cR (cR (bodyOf Try.f5))))))))))) :: ks) .normal (G_ringlaw5_LabelRuns_C5_hd v_acts3 v_from4 v_r93 v_r406 v_who1 v_what2) := by
  unfold G_ringlaw5_LabelRuns_C5 at h
  by_cases h689 : v_from4 ≥ 0
  · rw [if_pos h689] at h
    cases h
    exact pkk_sound TTok mix hF 1 (hs := [.t true, .c, .c, .c, .u (.d (.v (.int .i64 (v_what2.length : Int)))), .c]) (ts := []) (s := [0, 1]) (l := [2, 3, 4, 5, 9, 11, 12, 13, 15, 16, 95]) (by kernel_rfl) (by kernel_rfl) (.cons (dt h689) (.cons (len_ob (f := eS_label_Label) (l := v_what2)) .nil)) q
  · rw [if_neg h689] at h
    cases h
    exact pkk_sound TTok mix hF 1 (hs := [.t false, .c, .c, .c]) (ts := []) (s := [0, 1]) (l := [2, 3, 4, 5, 9, 11, 12, 13, 15, 16, 95]) (by kernel_rfl) (by kernel_rfl) (.cons (df h689) .nil) q
inductive G_ringlaw5_LabelRuns_C6_R where
  | x0 (v_w502 : (List Int))
  | x1 
def G_ringlaw5_LabelRuns_C6_ex : G_ringlaw5_LabelRuns_C6_R → Ex
  | .x0 _ => .normal
  | .x1  => .normal
def G_ringlaw5_LabelRuns_C6_st (v_acts3 : (List S_label_Act)) (v_from4 : Int) (v_r93 : ((List Bool) × Int)) (v_r406 : ((List Int) × (List Int) × Int)) (v_z501 : Bool) (v_who1 : (List S_label_Label)) (v_what2 : (List S_label_Label)) : G_ringlaw5_LabelRuns_C6_R → PS
  | .x0 v_w502 => ⟨[dd, dd, .d (.sl (v_acts3.map eS_label_Act)), dd, .ref 0 0, .ref 1 0, dd, dd, dd, .d (.sl (v_r93.1.map eB)), dd, .d (.sl (v_r406.1.map (eI .i64))), .d (.sl (v_r406.2.1.map (eI .i64))), .d (.v (.int .i64 v_r406.2.2)), dd, .d (vnil), .srf 2, dd, dd, dd, dd, dd, dd, dd, dd, dd, dd, dd, dd, dd, dd, dd, dd, dd, dd, dd, dd, dd, dd, dd, dd, dd, dd, dd, dd, dd, dd, dd, dd, dd, dd, dd, dd, dd, dd, dd, dd, dd, dd, dd, dd, dd, dd, dd, dd, dd, dd, dd, dd, dd, dd, dd, dd, dd, dd, dd, dd, dd, dd, dd, dd, dd, dd, dd, dd, dd, dd, dd, dd, dd, dd, dd, dd, dd, dd, dd, dd, dd, dd, dd, dd, dd, dd, dd, dd, dd, dd, dd, dd, dd, dd, dd, dd, dd, dd, dd, dd, dd, dd, dd, dd, dd, dd, dd, dd, dd, dd, dd, dd, dd, dd, dd, dd, dd, dd, dd, dd, dd, dd, dd, dd, dd, dd, dd, dd, dd, dd, dd, dd, dd, dd, dd, dd, dd, dd, dd, dd, dd, dd, dd, dd, dd, dd, dd, dd, dd, dd, dd, dd, dd, dd, dd, dd, dd, dd, dd, dd, dd, dd, dd, dd, dd, dd, dd, dd, dd, dd, dd, dd, dd, dd, dd, dd, dd, dd, dd, dd, dd, dd, dd, dd, dd, dd, dd, dd, dd, dd, dd, dd, dd, dd, dd, dd, dd, dd, dd, dd], [.box [.d (.sl (v_who1.map eS_label_Label))], .box [.d (.sl (v_what2.map eS_label_Label))], .row 3 1 (v_w502.map (eI .i64))]⟩
  | .x1  => ⟨[dd, dd, .d (.sl (v_acts3.map eS_label_Act)), dd, .ref 0 0, .ref 1 0, dd, dd, dd, .d (.sl (v_r93.1.map eB)), dd, .d (.sl (v_r406.1.map (eI .i64))), .d (.sl (v_r406.2.1.map (eI .i64))), .d (.v (.int .i64 v_r406.2.2)), dd, .d (vnil), .d (vnil), dd, dd, dd, dd, dd, dd, dd, dd, dd, dd, dd, dd, dd, dd, dd, dd, dd, dd, dd, dd, dd, dd, dd, dd, dd, dd, dd, dd, dd, dd, dd, dd, dd, dd, dd, dd, dd, dd, dd, dd, dd, dd, dd, dd, dd, dd, dd, dd, dd, dd, dd, dd, dd, dd, dd, dd, dd, dd, dd, dd, dd, dd, dd, dd, dd, dd, dd, dd, dd, dd, dd, dd, dd, dd, dd, dd, dd, dd, dd, dd, dd, dd, dd, dd, dd, dd, dd, dd, dd, dd, dd, dd, dd, dd, dd, dd, dd, dd, dd, dd, dd, dd, dd, dd, dd, dd, dd, dd, dd, dd, dd, dd, dd, dd, dd, dd, dd, dd, dd, dd, dd, dd, dd, dd, dd, dd, dd, dd, dd, dd, dd, dd, dd, dd, dd, dd, dd, dd, dd, dd, dd, dd, dd, dd, dd, dd, dd, dd, dd, dd, dd, dd, dd, dd, dd, dd, dd, dd, dd, dd, dd, dd, dd, dd, dd, dd, dd, dd, dd, dd, dd, dd, dd, dd, dd, dd, dd, dd, dd, dd, dd, dd, dd, dd, dd, dd, dd, dd, dd, dd, dd, dd, dd, dd, dd, dd, dd, dd, dd, dd], [.box [.d (.sl (v_who1.map eS_label_Label))], .box [.d (.sl (v_what2.map eS_label_Label))]]⟩
def G_ringlaw5_LabelRuns_C6_hd (v_acts3 : (List S_label_Act)) (v_from4 : Int) (v_r93 : ((List Bool) × Int)) (v_r406 : ((List Int) × (List Int) × Int)) (v_z501 : Bool) (v_who1 : (List S_label_Label)) (v_what2 : (List S_label_Label))  : PS := ⟨[dd, dd, .d (.sl (v_acts3.map eS_label_Act)), .d (.v (.int .i64 v_from4)), .ref 0 0, .ref 1 0, dd, dd, dd, .d (.sl (v_r93.1.map eB)), dd, .d (.sl (v_r406.1.map (eI .i64))), .d (.sl (v_r406.2.1.map (eI .i64))), .d (.v (.int .i64 v_r406.2.2)), dd, .d (vnil), .d (vnil), dd, dd, dd, dd, dd, dd, dd, dd, dd, dd, dd, dd, dd, dd, dd, dd, dd, dd, dd, dd, dd, dd, dd, dd, dd, dd, dd, dd, dd, dd, dd, dd, dd, dd, dd, dd, dd, dd, dd, dd, dd, dd, dd, dd, dd, dd, dd, dd, dd, dd, dd, dd, dd, dd, dd, dd, dd, dd, dd, dd, dd, dd, dd, dd, dd, dd, dd, dd, dd, dd, dd, dd, dd, dd, dd, dd, dd, dd, .d (.v (.bool v_z501)), dd, dd, dd, dd, dd, dd, dd, dd, dd, dd, dd, dd, dd, dd, dd, dd, dd, dd, dd, dd, dd, dd, dd, dd, dd, dd, dd, dd, dd, dd, dd, dd, dd, dd, dd, dd, dd, dd, dd, dd, dd, dd, dd, dd, dd, dd, dd, dd, dd, dd, dd, dd, dd, dd, dd, dd, dd, dd, dd, dd, dd, dd, dd, dd, dd, dd, dd, dd, dd, dd, dd, dd, dd, dd, dd, dd, dd, dd, dd, dd, dd, dd, dd, dd, dd, dd, dd, dd, dd, dd, dd, dd, dd, dd, dd, dd, dd, dd, dd, dd, dd, dd, dd, dd, dd, dd, dd, dd, dd, dd, dd, dd, dd, dd, dd, dd, dd, dd, dd, dd, dd], [.box [.d (.sl (v_who1.map eS_label_Label))], .box [.d (.sl (v_what2.map eS_label_Label))]]⟩
def G_ringlaw5_LabelRuns_C6 (n : Nat) (v_acts3 : (List S_label_Act)) (v_from4 : Int) (v_r93 : ((List Bool) × Int)) (v_r406 : ((List Int) × (List Int) × Int)) (v_z501 : Bool) (v_who1 : (List S_label_Label)) (v_what2 : (List S_label_Label)) : Option G_ringlaw5_LabelRuns_C6_R :=
  if v_z501 = true then
   some (.x0 ([v_from4]))
  else
   some (.x1 )

end Go.Proofs.Ytjjjaakefnnbpaa.pv
