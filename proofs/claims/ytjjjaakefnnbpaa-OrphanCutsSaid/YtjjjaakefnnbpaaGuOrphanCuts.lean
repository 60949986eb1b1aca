/- What the functions compute, as functions over plain data, with their contracts: written by gen.py. -/
import Derived.Test.YtjjjaakefnnbpaaProg
import Derived.Test.YtjjjaakefnnbpaaQr
import Derived.Test.YtjjjaakefnnbpaaSg
set_option maxRecDepth 100000
set_option linter.all false
namespace Go.Proofs.Ytjjjaakefnnbpaa.pv
open Go.RowKit
def TT : List TI := [
⟨1, 0, .oth, []⟩,
⟨1, 8, .oth, [.nf]⟩,
⟨1, 8, .int .i64, [.i .i64]⟩,
⟨1, 8, .int .i64, [.i .i64]⟩,
⟨1, 1, .bool, [.b]⟩,
⟨1, 1, .int .u8, [.i .u8]⟩,
⟨1, 1, .int .u8, [.i .u8]⟩,
⟨4, 24, .st [(0, 2), (1, 3), (2, 4), (3, 6)], [.i .i64, .i .i64, .b, .i .u8]⟩,
⟨4, 24, .st [(0, 2), (1, 3), (2, 4), (3, 6)], [.i .i64, .i .i64, .b, .i .u8]⟩,
⟨1, 16, .str, [.s]⟩,
⟨1, 16, .str, [.s]⟩,
⟨1, 16, .str, [.s]⟩,
⟨1, 8, .int .u64, [.i .u64]⟩,
⟨2, 24, .st [(0, 9), (1, 12)], [.s, .i .u64]⟩,
⟨2, 24, .st [(0, 9), (1, 12)], [.s, .i .u64]⟩,
⟨1, 8, .ptr 333, [.np]⟩,
⟨1, 8, .ptr 336, [.np]⟩,
⟨1, 8, .ptr 343, [.np]⟩,
⟨1, 8, .st [(0, 17)], [.np]⟩,
⟨1, 8, .st [(0, 17)], [.np]⟩,
⟨1, 16, .oth, [.ni]⟩,
⟨1, 4, .int .i32, [.i .i32]⟩,
⟨1, 24, .sl 3, [.sl]⟩,
⟨6, 64, .st [(0, 3), (1, 3), (2, 22), (3, 3), (4, 3), (5, 3)], [.i .i64, .i .i64, .sl, .i .i64, .i .i64, .i .i64]⟩,
⟨6, 64, .st [(0, 3), (1, 3), (2, 22), (3, 3), (4, 3), (5, 3)], [.i .i64, .i .i64, .sl, .i .i64, .i .i64, .i .i64]⟩,
⟨1, 8, .int .i64, [.i .i64]⟩,
⟨1, 0, .oth, []⟩,
⟨1, 8, .oth, [.nf]⟩,
⟨1, 0, .oth, []⟩,
⟨1, 8, .oth, [.nf]⟩,
⟨1, 8, .oth, [.nf]⟩,
⟨1, 8, .oth, [.nf]⟩,
⟨1, 8, .oth, [.nf]⟩,
⟨1, 8, .oth, [.nf]⟩,
⟨1, 8, .oth, [.nf]⟩,
⟨1, 8, .oth, [.nf]⟩,
⟨1, 8, .oth, [.nf]⟩,
⟨1, 8, .oth, [.nf]⟩,
⟨1, 24, .sl 211, [.sl]⟩,
⟨1, 8, .oth, [.nf]⟩,
⟨1, 0, .oth, []⟩,
⟨1, 8, .oth, [.nf]⟩,
⟨1, 8, .oth, [.nf]⟩,
⟨1, 24, .sl 47, [.sl]⟩,
⟨1, 8, .oth, [.nf]⟩,
⟨1, 8, .oth, [.nf]⟩,
⟨1, 8, .oth, [.nf]⟩,
⟨3, 24, .arr 3 3, [.i .i64, .i .i64, .i .i64]⟩,
⟨1, 8, .oth, [.nf]⟩,
⟨1, 8, .oth, [.nf]⟩,
⟨1, 24, .sl 59, [.sl]⟩,
⟨1, 24, .sl 65, [.sl]⟩,
⟨1, 24, .sl 4, [.sl]⟩,
⟨1, 0, .oth, []⟩,
⟨1, 8, .oth, [.nf]⟩,
⟨1, 0, .oth, []⟩,
⟨1, 8, .oth, [.nf]⟩,
⟨1, 8, .oth, [.nf]⟩,
⟨2, 16, .st [(0, 3), (1, 3)], [.i .i64, .i .i64]⟩,
⟨2, 16, .st [(0, 3), (1, 3)], [.i .i64, .i .i64]⟩,
⟨1, 8, .oth, [.nf]⟩,
⟨1, 8, .oth, [.nf]⟩,
⟨1, 8, .oth, [.nf]⟩,
⟨1, 8, .oth, [.nf]⟩,
⟨3, 24, .st [(0, 3), (1, 3), (2, 4)], [.i .i64, .i .i64, .b]⟩,
⟨3, 24, .st [(0, 3), (1, 3), (2, 4)], [.i .i64, .i .i64, .b]⟩,
⟨1, 8, .oth, [.nf]⟩,
⟨1, 8, .oth, [.nf]⟩,
⟨1, 8, .oth, [.nf]⟩,
⟨1, 8, .oth, [.nf]⟩,
⟨8, 80, .st [(0, 3), (1, 3), (2, 3), (3, 3), (4, 3), (5, 3), (6, 3), (7, 22)], [.i .i64, .i .i64, .i .i64, .i .i64, .i .i64, .i .i64, .i .i64, .sl]⟩,
⟨8, 80, .st [(0, 3), (1, 3), (2, 3), (3, 3), (4, 3), (5, 3), (6, 3), (7, 22)], [.i .i64, .i .i64, .i .i64, .i .i64, .i .i64, .i .i64, .i .i64, .sl]⟩,
⟨1, 24, .sl 71, [.sl]⟩,
⟨1, 24, .sl 83, [.sl]⟩,
⟨1, 8, .oth, [.nf]⟩,
⟨8, 80, .st [(0, 3), (1, 3), (2, 3), (3, 3), (4, 3), (5, 3), (6, 3), (7, 22)], [.i .i64, .i .i64, .i .i64, .i .i64, .i .i64, .i .i64, .i .i64, .sl]⟩,
⟨1, 8, .oth, [.nf]⟩,
⟨1, 0, .oth, []⟩,
⟨1, 8, .oth, [.nf]⟩,
⟨1, 8, .oth, [.nf]⟩,
⟨1, 0, .oth, []⟩,
⟨1, 8, .oth, [.nf]⟩,
⟨2, 24, .st [(0, 9), (1, 3)], [.s, .i .i64]⟩,
⟨2, 24, .st [(0, 9), (1, 3)], [.s, .i .i64]⟩,
⟨1, 8, .oth, [.nf]⟩,
⟨1, 8, .oth, [.nf]⟩,
⟨1, 8, .oth, [.nf]⟩,
⟨16, 128, .arr 16 3, List.replicate 16 (.i .i64)⟩,
⟨18, 144, .st [(0, 3), (1, 3), (2, 87)], List.replicate 18 (.i .i64)⟩,
⟨18, 144, .st [(0, 3), (1, 3), (2, 87)], List.replicate 18 (.i .i64)⟩,
⟨1, 0, .oth, []⟩,
⟨1, 8, .oth, [.nf]⟩,
⟨1, 8, .oth, [.nf]⟩,
⟨1, 8, .oth, [.nf]⟩,
⟨1, 0, .oth, []⟩,
⟨1, 8, .oth, [.nf]⟩,
⟨1, 8, .oth, [.nf]⟩,
⟨1, 8, .oth, [.nf]⟩,
⟨1, 8, .oth, [.nf]⟩,
⟨18, 176, .st [(0, 22), (1, 22), (2, 87)], (List.replicate 2 (.sl) ++ List.replicate 16 (.i .i64))⟩,
⟨18, 176, .st [(0, 22), (1, 22), (2, 87)], (List.replicate 2 (.sl) ++ List.replicate 16 (.i .i64))⟩,
⟨1, 8, .oth, [.nf]⟩,
⟨1, 8, .oth, [.nf]⟩,
⟨1, 8, .oth, [.nf]⟩,
⟨1, 8, .oth, [.nf]⟩,
⟨1, 8, .oth, [.nf]⟩,
⟨1, 24, .sl 229, [.sl]⟩,
⟨1, 24, .sl 5, [.sl]⟩,
⟨1, 8, .oth, [.nf]⟩,
⟨1, 0, .oth, []⟩,
⟨1, 8, .oth, [.nf]⟩,
⟨1, 0, .oth, []⟩,
⟨1, 8, .oth, [.nf]⟩,
⟨1, 0, .oth, []⟩,
⟨1, 8, .oth, [.nf]⟩,
⟨1, 8, .oth, [.nf]⟩,
⟨1, 24, .sl 121, [.sl]⟩,
⟨1, 8, .oth, [.nf]⟩,
⟨1, 8, .oth, [.nf]⟩,
⟨1, 8, .oth, [.nf]⟩,
⟨1, 8, .oth, [.nf]⟩,
⟨2, 16, .arr 2 3, [.i .i64, .i .i64]⟩,
⟨1, 8, .oth, [.nf]⟩,
⟨1, 8, .oth, [.nf]⟩,
⟨1, 8, .oth, [.nf]⟩,
⟨1, 8, .oth, [.nf]⟩,
⟨1, 8, .oth, [.nf]⟩,
⟨1, 0, .oth, []⟩,
⟨1, 8, .oth, [.nf]⟩,
⟨1, 0, .oth, []⟩,
⟨1, 8, .oth, [.nf]⟩,
⟨1, 8, .oth, [.nf]⟩,
⟨1, 8, .oth, [.nf]⟩,
⟨6, 48, .st [(0, 3), (1, 3), (2, 3), (3, 3), (4, 3), (5, 3)], [.i .i64, .i .i64, .i .i64, .i .i64, .i .i64, .i .i64]⟩,
⟨6, 48, .st [(0, 3), (1, 3), (2, 3), (3, 3), (4, 3), (5, 3)], [.i .i64, .i .i64, .i .i64, .i .i64, .i .i64, .i .i64]⟩,
⟨1, 8, .oth, [.nf]⟩,
⟨1, 8, .oth, [.nf]⟩,
⟨1, 8, .oth, [.nf]⟩,
⟨1, 8, .oth, [.nf]⟩,
⟨1, 24, .sl 233, [.sl]⟩,
⟨1, 24, .sl 155, [.sl]⟩,
⟨1, 8, .oth, [.nf]⟩,
⟨1, 8, .oth, [.nf]⟩,
⟨1, 0, .oth, []⟩,
⟨1, 8, .oth, [.nf]⟩,
⟨1, 0, .oth, []⟩,
⟨1, 8, .oth, [.nf]⟩,
⟨1, 8, .oth, [.nf]⟩,
⟨1, 8, .oth, [.nf]⟩,
⟨1, 8, .oth, [.nf]⟩,
⟨1, 8, .oth, [.nf]⟩,
⟨1, 8, .oth, [.nf]⟩,
⟨1, 8, .oth, [.nf]⟩,
⟨1, 8, .oth, [.nf]⟩,
⟨2, 16, .st [(0, 3), (1, 3)], [.i .i64, .i .i64]⟩,
⟨2, 16, .st [(0, 3), (1, 3)], [.i .i64, .i .i64]⟩,
⟨1, 8, .oth, [.nf]⟩,
⟨1, 8, .oth, [.nf]⟩,
⟨1, 8, .oth, [.nf]⟩,
⟨1, 24, .sl 166, [.sl]⟩,
⟨1, 8, .ptr 245, [.np]⟩,
⟨1, 8, .oth, [.nf]⟩,
⟨1, 24, .sl 180, [.sl]⟩,
⟨1, 24, .sl 180, [.sl]⟩,
⟨1, 8, .oth, [.nf]⟩,
⟨3, 24, .st [(0, 3), (1, 3), (2, 3)], [.i .i64, .i .i64, .i .i64]⟩,
⟨3, 24, .st [(0, 3), (1, 3), (2, 3)], [.i .i64, .i .i64, .i .i64]⟩,
⟨1, 8, .oth, [.nf]⟩,
⟨1, 8, .oth, [.nf]⟩,
⟨1, 8, .oth, [.nf]⟩,
⟨1, 0, .oth, []⟩,
⟨1, 8, .oth, [.nf]⟩,
⟨1, 8, .oth, [.nf]⟩,
⟨1, 8, .oth, [.nf]⟩,
⟨1, 0, .oth, []⟩,
⟨1, 8, .oth, [.nf]⟩,
⟨1, 0, .oth, []⟩,
⟨1, 8, .oth, [.nf]⟩,
⟨1, 8, .oth, [.nf]⟩,
⟨5, 40, .st [(0, 3), (1, 3), (2, 3), (3, 3), (4, 4)], [.i .i64, .i .i64, .i .i64, .i .i64, .b]⟩,
⟨5, 40, .st [(0, 3), (1, 3), (2, 3), (3, 3), (4, 4)], [.i .i64, .i .i64, .i .i64, .i .i64, .b]⟩,
⟨1, 8, .oth, [.nf]⟩,
⟨1, 8, .oth, [.nf]⟩,
⟨1, 8, .oth, [.nf]⟩,
⟨1, 8, .oth, [.nf]⟩,
⟨1, 24, .sl 202, [.sl]⟩,
⟨1, 8, .ptr 256, [.np]⟩,
⟨1, 8, .oth, [.nf]⟩,
⟨1, 8, .oth, [.nf]⟩,
⟨5, 40, .st [(0, 3), (1, 3), (2, 3), (3, 4), (4, 3)], [.i .i64, .i .i64, .i .i64, .b, .i .i64]⟩,
⟨5, 40, .st [(0, 3), (1, 3), (2, 3), (3, 4), (4, 3)], [.i .i64, .i .i64, .i .i64, .b, .i .i64]⟩,
⟨1, 24, .sl 190, [.sl]⟩,
⟨1, 0, .oth, []⟩,
⟨1, 8, .oth, [.nf]⟩,
⟨1, 8, .ptr 199, [.np]⟩,
⟨1, 24, .sl 200, [.sl]⟩,
⟨8, 64, .arr 8 3, [.i .i64, .i .i64, .i .i64, .i .i64, .i .i64, .i .i64, .i .i64, .i .i64]⟩,
⟨136, 1088, .arr 17 196, List.replicate 136 (.i .i64)⟩,
⟨137, 1112, .st [(0, 195), (1, 197)], (List.replicate 1 (.sl) ++ List.replicate 136 (.i .i64))⟩,
⟨137, 1112, .st [(0, 195), (1, 197)], (List.replicate 1 (.sl) ++ List.replicate 136 (.i .i64))⟩,
⟨5, 40, .st [(0, 3), (1, 3), (2, 3), (3, 4), (4, 3)], [.i .i64, .i .i64, .i .i64, .b, .i .i64]⟩,
⟨9, 72, .st [(0, 3), (1, 3), (2, 3), (3, 3), (4, 200)], [.i .i64, .i .i64, .i .i64, .i .i64, .i .i64, .i .i64, .i .i64, .b, .i .i64]⟩,
⟨9, 72, .st [(0, 3), (1, 3), (2, 3), (3, 3), (4, 200)], [.i .i64, .i .i64, .i .i64, .i .i64, .i .i64, .i .i64, .i .i64, .b, .i .i64]⟩,
⟨1, 8, .oth, [.nf]⟩,
⟨1, 8, .oth, [.nf]⟩,
⟨1, 8, .oth, [.nf]⟩,
⟨1, 8, .oth, [.nf]⟩,
⟨1, 8, .oth, [.nf]⟩,
⟨1, 8, .oth, [.nf]⟩,
⟨1, 8, .int .u64, [.i .u64]⟩,
⟨3, 24, .st [(0, 3), (1, 3), (2, 3)], [.i .i64, .i .i64, .i .i64]⟩,
⟨3, 24, .st [(0, 3), (1, 3), (2, 3)], [.i .i64, .i .i64, .i .i64]⟩,
⟨1, 0, .oth, []⟩,
⟨1, 8, .oth, [.nf]⟩,
⟨1, 8, .oth, [.nf]⟩,
⟨100, 100, .arr 100 4, List.replicate 100 (.b)⟩,
⟨1, 24, .sl 50, [.sl]⟩,
⟨1, 8, .oth, [.nf]⟩,
⟨6, 6, .arr 6 4, [.b, .b, .b, .b, .b, .b]⟩,
⟨1, 8, .oth, [.nf]⟩,
⟨1, 8, .oth, [.nf]⟩,
⟨1, 8, .oth, [.nf]⟩,
⟨1, 8, .oth, [.nf]⟩,
⟨1, 8, .oth, [.nf]⟩,
⟨1, 8, .oth, [.nf]⟩,
⟨1, 8, .oth, [.nf]⟩,
⟨1, 8, .oth, [.nf]⟩,
⟨1, 8, .oth, [.nf]⟩,
⟨2, 16, .st [(0, 3), (1, 3)], [.i .i64, .i .i64]⟩,
⟨2, 16, .st [(0, 3), (1, 3)], [.i .i64, .i .i64]⟩,
⟨1, 8, .oth, [.nf]⟩,
⟨1, 8, .oth, [.nf]⟩,
⟨1, 8, .oth, [.nf]⟩,
⟨2, 16, .st [(0, 3), (1, 3)], [.i .i64, .i .i64]⟩,
⟨1, 8, .oth, [.nf]⟩,
⟨1, 8, .oth, [.nf]⟩,
⟨1, 8, .oth, [.nf]⟩,
⟨1, 8, .oth, [.nf]⟩,
⟨1, 8, .oth, [.nm]⟩,
⟨1, 0, .oth, []⟩,
⟨1, 8, .oth, [.nf]⟩,
⟨4, 32, .st [(0, 3), (1, 3), (2, 3), (3, 3)], [.i .i64, .i .i64, .i .i64, .i .i64]⟩,
⟨4, 32, .st [(0, 3), (1, 3), (2, 3), (3, 3)], [.i .i64, .i .i64, .i .i64, .i .i64]⟩,
⟨68, 544, .arr 17 242, List.replicate 68 (.i .i64)⟩,
⟨68, 544, .st [(0, 243)], List.replicate 68 (.i .i64)⟩,
⟨68, 544, .st [(0, 243)], List.replicate 68 (.i .i64)⟩,
⟨1, 8, .oth, [.nf]⟩,
⟨1, 8, .oth, [.nf]⟩,
⟨1, 8, .oth, [.nf]⟩,
⟨1, 8, .oth, [.nf]⟩,
⟨1, 8, .oth, [.nf]⟩,
⟨1, 8, .oth, [.nf]⟩,
⟨6, 48, .st [(0, 190), (5, 3)], [.i .i64, .i .i64, .i .i64, .b, .i .i64, .i .i64]⟩,
⟨6, 48, .st [(0, 190), (5, 3)], [.i .i64, .i .i64, .i .i64, .b, .i .i64, .i .i64]⟩,
⟨192, 1536, .arr 32 253, (List.replicate 32 [.i .i64, .i .i64, .i .i64, .b, .i .i64, .i .i64]).flatten⟩,
⟨328, 2624, .st [(0, 254), (192, 197)], [.i .i64, .i .i64, .i .i64, .b, .i .i64, .i .i64, .i .i64, .i .i64, .i .i64, .b, .i .i64, .i .i64, .i .i64, .i .i64, .i .i64, .b, .i .i64, .i .i64, .i .i64, .i .i64, .i .i64, .b, .i .i64, .i .i64, .i .i64, .i .i64, .i .i64, .b, .i .i64, .i .i64, .i .i64, .i .i64, .i .i64, .b, .i .i64, .i .i64, .i .i64, .i .i64, .i .i64, .b, .i .i64, .i .i64, .i .i64, .i .i64, .i .i64, .b, .i .i64, .i .i64, .i .i64, .i .i64, .i .i64, .b, .i .i64, .i .i64, .i .i64, .i .i64, .i .i64, .b, .i .i64, .i .i64, .i .i64, .i .i64, .i .i64, .b, .i .i64, .i .i64, .i .i64, .i .i64, .i .i64, .b, .i .i64, .i .i64, .i .i64, .i .i64, .i .i64, .b, .i .i64, .i .i64, .i .i64, .i .i64, .i .i64, .b, .i .i64, .i .i64, .i .i64, .i .i64, .i .i64, .b, .i .i64, .i .i64, .i .i64, .i .i64, .i .i64, .b, .i .i64, .i .i64, .i .i64, .i .i64, .i .i64, .b, .i .i64, .i .i64, .i .i64, .i .i64, .i .i64, .b, .i .i64, .i .i64, .i .i64, .i .i64, .i .i64, .b, .i .i64, .i .i64, .i .i64, .i .i64, .i .i64, .b, .i .i64, .i .i64, .i .i64, .i .i64, .i .i64, .b, .i .i64, .i .i64, .i .i64, .i .i64, .i .i64, .b, .i .i64, .i .i64, .i .i64, .i .i64, .i .i64, .b, .i .i64, .i .i64, .i .i64, .i .i64, .i .i64, .b, .i .i64, .i .i64, .i .i64, .i .i64, .i .i64, .b, .i .i64, .i .i64, .i .i64, .i .i64, .i .i64, .b, .i .i64, .i .i64, .i .i64, .i .i64, .i .i64, .b, .i .i64, .i .i64, .i .i64, .i .i64, .i .i64, .b, .i .i64, .i .i64, .i .i64, .i .i64, .i .i64, .b, .i .i64, .i .i64, .i .i64, .i .i64, .i .i64, .b, .i .i64, .i .i64, .i .i64, .i .i64, .i .i64, .b, .i .i64, .i .i64, .i .i64, .i .i64, .i .i64, .b, .i .i64, .i .i64, .i .i64, .i .i64, .i .i64, .i .i64, .i .i64, .i .i64, .i .i64, .i .i64, .i .i64, .i .i64, .i .i64, .i .i64, .i .i64, .i .i64, .i .i64, .i .i64, .i .i64, .i .i64, .i .i64, .i .i64, .i .i64, .i .i64, .i .i64, .i .i64, .i .i64, .i .i64, .i .i64, .i .i64, .i .i64, .i .i64, .i .i64, .i .i64, .i .i64, .i .i64, .i .i64, .i .i64, .i .i64, .i .i64, .i .i64, .i .i64, .i .i64, .i .i64, .i .i64, .i .i64, .i .i64, .i .i64, .i .i64, .i .i64, .i .i64, .i .i64, .i .i64, .i .i64, .i .i64, .i .i64, .i .i64, .i .i64, .i .i64, .i .i64, .i .i64, .i .i64, .i .i64, .i .i64, .i .i64, .i .i64, .i .i64, .i .i64, .i .i64, .i .i64, .i .i64, .i .i64, .i .i64, .i .i64, .i .i64, .i .i64, .i .i64, .i .i64, .i .i64, .i .i64, .i .i64, .i .i64, .i .i64, .i .i64, .i .i64, .i .i64, .i .i64, .i .i64, .i .i64, .i .i64, .i .i64, .i .i64, .i .i64, .i .i64, .i .i64, .i .i64, .i .i64, .i .i64, .i .i64, .i .i64, .i .i64, .i .i64, .i .i64, .i .i64, .i .i64, .i .i64, .i .i64, .i .i64, .i .i64, .i .i64, .i .i64, .i .i64, .i .i64, .i .i64, .i .i64, .i .i64, .i .i64, .i .i64, .i .i64, .i .i64, .i .i64, .i .i64, .i .i64, .i .i64, .i .i64, .i .i64, .i .i64, .i .i64, .i .i64, .i .i64, .i .i64, .i .i64, .i .i64, .i .i64, .i .i64, .i .i64, .i .i64, .i .i64]⟩,
⟨328, 2624, .st [(0, 254), (192, 197)], [.i .i64, .i .i64, .i .i64, .b, .i .i64, .i .i64, .i .i64, .i .i64, .i .i64, .b, .i .i64, .i .i64, .i .i64, .i .i64, .i .i64, .b, .i .i64, .i .i64, .i .i64, .i .i64, .i .i64, .b, .i .i64, .i .i64, .i .i64, .i .i64, .i .i64, .b, .i .i64, .i .i64, .i .i64, .i .i64, .i .i64, .b, .i .i64, .i .i64, .i .i64, .i .i64, .i .i64, .b, .i .i64, .i .i64, .i .i64, .i .i64, .i .i64, .b, .i .i64, .i .i64, .i .i64, .i .i64, .i .i64, .b, .i .i64, .i .i64, .i .i64, .i .i64, .i .i64, .b, .i .i64, .i .i64, .i .i64, .i .i64, .i .i64, .b, .i .i64, .i .i64, .i .i64, .i .i64, .i .i64, .b, .i .i64, .i .i64, .i .i64, .i .i64, .i .i64, .b, .i .i64, .i .i64, .i .i64, .i .i64, .i .i64, .b, .i .i64, .i .i64, .i .i64, .i .i64, .i .i64, .b, .i .i64, .i .i64, .i .i64, .i .i64, .i .i64, .b, .i .i64, .i .i64, .i .i64, .i .i64, .i .i64, .b, .i .i64, .i .i64, .i .i64, .i .i64, .i .i64, .b, .i .i64, .i .i64, .i .i64, .i .i64, .i .i64, .b, .i .i64, .i .i64, .i .i64, .i .i64, .i .i64, .b, .i .i64, .i .i64, .i .i64, .i .i64, .i .i64, .b, .i .i64, .i .i64, .i .i64, .i .i64, .i .i64, .b, .i .i64, .i .i64, .i .i64, .i .i64, .i .i64, .b, .i .i64, .i .i64, .i .i64, .i .i64, .i .i64, .b, .i .i64, .i .i64, .i .i64, .i .i64, .i .i64, .b, .i .i64, .i .i64, .i .i64, .i .i64, .i .i64, .b, .i .i64, .i .i64, .i .i64, .i .i64, .i .i64, .b, .i .i64, .i .i64, .i .i64, .i .i64, .i .i64, .b, .i .i64, .i .i64, .i .i64, .i .i64, .i .i64, .b, .i .i64, .i .i64, .i .i64, .i .i64, .i .i64, .b, .i .i64, .i .i64, .i .i64, .i .i64, .i .i64, .b, .i .i64, .i .i64, .i .i64, .i .i64, .i .i64, .b, .i .i64, .i .i64, .i .i64, .i .i64, .i .i64, .i .i64, .i .i64, .i .i64, .i .i64, .i .i64, .i .i64, .i .i64, .i .i64, .i .i64, .i .i64, .i .i64, .i .i64, .i .i64, .i .i64, .i .i64, .i .i64, .i .i64, .i .i64, .i .i64, .i .i64, .i .i64, .i .i64, .i .i64, .i .i64, .i .i64, .i .i64, .i .i64, .i .i64, .i .i64, .i .i64, .i .i64, .i .i64, .i .i64, .i .i64, .i .i64, .i .i64, .i .i64, .i .i64, .i .i64, .i .i64, .i .i64, .i .i64, .i .i64, .i .i64, .i .i64, .i .i64, .i .i64, .i .i64, .i .i64, .i .i64, .i .i64, .i .i64, .i .i64, .i .i64, .i .i64, .i .i64, .i .i64, .i .i64, .i .i64, .i .i64, .i .i64, .i .i64, .i .i64, .i .i64, .i .i64, .i .i64, .i .i64, .i .i64, .i .i64, .i .i64, .i .i64, .i .i64, .i .i64, .i .i64, .i .i64, .i .i64, .i .i64, .i .i64, .i .i64, .i .i64, .i .i64, .i .i64, .i .i64, .i .i64, .i .i64, .i .i64, .i .i64, .i .i64, .i .i64, .i .i64, .i .i64, .i .i64, .i .i64, .i .i64, .i .i64, .i .i64, .i .i64, .i .i64, .i .i64, .i .i64, .i .i64, .i .i64, .i .i64, .i .i64, .i .i64, .i .i64, .i .i64, .i .i64, .i .i64, .i .i64, .i .i64, .i .i64, .i .i64, .i .i64, .i .i64, .i .i64, .i .i64, .i .i64, .i .i64, .i .i64, .i .i64, .i .i64, .i .i64, .i .i64, .i .i64, .i .i64, .i .i64, .i .i64, .i .i64, .i .i64, .i .i64, .i .i64, .i .i64]⟩,
⟨1, 0, .oth, []⟩,
⟨1, 8, .oth, [.nf]⟩,
⟨1, 8, .oth, [.nf]⟩,
⟨1, 8, .oth, [.nf]⟩,
⟨1, 0, .oth, []⟩,
⟨1, 8, .oth, [.nf]⟩,
⟨1, 8, .ptr 200, [.np]⟩,
⟨1, 8, .oth, [.nf]⟩,
⟨1, 8, .oth, [.nf]⟩,
⟨1, 0, .oth, []⟩,
⟨1, 8, .oth, [.nf]⟩,
⟨1, 8, .oth, [.nf]⟩,
⟨1, 8, .oth, [.nf]⟩,
⟨1, 8, .int .i64, [.i .i64]⟩,
⟨1, 0, .oth, []⟩,
⟨1, 8, .oth, [.nf]⟩,
⟨1, 8, .oth, [.nf]⟩,
⟨1, 8, .oth, [.nf]⟩,
⟨1, 8, .oth, [.nf]⟩,
⟨1, 8, .oth, [.nf]⟩,
⟨1, 8, .oth, [.nf]⟩,
⟨1, 4, .int .u32, [.i .u32]⟩,
⟨1, 8, .oth, [.nf]⟩,
⟨1, 8, .int .u64, [.i .u64]⟩,
⟨1, 8, .oth, [.nf]⟩,
⟨1, 8, .oth, [.nf]⟩,
⟨1, 0, .oth, []⟩,
⟨1, 8, .oth, [.nf]⟩,
⟨1, 8, .oth, [.nf]⟩,
⟨1, 8, .ptr 288, [.np]⟩,
⟨2, 32, .st [(0, 286), (1, 107)], [.np, .sl]⟩,
⟨2, 32, .st [(0, 286), (1, 107)], [.np, .sl]⟩,
⟨1, 8, .oth, [.nf]⟩,
⟨1, 16, .oth, [.ni]⟩,
⟨1, 16, .oth, [.ni]⟩,
⟨1, 0, .oth, []⟩,
⟨1, 8, .oth, [.nf]⟩,
⟨1, 8, .oth, [.nf]⟩,
⟨1, 8, .oth, [.nf]⟩,
⟨1, 8, .oth, [.nf]⟩,
⟨1, 8, .oth, [.nf]⟩,
⟨1, 8, .oth, [.nf]⟩,
⟨1, 8, .ptr 253, [.np]⟩,
⟨1, 0, .oth, []⟩,
⟨1, 8, .oth, [.nf]⟩,
⟨1, 8, .oth, [.nf]⟩,
⟨1, 8, .oth, [.nf]⟩,
⟨1, 8, .oth, [.nf]⟩,
⟨1, 8, .oth, [.nf]⟩,
⟨1, 8, .int .u64, [.i .u64]⟩,
⟨1, 8, .oth, [.nf]⟩,
⟨1, 8, .oth, [.nf]⟩,
⟨1, 8, .oth, [.nf]⟩,
⟨1, 8, .ptr 3, [.np]⟩,
⟨1, 8, .oth, [.nf]⟩,
⟨1, 0, .oth, []⟩,
⟨1, 8, .oth, [.nf]⟩,
⟨1, 0, .oth, []⟩,
⟨1, 8, .oth, [.nf]⟩,
⟨1, 8, .ptr 5, [.np]⟩,
⟨1, 8, .oth, [.nf]⟩,
⟨1, 8, .oth, [.nf]⟩,
⟨1, 8, .oth, [.nf]⟩,
⟨1, 8, .oth, [.nf]⟩,
⟨1, 8, .oth, [.nf]⟩,
⟨1, 8, .ptr 306, [.np]⟩,
⟨1, 0, .oth, []⟩,
⟨1, 8, .oth, [.nf]⟩,
⟨1, 8, .oth, [.np]⟩,
⟨1, 8, .oth, [.nf]⟩,
⟨1, 8, .oth, [.nf]⟩,
⟨1, 8, .oth, [.nf]⟩,
⟨1, 8, .oth, [.nf]⟩,
⟨1, 8, .oth, [.nf]⟩,
⟨1, 8, .oth, [.nf]⟩,
⟨4, 40, .st [(0, 17), (1, 17), (2, 17), (3, 9)], [.np, .np, .np, .s]⟩,
⟨4, 40, .st [(0, 17), (1, 17), (2, 17), (3, 9)], [.np, .np, .np, .s]⟩,
⟨0, 0, .arr 0 16, []⟩,
⟨0, 0, .st [(0, 334)], []⟩,
⟨0, 0, .st [(0, 334)], []⟩,
⟨1, 1, .int .u8, [.i .u8]⟩,
⟨1, 1, .int .u8, [.i .u8]⟩,
⟨1, 8, .oth, [.nf]⟩,
⟨1, 4, .int .i32, [.i .i32]⟩,
⟨1, 4, .int .i32, [.i .i32]⟩,
⟨11, 48, .st [(0, 12), (1, 12), (2, 278), (3, 337), (4, 5), (5, 5), (6, 338), (7, 339), (8, 316), (9, 340), (10, 341)], [.i .u64, .i .u64, .i .u32, .i .u8, .i .u8, .i .u8, .i .u8, .nf, .np, .i .i32, .i .i32]⟩,
⟨11, 48, .st [(0, 12), (1, 12), (2, 278), (3, 337), (4, 5), (5, 5), (6, 338), (7, 339), (8, 316), (9, 340), (10, 341)], [.i .u64, .i .u64, .i .u32, .i .u8, .i .u8, .i .u8, .i .u8, .nf, .np, .i .i32, .i .i32]⟩]
theorem TTok : TOk Try.prog TT := by unfold TOk; kernel_rfl
theorem mix : Try.prog.follows .mixedOrders = true := by kernel_rfl
structure S_inode_Node where
  fKind : Int
  fMode : Int
  fUser : Int
  fGroup : Int
  fSize : Int
  fLinks : Int
  fUp : Int
  fPoints : (List Int)
def eS_inode_Node (x : S_inode_Node) : PV := .agg [.v (.int .i64 x.fKind), .v (.int .i64 x.fMode), .v (.int .i64 x.fUser), .v (.int .i64 x.fGroup), .v (.int .i64 x.fSize), .v (.int .i64 x.fLinks), .v (.int .i64 x.fUp), .sl (x.fPoints.map (eI .i64))]
structure S_api_Entry where
  fName : ByteArray
  fIno : Int
def eS_api_Entry (x : S_api_Entry) : PV := .agg [.v (.string x.fName), .v (.int .i64 x.fIno)]
structure S_ringref3_Node where
  fKind : Int
  fMode : Int
  fUser : Int
  fGroup : Int
  fSize : Int
  fLinks : Int
  fUp : Int
  fPoints : (List Int)
def eS_ringref3_Node (x : S_ringref3_Node) : PV := .agg [.v (.int .i64 x.fKind), .v (.int .i64 x.fMode), .v (.int .i64 x.fUser), .v (.int .i64 x.fGroup), .v (.int .i64 x.fSize), .v (.int .i64 x.fLinks), .v (.int .i64 x.fUp), .sl (x.fPoints.map (eI .i64))]

/- ringhall/ringlaw3.node -/
def G_ringlaw3_node (n : Nat) (v_n13 : S_inode_Node) : Option (S_ringref3_Node) :=
  some (S_ringref3_Node.mk v_n13.fKind v_n13.fMode v_n13.fUser v_n13.fGroup v_n13.fSize v_n13.fLinks v_n13.fUp v_n13.fPoints)
theorem G_ringlaw3_node_ok (n : Nat) (v_n13 : S_inode_Node) (r : S_ringref3_Node) (h : G_ringlaw3_node n v_n13 = some r) : Ret Try.prog 45 [eS_inode_Node v_n13] (eS_ringref3_Node r) := by
  refine ret_run (n := 20) (fn := Try.f45) (c := bodyOf Try.f45) (by kernel_rfl) (by kernel_rfl) (by kernel_rfl) (by kernel_rfl) ?_
  have hF : KC 20 (FinR Try.prog Try.f45 (eS_ringref3_Node r)) := FinR.kc' (by kernel_rfl)
  unfold G_ringlaw3_node at h
  obtain rfl := Option.some.inj h
  exact pend_sound TTok mix 5 (hs := [.c, .c, .c, .c, .c, .c, .c, .c, .c]) (by kernel_rfl) (by kernel_rfl) (by kernel_rfl) (.cons (show 0 + 8 ≤ 8 by decide) .nil)
/- ringhall/ringref3.within -/
def G_ringref3_within (n : Nat) (v_n20 : Int) (v_low21 : Int) (v_high22 : Int) : Option (Bool) :=
  if v_low21 ≤ v_n20 then
   some (decide (v_n20 ≤ v_high22))
  else
   some false
theorem G_ringref3_within_ok (n : Nat) (v_n20 : Int) (v_low21 : Int) (v_high22 : Int) (r : Bool) (h : G_ringref3_within n v_n20 v_low21 v_high22 = some r) : Ret Try.prog 129 [(eI .i64) v_n20, (eI .i64) v_low21, (eI .i64) v_high22] (eB r) := by
  refine ret_run (n := 15) (fn := Try.f129) (c := bodyOf Try.f129) (by kernel_rfl) (by kernel_rfl) (by kernel_rfl) (by kernel_rfl) ?_
  have hF : KC 15 (FinR Try.prog Try.f129 (eB r)) := FinR.kc' (by kernel_rfl)
  unfold G_ringref3_within at h
  by_cases h19 : v_low21 ≤ v_n20
  · rw [if_pos h19] at h
    obtain rfl := Option.some.inj h
    exact pend_sound TTok mix 5 (hs := [.t true, .c, .c]) (by kernel_rfl) (by kernel_rfl) (by kernel_rfl) (.cons (dt h19) .nil)
  · rw [if_neg h19] at h
    obtain rfl := Option.some.inj h
    exact pend_sound TTok mix 5 (hs := [.t false, .c, .c]) (by kernel_rfl) (by kernel_rfl) (by kernel_rfl) (.cons (df h19) .nil)
inductive G_ringref3_PointsRight_L1_R where
  | x0 (v_x52 : Int)
  | x1 
def G_ringref3_PointsRight_L1_ex : G_ringref3_PointsRight_L1_R → Ex
  | .x0 _ => .ret
  | .x1  => .exit 0
def G_ringref3_PointsRight_L1_st (v_p48 : (List Int)) : G_ringref3_PointsRight_L1_R → PS
  | .x0 v_x52 => ⟨[dd, dd, .d (.v (.int .i64 v_x52)), dd, dd, dd, dd, dd, dd, dd, dd, dd, dd, dd, dd, dd, dd, dd, dd, dd, dd], []⟩
  | .x1  => ⟨[dd, dd, dd, dd, dd, dd, dd, dd, dd, dd, dd, dd, dd, dd, dd, dd, dd, dd, dd, dd, dd], []⟩
def G_ringref3_PointsRight_L1_hd (v_p48 : (List Int)) (v_x49 : Int) : PS := ⟨[dd, dd, dd, dd, dd, dd, dd, dd, .d (.sl (v_p48.map (eI .i64))), .d (.v (.int .i64 (v_p48.length : Int))), .d (.v (.int .i64 v_x49)), dd, dd, dd, dd, dd, dd, dd, dd, dd, dd], []⟩
def G_ringref3_PointsRight_L1 (n : Nat) (v_p48 : (List Int)) : Nat → Int → Option G_ringref3_PointsRight_L1_R
  | 0, _ => none
  | k + 1, v_x49 =>
    if v_x49 < (v_p48.length : Int) then
     (getI v_p48 v_x49).bind fun (v_y51 : Int) =>
     if v_y51 < 0 then
      some (.x0 1)
     else
      if v_y51 > 255 then
       some (.x0 1)
      else
       G_ringref3_PointsRight_L1 n v_p48 k (wi .i64 (v_x49 + 1))
    else
     some (.x1 )
theorem G_ringref3_PointsRight_L1_ok {Fi : Ex → PS → Prop} (hF : KC 21 Fi) (ks : List Fr) (n : Nat) (v_p48 : (List Int))  : ∀ (k : Nat) (v_x49 : Int) (o : G_ringref3_PointsRight_L1_R), G_ringref3_PointsRight_L1 n v_p48 k v_x49 = some o → RunE Try.prog 21 Fi ks (G_ringref3_PointsRight_L1_ex o) (G_ringref3_PointsRight_L1_st v_p48 o) → RunE Try.prog 21 Fi (.l k (cP (cB (cR (cL (cR (cR (bodyOf Try.f64))))))) :: ks) .normal (G_ringref3_PointsRight_L1_hd v_p48 v_x49)
  | 0, v_x49, o, h, q => by rw [G_ringref3_PointsRight_L1] at h; cases h
  | k + 1, v_x49, o, h, q => by
    rw [G_ringref3_PointsRight_L1] at h
    by_cases h51 : v_x49 < (v_p48.length : Int)
    · rw [if_pos h51] at h
      obtain ⟨v_y51, h55, h⟩ := bind_some h
      by_cases h56 : v_y51 < 0
      · rw [if_pos h56] at h
        cases h
        exact pkk_sound TTok mix hF 19 (hs := [.t true, .y ((eI .i64) v_y51), .c, .t true, .c, .c]) (ts := []) (s := []) (l := [2]) (by kernel_rfl) (by kernel_rfl) (.cons (dt h51) (.cons (getI_ob (f := (eI .i64)) h55) (.cons (dt h56) .nil))) q
      · rw [if_neg h56] at h
        by_cases h57 : v_y51 > 255
        · rw [if_pos h57] at h
          cases h
          exact pkk_sound TTok mix hF 19 (hs := [.t true, .y ((eI .i64) v_y51), .c, .t false, .c, .t true]) (ts := []) (s := []) (l := [2]) (by kernel_rfl) (by kernel_rfl) (.cons (dt h51) (.cons (getI_ob (f := (eI .i64)) h55) (.cons (df h56) (.cons (dt h57) .nil)))) q
        · rw [if_neg h57] at h
          exact pkk_sound TTok mix hF 16 (hs := [.t true, .y ((eI .i64) v_y51), .c, .t false, .c, .t false]) (ts := []) (s := []) (l := [8, 9, 10]) (by kernel_rfl) (by kernel_rfl) (.cons (dt h51) (.cons (getI_ob (f := (eI .i64)) h55) (.cons (df h56) (.cons (df h57) .nil)))) (G_ringref3_PointsRight_L1_ok hF ks n v_p48 k (wi .i64 (v_x49 + 1)) _ h q)
    · rw [if_neg h51] at h
      cases h
      exact pkk_sound TTok mix hF 8 (hs := [.t false]) (ts := []) (s := []) (l := []) (by kernel_rfl) (by kernel_rfl) (.cons (df h51) .nil) q
/- ringhall/ringref3.PointsRight -/
def G_ringref3_PointsRight (n : Nat) (v_p48 : (List Int)) : Option (Int) :=
  if (v_p48.length : Int) > 8 then
   some 2
  else
   (G_ringref3_PointsRight_L1 n v_p48 n 0).bind fun v_o54 => match v_o54 with
   | .x0 v_z55 =>
     some v_z55
   | .x1  =>
     some 0
theorem G_ringref3_PointsRight_ok (n : Nat) (v_p48 : (List Int)) (r : Int) (h : G_ringref3_PointsRight n v_p48 = some r) : Ret Try.prog 64 [(eL (eI .i64)) v_p48] ((eI .i64) r) := by
  refine ret_run (n := 21) (fn := Try.f64) (c := bodyOf Try.f64) (by kernel_rfl) (by kernel_rfl) (by kernel_rfl) (by kernel_rfl) ?_
  have hF : KC 21 (FinR Try.prog Try.f64 ((eI .i64) r)) := FinR.kc' (by kernel_rfl)
  unfold G_ringref3_PointsRight at h
  by_cases h50 : (v_p48.length : Int) > 8
  · rw [if_pos h50] at h
    obtain rfl := Option.some.inj h
    exact pend_sound TTok mix 10 (hs := [.u (.d (.v (.int .i64 (v_p48.length : Int)))), .t true]) (by kernel_rfl) (by kernel_rfl) (by kernel_rfl) (.cons (len_ob (f := (eI .i64)) (l := v_p48)) (.cons (dt h50) .nil))
  · rw [if_neg h50] at h
    obtain ⟨v_o54, h58, h⟩ := bind_some h
    refine pkk_sound TTok mix hF 12 (hs := [.u (.d (.v (.int .i64 (v_p48.length : Int)))), .t false, .u (.d (.v (.int .i64 (v_p48.length : Int)))), .n n]) (ts := []) (s := []) (l := [8, 9, 10]) (by kernel_rfl) (by kernel_rfl) (.cons (len_ob (f := (eI .i64)) (l := v_p48)) (.cons (df h50) (.cons (len_ob (f := (eI .i64)) (l := v_p48)) .nil))) (G_ringref3_PointsRight_L1_ok hF (.b 0 :: .s (cR (cR (cR (bodyOf Try.f64)))) :: []) n v_p48 n 0 _ h58 ?_)
    cases v_o54 with
    | x0 v_z55 =>
      try dsimp only at h
      obtain rfl := Option.some.inj h
      exact pend_sound TTok mix 2 (hs := []) (by kernel_rfl) (by kernel_rfl) (by kernel_rfl) .nil
    | x1  =>
      try dsimp only at h
      obtain rfl := Option.some.inj h
      exact pend_sound TTok mix 4 (hs := []) (by kernel_rfl) (by kernel_rfl) (by kernel_rfl) .nil
inductive G_ringref3_Blocks_L1_R where
  | x0 (v_k60 : Int)
def G_ringref3_Blocks_L1_ex : G_ringref3_Blocks_L1_R → Ex
  | .x0 _ => .exit 0
def G_ringref3_Blocks_L1_st  : G_ringref3_Blocks_L1_R → PS
  | .x0 v_k60 => ⟨[dd, dd, dd, .d (.v (.int .i64 v_k60)), dd, dd, dd, dd, dd, dd, dd], []⟩
def G_ringref3_Blocks_L1_hd  (v_n58 : Int) (v_k59 : Int) : PS := ⟨[.d (.v (.int .i64 v_n58)), dd, dd, .d (.v (.int .i64 v_k59)), dd, dd, dd, dd, dd, dd, dd], []⟩
def G_ringref3_Blocks_L1 (n : Nat)  : Nat → Int → Int → Option G_ringref3_Blocks_L1_R
  | 0, _, _ => none
  | k + 1, v_n58, v_k59 =>
    if v_n58 > 0 then
     G_ringref3_Blocks_L1 n  k (wi .i64 (v_n58 - 64)) (wi .i64 (v_k59 + 1))
    else
     some (.x0 v_k59)
theorem G_ringref3_Blocks_L1_ok {Fi : Ex → PS → Prop} (hF : KC 11 Fi) (ks : List Fr) (n : Nat)   : ∀ (k : Nat) (v_n58 : Int) (v_k59 : Int) (o : G_ringref3_Blocks_L1_R), G_ringref3_Blocks_L1 n  k v_n58 v_k59 = some o → RunE Try.prog 11 Fi ks (G_ringref3_Blocks_L1_ex o) (G_ringref3_Blocks_L1_st  o) → RunE Try.prog 11 Fi (.l k (cP (cB (cL (cR (cR (bodyOf Try.f82)))))) :: ks) .normal (G_ringref3_Blocks_L1_hd  v_n58 v_k59)
  | 0, v_n58, v_k59, o, h, q => by rw [G_ringref3_Blocks_L1] at h; cases h
  | k + 1, v_n58, v_k59, o, h, q => by
    rw [G_ringref3_Blocks_L1] at h
    by_cases h61 : v_n58 > 0
    · rw [if_pos h61] at h
      exact pkk_sound TTok mix hF 11 (hs := [.t true]) (ts := []) (s := []) (l := [0, 3]) (by kernel_rfl) (by kernel_rfl) (.cons (dt h61) .nil) (G_ringref3_Blocks_L1_ok hF ks n  k (wi .i64 (v_n58 - 64)) (wi .i64 (v_k59 + 1)) _ h q)
    · rw [if_neg h61] at h
      cases h
      exact pkk_sound TTok mix hF 8 (hs := [.t false]) (ts := []) (s := []) (l := [3]) (by kernel_rfl) (by kernel_rfl) (.cons (df h61) .nil) q
/- ringhall/ringref3.Blocks -/
def G_ringref3_Blocks (n : Nat) (v_n57 : Int) : Option (Int) :=
  (G_ringref3_Blocks_L1 n  n v_n57 0).bind fun v_o61 => match v_o61 with
  | .x0 v_z62 =>
    some v_z62
theorem G_ringref3_Blocks_ok (n : Nat) (v_n57 : Int) (r : Int) (h : G_ringref3_Blocks n v_n57 = some r) : Ret Try.prog 82 [(eI .i64) v_n57] ((eI .i64) r) := by
  refine ret_run (n := 11) (fn := Try.f82) (c := bodyOf Try.f82) (by kernel_rfl) (by kernel_rfl) (by kernel_rfl) (by kernel_rfl) ?_
  have hF : KC 11 (FinR Try.prog Try.f82 ((eI .i64) r)) := FinR.kc' (by kernel_rfl)
  unfold G_ringref3_Blocks at h
  obtain ⟨v_o61, h62, h⟩ := bind_some h
  refine pkk_sound TTok mix hF 7 (hs := [.n n]) (ts := []) (s := []) (l := [0, 3]) (by kernel_rfl) (by kernel_rfl) .nil (G_ringref3_Blocks_L1_ok hF (.b 0 :: .s (cR (cR (cR (bodyOf Try.f82)))) :: []) n  n v_n57 0 _ h62 ?_)
  cases v_o61 with
  | x0 v_z62 =>
    try dsimp only at h
    obtain rfl := Option.some.inj h
    exact pend_sound TTok mix 4 (hs := []) (by kernel_rfl) (by kernel_rfl) (by kernel_rfl) .nil
inductive G_ringref3_NodeRight_C1_R where
  | x0 (v_x16 : Bool)
def G_ringref3_NodeRight_C1_ex : G_ringref3_NodeRight_C1_R → Ex
  | .x0 _ => .normal
def G_ringref3_NodeRight_C1_st (v_n15 : S_ringref3_Node) : G_ringref3_NodeRight_C1_R → PS
  | .x0 v_x16 => ⟨[dd, dd, dd, dd, dd, dd, dd, dd, dd, dd, dd, dd, dd, dd, dd, dd, dd, dd, dd, dd, dd, dd, dd, dd, dd, dd, dd, dd, dd, dd, .d (.v (.bool v_x16)), dd, dd, dd, dd, dd, dd, dd, dd, dd, dd, dd, dd, dd, dd, dd, dd, dd, dd, dd, dd, dd, dd, dd, dd, dd, dd, dd, dd, dd, dd, dd, dd, dd, dd, dd, dd, dd, dd, dd, dd, dd, dd, dd, dd, dd, dd, dd, dd, dd, dd, dd, dd, dd, dd, dd, dd, dd, dd, dd, dd, dd, dd], []⟩
def G_ringref3_NodeRight_C1_hd (v_n15 : S_ringref3_Node)  : PS := ⟨[dd, .ref 0 0, dd, dd, dd, dd, dd, dd, dd, dd, dd, dd, dd, dd, dd, dd, dd, dd, dd, dd, dd, dd, dd, dd, dd, dd, dd, dd, dd, dd, dd, dd, dd, dd, dd, dd, dd, dd, dd, dd, dd, dd, dd, dd, dd, dd, dd, dd, dd, dd, dd, dd, dd, dd, dd, dd, dd, dd, dd, dd, dd, dd, dd, dd, dd, dd, dd, dd, dd, dd, dd, dd, dd, dd, dd, dd, dd, dd, dd, dd, dd, dd, dd, dd, dd, dd, dd, dd, dd, dd, dd, dd, dd], [.box [.d (.v (.int .i64 v_n15.fKind)), .d (.v (.int .i64 v_n15.fMode)), .d (.v (.int .i64 v_n15.fUser)), .d (.v (.int .i64 v_n15.fGroup)), .d (.v (.int .i64 v_n15.fSize)), .d (.v (.int .i64 v_n15.fLinks)), .d (.v (.int .i64 v_n15.fUp)), .d (.sl (v_n15.fPoints.map (eI .i64)))]]⟩
def G_ringref3_NodeRight_C1 (n : Nat) (v_n15 : S_ringref3_Node) : Option G_ringref3_NodeRight_C1_R :=
  if (bits .or .i64 (bits .or .i64 (bits .or .i64 (bits .or .i64 (bits .or .i64 v_n15.fMode v_n15.fUser) v_n15.fGroup) v_n15.fSize) v_n15.fLinks) v_n15.fUp) = 0 then
   some (.x0 (decide ((v_n15.fPoints.length : Int) > 0)))
  else
   some (.x0 true)
theorem G_ringref3_NodeRight_C1_ok {Fi : Ex → PS → Prop} (hF : KC 93 Fi) (ks : List Fr) (n : Nat) (v_n15 : S_ringref3_Node)  (o : G_ringref3_NodeRight_C1_R) (h : G_ringref3_NodeRight_C1 n v_n15 = some o) (q : RunE Try.prog 93 Fi ks (G_ringref3_NodeRight_C1_ex o) (G_ringref3_NodeRight_C1_st v_n15 o)) : RunE Try.prog 93 Fi (.s (cL (cL (cT (cR (cL (cR (bodyOf Try.f44))))))) :: ks) .normal (G_ringref3_NodeRight_C1_hd v_n15) := by
  unfold G_ringref3_NodeRight_C1 at h
  by_cases h16 : (bits .or .i64 (bits .or .i64 (bits .or .i64 (bits .or .i64 (bits .or .i64 v_n15.fMode v_n15.fUser) v_n15.fGroup) v_n15.fSize) v_n15.fLinks) v_n15.fUp) = 0
  · rw [if_pos h16] at h
    cases h
    exact pkk_sound TTok mix hF 1 (hs := [.c, .c, .c, .c, .c, .c, .t false, .c, .c, .c, .u (.d (.v (.int .i64 (v_n15.fPoints.length : Int)))), .c]) (ts := []) (s := []) (l := [30]) (by kernel_rfl) (by kernel_rfl) (.cons (nf h16) (.cons (len_ob (f := (eI .i64)) (l := v_n15.fPoints)) .nil)) q
  · rw [if_neg h16] at h
    cases h
    exact pkk_sound TTok mix hF 1 (hs := [.c, .c, .c, .c, .c, .c, .t true, .c, .c, .c]) (ts := []) (s := []) (l := [30]) (by kernel_rfl) (by kernel_rfl) (.cons (nt h16) .nil) q
inductive G_ringref3_NodeRight_C2_R where
  | x0 (v_x29 : Bool)
def G_ringref3_NodeRight_C2_ex : G_ringref3_NodeRight_C2_R → Ex
  | .x0 _ => .normal
def G_ringref3_NodeRight_C2_st (v_n15 : S_ringref3_Node) : G_ringref3_NodeRight_C2_R → PS
  | .x0 v_x29 => ⟨[dd, .ref 0 0, dd, dd, dd, dd, dd, dd, dd, dd, dd, dd, dd, dd, dd, dd, dd, dd, dd, dd, dd, dd, dd, dd, dd, dd, dd, dd, dd, dd, dd, dd, dd, dd, dd, dd, dd, dd, dd, dd, dd, dd, dd, dd, dd, dd, dd, dd, dd, dd, dd, dd, dd, dd, dd, dd, dd, dd, .d (.v (.bool v_x29)), dd, dd, dd, dd, dd, dd, dd, dd, dd, dd, dd, dd, dd, dd, dd, dd, dd, dd, dd, dd, dd, dd, dd, dd, dd, dd, dd, dd, dd, dd, dd, dd, dd, dd], [.box [.d (.v (.int .i64 v_n15.fKind)), .d (.v (.int .i64 v_n15.fMode)), .d (.v (.int .i64 v_n15.fUser)), .d (.v (.int .i64 v_n15.fGroup)), .d (.v (.int .i64 v_n15.fSize)), .d (.v (.int .i64 v_n15.fLinks)), .d (.v (.int .i64 v_n15.fUp)), .d (.sl (v_n15.fPoints.map (eI .i64)))]]⟩
def G_ringref3_NodeRight_C2_hd (v_n15 : S_ringref3_Node)  : PS := ⟨[dd, .ref 0 0, dd, dd, dd, dd, dd, dd, dd, dd, dd, dd, dd, dd, dd, dd, dd, dd, dd, dd, dd, dd, dd, dd, dd, dd, dd, dd, dd, dd, dd, dd, dd, dd, dd, dd, dd, dd, dd, dd, dd, dd, dd, dd, dd, dd, dd, dd, dd, dd, dd, dd, dd, dd, dd, dd, dd, dd, dd, dd, dd, dd, dd, dd, dd, dd, dd, dd, dd, dd, dd, dd, dd, dd, dd, dd, dd, dd, dd, dd, dd, dd, dd, dd, dd, dd, dd, dd, dd, dd, dd, dd, dd], [.box [.d (.v (.int .i64 v_n15.fKind)), .d (.v (.int .i64 v_n15.fMode)), .d (.v (.int .i64 v_n15.fUser)), .d (.v (.int .i64 v_n15.fGroup)), .d (.v (.int .i64 v_n15.fSize)), .d (.v (.int .i64 v_n15.fLinks)), .d (.v (.int .i64 v_n15.fUp)), .d (.sl (v_n15.fPoints.map (eI .i64)))]]⟩
def G_ringref3_NodeRight_C2 (n : Nat) (v_n15 : S_ringref3_Node) : Option G_ringref3_NodeRight_C2_R :=
  (G_ringref3_within n v_n15.fKind 0 3).bind fun (v_r28 : (Bool)) =>
  if v_r28 = true then
   (G_ringref3_within n v_n15.fMode 0 511).bind fun (v_r30 : (Bool)) =>
   if v_r30 = true then
    (G_ringref3_within n v_n15.fUser 0 255).bind fun (v_r32 : (Bool)) =>
    if v_r32 = true then
     (G_ringref3_within n v_n15.fGroup 0 255).bind fun (v_r34 : (Bool)) =>
     if v_r34 = true then
      (G_ringref3_within n v_n15.fLinks 0 200).bind fun (v_r36 : (Bool)) =>
      some (.x0 (!v_r36))
     else
      some (.x0 true)
    else
     some (.x0 true)
   else
    some (.x0 true)
  else
   some (.x0 true)
theorem G_ringref3_NodeRight_C2_ok {Fi : Ex → PS → Prop} (hF : KC 93 Fi) (ks : List Fr) (n : Nat) (v_n15 : S_ringref3_Node)  (o : G_ringref3_NodeRight_C2_R) (h : G_ringref3_NodeRight_C2 n v_n15 = some o) (q : RunE Try.prog 93 Fi ks (G_ringref3_NodeRight_C2_ex o) (G_ringref3_NodeRight_C2_st v_n15 o)) : RunE Try.prog 93 Fi (.s (cL (cL (cR (cR (bodyOf Try.f44))))) :: ks) .normal (G_ringref3_NodeRight_C2_hd v_n15) := by
  unfold G_ringref3_NodeRight_C2 at h
  obtain ⟨v_r28, h29, h⟩ := bind_some h
  by_cases h30 : v_r28 = true
  · rw [if_pos h30] at h
    obtain ⟨v_r30, h31, h⟩ := bind_some h
    by_cases h32 : v_r30 = true
    · rw [if_pos h32] at h
      obtain ⟨v_r32, h33, h⟩ := bind_some h
      by_cases h34 : v_r32 = true
      · rw [if_pos h34] at h
        obtain ⟨v_r34, h35, h⟩ := bind_some h
        by_cases h36 : v_r34 = true
        · rw [if_pos h36] at h
          obtain ⟨v_r36, h37, h⟩ := bind_some h
          cases h
          exact pkk_sound TTok mix hF 1 (hs := [.c, .r (eB v_r28), .t false, .c, .c, .c, .r (eB v_r30), .c, .t false, .c, .c, .c, .r (eB v_r32), .c, .t false, .c, .c, .c, .r (eB v_r34), .c, .t false, .c, .c, .c, .r (eB v_r36), .c]) (ts := []) (s := [0]) (l := [1, 58]) (by kernel_rfl) (by kernel_rfl) (.cons (G_ringref3_within_ok n v_n15.fKind 0 3 _ h29) (.cons (bnf h30) (.cons (G_ringref3_within_ok n v_n15.fMode 0 511 _ h31) (.cons (bnf h32) (.cons (G_ringref3_within_ok n v_n15.fUser 0 255 _ h33) (.cons (bnf h34) (.cons (G_ringref3_within_ok n v_n15.fGroup 0 255 _ h35) (.cons (bnf h36) (.cons (G_ringref3_within_ok n v_n15.fLinks 0 200 _ h37) .nil))))))))) q
        · rw [if_neg h36] at h
          cases h
          exact pkk_sound TTok mix hF 1 (hs := [.c, .r (eB v_r28), .t false, .c, .c, .c, .r (eB v_r30), .c, .t false, .c, .c, .c, .r (eB v_r32), .c, .t false, .c, .c, .c, .r (eB v_r34), .c, .t true, .c, .c, .c]) (ts := []) (s := [0]) (l := [1, 58]) (by kernel_rfl) (by kernel_rfl) (.cons (G_ringref3_within_ok n v_n15.fKind 0 3 _ h29) (.cons (bnf h30) (.cons (G_ringref3_within_ok n v_n15.fMode 0 511 _ h31) (.cons (bnf h32) (.cons (G_ringref3_within_ok n v_n15.fUser 0 255 _ h33) (.cons (bnf h34) (.cons (G_ringref3_within_ok n v_n15.fGroup 0 255 _ h35) (.cons (bnt (vf h36)) .nil)))))))) q
      · rw [if_neg h34] at h
        cases h
        exact pkk_sound TTok mix hF 1 (hs := [.c, .r (eB v_r28), .t false, .c, .c, .c, .r (eB v_r30), .c, .t false, .c, .c, .c, .r (eB v_r32), .c, .t true, .c, .c, .c, .c, .c, .c, .c]) (ts := []) (s := [0]) (l := [1, 58]) (by kernel_rfl) (by kernel_rfl) (.cons (G_ringref3_within_ok n v_n15.fKind 0 3 _ h29) (.cons (bnf h30) (.cons (G_ringref3_within_ok n v_n15.fMode 0 511 _ h31) (.cons (bnf h32) (.cons (G_ringref3_within_ok n v_n15.fUser 0 255 _ h33) (.cons (bnt (vf h34)) .nil)))))) q
    · rw [if_neg h32] at h
      cases h
      exact pkk_sound TTok mix hF 1 (hs := [.c, .r (eB v_r28), .t false, .c, .c, .c, .r (eB v_r30), .c, .t true, .c, .c, .c, .c, .c, .c, .c, .c, .c, .c, .c]) (ts := []) (s := [0]) (l := [1, 58]) (by kernel_rfl) (by kernel_rfl) (.cons (G_ringref3_within_ok n v_n15.fKind 0 3 _ h29) (.cons (bnf h30) (.cons (G_ringref3_within_ok n v_n15.fMode 0 511 _ h31) (.cons (bnt (vf h32)) .nil)))) q
  · rw [if_neg h30] at h
    cases h
    exact pkk_sound TTok mix hF 1 (hs := [.c, .r (eB v_r28), .t true, .c, .c, .c, .c, .c, .c, .c, .c, .c, .c, .c, .c, .c, .c, .c]) (ts := []) (s := [0]) (l := [1, 58]) (by kernel_rfl) (by kernel_rfl) (.cons (G_ringref3_within_ok n v_n15.fKind 0 3 _ h29) (.cons (bnt (vf h30)) .nil)) q
inductive G_ringref3_NodeRight_C3_R where
  | x0 (v_x43 : Bool)
def G_ringref3_NodeRight_C3_ex : G_ringref3_NodeRight_C3_R → Ex
  | .x0 _ => .normal
def G_ringref3_NodeRight_C3_st (v_n15 : S_ringref3_Node) : G_ringref3_NodeRight_C3_R → PS
  | .x0 v_x43 => ⟨[dd, .ref 0 0, dd, dd, dd, dd, dd, dd, dd, dd, dd, dd, dd, dd, dd, dd, dd, dd, dd, dd, dd, dd, dd, dd, dd, dd, dd, dd, dd, dd, dd, dd, dd, dd, dd, dd, dd, dd, dd, dd, dd, dd, dd, dd, dd, dd, dd, dd, dd, dd, dd, dd, dd, dd, dd, dd, dd, dd, dd, dd, dd, dd, dd, dd, dd, dd, dd, dd, dd, dd, dd, dd, dd, dd, dd, dd, dd, dd, dd, .d (.v (.bool v_x43)), dd, dd, dd, dd, dd, dd, dd, dd, dd, dd, dd, dd, dd], [.box [.d (.v (.int .i64 v_n15.fKind)), .d (.v (.int .i64 v_n15.fMode)), .d (.v (.int .i64 v_n15.fUser)), .d (.v (.int .i64 v_n15.fGroup)), .d (.v (.int .i64 v_n15.fSize)), .d (.v (.int .i64 v_n15.fLinks)), .d (.v (.int .i64 v_n15.fUp)), .d (.sl (v_n15.fPoints.map (eI .i64)))]]⟩
def G_ringref3_NodeRight_C3_hd (v_n15 : S_ringref3_Node)  : PS := ⟨[dd, .ref 0 0, dd, dd, dd, dd, dd, dd, dd, dd, dd, dd, dd, dd, dd, dd, dd, dd, dd, dd, dd, dd, dd, dd, dd, dd, dd, dd, dd, dd, dd, dd, dd, dd, dd, dd, dd, dd, dd, dd, dd, dd, dd, dd, dd, dd, dd, dd, dd, dd, dd, dd, dd, dd, dd, dd, dd, dd, dd, dd, dd, dd, dd, dd, dd, dd, dd, dd, dd, dd, dd, dd, dd, dd, dd, dd, dd, dd, dd, dd, dd, dd, dd, dd, dd, dd, dd, dd, dd, dd, dd, dd, dd], [.box [.d (.v (.int .i64 v_n15.fKind)), .d (.v (.int .i64 v_n15.fMode)), .d (.v (.int .i64 v_n15.fUser)), .d (.v (.int .i64 v_n15.fGroup)), .d (.v (.int .i64 v_n15.fSize)), .d (.v (.int .i64 v_n15.fLinks)), .d (.v (.int .i64 v_n15.fUp)), .d (.sl (v_n15.fPoints.map (eI .i64)))]]⟩
def G_ringref3_NodeRight_C3 (n : Nat) (v_n15 : S_ringref3_Node) : Option G_ringref3_NodeRight_C3_R :=
  (G_ringref3_within n v_n15.fUp 1 32).bind fun (v_r42 : (Bool)) =>
  if (eqRes .neq ((v_n15.fKind == 2) == v_r42)) = true then
   some (.x0 true)
  else
   if v_n15.fKind = 2 then
    some (.x0 false)
   else
    some (.x0 (v_n15.fUp != 0))
theorem G_ringref3_NodeRight_C3_ok {Fi : Ex → PS → Prop} (hF : KC 93 Fi) (ks : List Fr) (n : Nat) (v_n15 : S_ringref3_Node)  (o : G_ringref3_NodeRight_C3_R) (h : G_ringref3_NodeRight_C3 n v_n15 = some o) (q : RunE Try.prog 93 Fi ks (G_ringref3_NodeRight_C3_ex o) (G_ringref3_NodeRight_C3_st v_n15 o)) : RunE Try.prog 93 Fi (.s (cL (cL (cR (cR (cR (cR (bodyOf Try.f44))))))) :: ks) .normal (G_ringref3_NodeRight_C3_hd v_n15) := by
  unfold G_ringref3_NodeRight_C3 at h
  obtain ⟨v_r42, h45, h⟩ := bind_some h
  by_cases h46 : (eqRes .neq ((v_n15.fKind == 2) == v_r42)) = true
  · rw [if_pos h46] at h
    cases h
    exact pkk_sound TTok mix hF 1 (hs := [.c, .c, .r (eB v_r42), .t true, .c, .c, .c, .c]) (ts := []) (s := [0]) (l := [1, 79]) (by kernel_rfl) (by kernel_rfl) (.cons (G_ringref3_within_ok n v_n15.fUp 1 32 _ h45) (.cons h46 .nil)) q
  · rw [if_neg h46] at h
    by_cases h47 : v_n15.fKind = 2
    · rw [if_pos h47] at h
      cases h
      exact pkk_sound TTok mix hF 1 (hs := [.c, .c, .r (eB v_r42), .t false, .c, .c, .c, .c, .t false, .c, .c, .c]) (ts := []) (s := [0]) (l := [1, 79]) (by kernel_rfl) (by kernel_rfl) (.cons (G_ringref3_within_ok n v_n15.fUp 1 32 _ h45) (.cons (vf h46) (.cons (nf h47) .nil))) q
    · rw [if_neg h47] at h
      cases h
      exact pkk_sound TTok mix hF 1 (hs := [.c, .c, .r (eB v_r42), .t false, .c, .c, .c, .c, .t true, .c, .c, .c, .c]) (ts := []) (s := [0]) (l := [1, 79]) (by kernel_rfl) (by kernel_rfl) (.cons (G_ringref3_within_ok n v_n15.fUp 1 32 _ h45) (.cons (vf h46) (.cons (nt h47) .nil))) q
/- ringhall/ringref3.NodeRight -/
def G_ringref3_NodeRight (n : Nat) (v_n15 : S_ringref3_Node) : Option (Int) :=
  if v_n15.fKind = 0 then
   (G_ringref3_NodeRight_C1 n v_n15).bind fun v_o18 => match v_o18 with
   | .x0 v_z19 =>
     if v_z19 = true then
      some 3
     else
      some 0
  else
   (G_ringref3_NodeRight_C2 n v_n15).bind fun v_o38 => match v_o38 with
   | .x0 v_z39 =>
     if v_z39 = true then
      some 1
     else
      (G_ringref3_within n v_n15.fSize 0 512).bind fun (v_r40 : (Bool)) =>
      if v_r40 = true then
       (G_ringref3_NodeRight_C3 n v_n15).bind fun v_o46 => match v_o46 with
       | .x0 v_z47 =>
         if v_z47 = true then
          some 12
         else
          (G_ringref3_PointsRight n v_n15.fPoints).bind fun (v_r56 : (Int)) =>
          if v_r56 = 0 then
           (G_ringref3_Blocks n v_n15.fSize).bind fun (v_r63 : (Int)) =>
           if (v_n15.fPoints.length : Int) = v_r63 then
            some 0
           else
            some 3
          else
           some v_r56
      else
       some 2
theorem G_ringref3_NodeRight_ok (n : Nat) (v_n15 : S_ringref3_Node) (r : Int) (h : G_ringref3_NodeRight n v_n15 = some r) : Ret Try.prog 44 [eS_ringref3_Node v_n15] ((eI .i64) r) := by
  refine ret_run (n := 93) (fn := Try.f44) (c := bodyOf Try.f44) (by kernel_rfl) (by kernel_rfl) (by kernel_rfl) (by kernel_rfl) ?_
  have hF : KC 93 (FinR Try.prog Try.f44 ((eI .i64) r)) := FinR.kc' (by kernel_rfl)
  unfold G_ringref3_NodeRight at h
  by_cases h14 : v_n15.fKind = 0
  · rw [if_pos h14] at h
    obtain ⟨v_o18, h17, h⟩ := bind_some h
    refine pkk_sound TTok mix hF 8 (hs := [.c, .t true]) (ts := []) (s := [0]) (l := [1]) (by kernel_rfl) (by kernel_rfl) (.cons (bt h14) .nil) (G_ringref3_NodeRight_C1_ok hF (.s (cR (cL (cT (cR (cL (cR (bodyOf Try.f44))))))) :: .s (cR (cT (cR (cL (cR (bodyOf Try.f44)))))) :: .s (cR (cR (bodyOf Try.f44))) :: []) n v_n15 _ h17 ?_)
    cases v_o18 with
    | x0 v_z19 =>
      try dsimp only at h
      by_cases h18 : v_z19 = true
      · rw [if_pos h18] at h
        obtain rfl := Option.some.inj h
        exact pend_sound TTok mix 6 (hs := [.t true]) (by kernel_rfl) (by kernel_rfl) (by kernel_rfl) (.cons h18 .nil)
      · rw [if_neg h18] at h
        obtain rfl := Option.some.inj h
        exact pend_sound TTok mix 6 (hs := [.t false]) (by kernel_rfl) (by kernel_rfl) (by kernel_rfl) (.cons (vf h18) .nil)
  · rw [if_neg h14] at h
    obtain ⟨v_o38, h38, h⟩ := bind_some h
    refine pkk_sound TTok mix hF 9 (hs := [.c, .t false]) (ts := []) (s := [0]) (l := [1]) (by kernel_rfl) (by kernel_rfl) (.cons (bf h14) .nil) (G_ringref3_NodeRight_C2_ok hF (.s (cR (cL (cR (cR (bodyOf Try.f44))))) :: .s (cR (cR (cR (bodyOf Try.f44)))) :: []) n v_n15 _ h38 ?_)
    cases v_o38 with
    | x0 v_z39 =>
      try dsimp only at h
      by_cases h39 : v_z39 = true
      · rw [if_pos h39] at h
        obtain rfl := Option.some.inj h
        exact pend_sound TTok mix 5 (hs := [.t true]) (by kernel_rfl) (by kernel_rfl) (by kernel_rfl) (.cons h39 .nil)
      · rw [if_neg h39] at h
        obtain ⟨v_r40, h40, h⟩ := bind_some h
        by_cases h41 : v_r40 = true
        · rw [if_pos h41] at h
          obtain ⟨v_o46, h48, h⟩ := bind_some h
          refine pkk_sound TTok mix hF 9 (hs := [.t false, .c, .r (eB v_r40), .t false]) (ts := []) (s := [0]) (l := [1]) (by kernel_rfl) (by kernel_rfl) (.cons (vf h39) (.cons (G_ringref3_within_ok n v_n15.fSize 0 512 _ h40) (.cons (bnf h41) .nil))) (G_ringref3_NodeRight_C3_ok hF (.s (cR (cL (cR (cR (cR (cR (bodyOf Try.f44))))))) :: .s (cR (cR (cR (cR (cR (bodyOf Try.f44)))))) :: []) n v_n15 _ h48 ?_)
          cases v_o46 with
          | x0 v_z47 =>
            try dsimp only at h
            by_cases h49 : v_z47 = true
            · rw [if_pos h49] at h
              obtain rfl := Option.some.inj h
              exact pend_sound TTok mix 5 (hs := [.t true]) (by kernel_rfl) (by kernel_rfl) (by kernel_rfl) (.cons h49 .nil)
            · rw [if_neg h49] at h
              obtain ⟨v_r56, h59, h⟩ := bind_some h
              by_cases h60 : v_r56 = 0
              · rw [if_pos h60] at h
                obtain ⟨v_r63, h63, h⟩ := bind_some h
                by_cases h64 : (v_n15.fPoints.length : Int) = v_r63
                · rw [if_pos h64] at h
                  obtain rfl := Option.some.inj h
                  exact pend_sound TTok mix 17 (hs := [.t false, .c, .r ((eI .i64) v_r56), .t false, .c, .u (.d (.v (.int .i64 (v_n15.fPoints.length : Int)))), .c, .r ((eI .i64) v_r63), .t false]) (by kernel_rfl) (by kernel_rfl) (by kernel_rfl) (.cons (vf h49) (.cons (G_ringref3_PointsRight_ok n v_n15.fPoints _ h59) (.cons (nf h60) (.cons (len_ob (f := (eI .i64)) (l := v_n15.fPoints)) (.cons (G_ringref3_Blocks_ok n v_n15.fSize _ h63) (.cons (nf h64) .nil))))))
                · rw [if_neg h64] at h
                  obtain rfl := Option.some.inj h
                  exact pend_sound TTok mix 17 (hs := [.t false, .c, .r ((eI .i64) v_r56), .t false, .c, .u (.d (.v (.int .i64 (v_n15.fPoints.length : Int)))), .c, .r ((eI .i64) v_r63), .t true]) (by kernel_rfl) (by kernel_rfl) (by kernel_rfl) (.cons (vf h49) (.cons (G_ringref3_PointsRight_ok n v_n15.fPoints _ h59) (.cons (nf h60) (.cons (len_ob (f := (eI .i64)) (l := v_n15.fPoints)) (.cons (G_ringref3_Blocks_ok n v_n15.fSize _ h63) (.cons (nt h64) .nil))))))
              · rw [if_neg h60] at h
                obtain rfl := Option.some.inj h
                exact pend_sound TTok mix 12 (hs := [.t false, .c, .r ((eI .i64) v_r56), .t true]) (by kernel_rfl) (by kernel_rfl) (by kernel_rfl) (.cons (vf h49) (.cons (G_ringref3_PointsRight_ok n v_n15.fPoints _ h59) (.cons (nt h60) .nil)))
        · rw [if_neg h41] at h
          obtain rfl := Option.some.inj h
          exact pend_sound TTok mix 10 (hs := [.t false, .c, .r (eB v_r40), .t true]) (by kernel_rfl) (by kernel_rfl) (by kernel_rfl) (.cons (vf h39) (.cons (G_ringref3_within_ok n v_n15.fSize 0 512 _ h40) (.cons (bnt (vf h41)) .nil)))
inductive G_extent_Right_L1_R where
  | x0 (v_x164 : Int)
  | x1 
def G_extent_Right_L1_ex : G_extent_Right_L1_R → Ex
  | .x0 _ => .ret
  | .x1  => .exit 0
def G_extent_Right_L1_st (v_points160 : (List Int)) : G_extent_Right_L1_R → PS
  | .x0 v_x164 => ⟨[dd, dd, .d (.v (.int .i64 v_x164)), dd, dd, dd, dd, dd, dd, dd, dd, dd, dd, dd, dd, dd, dd, dd, dd, dd, dd], []⟩
  | .x1  => ⟨[dd, dd, dd, dd, dd, dd, dd, dd, dd, dd, dd, dd, dd, dd, dd, dd, dd, dd, dd, dd, dd], []⟩
def G_extent_Right_L1_hd (v_points160 : (List Int)) (v_x161 : Int) : PS := ⟨[dd, dd, dd, dd, dd, dd, dd, dd, .d (.sl (v_points160.map (eI .i64))), .d (.v (.int .i64 (v_points160.length : Int))), .d (.v (.int .i64 v_x161)), dd, dd, dd, dd, dd, dd, dd, dd, dd, dd], []⟩
def G_extent_Right_L1 (n : Nat) (v_points160 : (List Int)) : Nat → Int → Option G_extent_Right_L1_R
  | 0, _ => none
  | k + 1, v_x161 =>
    if v_x161 < (v_points160.length : Int) then
     (getI v_points160 v_x161).bind fun (v_y163 : Int) =>
     if v_y163 < 0 then
      some (.x0 1)
     else
      if v_y163 ≥ 256 then
       some (.x0 1)
      else
       G_extent_Right_L1 n v_points160 k (wi .i64 (v_x161 + 1))
    else
     some (.x1 )
theorem G_extent_Right_L1_ok {Fi : Ex → PS → Prop} (hF : KC 21 Fi) (ks : List Fr) (n : Nat) (v_points160 : (List Int))  : ∀ (k : Nat) (v_x161 : Int) (o : G_extent_Right_L1_R), G_extent_Right_L1 n v_points160 k v_x161 = some o → RunE Try.prog 21 Fi ks (G_extent_Right_L1_ex o) (G_extent_Right_L1_st v_points160 o) → RunE Try.prog 21 Fi (.l k (cP (cB (cR (cL (cR (cR (bodyOf Try.f72))))))) :: ks) .normal (G_extent_Right_L1_hd v_points160 v_x161)
  | 0, v_x161, o, h, q => by rw [G_extent_Right_L1] at h; cases h
  | k + 1, v_x161, o, h, q => by
    rw [G_extent_Right_L1] at h
    by_cases h215 : v_x161 < (v_points160.length : Int)
    · rw [if_pos h215] at h
      obtain ⟨v_y163, h219, h⟩ := bind_some h
      by_cases h220 : v_y163 < 0
      · rw [if_pos h220] at h
        cases h
        exact pkk_sound TTok mix hF 19 (hs := [.t true, .y ((eI .i64) v_y163), .c, .t true, .c, .c]) (ts := []) (s := []) (l := [2]) (by kernel_rfl) (by kernel_rfl) (.cons (dt h215) (.cons (getI_ob (f := (eI .i64)) h219) (.cons (dt h220) .nil))) q
      · rw [if_neg h220] at h
        by_cases h221 : v_y163 ≥ 256
        · rw [if_pos h221] at h
          cases h
          exact pkk_sound TTok mix hF 19 (hs := [.t true, .y ((eI .i64) v_y163), .c, .t false, .c, .t true]) (ts := []) (s := []) (l := [2]) (by kernel_rfl) (by kernel_rfl) (.cons (dt h215) (.cons (getI_ob (f := (eI .i64)) h219) (.cons (df h220) (.cons (dt h221) .nil)))) q
        · rw [if_neg h221] at h
          exact pkk_sound TTok mix hF 16 (hs := [.t true, .y ((eI .i64) v_y163), .c, .t false, .c, .t false]) (ts := []) (s := []) (l := [8, 9, 10]) (by kernel_rfl) (by kernel_rfl) (.cons (dt h215) (.cons (getI_ob (f := (eI .i64)) h219) (.cons (df h220) (.cons (df h221) .nil)))) (G_extent_Right_L1_ok hF ks n v_points160 k (wi .i64 (v_x161 + 1)) _ h q)
    · rw [if_neg h215] at h
      cases h
      exact pkk_sound TTok mix hF 8 (hs := [.t false]) (ts := []) (s := []) (l := []) (by kernel_rfl) (by kernel_rfl) (.cons (df h215) .nil) q
/- ringhall/extent.Right -/
def G_extent_Right (n : Nat) (v_points160 : (List Int)) : Option (Int) :=
  if (v_points160.length : Int) > 8 then
   some 2
  else
   (G_extent_Right_L1 n v_points160 n 0).bind fun v_o166 => match v_o166 with
   | .x0 v_z167 =>
     some v_z167
   | .x1  =>
     some 0
theorem G_extent_Right_ok (n : Nat) (v_points160 : (List Int)) (r : Int) (h : G_extent_Right n v_points160 = some r) : Ret Try.prog 72 [(eL (eI .i64)) v_points160] ((eI .i64) r) := by
  refine ret_run (n := 21) (fn := Try.f72) (c := bodyOf Try.f72) (by kernel_rfl) (by kernel_rfl) (by kernel_rfl) (by kernel_rfl) ?_
  have hF : KC 21 (FinR Try.prog Try.f72 ((eI .i64) r)) := FinR.kc' (by kernel_rfl)
  unfold G_extent_Right at h
  by_cases h214 : (v_points160.length : Int) > 8
  · rw [if_pos h214] at h
    obtain rfl := Option.some.inj h
    exact pend_sound TTok mix 10 (hs := [.u (.d (.v (.int .i64 (v_points160.length : Int)))), .t true]) (by kernel_rfl) (by kernel_rfl) (by kernel_rfl) (.cons (len_ob (f := (eI .i64)) (l := v_points160)) (.cons (dt h214) .nil))
  · rw [if_neg h214] at h
    obtain ⟨v_o166, h222, h⟩ := bind_some h
    refine pkk_sound TTok mix hF 12 (hs := [.u (.d (.v (.int .i64 (v_points160.length : Int)))), .t false, .u (.d (.v (.int .i64 (v_points160.length : Int)))), .n n]) (ts := []) (s := []) (l := [8, 9, 10]) (by kernel_rfl) (by kernel_rfl) (.cons (len_ob (f := (eI .i64)) (l := v_points160)) (.cons (df h214) (.cons (len_ob (f := (eI .i64)) (l := v_points160)) .nil))) (G_extent_Right_L1_ok hF (.b 0 :: .s (cR (cR (cR (bodyOf Try.f72)))) :: []) n v_points160 n 0 _ h222 ?_)
    cases v_o166 with
    | x0 v_z167 =>
      try dsimp only at h
      obtain rfl := Option.some.inj h
      exact pend_sound TTok mix 2 (hs := []) (by kernel_rfl) (by kernel_rfl) (by kernel_rfl) .nil
    | x1  =>
      try dsimp only at h
      obtain rfl := Option.some.inj h
      exact pend_sound TTok mix 4 (hs := []) (by kernel_rfl) (by kernel_rfl) (by kernel_rfl) .nil
/- ringhall/inode.Blocks -/
def G_inode_Blocks (n : Nat) (v_size169 : Int) : Option (Int) :=
  if v_size169 ≤ 0 then
   some 0
  else
   some (wi .i64 ((quoI .i64 (wi .i64 (v_size169 - 1)) 64) + 1))
theorem G_inode_Blocks_ok (n : Nat) (v_size169 : Int) (r : Int) (h : G_inode_Blocks n v_size169 = some r) : Ret Try.prog 81 [(eI .i64) v_size169] ((eI .i64) r) := by
  refine ret_run (n := 9) (fn := Try.f81) (c := bodyOf Try.f81) (by kernel_rfl) (by kernel_rfl) (by kernel_rfl) (by kernel_rfl) ?_
  have hF : KC 9 (FinR Try.prog Try.f81 ((eI .i64) r)) := FinR.kc' (by kernel_rfl)
  unfold G_inode_Blocks at h
  by_cases h225 : v_size169 ≤ 0
  · rw [if_pos h225] at h
    obtain rfl := Option.some.inj h
    exact pend_sound TTok mix 10 (hs := [.t true]) (by kernel_rfl) (by kernel_rfl) (by kernel_rfl) (.cons (dt h225) .nil)
  · rw [if_neg h225] at h
    obtain rfl := Option.some.inj h
    exact pend_sound TTok mix 10 (hs := [.t false]) (by kernel_rfl) (by kernel_rfl) (by kernel_rfl) (.cons (df h225) (.cons (show (64 : Int) ≠ 0 by decide) .nil))
inductive G_inode_Right_C1_R where
  | x0 (v_x91 : Bool)
def G_inode_Right_C1_ex : G_inode_Right_C1_R → Ex
  | .x0 _ => .normal
def G_inode_Right_C1_st (v_n81 : S_inode_Node) : G_inode_Right_C1_R → PS
  | .x0 v_x91 => ⟨[dd, dd, dd, dd, dd, dd, dd, dd, dd, dd, dd, dd, dd, dd, dd, dd, dd, dd, dd, dd, dd, dd, dd, dd, dd, dd, dd, dd, dd, dd, dd, dd, dd, dd, dd, dd, dd, dd, dd, dd, .d (.v (.bool v_x91)), dd, dd, dd, dd, dd, dd, dd, dd, dd, dd, dd, dd, dd, dd, dd, dd, dd, dd, dd, dd, dd, dd, dd, dd, dd, dd, dd, dd, dd, dd, dd, dd, dd, dd, dd, dd, dd, dd, dd, dd, dd, dd, dd, dd, dd, dd, dd, dd, dd, dd, dd, dd, dd, dd, dd, dd, dd, dd, dd, dd, dd, dd, dd, dd, dd, dd, dd, dd, dd, dd, dd, dd, dd, dd, dd, dd, dd, dd, dd, dd, dd, dd, dd, dd, dd, dd, dd, dd, dd, dd, dd, dd, dd, dd, dd], []⟩
def G_inode_Right_C1_hd (v_n81 : S_inode_Node)  : PS := ⟨[dd, .ref 0 0, dd, dd, dd, dd, dd, dd, dd, dd, dd, dd, dd, dd, dd, dd, dd, dd, dd, dd, dd, dd, dd, dd, dd, dd, dd, dd, dd, dd, dd, dd, dd, dd, dd, dd, dd, dd, dd, dd, dd, dd, dd, dd, dd, dd, dd, dd, dd, dd, dd, dd, dd, dd, dd, dd, dd, dd, dd, dd, dd, dd, dd, dd, dd, dd, dd, dd, dd, dd, dd, dd, dd, dd, dd, dd, dd, dd, dd, dd, dd, dd, dd, dd, dd, dd, dd, dd, dd, dd, dd, dd, dd, dd, dd, dd, dd, dd, dd, dd, dd, dd, dd, dd, dd, dd, dd, dd, dd, dd, dd, dd, dd, dd, dd, dd, dd, dd, dd, dd, dd, dd, dd, dd, dd, dd, dd, dd, dd, dd, dd, dd, dd, dd, dd, dd], [.box [.d (.v (.int .i64 v_n81.fKind)), .d (.v (.int .i64 v_n81.fMode)), .d (.v (.int .i64 v_n81.fUser)), .d (.v (.int .i64 v_n81.fGroup)), .d (.v (.int .i64 v_n81.fSize)), .d (.v (.int .i64 v_n81.fLinks)), .d (.v (.int .i64 v_n81.fUp)), .d (.sl (v_n81.fPoints.map (eI .i64)))]]⟩
def G_inode_Right_C1 (n : Nat) (v_n81 : S_inode_Node) : Option G_inode_Right_C1_R :=
  if v_n81.fMode = 0 then
   if v_n81.fUser = 0 then
    if v_n81.fGroup = 0 then
     if v_n81.fSize = 0 then
      if v_n81.fLinks = 0 then
       if v_n81.fUp = 0 then
        some (.x0 ((v_n81.fPoints.length : Int) != 0))
       else
        some (.x0 true)
      else
       some (.x0 true)
     else
      some (.x0 true)
    else
     some (.x0 true)
   else
    some (.x0 true)
  else
   some (.x0 true)
theorem G_inode_Right_C1_ok {Fi : Ex → PS → Prop} (hF : KC 136 Fi) (ks : List Fr) (n : Nat) (v_n81 : S_inode_Node)  (o : G_inode_Right_C1_R) (h : G_inode_Right_C1 n v_n81 = some o) (q : RunE Try.prog 136 Fi ks (G_inode_Right_C1_ex o) (G_inode_Right_C1_st v_n81 o)) : RunE Try.prog 136 Fi (.s (cL (cL (cT (cR (cL (cR (bodyOf Try.f80))))))) :: ks) .normal (G_inode_Right_C1_hd v_n81) := by
  unfold G_inode_Right_C1 at h
  by_cases h106 : v_n81.fMode = 0
  · rw [if_pos h106] at h
    by_cases h107 : v_n81.fUser = 0
    · rw [if_pos h107] at h
      by_cases h108 : v_n81.fGroup = 0
      · rw [if_pos h108] at h
        by_cases h109 : v_n81.fSize = 0
        · rw [if_pos h109] at h
          by_cases h110 : v_n81.fLinks = 0
          · rw [if_pos h110] at h
            by_cases h111 : v_n81.fUp = 0
            · rw [if_pos h111] at h
              cases h
              exact pkk_sound TTok mix hF 1 (hs := [.c, .t false, .c, .c, .c, .t false, .c, .c, .c, .t false, .c, .c, .c, .t false, .c, .c, .c, .t false, .c, .c, .c, .t false, .c, .c, .c, .u (.d (.v (.int .i64 (v_n81.fPoints.length : Int)))), .c]) (ts := []) (s := []) (l := [40]) (by kernel_rfl) (by kernel_rfl) (.cons (nf h106) (.cons (nf h107) (.cons (nf h108) (.cons (nf h109) (.cons (nf h110) (.cons (nf h111) (.cons (len_ob (f := (eI .i64)) (l := v_n81.fPoints)) .nil))))))) q
            · rw [if_neg h111] at h
              cases h
              exact pkk_sound TTok mix hF 1 (hs := [.c, .t false, .c, .c, .c, .t false, .c, .c, .c, .t false, .c, .c, .c, .t false, .c, .c, .c, .t false, .c, .c, .c, .t true, .c, .c, .c]) (ts := []) (s := []) (l := [40]) (by kernel_rfl) (by kernel_rfl) (.cons (nf h106) (.cons (nf h107) (.cons (nf h108) (.cons (nf h109) (.cons (nf h110) (.cons (nt h111) .nil)))))) q
          · rw [if_neg h110] at h
            cases h
            exact pkk_sound TTok mix hF 1 (hs := [.c, .t false, .c, .c, .c, .t false, .c, .c, .c, .t false, .c, .c, .c, .t false, .c, .c, .c, .t true, .c, .c, .c, .c, .c, .c]) (ts := []) (s := []) (l := [40]) (by kernel_rfl) (by kernel_rfl) (.cons (nf h106) (.cons (nf h107) (.cons (nf h108) (.cons (nf h109) (.cons (nt h110) .nil))))) q
        · rw [if_neg h109] at h
          cases h
          exact pkk_sound TTok mix hF 1 (hs := [.c, .t false, .c, .c, .c, .t false, .c, .c, .c, .t false, .c, .c, .c, .t true, .c, .c, .c, .c, .c, .c, .c, .c, .c]) (ts := []) (s := []) (l := [40]) (by kernel_rfl) (by kernel_rfl) (.cons (nf h106) (.cons (nf h107) (.cons (nf h108) (.cons (nt h109) .nil)))) q
      · rw [if_neg h108] at h
        cases h
        exact pkk_sound TTok mix hF 1 (hs := [.c, .t false, .c, .c, .c, .t false, .c, .c, .c, .t true, .c, .c, .c, .c, .c, .c, .c, .c, .c, .c, .c, .c]) (ts := []) (s := []) (l := [40]) (by kernel_rfl) (by kernel_rfl) (.cons (nf h106) (.cons (nf h107) (.cons (nt h108) .nil))) q
    · rw [if_neg h107] at h
      cases h
      exact pkk_sound TTok mix hF 1 (hs := [.c, .t false, .c, .c, .c, .t true, .c, .c, .c, .c, .c, .c, .c, .c, .c, .c, .c, .c, .c, .c, .c]) (ts := []) (s := []) (l := [40]) (by kernel_rfl) (by kernel_rfl) (.cons (nf h106) (.cons (nt h107) .nil)) q
  · rw [if_neg h106] at h
    cases h
    exact pkk_sound TTok mix hF 1 (hs := [.c, .t true, .c, .c, .c, .c, .c, .c, .c, .c, .c, .c, .c, .c, .c, .c, .c, .c, .c, .c]) (ts := []) (s := []) (l := [40]) (by kernel_rfl) (by kernel_rfl) (.cons (nt h106) .nil) q
inductive G_inode_Right_C2_R where
  | x0 (v_x130 : Bool)
def G_inode_Right_C2_ex : G_inode_Right_C2_R → Ex
  | .x0 _ => .normal
def G_inode_Right_C2_st (v_n81 : S_inode_Node) : G_inode_Right_C2_R → PS
  | .x0 v_x130 => ⟨[dd, .ref 0 0, dd, dd, dd, dd, dd, dd, dd, dd, dd, dd, dd, dd, dd, dd, dd, dd, dd, dd, dd, dd, dd, dd, dd, dd, dd, dd, dd, dd, dd, dd, dd, dd, dd, dd, dd, dd, dd, dd, dd, .d (.v (.bool v_x130)), dd, dd, dd, dd, dd, dd, dd, dd, dd, dd, dd, dd, dd, dd, dd, dd, dd, dd, dd, dd, dd, dd, dd, dd, dd, dd, dd, dd, dd, dd, dd, dd, dd, dd, dd, dd, dd, dd, dd, dd, dd, dd, dd, dd, dd, dd, dd, dd, dd, dd, dd, dd, dd, dd, dd, dd, dd, dd, dd, dd, dd, dd, dd, dd, dd, dd, dd, dd, dd, dd, dd, dd, dd, dd, dd, dd, dd, dd, dd, dd, dd, dd, dd, dd, dd, dd, dd, dd, dd, dd, dd, dd, dd, dd], [.box [.d (.v (.int .i64 v_n81.fKind)), .d (.v (.int .i64 v_n81.fMode)), .d (.v (.int .i64 v_n81.fUser)), .d (.v (.int .i64 v_n81.fGroup)), .d (.v (.int .i64 v_n81.fSize)), .d (.v (.int .i64 v_n81.fLinks)), .d (.v (.int .i64 v_n81.fUp)), .d (.sl (v_n81.fPoints.map (eI .i64)))]]⟩
def G_inode_Right_C2_hd (v_n81 : S_inode_Node)  : PS := ⟨[dd, .ref 0 0, dd, dd, dd, dd, dd, dd, dd, dd, dd, dd, dd, dd, dd, dd, dd, dd, dd, dd, dd, dd, dd, dd, dd, dd, dd, dd, dd, dd, dd, dd, dd, dd, dd, dd, dd, dd, dd, dd, dd, dd, dd, dd, dd, dd, dd, dd, dd, dd, dd, dd, dd, dd, dd, dd, dd, dd, dd, dd, dd, dd, dd, dd, dd, dd, dd, dd, dd, dd, dd, dd, dd, dd, dd, dd, dd, dd, dd, dd, dd, dd, dd, dd, dd, dd, dd, dd, dd, dd, dd, dd, dd, dd, dd, dd, dd, dd, dd, dd, dd, dd, dd, dd, dd, dd, dd, dd, dd, dd, dd, dd, dd, dd, dd, dd, dd, dd, dd, dd, dd, dd, dd, dd, dd, dd, dd, dd, dd, dd, dd, dd, dd, dd, dd, dd], [.box [.d (.v (.int .i64 v_n81.fKind)), .d (.v (.int .i64 v_n81.fMode)), .d (.v (.int .i64 v_n81.fUser)), .d (.v (.int .i64 v_n81.fGroup)), .d (.v (.int .i64 v_n81.fSize)), .d (.v (.int .i64 v_n81.fLinks)), .d (.v (.int .i64 v_n81.fUp)), .d (.sl (v_n81.fPoints.map (eI .i64)))]]⟩
def G_inode_Right_C2 (n : Nat) (v_n81 : S_inode_Node) : Option G_inode_Right_C2_R :=
  if v_n81.fKind < 0 then
   some (.x0 true)
  else
   if v_n81.fKind > 3 then
    some (.x0 true)
   else
    if v_n81.fMode < 0 then
     some (.x0 true)
    else
     if v_n81.fMode > 511 then
      some (.x0 true)
     else
      if v_n81.fUser < 0 then
       some (.x0 true)
      else
       if v_n81.fUser > 255 then
        some (.x0 true)
       else
        if v_n81.fGroup < 0 then
         some (.x0 true)
        else
         if v_n81.fGroup > 255 then
          some (.x0 true)
         else
          if v_n81.fLinks < 0 then
           some (.x0 true)
          else
           some (.x0 (decide (v_n81.fLinks > 200)))
theorem G_inode_Right_C2_ok {Fi : Ex → PS → Prop} (hF : KC 136 Fi) (ks : List Fr) (n : Nat) (v_n81 : S_inode_Node)  (o : G_inode_Right_C2_R) (h : G_inode_Right_C2 n v_n81 = some o) (q : RunE Try.prog 136 Fi ks (G_inode_Right_C2_ex o) (G_inode_Right_C2_st v_n81 o)) : RunE Try.prog 136 Fi (.s (cL (cB (cL (cR (cR (bodyOf Try.f80)))))) :: ks) .normal (G_inode_Right_C2_hd v_n81) := by
  unfold G_inode_Right_C2 at h
  by_cases h173 : v_n81.fKind < 0
  · rw [if_pos h173] at h
    cases h
    exact pkk_sound TTok mix hF 1 (hs := [.c, .t true, .c, .c, .c, .c, .c, .c, .c, .c, .c, .c, .c, .c, .c, .c, .c, .c, .c, .c, .c, .c, .c, .c, .c, .c, .c, .c]) (ts := []) (s := [0]) (l := [1, 41]) (by kernel_rfl) (by kernel_rfl) (.cons (dt h173) .nil) q
  · rw [if_neg h173] at h
    by_cases h174 : v_n81.fKind > 3
    · rw [if_pos h174] at h
      cases h
      exact pkk_sound TTok mix hF 1 (hs := [.c, .t false, .c, .c, .c, .t true, .c, .c, .c, .c, .c, .c, .c, .c, .c, .c, .c, .c, .c, .c, .c, .c, .c, .c, .c, .c, .c, .c, .c]) (ts := []) (s := [0]) (l := [1, 41]) (by kernel_rfl) (by kernel_rfl) (.cons (df h173) (.cons (dt h174) .nil)) q
    · rw [if_neg h174] at h
      by_cases h175 : v_n81.fMode < 0
      · rw [if_pos h175] at h
        cases h
        exact pkk_sound TTok mix hF 1 (hs := [.c, .t false, .c, .c, .c, .t false, .c, .c, .c, .t true, .c, .c, .c, .c, .c, .c, .c, .c, .c, .c, .c, .c, .c, .c, .c, .c, .c, .c, .c, .c]) (ts := []) (s := [0]) (l := [1, 41]) (by kernel_rfl) (by kernel_rfl) (.cons (df h173) (.cons (df h174) (.cons (dt h175) .nil))) q
      · rw [if_neg h175] at h
        by_cases h176 : v_n81.fMode > 511
        · rw [if_pos h176] at h
          cases h
          exact pkk_sound TTok mix hF 1 (hs := [.c, .t false, .c, .c, .c, .t false, .c, .c, .c, .t false, .c, .c, .c, .t true, .c, .c, .c, .c, .c, .c, .c, .c, .c, .c, .c, .c, .c, .c, .c, .c, .c]) (ts := []) (s := [0]) (l := [1, 41]) (by kernel_rfl) (by kernel_rfl) (.cons (df h173) (.cons (df h174) (.cons (df h175) (.cons (dt h176) .nil)))) q
        · rw [if_neg h176] at h
          by_cases h177 : v_n81.fUser < 0
          · rw [if_pos h177] at h
            cases h
            exact pkk_sound TTok mix hF 1 (hs := [.c, .t false, .c, .c, .c, .t false, .c, .c, .c, .t false, .c, .c, .c, .t false, .c, .c, .c, .t true, .c, .c, .c, .c, .c, .c, .c, .c, .c, .c, .c, .c, .c, .c]) (ts := []) (s := [0]) (l := [1, 41]) (by kernel_rfl) (by kernel_rfl) (.cons (df h173) (.cons (df h174) (.cons (df h175) (.cons (df h176) (.cons (dt h177) .nil))))) q
          · rw [if_neg h177] at h
            by_cases h178 : v_n81.fUser > 255
            · rw [if_pos h178] at h
              cases h
              exact pkk_sound TTok mix hF 1 (hs := [.c, .t false, .c, .c, .c, .t false, .c, .c, .c, .t false, .c, .c, .c, .t false, .c, .c, .c, .t false, .c, .c, .c, .t true, .c, .c, .c, .c, .c, .c, .c, .c, .c, .c, .c]) (ts := []) (s := [0]) (l := [1, 41]) (by kernel_rfl) (by kernel_rfl) (.cons (df h173) (.cons (df h174) (.cons (df h175) (.cons (df h176) (.cons (df h177) (.cons (dt h178) .nil)))))) q
            · rw [if_neg h178] at h
              by_cases h179 : v_n81.fGroup < 0
              · rw [if_pos h179] at h
                cases h
                exact pkk_sound TTok mix hF 1 (hs := [.c, .t false, .c, .c, .c, .t false, .c, .c, .c, .t false, .c, .c, .c, .t false, .c, .c, .c, .t false, .c, .c, .c, .t false, .c, .c, .c, .t true, .c, .c, .c, .c, .c, .c, .c, .c]) (ts := []) (s := [0]) (l := [1, 41]) (by kernel_rfl) (by kernel_rfl) (.cons (df h173) (.cons (df h174) (.cons (df h175) (.cons (df h176) (.cons (df h177) (.cons (df h178) (.cons (dt h179) .nil))))))) q
              · rw [if_neg h179] at h
                by_cases h180 : v_n81.fGroup > 255
                · rw [if_pos h180] at h
                  cases h
                  exact pkk_sound TTok mix hF 1 (hs := [.c, .t false, .c, .c, .c, .t false, .c, .c, .c, .t false, .c, .c, .c, .t false, .c, .c, .c, .t false, .c, .c, .c, .t false, .c, .c, .c, .t false, .c, .c, .c, .t true, .c, .c, .c, .c, .c]) (ts := []) (s := [0]) (l := [1, 41]) (by kernel_rfl) (by kernel_rfl) (.cons (df h173) (.cons (df h174) (.cons (df h175) (.cons (df h176) (.cons (df h177) (.cons (df h178) (.cons (df h179) (.cons (dt h180) .nil)))))))) q
                · rw [if_neg h180] at h
                  by_cases h181 : v_n81.fLinks < 0
                  · rw [if_pos h181] at h
                    cases h
                    exact pkk_sound TTok mix hF 1 (hs := [.c, .t false, .c, .c, .c, .t false, .c, .c, .c, .t false, .c, .c, .c, .t false, .c, .c, .c, .t false, .c, .c, .c, .t false, .c, .c, .c, .t false, .c, .c, .c, .t false, .c, .c, .c, .t true, .c, .c]) (ts := []) (s := [0]) (l := [1, 41]) (by kernel_rfl) (by kernel_rfl) (.cons (df h173) (.cons (df h174) (.cons (df h175) (.cons (df h176) (.cons (df h177) (.cons (df h178) (.cons (df h179) (.cons (df h180) (.cons (dt h181) .nil))))))))) q
                  · rw [if_neg h181] at h
                    cases h
                    exact pkk_sound TTok mix hF 1 (hs := [.c, .t false, .c, .c, .c, .t false, .c, .c, .c, .t false, .c, .c, .c, .t false, .c, .c, .c, .t false, .c, .c, .c, .t false, .c, .c, .c, .t false, .c, .c, .c, .t false, .c, .c, .c, .t false, .c, .c, .c]) (ts := []) (s := [0]) (l := [1, 41]) (by kernel_rfl) (by kernel_rfl) (.cons (df h173) (.cons (df h174) (.cons (df h175) (.cons (df h176) (.cons (df h177) (.cons (df h178) (.cons (df h179) (.cons (df h180) (.cons (df h181) .nil))))))))) q
inductive G_inode_Right_C3_R where
  | x0 (v_x154 : Bool)
def G_inode_Right_C3_ex : G_inode_Right_C3_R → Ex
  | .x0 _ => .normal
def G_inode_Right_C3_st (v_n81 : S_inode_Node) : G_inode_Right_C3_R → PS
  | .x0 v_x154 => ⟨[dd, .ref 0 0, dd, dd, dd, dd, dd, dd, dd, dd, dd, dd, dd, dd, dd, dd, dd, dd, dd, dd, dd, dd, dd, dd, dd, dd, dd, dd, dd, dd, dd, dd, dd, dd, dd, dd, dd, dd, dd, dd, dd, dd, dd, dd, dd, dd, dd, dd, dd, dd, dd, dd, dd, dd, dd, dd, dd, dd, dd, dd, dd, dd, dd, dd, dd, dd, dd, dd, dd, dd, dd, dd, dd, dd, dd, dd, dd, dd, dd, dd, dd, dd, dd, dd, dd, dd, dd, dd, dd, dd, dd, dd, dd, dd, dd, dd, dd, dd, dd, .d (.v (.bool v_x154)), dd, dd, dd, dd, dd, dd, dd, dd, dd, dd, dd, dd, dd, dd, dd, dd, dd, dd, dd, dd, dd, dd, dd, dd, dd, dd, dd, dd, dd, dd, dd, dd, dd, dd, dd, dd], [.box [.d (.v (.int .i64 v_n81.fKind)), .d (.v (.int .i64 v_n81.fMode)), .d (.v (.int .i64 v_n81.fUser)), .d (.v (.int .i64 v_n81.fGroup)), .d (.v (.int .i64 v_n81.fSize)), .d (.v (.int .i64 v_n81.fLinks)), .d (.v (.int .i64 v_n81.fUp)), .d (.sl (v_n81.fPoints.map (eI .i64)))]]⟩
def G_inode_Right_C3_hd (v_n81 : S_inode_Node)  : PS := ⟨[dd, .ref 0 0, dd, dd, dd, dd, dd, dd, dd, dd, dd, dd, dd, dd, dd, dd, dd, dd, dd, dd, dd, dd, dd, dd, dd, dd, dd, dd, dd, dd, dd, dd, dd, dd, dd, dd, dd, dd, dd, dd, dd, dd, dd, dd, dd, dd, dd, dd, dd, dd, dd, dd, dd, dd, dd, dd, dd, dd, dd, dd, dd, dd, dd, dd, dd, dd, dd, dd, dd, dd, dd, dd, dd, dd, dd, dd, dd, dd, dd, dd, dd, dd, dd, dd, dd, dd, dd, dd, dd, dd, dd, dd, dd, dd, dd, dd, dd, dd, dd, dd, dd, dd, dd, dd, dd, dd, dd, dd, dd, dd, dd, dd, dd, dd, dd, dd, dd, dd, dd, dd, dd, dd, dd, dd, dd, dd, dd, dd, dd, dd, dd, dd, dd, dd, dd, dd], [.box [.d (.v (.int .i64 v_n81.fKind)), .d (.v (.int .i64 v_n81.fMode)), .d (.v (.int .i64 v_n81.fUser)), .d (.v (.int .i64 v_n81.fGroup)), .d (.v (.int .i64 v_n81.fSize)), .d (.v (.int .i64 v_n81.fLinks)), .d (.v (.int .i64 v_n81.fUp)), .d (.sl (v_n81.fPoints.map (eI .i64)))]]⟩
def G_inode_Right_C3 (n : Nat) (v_n81 : S_inode_Node) : Option G_inode_Right_C3_R :=
  if v_n81.fKind = 2 then
   if v_n81.fUp < 1 then
    some (.x0 true)
   else
    if v_n81.fUp > 32 then
     some (.x0 true)
    else
     some (.x0 false)
  else
   some (.x0 (v_n81.fUp != 0))
theorem G_inode_Right_C3_ok {Fi : Ex → PS → Prop} (hF : KC 136 Fi) (ks : List Fr) (n : Nat) (v_n81 : S_inode_Node)  (o : G_inode_Right_C3_R) (h : G_inode_Right_C3 n v_n81 = some o) (q : RunE Try.prog 136 Fi ks (G_inode_Right_C3_ex o) (G_inode_Right_C3_st v_n81 o)) : RunE Try.prog 136 Fi (.s (cL (cF (cR (cF (cR (cB (cL (cR (cR (bodyOf Try.f80)))))))))) :: ks) .normal (G_inode_Right_C3_hd v_n81) := by
  unfold G_inode_Right_C3 at h
  by_cases h209 : v_n81.fKind = 2
  · rw [if_pos h209] at h
    by_cases h210 : v_n81.fUp < 1
    · rw [if_pos h210] at h
      cases h
      exact pkk_sound TTok mix hF 1 (hs := [.c, .t true, .c, .c, .c, .c, .t true, .c, .c, .c, .c, .c, .c, .c, .c]) (ts := []) (s := [0]) (l := [1, 99]) (by kernel_rfl) (by kernel_rfl) (.cons (bt h209) (.cons (dt h210) .nil)) q
    · rw [if_neg h210] at h
      by_cases h211 : v_n81.fUp > 32
      · rw [if_pos h211] at h
        cases h
        exact pkk_sound TTok mix hF 1 (hs := [.c, .t true, .c, .c, .c, .c, .t false, .c, .c, .c, .c, .t true, .c, .c, .c, .c]) (ts := []) (s := [0]) (l := [1, 99]) (by kernel_rfl) (by kernel_rfl) (.cons (bt h209) (.cons (df h210) (.cons (dt h211) .nil))) q
      · rw [if_neg h211] at h
        cases h
        exact pkk_sound TTok mix hF 1 (hs := [.c, .t true, .c, .c, .c, .c, .t false, .c, .c, .c, .c, .t false, .c, .c, .c, .c, .t false, .c, .c, .c]) (ts := []) (s := [0]) (l := [1, 99]) (by kernel_rfl) (by kernel_rfl) (.cons (bt h209) (.cons (df h210) (.cons (df h211) (.cons (nf h209) .nil)))) q
  · rw [if_neg h209] at h
    cases h
    exact pkk_sound TTok mix hF 1 (hs := [.c, .t false, .c, .c, .c, .c, .c, .c, .c, .c, .c, .t true, .c, .c, .c, .c]) (ts := []) (s := [0]) (l := [1, 99]) (by kernel_rfl) (by kernel_rfl) (.cons (bf h209) (.cons (nt h209) .nil)) q
/- ringhall/inode.Right -/
def G_inode_Right (n : Nat) (v_n81 : S_inode_Node) : Option (Int) :=
  if v_n81.fKind = 0 then
   (G_inode_Right_C1 n v_n81).bind fun v_o98 => match v_o98 with
   | .x0 v_z99 =>
     if v_z99 = true then
      some 3
     else
      some 0
  else
   (G_inode_Right_C2 n v_n81).bind fun v_o140 => match v_o140 with
   | .x0 v_z141 =>
     if v_z141 = true then
      some 1
     else
      if v_n81.fSize < 0 then
       some 2
      else
       if v_n81.fSize > 512 then
        some 2
       else
        (G_inode_Right_C3 n v_n81).bind fun v_o158 => match v_o158 with
        | .x0 v_z159 =>
          if v_z159 = true then
           some 12
          else
           (G_extent_Right n v_n81.fPoints).bind fun (v_r168 : (Int)) =>
           if v_r168 = 0 then
            (G_inode_Blocks n v_n81.fSize).bind fun (v_r170 : (Int)) =>
            if (v_n81.fPoints.length : Int) = v_r170 then
             some 0
            else
             some 3
           else
            some v_r168
theorem G_inode_Right_ok (n : Nat) (v_n81 : S_inode_Node) (r : Int) (h : G_inode_Right n v_n81 = some r) : Ret Try.prog 80 [eS_inode_Node v_n81] ((eI .i64) r) := by
  refine ret_run (n := 136) (fn := Try.f80) (c := bodyOf Try.f80) (by kernel_rfl) (by kernel_rfl) (by kernel_rfl) (by kernel_rfl) ?_
  have hF : KC 136 (FinR Try.prog Try.f80 ((eI .i64) r)) := FinR.kc' (by kernel_rfl)
  unfold G_inode_Right at h
  by_cases h99 : v_n81.fKind = 0
  · rw [if_pos h99] at h
    obtain ⟨v_o98, h112, h⟩ := bind_some h
    refine pkk_sound TTok mix hF 8 (hs := [.c, .t true]) (ts := []) (s := [0]) (l := [1]) (by kernel_rfl) (by kernel_rfl) (.cons (bt h99) .nil) (G_inode_Right_C1_ok hF (.s (cR (cL (cT (cR (cL (cR (bodyOf Try.f80))))))) :: .s (cR (cT (cR (cL (cR (bodyOf Try.f80)))))) :: .s (cR (cR (bodyOf Try.f80))) :: []) n v_n81 _ h112 ?_)
    cases v_o98 with
    | x0 v_z99 =>
      try dsimp only at h
      by_cases h113 : v_z99 = true
      · rw [if_pos h113] at h
        obtain rfl := Option.some.inj h
        exact pend_sound TTok mix 6 (hs := [.t true]) (by kernel_rfl) (by kernel_rfl) (by kernel_rfl) (.cons h113 .nil)
      · rw [if_neg h113] at h
        obtain rfl := Option.some.inj h
        exact pend_sound TTok mix 6 (hs := [.t false]) (by kernel_rfl) (by kernel_rfl) (by kernel_rfl) (.cons (vf h113) .nil)
  · rw [if_neg h99] at h
    obtain ⟨v_o140, h182, h⟩ := bind_some h
    refine pkk_sound TTok mix hF 10 (hs := [.c, .t false]) (ts := []) (s := [0]) (l := [1]) (by kernel_rfl) (by kernel_rfl) (.cons (bf h99) .nil) (G_inode_Right_C2_ok hF (.s (cR (cB (cL (cR (cR (bodyOf Try.f80)))))) :: .b 0 :: .s (cR (cR (cR (bodyOf Try.f80)))) :: []) n v_n81 _ h182 ?_)
    cases v_o140 with
    | x0 v_z141 =>
      try dsimp only at h
      by_cases h194 : v_z141 = true
      · rw [if_pos h194] at h
        obtain rfl := Option.some.inj h
        exact pend_sound TTok mix 6 (hs := [.t true]) (by kernel_rfl) (by kernel_rfl) (by kernel_rfl) (.cons h194 .nil)
      · rw [if_neg h194] at h
        by_cases h195 : v_n81.fSize < 0
        · rw [if_pos h195] at h
          obtain rfl := Option.some.inj h
          exact pend_sound TTok mix 9 (hs := [.t false, .c, .t true, .c, .c, .c]) (by kernel_rfl) (by kernel_rfl) (by kernel_rfl) (.cons (vf h194) (.cons (dt h195) .nil))
        · rw [if_neg h195] at h
          by_cases h205 : v_n81.fSize > 512
          · rw [if_pos h205] at h
            obtain rfl := Option.some.inj h
            exact pend_sound TTok mix 9 (hs := [.t false, .c, .t false, .c, .c, .c, .t true]) (by kernel_rfl) (by kernel_rfl) (by kernel_rfl) (.cons (vf h194) (.cons (df h195) (.cons (dt h205) .nil)))
          · rw [if_neg h205] at h
            obtain ⟨v_o158, h212, h⟩ := bind_some h
            refine pkk_sound TTok mix hF 5 (hs := [.t false, .c, .t false, .c, .c, .c, .t false]) (ts := []) (s := [0]) (l := [1]) (by kernel_rfl) (by kernel_rfl) (.cons (vf h194) (.cons (df h195) (.cons (df h205) .nil))) (G_inode_Right_C3_ok hF (.s (cR (cF (cR (cF (cR (cB (cL (cR (cR (bodyOf Try.f80)))))))))) :: .b 0 :: .s (cR (cR (cR (bodyOf Try.f80)))) :: []) n v_n81 _ h212 ?_)
            cases v_o158 with
            | x0 v_z159 =>
              try dsimp only at h
              by_cases h213 : v_z159 = true
              · rw [if_pos h213] at h
                obtain rfl := Option.some.inj h
                exact pend_sound TTok mix 6 (hs := [.t true]) (by kernel_rfl) (by kernel_rfl) (by kernel_rfl) (.cons h213 .nil)
              · rw [if_neg h213] at h
                obtain ⟨v_r168, h223, h⟩ := bind_some h
                by_cases h224 : v_r168 = 0
                · rw [if_pos h224] at h
                  obtain ⟨v_r170, h227, h⟩ := bind_some h
                  by_cases h228 : (v_n81.fPoints.length : Int) = v_r170
                  · rw [if_pos h228] at h
                    obtain rfl := Option.some.inj h
                    exact pend_sound TTok mix 18 (hs := [.t false, .c, .r ((eI .i64) v_r168), .t false, .c, .u (.d (.v (.int .i64 (v_n81.fPoints.length : Int)))), .c, .r ((eI .i64) v_r170), .t false]) (by kernel_rfl) (by kernel_rfl) (by kernel_rfl) (.cons (vf h213) (.cons (G_extent_Right_ok n v_n81.fPoints _ h223) (.cons (nf h224) (.cons (len_ob (f := (eI .i64)) (l := v_n81.fPoints)) (.cons (G_inode_Blocks_ok n v_n81.fSize _ h227) (.cons (nf h228) .nil))))))
                  · rw [if_neg h228] at h
                    obtain rfl := Option.some.inj h
                    exact pend_sound TTok mix 18 (hs := [.t false, .c, .r ((eI .i64) v_r168), .t false, .c, .u (.d (.v (.int .i64 (v_n81.fPoints.length : Int)))), .c, .r ((eI .i64) v_r170), .t true]) (by kernel_rfl) (by kernel_rfl) (by kernel_rfl) (.cons (vf h213) (.cons (G_extent_Right_ok n v_n81.fPoints _ h223) (.cons (nf h224) (.cons (len_ob (f := (eI .i64)) (l := v_n81.fPoints)) (.cons (G_inode_Blocks_ok n v_n81.fSize _ h227) (.cons (nt h228) .nil))))))
                · rw [if_neg h224] at h
                  obtain rfl := Option.some.inj h
                  exact pend_sound TTok mix 13 (hs := [.t false, .c, .r ((eI .i64) v_r168), .t true]) (by kernel_rfl) (by kernel_rfl) (by kernel_rfl) (.cons (vf h213) (.cons (G_extent_Right_ok n v_n81.fPoints _ h223) (.cons (nt h224) .nil)))
/- slices.Clone[[]int,int] -/
def G_slices_Clone_int_int_A (n : Nat) (v_c173 : Nat) : Option ((List Int)) :=
  some ([] : List Int)
theorem G_slices_Clone_int_int_A_ok (n : Nat) (v_c173 : Nat) (r : (List Int)) (h : G_slices_Clone_int_int_A n v_c173 = some r) : RetH Try.prog 23 [.d (.v (.slice none 0 v_c173))] [] (.srf 0) [.row 3 1 (r.map (eI .i64))] := by
  refine retH_run (n := 8) (fn := Try.f23) (c := bodyOf Try.f23) (by kernel_rfl) (by kernel_rfl) (by kernel_rfl) (by kernel_rfl) ?_
  have hF : KC 8 (FinH Try.prog Try.f23 [] (.srf 0) [.row 3 1 (r.map (eI .i64))]) := FinH.kc' (by kernel_rfl)
  unfold G_slices_Clone_int_int_A at h
  obtain rfl := Option.some.inj h
  exact pendH_sound TTok mix 11 (hs := [.c, .dl 4, .th 2 3 1]) [12] (by kernel_rfl) (by kernel_rfl) (by kernel_rfl) .nil
/- slices.Clone[[]int,int] -/
def G_slices_Clone_int_int_B (n : Nat) (v_a174 : Addr) (v_c175 : Nat) : Option ((List Int)) :=
  (app 8 ([] : List Int) ([] : (List Int))).bind fun (v_a176 : (List Int)) =>
  some v_a176
theorem G_slices_Clone_int_int_B_ok (n : Nat) (v_a174 : Addr) (v_c175 : Nat) (r : (List Int)) (h : G_slices_Clone_int_int_B n v_a174 v_c175 = some r) : RetH Try.prog 23 [.d (.v (.slice (some v_a174) 0 v_c175))] [] (.srf 0) [.row 3 1 (r.map (eI .i64))] := by
  refine retH_run (n := 8) (fn := Try.f23) (c := bodyOf Try.f23) (by kernel_rfl) (by kernel_rfl) (by kernel_rfl) (by kernel_rfl) ?_
  have hF : KC 8 (FinH Try.prog Try.f23 [] (.srf 0) [.row 3 1 (r.map (eI .i64))]) := FinH.kc' (by kernel_rfl)
  unfold G_slices_Clone_int_int_B at h
  obtain ⟨v_a176, h251, h⟩ := bind_some h
  obtain rfl := Option.some.inj h
  exact pendH_sound TTok mix 10 (hs := [.c, .w (([] : List Int).map (eI .i64)), .w (v_a176.map (eI .i64))]) [15] (by kernel_rfl) (by kernel_rfl) (by kernel_rfl) (.cons (Eq.refl (([] : List Int).map (eI .i64))) (.cons (app_ob (f := (eI .i64)) (s := 1) h251 (fun _ => rfl)).1 (.cons (app_ob (f := (eI .i64)) (s := 1) h251 (fun _ => rfl)).2.1 (.cons (app_ob (f := (eI .i64)) (s := 1) h251 (fun _ => rfl)).2.2.1 (.cons (app_ob (f := (eI .i64)) (s := 1) h251 (fun _ => rfl)).2.2.2 .nil)))))
/- slices.Clone[[]int,int] -/
def G_slices_Clone_int_int_C (n : Nat) (v_y177 : Int) (v_ys178 : (List Int)) : Option ((List Int)) :=
  (app 8 ([] : List Int) (v_y177 :: v_ys178)).bind fun (v_a179 : (List Int)) =>
  some v_a179
theorem G_slices_Clone_int_int_C_ok (n : Nat) (v_y177 : Int) (v_ys178 : (List Int)) (r : (List Int)) (h : G_slices_Clone_int_int_C n v_y177 v_ys178 = some r) : RetH Try.prog 23 [.d (.sl ((eI .i64) v_y177 :: v_ys178.map (eI .i64)))] [] (.srf 0) [.row 3 1 (r.map (eI .i64))] := by
  refine retH_run (n := 8) (fn := Try.f23) (c := bodyOf Try.f23) (by kernel_rfl) (by kernel_rfl) (by kernel_rfl) (by kernel_rfl) ?_
  have hF : KC 8 (FinH Try.prog Try.f23 [] (.srf 0) [.row 3 1 (r.map (eI .i64))]) := FinH.kc' (by kernel_rfl)
  unfold G_slices_Clone_int_int_C at h
  obtain ⟨v_a179, h252, h⟩ := bind_some h
  obtain rfl := Option.some.inj h
  exact pendH_sound TTok mix 10 (hs := [.c, .w (([] : List Int).map (eI .i64)), .w (v_a179.map (eI .i64))]) [15] (by kernel_rfl) (by kernel_rfl) (by kernel_rfl) (.cons (Eq.refl (([] : List Int).map (eI .i64))) (.cons (app_ob (f := (eI .i64)) (s := 1) h252 (fun _ => rfl)).1 (.cons (app_ob (f := (eI .i64)) (s := 1) h252 (fun _ => rfl)).2.1 (.cons (app_ob (f := (eI .i64)) (s := 1) h252 (fun _ => rfl)).2.2.1 (.cons (app_ob (f := (eI .i64)) (s := 1) h252 (fun _ => rfl)).2.2.2 .nil)))))
def G_slices_Clone_int_int (n : Nat) (xs : (List Int)) : Option (List Int) := app 8 [] xs
theorem G_slices_Clone_int_int_ok (n : Nat) (xs : (List Int)) (r : (List Int)) (h : G_slices_Clone_int_int n xs = some r) : RetH Try.prog 23 [.d (.sl (xs.map (eI .i64)))] [] (.srf 0) [.row 3 1 (r.map (eI .i64))] := by
  unfold G_slices_Clone_int_int at h
  have e : app 8 ([] : (List Int)) [] = some [] := by simp [app]
  cases xs with
  | nil =>
    rw [e] at h; obtain rfl := Option.some.inj h
    exact clone_nil (fun c => G_slices_Clone_int_int_A_ok n c _ (by unfold G_slices_Clone_int_int_A; rfl)) (fun a c => G_slices_Clone_int_int_B_ok n a c _ (by unfold G_slices_Clone_int_int_B; rw [e]; rfl))
  | cons y ys => exact G_slices_Clone_int_int_C_ok n y ys _ (by unfold G_slices_Clone_int_int_C; rw [h]; rfl)
/- math/bits.Len64 -/
def G_math_bits_Len64 (n : Nat) (v_x209 : Int) : Option (Int) :=
  if v_x209 ≥ 4294967296 then
   if (shrI .u64 v_x209 32) ≥ 65536 then
    if (shrI .u64 (shrI .u64 v_x209 32) 16) ≥ 256 then
     (getS (ByteArray.mk #[0, 1, 2, 2, 3, 3, 3, 3, 4, 4, 4, 4, 4, 4, 4, 4, 5, 5, 5, 5, 5, 5, 5, 5, 5, 5, 5, 5, 5, 5, 5, 5, 6, 6, 6, 6, 6, 6, 6, 6, 6, 6, 6, 6, 6, 6, 6, 6, 6, 6, 6, 6, 6, 6, 6, 6, 6, 6, 6, 6, 6, 6, 6, 6, 7, 7, 7, 7, 7, 7, 7, 7, 7, 7, 7, 7, 7, 7, 7, 7, 7, 7, 7, 7, 7, 7, 7, 7, 7, 7, 7, 7, 7, 7, 7, 7, 7, 7, 7, 7, 7, 7, 7, 7, 7, 7, 7, 7, 7, 7, 7, 7, 7, 7, 7, 7, 7, 7, 7, 7, 7, 7, 7, 7, 7, 7, 7, 7, 8, 8, 8, 8, 8, 8, 8, 8, 8, 8, 8, 8, 8, 8, 8, 8, 8, 8, 8, 8, 8, 8, 8, 8, 8, 8, 8, 8, 8, 8, 8, 8, 8, 8, 8, 8, 8, 8, 8, 8, 8, 8, 8, 8, 8, 8, 8, 8, 8, 8, 8, 8, 8, 8, 8, 8, 8, 8, 8, 8, 8, 8, 8, 8, 8, 8, 8, 8, 8, 8, 8, 8, 8, 8, 8, 8, 8, 8, 8, 8, 8, 8, 8, 8, 8, 8, 8, 8, 8, 8, 8, 8, 8, 8, 8, 8, 8, 8, 8, 8, 8, 8, 8, 8, 8, 8, 8, 8, 8, 8, 8, 8, 8, 8, 8, 8, 8, 8, 8, 8, 8, 8, 8, 8, 8, 8, 8, 8]) (wi .u8 (shrI .u64 (shrI .u64 (shrI .u64 v_x209 32) 16) 8))).bind fun (v_y210 : Int) =>
     some (wi .i64 ((wi .i64 ((wi .i64 (32 + 16)) + 8)) + (wi .i64 v_y210)))
    else
     (getS (ByteArray.mk #[0, 1, 2, 2, 3, 3, 3, 3, 4, 4, 4, 4, 4, 4, 4, 4, 5, 5, 5, 5, 5, 5, 5, 5, 5, 5, 5, 5, 5, 5, 5, 5, 6, 6, 6, 6, 6, 6, 6, 6, 6, 6, 6, 6, 6, 6, 6, 6, 6, 6, 6, 6, 6, 6, 6, 6, 6, 6, 6, 6, 6, 6, 6, 6, 7, 7, 7, 7, 7, 7, 7, 7, 7, 7, 7, 7, 7, 7, 7, 7, 7, 7, 7, 7, 7, 7, 7, 7, 7, 7, 7, 7, 7, 7, 7, 7, 7, 7, 7, 7, 7, 7, 7, 7, 7, 7, 7, 7, 7, 7, 7, 7, 7, 7, 7, 7, 7, 7, 7, 7, 7, 7, 7, 7, 7, 7, 7, 7, 8, 8, 8, 8, 8, 8, 8, 8, 8, 8, 8, 8, 8, 8, 8, 8, 8, 8, 8, 8, 8, 8, 8, 8, 8, 8, 8, 8, 8, 8, 8, 8, 8, 8, 8, 8, 8, 8, 8, 8, 8, 8, 8, 8, 8, 8, 8, 8, 8, 8, 8, 8, 8, 8, 8, 8, 8, 8, 8, 8, 8, 8, 8, 8, 8, 8, 8, 8, 8, 8, 8, 8, 8, 8, 8, 8, 8, 8, 8, 8, 8, 8, 8, 8, 8, 8, 8, 8, 8, 8, 8, 8, 8, 8, 8, 8, 8, 8, 8, 8, 8, 8, 8, 8, 8, 8, 8, 8, 8, 8, 8, 8, 8, 8, 8, 8, 8, 8, 8, 8, 8, 8, 8, 8, 8, 8, 8, 8]) (wi .u8 (shrI .u64 (shrI .u64 v_x209 32) 16))).bind fun (v_y211 : Int) =>
     some (wi .i64 ((wi .i64 (32 + 16)) + (wi .i64 v_y211)))
   else
    if (shrI .u64 v_x209 32) ≥ 256 then
     (getS (ByteArray.mk #[0, 1, 2, 2, 3, 3, 3, 3, 4, 4, 4, 4, 4, 4, 4, 4, 5, 5, 5, 5, 5, 5, 5, 5, 5, 5, 5, 5, 5, 5, 5, 5, 6, 6, 6, 6, 6, 6, 6, 6, 6, 6, 6, 6, 6, 6, 6, 6, 6, 6, 6, 6, 6, 6, 6, 6, 6, 6, 6, 6, 6, 6, 6, 6, 7, 7, 7, 7, 7, 7, 7, 7, 7, 7, 7, 7, 7, 7, 7, 7, 7, 7, 7, 7, 7, 7, 7, 7, 7, 7, 7, 7, 7, 7, 7, 7, 7, 7, 7, 7, 7, 7, 7, 7, 7, 7, 7, 7, 7, 7, 7, 7, 7, 7, 7, 7, 7, 7, 7, 7, 7, 7, 7, 7, 7, 7, 7, 7, 8, 8, 8, 8, 8, 8, 8, 8, 8, 8, 8, 8, 8, 8, 8, 8, 8, 8, 8, 8, 8, 8, 8, 8, 8, 8, 8, 8, 8, 8, 8, 8, 8, 8, 8, 8, 8, 8, 8, 8, 8, 8, 8, 8, 8, 8, 8, 8, 8, 8, 8, 8, 8, 8, 8, 8, 8, 8, 8, 8, 8, 8, 8, 8, 8, 8, 8, 8, 8, 8, 8, 8, 8, 8, 8, 8, 8, 8, 8, 8, 8, 8, 8, 8, 8, 8, 8, 8, 8, 8, 8, 8, 8, 8, 8, 8, 8, 8, 8, 8, 8, 8, 8, 8, 8, 8, 8, 8, 8, 8, 8, 8, 8, 8, 8, 8, 8, 8, 8, 8, 8, 8, 8, 8, 8, 8, 8, 8]) (wi .u8 (shrI .u64 (shrI .u64 v_x209 32) 8))).bind fun (v_y212 : Int) =>
     some (wi .i64 ((wi .i64 (32 + 8)) + (wi .i64 v_y212)))
    else
     (getS (ByteArray.mk #[0, 1, 2, 2, 3, 3, 3, 3, 4, 4, 4, 4, 4, 4, 4, 4, 5, 5, 5, 5, 5, 5, 5, 5, 5, 5, 5, 5, 5, 5, 5, 5, 6, 6, 6, 6, 6, 6, 6, 6, 6, 6, 6, 6, 6, 6, 6, 6, 6, 6, 6, 6, 6, 6, 6, 6, 6, 6, 6, 6, 6, 6, 6, 6, 7, 7, 7, 7, 7, 7, 7, 7, 7, 7, 7, 7, 7, 7, 7, 7, 7, 7, 7, 7, 7, 7, 7, 7, 7, 7, 7, 7, 7, 7, 7, 7, 7, 7, 7, 7, 7, 7, 7, 7, 7, 7, 7, 7, 7, 7, 7, 7, 7, 7, 7, 7, 7, 7, 7, 7, 7, 7, 7, 7, 7, 7, 7, 7, 8, 8, 8, 8, 8, 8, 8, 8, 8, 8, 8, 8, 8, 8, 8, 8, 8, 8, 8, 8, 8, 8, 8, 8, 8, 8, 8, 8, 8, 8, 8, 8, 8, 8, 8, 8, 8, 8, 8, 8, 8, 8, 8, 8, 8, 8, 8, 8, 8, 8, 8, 8, 8, 8, 8, 8, 8, 8, 8, 8, 8, 8, 8, 8, 8, 8, 8, 8, 8, 8, 8, 8, 8, 8, 8, 8, 8, 8, 8, 8, 8, 8, 8, 8, 8, 8, 8, 8, 8, 8, 8, 8, 8, 8, 8, 8, 8, 8, 8, 8, 8, 8, 8, 8, 8, 8, 8, 8, 8, 8, 8, 8, 8, 8, 8, 8, 8, 8, 8, 8, 8, 8, 8, 8, 8, 8, 8, 8]) (wi .u8 (shrI .u64 v_x209 32))).bind fun (v_y213 : Int) =>
     some (wi .i64 (32 + (wi .i64 v_y213)))
  else
   if v_x209 ≥ 65536 then
    if (shrI .u64 v_x209 16) ≥ 256 then
     (getS (ByteArray.mk #[0, 1, 2, 2, 3, 3, 3, 3, 4, 4, 4, 4, 4, 4, 4, 4, 5, 5, 5, 5, 5, 5, 5, 5, 5, 5, 5, 5, 5, 5, 5, 5, 6, 6, 6, 6, 6, 6, 6, 6, 6, 6, 6, 6, 6, 6, 6, 6, 6, 6, 6, 6, 6, 6, 6, 6, 6, 6, 6, 6, 6, 6, 6, 6, 7, 7, 7, 7, 7, 7, 7, 7, 7, 7, 7, 7, 7, 7, 7, 7, 7, 7, 7, 7, 7, 7, 7, 7, 7, 7, 7, 7, 7, 7, 7, 7, 7, 7, 7, 7, 7, 7, 7, 7, 7, 7, 7, 7, 7, 7, 7, 7, 7, 7, 7, 7, 7, 7, 7, 7, 7, 7, 7, 7, 7, 7, 7, 7, 8, 8, 8, 8, 8, 8, 8, 8, 8, 8, 8, 8, 8, 8, 8, 8, 8, 8, 8, 8, 8, 8, 8, 8, 8, 8, 8, 8, 8, 8, 8, 8, 8, 8, 8, 8, 8, 8, 8, 8, 8, 8, 8, 8, 8, 8, 8, 8, 8, 8, 8, 8, 8, 8, 8, 8, 8, 8, 8, 8, 8, 8, 8, 8, 8, 8, 8, 8, 8, 8, 8, 8, 8, 8, 8, 8, 8, 8, 8, 8, 8, 8, 8, 8, 8, 8, 8, 8, 8, 8, 8, 8, 8, 8, 8, 8, 8, 8, 8, 8, 8, 8, 8, 8, 8, 8, 8, 8, 8, 8, 8, 8, 8, 8, 8, 8, 8, 8, 8, 8, 8, 8, 8, 8, 8, 8, 8, 8]) (wi .u8 (shrI .u64 (shrI .u64 v_x209 16) 8))).bind fun (v_y214 : Int) =>
     some (wi .i64 ((wi .i64 ((wi .i64 (0 + 16)) + 8)) + (wi .i64 v_y214)))
    else
     (getS (ByteArray.mk #[0, 1, 2, 2, 3, 3, 3, 3, 4, 4, 4, 4, 4, 4, 4, 4, 5, 5, 5, 5, 5, 5, 5, 5, 5, 5, 5, 5, 5, 5, 5, 5, 6, 6, 6, 6, 6, 6, 6, 6, 6, 6, 6, 6, 6, 6, 6, 6, 6, 6, 6, 6, 6, 6, 6, 6, 6, 6, 6, 6, 6, 6, 6, 6, 7, 7, 7, 7, 7, 7, 7, 7, 7, 7, 7, 7, 7, 7, 7, 7, 7, 7, 7, 7, 7, 7, 7, 7, 7, 7, 7, 7, 7, 7, 7, 7, 7, 7, 7, 7, 7, 7, 7, 7, 7, 7, 7, 7, 7, 7, 7, 7, 7, 7, 7, 7, 7, 7, 7, 7, 7, 7, 7, 7, 7, 7, 7, 7, 8, 8, 8, 8, 8, 8, 8, 8, 8, 8, 8, 8, 8, 8, 8, 8, 8, 8, 8, 8, 8, 8, 8, 8, 8, 8, 8, 8, 8, 8, 8, 8, 8, 8, 8, 8, 8, 8, 8, 8, 8, 8, 8, 8, 8, 8, 8, 8, 8, 8, 8, 8, 8, 8, 8, 8, 8, 8, 8, 8, 8, 8, 8, 8, 8, 8, 8, 8, 8, 8, 8, 8, 8, 8, 8, 8, 8, 8, 8, 8, 8, 8, 8, 8, 8, 8, 8, 8, 8, 8, 8, 8, 8, 8, 8, 8, 8, 8, 8, 8, 8, 8, 8, 8, 8, 8, 8, 8, 8, 8, 8, 8, 8, 8, 8, 8, 8, 8, 8, 8, 8, 8, 8, 8, 8, 8, 8, 8]) (wi .u8 (shrI .u64 v_x209 16))).bind fun (v_y215 : Int) =>
     some (wi .i64 ((wi .i64 (0 + 16)) + (wi .i64 v_y215)))
   else
    if v_x209 ≥ 256 then
     (getS (ByteArray.mk #[0, 1, 2, 2, 3, 3, 3, 3, 4, 4, 4, 4, 4, 4, 4, 4, 5, 5, 5, 5, 5, 5, 5, 5, 5, 5, 5, 5, 5, 5, 5, 5, 6, 6, 6, 6, 6, 6, 6, 6, 6, 6, 6, 6, 6, 6, 6, 6, 6, 6, 6, 6, 6, 6, 6, 6, 6, 6, 6, 6, 6, 6, 6, 6, 7, 7, 7, 7, 7, 7, 7, 7, 7, 7, 7, 7, 7, 7, 7, 7, 7, 7, 7, 7, 7, 7, 7, 7, 7, 7, 7, 7, 7, 7, 7, 7, 7, 7, 7, 7, 7, 7, 7, 7, 7, 7, 7, 7, 7, 7, 7, 7, 7, 7, 7, 7, 7, 7, 7, 7, 7, 7, 7, 7, 7, 7, 7, 7, 8, 8, 8, 8, 8, 8, 8, 8, 8, 8, 8, 8, 8, 8, 8, 8, 8, 8, 8, 8, 8, 8, 8, 8, 8, 8, 8, 8, 8, 8, 8, 8, 8, 8, 8, 8, 8, 8, 8, 8, 8, 8, 8, 8, 8, 8, 8, 8, 8, 8, 8, 8, 8, 8, 8, 8, 8, 8, 8, 8, 8, 8, 8, 8, 8, 8, 8, 8, 8, 8, 8, 8, 8, 8, 8, 8, 8, 8, 8, 8, 8, 8, 8, 8, 8, 8, 8, 8, 8, 8, 8, 8, 8, 8, 8, 8, 8, 8, 8, 8, 8, 8, 8, 8, 8, 8, 8, 8, 8, 8, 8, 8, 8, 8, 8, 8, 8, 8, 8, 8, 8, 8, 8, 8, 8, 8, 8, 8]) (wi .u8 (shrI .u64 v_x209 8))).bind fun (v_y216 : Int) =>
     some (wi .i64 ((wi .i64 (0 + 8)) + (wi .i64 v_y216)))
    else
     (getS (ByteArray.mk #[0, 1, 2, 2, 3, 3, 3, 3, 4, 4, 4, 4, 4, 4, 4, 4, 5, 5, 5, 5, 5, 5, 5, 5, 5, 5, 5, 5, 5, 5, 5, 5, 6, 6, 6, 6, 6, 6, 6, 6, 6, 6, 6, 6, 6, 6, 6, 6, 6, 6, 6, 6, 6, 6, 6, 6, 6, 6, 6, 6, 6, 6, 6, 6, 7, 7, 7, 7, 7, 7, 7, 7, 7, 7, 7, 7, 7, 7, 7, 7, 7, 7, 7, 7, 7, 7, 7, 7, 7, 7, 7, 7, 7, 7, 7, 7, 7, 7, 7, 7, 7, 7, 7, 7, 7, 7, 7, 7, 7, 7, 7, 7, 7, 7, 7, 7, 7, 7, 7, 7, 7, 7, 7, 7, 7, 7, 7, 7, 8, 8, 8, 8, 8, 8, 8, 8, 8, 8, 8, 8, 8, 8, 8, 8, 8, 8, 8, 8, 8, 8, 8, 8, 8, 8, 8, 8, 8, 8, 8, 8, 8, 8, 8, 8, 8, 8, 8, 8, 8, 8, 8, 8, 8, 8, 8, 8, 8, 8, 8, 8, 8, 8, 8, 8, 8, 8, 8, 8, 8, 8, 8, 8, 8, 8, 8, 8, 8, 8, 8, 8, 8, 8, 8, 8, 8, 8, 8, 8, 8, 8, 8, 8, 8, 8, 8, 8, 8, 8, 8, 8, 8, 8, 8, 8, 8, 8, 8, 8, 8, 8, 8, 8, 8, 8, 8, 8, 8, 8, 8, 8, 8, 8, 8, 8, 8, 8, 8, 8, 8, 8, 8, 8, 8, 8, 8, 8]) (wi .u8 v_x209)).bind fun (v_y217 : Int) =>
     some (wi .i64 (0 + (wi .i64 v_y217)))
theorem G_math_bits_Len64_ok (n : Nat) (v_x209 : Int) (r : Int) (h : G_math_bits_Len64 n v_x209 = some r) : Ret Try.prog 185 [(eI .u64) v_x209] ((eI .i64) r) := by
  refine ret_run (n := 25) (fn := Try.f185) (c := bodyOf Try.f185) (by kernel_rfl) (by kernel_rfl) (by kernel_rfl) (by kernel_rfl) ?_
  have hF : KC 25 (FinR Try.prog Try.f185 ((eI .i64) r)) := FinR.kc' (by kernel_rfl)
  unfold G_math_bits_Len64 at h
  by_cases h278 : v_x209 ≥ 4294967296
  · rw [if_pos h278] at h
    by_cases h282 : (shrI .u64 v_x209 32) ≥ 65536
    · rw [if_pos h282] at h
      by_cases h286 : (shrI .u64 (shrI .u64 v_x209 32) 16) ≥ 256
      · rw [if_pos h286] at h
        obtain ⟨v_y210, h288, h⟩ := bind_some h
        obtain rfl := Option.some.inj h
        exact pend_sound TTok mix 26 (hs := [.t true, .t true, .t true, .l (.d (.v (.int .u8 v_y210)))]) (by kernel_rfl) (by kernel_rfl) (by kernel_rfl) (.cons (dt h278) (.cons (show (0 : Int) ≤ 32 by decide) (.cons (dt h282) (.cons (show (0 : Int) ≤ 16 by decide) (.cons (dt h286) (.cons (show (0 : Int) ≤ 8 by decide) (.cons (getS_ob h288) .nil)))))))
      · rw [if_neg h286] at h
        obtain ⟨v_y211, h289, h⟩ := bind_some h
        obtain rfl := Option.some.inj h
        exact pend_sound TTok mix 24 (hs := [.t true, .t true, .t false, .l (.d (.v (.int .u8 v_y211)))]) (by kernel_rfl) (by kernel_rfl) (by kernel_rfl) (.cons (dt h278) (.cons (show (0 : Int) ≤ 32 by decide) (.cons (dt h282) (.cons (show (0 : Int) ≤ 16 by decide) (.cons (df h286) (.cons (getS_ob h289) .nil))))))
    · rw [if_neg h282] at h
      by_cases h292 : (shrI .u64 v_x209 32) ≥ 256
      · rw [if_pos h292] at h
        obtain ⟨v_y212, h294, h⟩ := bind_some h
        obtain rfl := Option.some.inj h
        exact pend_sound TTok mix 24 (hs := [.t true, .t false, .t true, .l (.d (.v (.int .u8 v_y212)))]) (by kernel_rfl) (by kernel_rfl) (by kernel_rfl) (.cons (dt h278) (.cons (show (0 : Int) ≤ 32 by decide) (.cons (df h282) (.cons (dt h292) (.cons (show (0 : Int) ≤ 8 by decide) (.cons (getS_ob h294) .nil))))))
      · rw [if_neg h292] at h
        obtain ⟨v_y213, h295, h⟩ := bind_some h
        obtain rfl := Option.some.inj h
        exact pend_sound TTok mix 22 (hs := [.t true, .t false, .t false, .l (.d (.v (.int .u8 v_y213)))]) (by kernel_rfl) (by kernel_rfl) (by kernel_rfl) (.cons (dt h278) (.cons (show (0 : Int) ≤ 32 by decide) (.cons (df h282) (.cons (df h292) (.cons (getS_ob h295) .nil)))))
  · rw [if_neg h278] at h
    by_cases h298 : v_x209 ≥ 65536
    · rw [if_pos h298] at h
      by_cases h302 : (shrI .u64 v_x209 16) ≥ 256
      · rw [if_pos h302] at h
        obtain ⟨v_y214, h304, h⟩ := bind_some h
        obtain rfl := Option.some.inj h
        exact pend_sound TTok mix 24 (hs := [.t false, .t true, .t true, .l (.d (.v (.int .u8 v_y214)))]) (by kernel_rfl) (by kernel_rfl) (by kernel_rfl) (.cons (df h278) (.cons (dt h298) (.cons (show (0 : Int) ≤ 16 by decide) (.cons (dt h302) (.cons (show (0 : Int) ≤ 8 by decide) (.cons (getS_ob h304) .nil))))))
      · rw [if_neg h302] at h
        obtain ⟨v_y215, h305, h⟩ := bind_some h
        obtain rfl := Option.some.inj h
        exact pend_sound TTok mix 22 (hs := [.t false, .t true, .t false, .l (.d (.v (.int .u8 v_y215)))]) (by kernel_rfl) (by kernel_rfl) (by kernel_rfl) (.cons (df h278) (.cons (dt h298) (.cons (show (0 : Int) ≤ 16 by decide) (.cons (df h302) (.cons (getS_ob h305) .nil)))))
    · rw [if_neg h298] at h
      by_cases h308 : v_x209 ≥ 256
      · rw [if_pos h308] at h
        obtain ⟨v_y216, h310, h⟩ := bind_some h
        obtain rfl := Option.some.inj h
        exact pend_sound TTok mix 22 (hs := [.t false, .t false, .t true, .l (.d (.v (.int .u8 v_y216)))]) (by kernel_rfl) (by kernel_rfl) (by kernel_rfl) (.cons (df h278) (.cons (df h298) (.cons (dt h308) (.cons (show (0 : Int) ≤ 8 by decide) (.cons (getS_ob h310) .nil)))))
      · rw [if_neg h308] at h
        obtain ⟨v_y217, h311, h⟩ := bind_some h
        obtain rfl := Option.some.inj h
        exact pend_sound TTok mix 20 (hs := [.t false, .t false, .t false, .l (.d (.v (.int .u8 v_y217)))]) (by kernel_rfl) (by kernel_rfl) (by kernel_rfl) (.cons (df h278) (.cons (df h298) (.cons (df h308) (.cons (getS_ob h311) .nil))))
/- math/bits.Len -/
def G_math_bits_Len (n : Nat) (v_x208 : Int) : Option (Int) :=
  (G_math_bits_Len64 n v_x208).bind fun (v_r218 : (Int)) =>
  some v_r218
theorem G_math_bits_Len_ok (n : Nat) (v_x208 : Int) (r : Int) (h : G_math_bits_Len n v_x208 = some r) : Ret Try.prog 121 [(eI .u64) v_x208] ((eI .i64) r) := by
  refine ret_run (n := 8) (fn := Try.f121) (c := bodyOf Try.f121) (by kernel_rfl) (by kernel_rfl) (by kernel_rfl) (by kernel_rfl) ?_
  have hF : KC 8 (FinR Try.prog Try.f121 ((eI .i64) r)) := FinR.kc' (by kernel_rfl)
  unfold G_math_bits_Len at h
  obtain ⟨v_r218, h312, h⟩ := bind_some h
  obtain rfl := Option.some.inj h
  exact pend_sound TTok mix 8 (hs := [.c, .r ((eI .i64) v_r218)]) (by kernel_rfl) (by kernel_rfl) (by kernel_rfl) (.cons (G_math_bits_Len64_ok n v_x208 _ h312) .nil)
/- cmp.isNaN[int] -/
def G_cmp_isNaN_int (n : Nat) (v_x241 : Int) : Option (Bool) :=
  some (v_x241 != v_x241)
theorem G_cmp_isNaN_int_ok (n : Nat) (v_x241 : Int) (r : Bool) (h : G_cmp_isNaN_int n v_x241 = some r) : Ret Try.prog 212 [(eI .i64) v_x241] (eB r) := by
  refine ret_run (n := 6) (fn := Try.f212) (c := bodyOf Try.f212) (by kernel_rfl) (by kernel_rfl) (by kernel_rfl) (by kernel_rfl) ?_
  have hF : KC 6 (FinR Try.prog Try.f212 (eB r)) := FinR.kc' (by kernel_rfl)
  unfold G_cmp_isNaN_int at h
  obtain rfl := Option.some.inj h
  exact pend_sound TTok mix 5 (hs := []) (by kernel_rfl) (by kernel_rfl) (by kernel_rfl) .nil
inductive G_cmp_Less_int_C1_R where
  | x0 (v_x246 : Bool)
def G_cmp_Less_int_C1_ex : G_cmp_Less_int_C1_R → Ex
  | .x0 _ => .normal
def G_cmp_Less_int_C1_st (v_x239 : Int) (v_y240 : Int) : G_cmp_Less_int_C1_R → PS
  | .x0 v_x246 => ⟨[dd, dd, dd, dd, .d (.v (.bool v_x246)), dd, dd, dd, dd, dd, dd, dd, dd, dd, dd, dd, dd], []⟩
def G_cmp_Less_int_C1_hd (v_x239 : Int) (v_y240 : Int)  : PS := ⟨[.d (.v (.int .i64 v_x239)), .d (.v (.int .i64 v_y240)), dd, dd, dd, dd, dd, dd, dd, dd, dd, dd, dd, dd, dd, dd, dd], []⟩
def G_cmp_Less_int_C1 (n : Nat) (v_x239 : Int) (v_y240 : Int) : Option G_cmp_Less_int_C1_R :=
  (G_cmp_isNaN_int n v_x239).bind fun (v_r244 : (Bool)) =>
  if v_r244 = true then
   (G_cmp_isNaN_int n v_y240).bind fun (v_r245 : (Bool)) =>
   if v_r245 = true then
    some (.x0 (decide (v_x239 < v_y240)))
   else
    some (.x0 true)
  else
   some (.x0 (decide (v_x239 < v_y240)))
theorem G_cmp_Less_int_C1_ok {Fi : Ex → PS → Prop} (hF : KC 17 Fi) (ks : List Fr) (n : Nat) (v_x239 : Int) (v_y240 : Int)  (o : G_cmp_Less_int_C1_R) (h : G_cmp_Less_int_C1 n v_x239 v_y240 = some o) (q : RunE Try.prog 17 Fi ks (G_cmp_Less_int_C1_ex o) (G_cmp_Less_int_C1_st v_x239 v_y240 o)) : RunE Try.prog 17 Fi (.s (cL (cR (bodyOf Try.f181))) :: ks) .normal (G_cmp_Less_int_C1_hd v_x239 v_y240) := by
  unfold G_cmp_Less_int_C1 at h
  obtain ⟨v_r244, h325, h⟩ := bind_some h
  by_cases h326 : v_r244 = true
  · rw [if_pos h326] at h
    obtain ⟨v_r245, h327, h⟩ := bind_some h
    by_cases h328 : v_r245 = true
    · rw [if_pos h328] at h
      cases h
      exact pkk_sound TTok mix hF 1 (hs := [.r (eB v_r244), .t true, .c, .r (eB v_r245), .c, .t false, .c, .c]) (ts := []) (s := []) (l := [4]) (by kernel_rfl) (by kernel_rfl) (.cons (G_cmp_isNaN_int_ok n v_x239 _ h325) (.cons h326 (.cons (G_cmp_isNaN_int_ok n v_y240 _ h327) (.cons (bnf h328) .nil)))) q
    · rw [if_neg h328] at h
      cases h
      exact pkk_sound TTok mix hF 1 (hs := [.r (eB v_r244), .t true, .c, .r (eB v_r245), .c, .t true, .c, .c]) (ts := []) (s := []) (l := [4]) (by kernel_rfl) (by kernel_rfl) (.cons (G_cmp_isNaN_int_ok n v_x239 _ h325) (.cons h326 (.cons (G_cmp_isNaN_int_ok n v_y240 _ h327) (.cons (bnt (vf h328)) .nil)))) q
  · rw [if_neg h326] at h
    cases h
    exact pkk_sound TTok mix hF 1 (hs := [.r (eB v_r244), .t false, .c, .c, .c, .c, .c]) (ts := []) (s := []) (l := [4]) (by kernel_rfl) (by kernel_rfl) (.cons (G_cmp_isNaN_int_ok n v_x239 _ h325) (.cons (vf h326) .nil)) q
/- cmp.Less[int] -/
def G_cmp_Less_int (n : Nat) (v_x239 : Int) (v_y240 : Int) : Option (Bool) :=
  (G_cmp_Less_int_C1 n v_x239 v_y240).bind fun v_o249 => match v_o249 with
  | .x0 v_z250 =>
    some v_z250
theorem G_cmp_Less_int_ok (n : Nat) (v_x239 : Int) (v_y240 : Int) (r : Bool) (h : G_cmp_Less_int n v_x239 v_y240 = some r) : Ret Try.prog 181 [(eI .i64) v_x239, (eI .i64) v_y240] (eB r) := by
  refine ret_run (n := 17) (fn := Try.f181) (c := bodyOf Try.f181) (by kernel_rfl) (by kernel_rfl) (by kernel_rfl) (by kernel_rfl) ?_
  have hF : KC 17 (FinR Try.prog Try.f181 (eB r)) := FinR.kc' (by kernel_rfl)
  unfold G_cmp_Less_int at h
  obtain ⟨v_o249, h329, h⟩ := bind_some h
  refine pkk_sound TTok mix hF 3 (hs := []) (ts := []) (s := []) (l := [0, 1]) (by kernel_rfl) (by kernel_rfl) .nil (G_cmp_Less_int_C1_ok hF (.s (cR (cR (bodyOf Try.f181))) :: []) n v_x239 v_y240 _ h329 ?_)
  cases v_o249 with
  | x0 v_z250 =>
    try dsimp only at h
    obtain rfl := Option.some.inj h
    exact pend_sound TTok mix 1 (hs := []) (by kernel_rfl) (by kernel_rfl) (by kernel_rfl) .nil
inductive G_slices_insertionSortOrdered_int_h_L1_R where
  | x0 (v_w263 : (List Int))
def G_slices_insertionSortOrdered_int_h_L1_ex : G_slices_insertionSortOrdered_int_h_L1_R → Ex
  | .x0 _ => .exit 2
def G_slices_insertionSortOrdered_int_h_L1_st (v_a231 : Int) (v_b232 : Int) (v_i233 : Int) : G_slices_insertionSortOrdered_int_h_L1_R → PS
  | .x0 v_w263 => ⟨[.srf 1, .d (.v (.int .i64 v_a231)), .d (.v (.int .i64 v_b232)), dd, dd, dd, .d (.v (.int .i64 v_i233)), dd, dd, dd, dd, dd, dd, dd, dd, dd, dd, dd, dd, dd, dd, dd, dd, dd, dd, dd, dd, dd, dd, dd, dd, dd, dd, dd, dd, dd, dd, dd, dd, dd, dd, dd, dd, dd, dd, dd, dd, dd, dd], [.gh 0 (.srf 1), .row 3 1 (v_w263.map (eI .i64))]⟩
def G_slices_insertionSortOrdered_int_h_L1_hd (v_a231 : Int) (v_b232 : Int) (v_i233 : Int) (v_j235 : Int) (v_w236 : (List Int)) : PS := ⟨[.srf 1, .d (.v (.int .i64 v_a231)), .d (.v (.int .i64 v_b232)), dd, dd, dd, .d (.v (.int .i64 v_i233)), .d (.v (.int .i64 v_j235)), dd, dd, dd, dd, dd, dd, dd, dd, dd, dd, dd, dd, dd, dd, dd, dd, dd, dd, dd, dd, dd, dd, dd, dd, dd, dd, dd, dd, dd, dd, dd, dd, dd, dd, dd, dd, dd, dd, dd, dd, dd], [.gh 0 (.srf 1), .row 3 1 (v_w236.map (eI .i64))]⟩
def G_slices_insertionSortOrdered_int_h_L1 (n : Nat) (v_a231 : Int) (v_b232 : Int) (v_i233 : Int) : Nat → Int → (List Int) → Option G_slices_insertionSortOrdered_int_h_L1_R
  | 0, _, _ => none
  | k + 1, v_j235, v_w236 =>
    if v_j235 > v_a231 then
     if 0 ≤ v_j235 ∧ (v_j235).toNat < v_w236.length then
      (v_w236[(v_j235).toNat]?).bind fun (v_y252 : Int) =>
      if 0 ≤ (wi .i64 (v_j235 - 1)) ∧ ((wi .i64 (v_j235 - 1))).toNat < v_w236.length then
       (v_w236[((wi .i64 (v_j235 - 1))).toNat]?).bind fun (v_y253 : Int) =>
       (G_cmp_Less_int n v_y252 v_y253).bind fun (v_r254 : (Bool)) =>
       if v_r254 = true then
        if 0 ≤ (wi .i64 (v_j235 - 1)) ∧ ((wi .i64 (v_j235 - 1))).toNat < v_w236.length then
         (v_w236[((wi .i64 (v_j235 - 1))).toNat]?).bind fun (v_y259 : Int) =>
         if 0 ≤ v_j235 ∧ (v_j235).toNat < v_w236.length then
          (v_w236[(v_j235).toNat]?).bind fun (v_y260 : Int) =>
          if 0 ≤ v_j235 ∧ (v_j235).toNat < v_w236.length then
           (v_w236[(v_j235).toNat]?).bind fun (v_y261 : Int) =>
           if 0 ≤ (wi .i64 (v_j235 - 1)) ∧ ((wi .i64 (v_j235 - 1))).toNat < (v_w236.set (v_j235).toNat v_y259).length then
            ((v_w236.set (v_j235).toNat v_y259)[((wi .i64 (v_j235 - 1))).toNat]?).bind fun (v_y262 : Int) =>
            G_slices_insertionSortOrdered_int_h_L1 n v_a231 v_b232 v_i233 k (wi .i64 (v_j235 - 1)) ((v_w236.set (v_j235).toNat v_y259).set ((wi .i64 (v_j235 - 1))).toNat v_y260)
           else none
          else none
         else none
        else none
       else
        some (.x0 v_w236)
      else none
     else none
    else
     some (.x0 v_w236)
theorem G_slices_insertionSortOrdered_int_h_L1_ok {Fi : Ex → PS → Prop} (hF : KC 49 Fi) (ks : List Fr) (n : Nat) (v_a231 : Int) (v_b232 : Int) (v_i233 : Int)  : ∀ (k : Nat) (v_j235 : Int) (v_w236 : (List Int)) (o : G_slices_insertionSortOrdered_int_h_L1_R), G_slices_insertionSortOrdered_int_h_L1 n v_a231 v_b232 v_i233 k v_j235 v_w236 = some o → RunE Try.prog 49 Fi ks (G_slices_insertionSortOrdered_int_h_L1_ex o) (G_slices_insertionSortOrdered_int_h_L1_st v_a231 v_b232 v_i233 o) → RunE Try.prog 49 Fi (.l k (cP (cB (cR (cB (cL (cR (cP (cB (cR (bodyOf Try.f175)))))))))) :: ks) .normal (G_slices_insertionSortOrdered_int_h_L1_hd v_a231 v_b232 v_i233 v_j235 v_w236)
  | 0, v_j235, v_w236, o, h, q => by rw [G_slices_insertionSortOrdered_int_h_L1] at h; cases h
  | k + 1, v_j235, v_w236, o, h, q => by
    rw [G_slices_insertionSortOrdered_int_h_L1] at h
    by_cases h331 : v_j235 > v_a231
    · rw [if_pos h331] at h
      by_cases h332 : 0 ≤ v_j235 ∧ (v_j235).toNat < v_w236.length
      · rw [if_pos h332] at h
        obtain ⟨v_y252, h333, h⟩ := bind_some h
        by_cases h334 : 0 ≤ (wi .i64 (v_j235 - 1)) ∧ ((wi .i64 (v_j235 - 1))).toNat < v_w236.length
        · rw [if_pos h334] at h
          obtain ⟨v_y253, h335, h⟩ := bind_some h
          obtain ⟨v_r254, h336, h⟩ := bind_some h
          by_cases h337 : v_r254 = true
          · rw [if_pos h337] at h
            by_cases h346 : 0 ≤ (wi .i64 (v_j235 - 1)) ∧ ((wi .i64 (v_j235 - 1))).toNat < v_w236.length
            · rw [if_pos h346] at h
              obtain ⟨v_y259, h347, h⟩ := bind_some h
              by_cases h348 : 0 ≤ v_j235 ∧ (v_j235).toNat < v_w236.length
              · rw [if_pos h348] at h
                obtain ⟨v_y260, h349, h⟩ := bind_some h
                by_cases h350 : 0 ≤ v_j235 ∧ (v_j235).toNat < v_w236.length
                · rw [if_pos h350] at h
                  obtain ⟨v_y261, h351, h⟩ := bind_some h
                  by_cases h352 : 0 ≤ (wi .i64 (v_j235 - 1)) ∧ ((wi .i64 (v_j235 - 1))).toNat < (v_w236.set (v_j235).toNat v_y259).length
                  · rw [if_pos h352] at h
                    obtain ⟨v_y262, h353, h⟩ := bind_some h
                    exact pkk_sound TTok mix hF 11 (hs := [.t true, .c, .c, .c, .y ((eI .i64) v_y252), .c, .c, .c, .c, .c, .y ((eI .i64) v_y253), .c, .r (eB v_r254), .t true, .y ((eI .i64) v_y259), .y ((eI .i64) v_y260), .w ((v_w236.set (v_j235).toNat v_y259).map (eI .i64)), .y ((eI .i64) v_y261), .w (((v_w236.set (v_j235).toNat v_y259).set ((wi .i64 (v_j235 - 1))).toNat v_y260).map (eI .i64)), .y ((eI .i64) v_y262)]) (ts := []) (s := [0, 1]) (l := [0, 1, 2, 6, 7]) (by kernel_rfl) (by kernel_rfl) (.cons (dt h331) (.cons (idx_ob (f := (eI .i64)) h332) (.cons (get_ob (f := (eI .i64)) h333) (.cons (idx_ob (f := (eI .i64)) h334) (.cons (get_ob (f := (eI .i64)) h335) (.cons (G_cmp_Less_int_ok n v_y252 v_y253 _ h336) (.cons h337 (.cons (idx_ob (f := (eI .i64)) h346) (.cons (get_ob (f := (eI .i64)) h347) (.cons (idx_ob (f := (eI .i64)) h348) (.cons (get_ob (f := (eI .i64)) h349) (.cons (idx_ob (f := (eI .i64)) h350) (.cons (get_ob (f := (eI .i64)) h351) (.cons (Eq.refl (pcells (.v (.int .i64 v_y259)))) (.cons (set_ob (f := (eI .i64)) (l := v_w236) (k := (v_j235).toNat) (z := v_y259) (p := .v (.int .i64 v_y259)) rfl) (.cons (idx_ob (f := (eI .i64)) h352) (.cons (get_ob (f := (eI .i64)) h353) (.cons (Eq.refl (pcells (.v (.int .i64 v_y260)))) (.cons (set_ob (f := (eI .i64)) (l := (v_w236.set (v_j235).toNat v_y259)) (k := ((wi .i64 (v_j235 - 1))).toNat) (z := v_y260) (p := .v (.int .i64 v_y260)) rfl) .nil))))))))))))))))))) (G_slices_insertionSortOrdered_int_h_L1_ok hF ks n v_a231 v_b232 v_i233 k (wi .i64 (v_j235 - 1)) ((v_w236.set (v_j235).toNat v_y259).set ((wi .i64 (v_j235 - 1))).toNat v_y260) _ h q)
                  · rw [if_neg h352] at h; cases h
                · rw [if_neg h350] at h; cases h
              · rw [if_neg h348] at h; cases h
            · rw [if_neg h346] at h; cases h
          · rw [if_neg h337] at h
            cases h
            exact pkk_sound TTok mix hF 8 (hs := [.t true, .c, .c, .c, .y ((eI .i64) v_y252), .c, .c, .c, .c, .c, .y ((eI .i64) v_y253), .c, .r (eB v_r254), .t false]) (ts := []) (s := [0, 1]) (l := [0, 1, 2, 6]) (by kernel_rfl) (by kernel_rfl) (.cons (dt h331) (.cons (idx_ob (f := (eI .i64)) h332) (.cons (get_ob (f := (eI .i64)) h333) (.cons (idx_ob (f := (eI .i64)) h334) (.cons (get_ob (f := (eI .i64)) h335) (.cons (G_cmp_Less_int_ok n v_y252 v_y253 _ h336) (.cons (vf h337) .nil))))))) q
        · rw [if_neg h334] at h; cases h
      · rw [if_neg h332] at h; cases h
    · rw [if_neg h331] at h
      cases h
      exact pkk_sound TTok mix hF 8 (hs := [.t false, .c, .c, .c, .c, .c, .c, .c, .c, .c, .c]) (ts := []) (s := [0, 1]) (l := [0, 1, 2, 6]) (by kernel_rfl) (by kernel_rfl) (.cons (df h331) .nil) q
inductive G_slices_insertionSortOrdered_int_h_L2_R where
  | x0 (v_w267 : (List Int))
def G_slices_insertionSortOrdered_int_h_L2_ex : G_slices_insertionSortOrdered_int_h_L2_R → Ex
  | .x0 _ => .exit 0
def G_slices_insertionSortOrdered_int_h_L2_st (v_a231 : Int) (v_b232 : Int) : G_slices_insertionSortOrdered_int_h_L2_R → PS
  | .x0 v_w267 => ⟨[dd, dd, dd, dd, dd, dd, dd, dd, dd, dd, dd, dd, dd, dd, dd, dd, dd, dd, dd, dd, dd, dd, dd, dd, dd, dd, dd, dd, dd, dd, dd, dd, dd, dd, dd, dd, dd, dd, dd, dd, dd, dd, dd, dd, dd, dd, dd, dd, dd], [.gh 0 (.srf 1), .row 3 1 (v_w267.map (eI .i64))]⟩
def G_slices_insertionSortOrdered_int_h_L2_hd (v_a231 : Int) (v_b232 : Int) (v_i233 : Int) (v_w234 : (List Int)) : PS := ⟨[.srf 1, .d (.v (.int .i64 v_a231)), .d (.v (.int .i64 v_b232)), dd, dd, dd, .d (.v (.int .i64 v_i233)), dd, dd, dd, dd, dd, dd, dd, dd, dd, dd, dd, dd, dd, dd, dd, dd, dd, dd, dd, dd, dd, dd, dd, dd, dd, dd, dd, dd, dd, dd, dd, dd, dd, dd, dd, dd, dd, dd, dd, dd, dd, dd], [.gh 0 (.srf 1), .row 3 1 (v_w234.map (eI .i64))]⟩
def G_slices_insertionSortOrdered_int_h_L2 (n : Nat) (v_a231 : Int) (v_b232 : Int) : Nat → Int → (List Int) → Option G_slices_insertionSortOrdered_int_h_L2_R
  | 0, _, _ => none
  | k + 1, v_i233, v_w234 =>
    if v_i233 < v_b232 then
     (G_slices_insertionSortOrdered_int_h_L1 n v_a231 v_b232 v_i233 n v_i233 v_w234).bind fun v_o265 => match v_o265 with
     | .x0 v_z266 =>
       G_slices_insertionSortOrdered_int_h_L2 n v_a231 v_b232 k (wi .i64 (v_i233 + 1)) v_z266
    else
     some (.x0 v_w234)
theorem G_slices_insertionSortOrdered_int_h_L2_ok {Fi : Ex → PS → Prop} (hF : KC 49 Fi) (ks : List Fr) (n : Nat) (v_a231 : Int) (v_b232 : Int)  : ∀ (k : Nat) (v_i233 : Int) (v_w234 : (List Int)) (o : G_slices_insertionSortOrdered_int_h_L2_R), G_slices_insertionSortOrdered_int_h_L2 n v_a231 v_b232 k v_i233 v_w234 = some o → RunE Try.prog 49 Fi ks (G_slices_insertionSortOrdered_int_h_L2_ex o) (G_slices_insertionSortOrdered_int_h_L2_st v_a231 v_b232 o) → RunE Try.prog 49 Fi (.l k (cP (cB (cR (bodyOf Try.f175)))) :: ks) .normal (G_slices_insertionSortOrdered_int_h_L2_hd v_a231 v_b232 v_i233 v_w234)
  | 0, v_i233, v_w234, o, h, q => by rw [G_slices_insertionSortOrdered_int_h_L2] at h; cases h
  | k + 1, v_i233, v_w234, o, h, q => by
    rw [G_slices_insertionSortOrdered_int_h_L2] at h
    by_cases h315 : v_i233 < v_b232
    · rw [if_pos h315] at h
      obtain ⟨v_o265, h354, h⟩ := bind_some h
      refine pkk_sound TTok mix hF 12 (hs := [.t true, .n n]) (ts := []) (s := [0, 1]) (l := [0, 1, 2, 6, 7]) (by kernel_rfl) (by kernel_rfl) (.cons (dt h315) .nil) (G_slices_insertionSortOrdered_int_h_L1_ok hF (.b 2 :: .b 1 :: .s (cR (cR (cP (cB (cR (bodyOf Try.f175)))))) :: .l k (cP (cB (cR (bodyOf Try.f175)))) :: ks) n v_a231 v_b232 v_i233 n v_i233 v_w234 _ h354 ?_)
      cases v_o265 with
      | x0 v_z266 =>
        try dsimp only at h
        exact pkk_sound TTok mix hF 3 (hs := []) (ts := []) (s := [0, 1]) (l := [0, 1, 2, 6]) (by kernel_rfl) (by kernel_rfl) .nil (G_slices_insertionSortOrdered_int_h_L2_ok hF ks n v_a231 v_b232 k (wi .i64 (v_i233 + 1)) v_z266 _ h q)
    · rw [if_neg h315] at h
      cases h
      exact pkk_sound TTok mix hF 8 (hs := [.t false]) (ts := []) (s := [0, 1]) (l := []) (by kernel_rfl) (by kernel_rfl) (.cons (df h315) .nil) q
/- slices.insertionSortOrdered[int] -/
def G_slices_insertionSortOrdered_int_h (n : Nat) (v_data230 : (List Int)) (v_a231 : Int) (v_b232 : Int) : Option ((List Int)) :=
  (G_slices_insertionSortOrdered_int_h_L2 n v_a231 v_b232 n (wi .i64 (v_a231 + 1)) v_data230).bind fun v_o268 => match v_o268 with
  | .x0 v_z269 =>
    some v_z269
theorem G_slices_insertionSortOrdered_int_h_ok (n : Nat) (v_data230 : (List Int)) (v_a231 : Int) (v_b232 : Int) (r : (List Int)) (h : G_slices_insertionSortOrdered_int_h n v_data230 v_a231 v_b232 = some r) : RetH Try.prog 175 [.srf 0, .d ((eI .i64) v_a231), .d ((eI .i64) v_b232)] [.row 3 1 (v_data230.map (eI .i64))] (.tup []) [.row 3 1 (r.map (eI .i64))] := by
  refine retH_run (n := 49) (fn := Try.f175) (c := bodyOf Try.f175) (by kernel_rfl) (by kernel_rfl) (by kernel_rfl) (by kernel_rfl) ?_
  have hF : KC 49 (FinH Try.prog Try.f175 [.row 3 1 (v_data230.map (eI .i64))] (.tup []) [.row 3 1 (r.map (eI .i64))]) := FinH.kc' (by kernel_rfl)
  unfold G_slices_insertionSortOrdered_int_h at h
  obtain ⟨v_o268, h355, h⟩ := bind_some h
  refine pkk_sound TTok mix hF 4 (hs := [.n n]) (ts := []) (s := [1, 0]) (l := [0, 1, 2, 6]) (by kernel_rfl) (by kernel_rfl) .nil (G_slices_insertionSortOrdered_int_h_L2_ok hF (.b 0 :: []) n v_a231 v_b232 n (wi .i64 (v_a231 + 1)) v_data230 _ h355 ?_)
  cases v_o268 with
  | x0 v_z269 =>
    try dsimp only at h
    obtain rfl := Option.some.inj h
    exact pendH_sound TTok mix 1 (hs := []) [1] (by kernel_rfl) (by kernel_rfl) (by kernel_rfl) .nil
inductive G_slices_pdqsortOrdered_int_h_L1_R where
  | x0 (v_w274 : (List Int))
def G_slices_pdqsortOrdered_int_h_L1_ex : G_slices_pdqsortOrdered_int_h_L1_R → Ex
  | .x0 _ => .ret
def G_slices_pdqsortOrdered_int_h_L1_st  : G_slices_pdqsortOrdered_int_h_L1_R → PS
  | .x0 v_w274 => ⟨[dd, dd, dd, dd, dd, dd, dd, dd, dd, dd, dd, dd, dd, dd, dd, dd, dd, dd, dd, dd, dd, dd, dd, dd, dd, dd, dd, dd, dd, dd, dd, dd, dd, dd, dd, dd, dd, dd, dd, dd, dd, dd, dd, dd, dd, dd, dd, dd, dd, dd, dd, dd, dd, dd, dd, dd, dd, dd, dd, dd, dd, dd, dd, dd, dd, dd, dd, dd, dd, dd, dd, dd, dd, dd, dd, dd, dd, dd, dd, dd, dd, dd, dd, dd, dd, dd, dd, dd, dd, dd, dd, dd, dd, dd, dd, dd, dd, dd, dd, dd, dd, dd, dd, dd, dd, dd, dd, dd, dd, dd, dd, dd, dd, dd, dd, dd, dd, dd, dd, dd, dd, dd, dd, dd, dd, dd, dd, dd, dd, dd, dd, dd, dd, dd], [.gh 0 (.srf 1), .row 3 1 (v_w274.map (eI .i64))]⟩
def G_slices_pdqsortOrdered_int_h_L1_hd  (v_a224 : Int) (v_b225 : Int) (v_limit226 : Int) (v_wasBalanced227 : Bool) (v_wasPartitioned228 : Bool) (v_w229 : (List Int)) : PS := ⟨[.srf 1, .d (.v (.int .i64 v_a224)), .d (.v (.int .i64 v_b225)), .d (.v (.int .i64 v_limit226)), dd, dd, dd, dd, .d (.v (.bool v_wasBalanced227)), .d (.v (.bool v_wasPartitioned228)), dd, dd, dd, dd, dd, dd, dd, dd, dd, dd, dd, dd, dd, dd, dd, dd, dd, dd, dd, dd, dd, dd, dd, dd, dd, dd, dd, dd, dd, dd, dd, dd, dd, dd, dd, dd, dd, dd, dd, dd, dd, dd, dd, dd, dd, dd, dd, dd, dd, dd, dd, dd, dd, dd, dd, dd, dd, dd, dd, dd, dd, dd, dd, dd, dd, dd, dd, dd, dd, dd, dd, dd, dd, dd, dd, dd, dd, dd, dd, dd, dd, dd, dd, dd, dd, dd, dd, dd, dd, dd, dd, dd, dd, dd, dd, dd, dd, dd, dd, dd, dd, dd, dd, dd, dd, dd, dd, dd, dd, dd, dd, dd, dd, dd, dd, dd, dd, dd, dd, dd, dd, dd, dd, dd], [.gh 0 (.srf 1), .row 3 1 (v_w229.map (eI .i64))]⟩
def G_slices_pdqsortOrdered_int_h_L1 (n : Nat)  : Nat → Int → Int → Int → Bool → Bool → (List Int) → Option G_slices_pdqsortOrdered_int_h_L1_R
  | 0, _, _, _, _, _, _ => none
  | k + 1, v_a224, v_b225, v_limit226, v_wasBalanced227, v_wasPartitioned228, v_w229 =>
    if (wi .i64 (v_b225 - v_a224)) ≤ 12 then
     (G_slices_insertionSortOrdered_int_h n v_w229 v_a224 v_b225).bind fun (v_r273 : ((List Int))) =>
     some (.x0 v_r273)
    else
     none
theorem G_slices_pdqsortOrdered_int_h_L1_ok {Fi : Ex → PS → Prop} (hF : KC 134 Fi) (ks : List Fr) (n : Nat)   : ∀ (k : Nat) (v_a224 : Int) (v_b225 : Int) (v_limit226 : Int) (v_wasBalanced227 : Bool) (v_wasPartitioned228 : Bool) (v_w229 : (List Int)) (o : G_slices_pdqsortOrdered_int_h_L1_R), G_slices_pdqsortOrdered_int_h_L1 n  k v_a224 v_b225 v_limit226 v_wasBalanced227 v_wasPartitioned228 v_w229 = some o → RunE Try.prog 134 Fi ks (G_slices_pdqsortOrdered_int_h_L1_ex o) (G_slices_pdqsortOrdered_int_h_L1_st  o) → RunE Try.prog 134 Fi (.l k (cP (cB (cR (cR (bodyOf Try.f120))))) :: ks) .normal (G_slices_pdqsortOrdered_int_h_L1_hd  v_a224 v_b225 v_limit226 v_wasBalanced227 v_wasPartitioned228 v_w229)
  | 0, v_a224, v_b225, v_limit226, v_wasBalanced227, v_wasPartitioned228, v_w229, o, h, q => by rw [G_slices_pdqsortOrdered_int_h_L1] at h; cases h
  | k + 1, v_a224, v_b225, v_limit226, v_wasBalanced227, v_wasPartitioned228, v_w229, o, h, q => by
    rw [G_slices_pdqsortOrdered_int_h_L1] at h
    by_cases h361 : (wi .i64 (v_b225 - v_a224)) ≤ 12
    · rw [if_pos h361] at h
      obtain ⟨v_r273, h362, h⟩ := bind_some h
      cases h
      exact pkk_sound TTok mix hF 14 (hs := [.t true, .h [1] [] [.row 3 1 (v_r273.map (eI .i64))] (.tup [])]) (ts := []) (s := [0, 1]) (l := []) (by kernel_rfl) (by kernel_rfl) (.cons (dt h361) (.cons (G_slices_insertionSortOrdered_int_h_ok n v_w229 v_a224 v_b225 _ h362) .nil)) q
    · rw [if_neg h361] at h
      cases h
/- slices.pdqsortOrdered[int] -/
def G_slices_pdqsortOrdered_int_h (n : Nat) (v_data220 : (List Int)) (v_a221 : Int) (v_b222 : Int) (v_limit223 : Int) : Option ((List Int)) :=
  (G_slices_pdqsortOrdered_int_h_L1 n  n v_a221 v_b222 v_limit223 true true v_data220).bind fun v_o275 => match v_o275 with
  | .x0 v_z276 =>
    some v_z276
theorem G_slices_pdqsortOrdered_int_h_ok (n : Nat) (v_data220 : (List Int)) (v_a221 : Int) (v_b222 : Int) (v_limit223 : Int) (r : (List Int)) (h : G_slices_pdqsortOrdered_int_h n v_data220 v_a221 v_b222 v_limit223 = some r) : RetH Try.prog 120 [.srf 0, .d ((eI .i64) v_a221), .d ((eI .i64) v_b222), .d ((eI .i64) v_limit223)] [.row 3 1 (v_data220.map (eI .i64))] (.tup []) [.row 3 1 (r.map (eI .i64))] := by
  refine retH_run (n := 134) (fn := Try.f120) (c := bodyOf Try.f120) (by kernel_rfl) (by kernel_rfl) (by kernel_rfl) (by kernel_rfl) ?_
  have hF : KC 134 (FinH Try.prog Try.f120 [.row 3 1 (v_data220.map (eI .i64))] (.tup []) [.row 3 1 (r.map (eI .i64))]) := FinH.kc' (by kernel_rfl)
  unfold G_slices_pdqsortOrdered_int_h at h
  obtain ⟨v_o275, h363, h⟩ := bind_some h
  refine pkk_sound TTok mix hF 6 (hs := [.n n]) (ts := []) (s := [1, 0]) (l := [0, 1, 2, 3, 8, 9]) (by kernel_rfl) (by kernel_rfl) .nil (G_slices_pdqsortOrdered_int_h_L1_ok hF (.b 0 :: []) n  n v_a221 v_b222 v_limit223 true true v_data220 _ h363 ?_)
  cases v_o275 with
  | x0 v_z276 =>
    try dsimp only at h
    obtain rfl := Option.some.inj h
    exact pendH_sound TTok mix 1 (hs := []) [1] (by kernel_rfl) (by kernel_rfl) (by kernel_rfl) .nil
/- slices.Sort[[]int,int] -/
def G_slices_Sort_int_int_h (n : Nat) (v_x207 : (List Int)) : Option ((List Int)) :=
  (G_math_bits_Len n (wi .u64 (v_x207.length : Int))).bind fun (v_r219 : (Int)) =>
  (G_slices_pdqsortOrdered_int_h n v_x207 0 (v_x207.length : Int) v_r219).bind fun (v_r277 : ((List Int))) =>
  some v_r277
theorem G_slices_Sort_int_int_h_ok (n : Nat) (v_x207 : (List Int)) (r : (List Int)) (h : G_slices_Sort_int_int_h n v_x207 = some r) : RetH Try.prog 24 [.srf 0] [.row 3 1 (v_x207.map (eI .i64))] (.tup []) [.row 3 1 (r.map (eI .i64))] := by
  refine retH_run (n := 11) (fn := Try.f24) (c := bodyOf Try.f24) (by kernel_rfl) (by kernel_rfl) (by kernel_rfl) (by kernel_rfl) ?_
  have hF : KC 11 (FinH Try.prog Try.f24 [.row 3 1 (v_x207.map (eI .i64))] (.tup []) [.row 3 1 (r.map (eI .i64))]) := FinH.kc' (by kernel_rfl)
  unfold G_slices_Sort_int_int_h at h
  obtain ⟨v_r219, h313, h⟩ := bind_some h
  obtain ⟨v_r277, h364, h⟩ := bind_some h
  obtain rfl := Option.some.inj h
  exact pendH_sound TTok mix 3 (hs := [.u (.d (.v (.int .i64 (v_x207.length : Int)))), .r ((eI .i64) v_r219), .h [0] [] [.row 3 1 (v_r277.map (eI .i64))] (.tup [])]) [0] (by kernel_rfl) (by kernel_rfl) (by kernel_rfl) (.cons (len_ob (f := (eI .i64)) (l := v_x207)) (.cons (G_math_bits_Len_ok n (wi .u64 (v_x207.length : Int)) _ h313) (.cons (G_slices_pdqsortOrdered_int_h_ok n v_x207 0 (v_x207.length : Int) v_r219 _ h364) .nil)))
inductive G_orphan_Cut_L1_R where
  | x0 (v_w193 : (List Int)) (v_w194 : (List Int))
def G_orphan_Cut_L1_ex : G_orphan_Cut_L1_R → Ex
  | .x0 _ _ => .exit 1
def G_orphan_Cut_L1_st (v_size80 : Int) (v_r172 : (Int)) (v_n79 : S_inode_Node) : G_orphan_Cut_L1_R → PS
  | .x0 v_w193 v_w194 => ⟨[dd, .d (.v (.int .i64 v_size80)), .ref 0 0, dd, .ref 1 0, dd, dd, dd, dd, .d (.v (.int .i64 v_r172)), .srf 2, .srf 3, dd, dd, dd, dd, dd, dd, dd, dd, dd, dd, dd, dd, dd, dd, dd, dd, dd, dd, dd, dd, dd, dd, dd, dd, dd, dd, dd, dd, dd, dd, dd, dd, dd, dd, dd, dd, dd, dd, dd, dd, dd, dd, dd, dd, dd, dd, dd, dd, dd, dd, dd, dd, dd, dd, dd, dd, dd, dd, dd, dd, dd, dd, dd, dd, dd, dd, dd, dd, dd, dd, dd, dd, dd, dd, dd, dd, dd, dd, dd, dd, dd, dd], [.box [.d (.v (.int .i64 v_n79.fKind)), .d (.v (.int .i64 v_n79.fMode)), .d (.v (.int .i64 v_n79.fUser)), .d (.v (.int .i64 v_n79.fGroup)), .d (.v (.int .i64 v_n79.fSize)), .d (.v (.int .i64 v_n79.fLinks)), .d (.v (.int .i64 v_n79.fUp)), .d (.sl (v_n79.fPoints.map (eI .i64)))], .box [.d (.v (.int .i64 0)), .d (.v (.int .i64 0)), .d (.v (.int .i64 0)), .d (.v (.int .i64 0)), .d (.v (.int .i64 0)), .d (.v (.int .i64 0)), .d (.v (.int .i64 0)), .d (vnil)], .row 3 1 (v_w193.map (eI .i64)), .row 3 1 (v_w194.map (eI .i64))]⟩
def G_orphan_Cut_L1_hd (v_size80 : Int) (v_r172 : (Int)) (v_n79 : S_inode_Node) (v_w181 : (List Int)) (v_w182 : (List Int)) : PS := ⟨[dd, .d (.v (.int .i64 v_size80)), .ref 0 0, dd, .ref 1 0, dd, dd, dd, dd, .d (.v (.int .i64 v_r172)), .srf 2, .srf 3, dd, dd, dd, dd, dd, dd, dd, dd, dd, dd, dd, dd, dd, dd, dd, dd, dd, dd, dd, dd, dd, dd, dd, dd, dd, dd, dd, dd, dd, dd, dd, dd, dd, dd, dd, dd, dd, dd, dd, dd, dd, dd, dd, dd, dd, dd, dd, dd, dd, dd, dd, dd, dd, dd, dd, dd, dd, dd, dd, dd, dd, dd, dd, dd, dd, dd, dd, dd, dd, dd, dd, dd, dd, dd, dd, dd, dd, dd, dd, dd, dd, dd], [.box [.d (.v (.int .i64 v_n79.fKind)), .d (.v (.int .i64 v_n79.fMode)), .d (.v (.int .i64 v_n79.fUser)), .d (.v (.int .i64 v_n79.fGroup)), .d (.v (.int .i64 v_n79.fSize)), .d (.v (.int .i64 v_n79.fLinks)), .d (.v (.int .i64 v_n79.fUp)), .d (.sl (v_n79.fPoints.map (eI .i64)))], .box [.d (.v (.int .i64 0)), .d (.v (.int .i64 0)), .d (.v (.int .i64 0)), .d (.v (.int .i64 0)), .d (.v (.int .i64 0)), .d (.v (.int .i64 0)), .d (.v (.int .i64 0)), .d (vnil)], .row 3 1 (v_w181.map (eI .i64)), .row 3 1 (v_w182.map (eI .i64))]⟩
def G_orphan_Cut_L1 (n : Nat) (v_size80 : Int) (v_r172 : (Int)) (v_n79 : S_inode_Node) : Nat → (List Int) → (List Int) → Option G_orphan_Cut_L1_R
  | 0, _, _ => none
  | k + 1, v_w181, v_w182 =>
    if (v_w181.length : Int) > v_r172 then
     if 0 ≤ (wi .i64 ((v_w181.length : Int) - 1)) ∧ ((wi .i64 ((v_w181.length : Int) - 1))).toNat < v_w181.length then
      (v_w181[((wi .i64 ((v_w181.length : Int) - 1))).toNat]?).bind fun (v_y188 : Int) =>
      if v_y188 = 0 then
       (sub v_w181 0 (wi .i64 ((v_w181.length : Int) - 1))).bind fun (v_s192 : (List Int)) =>
       G_orphan_Cut_L1 n v_size80 v_r172 v_n79 k v_s192 v_w182
      else
       (app 8 v_w182 ([v_y188])).bind fun (v_a190 : (List Int)) =>
       (sub v_w181 0 (wi .i64 ((v_w181.length : Int) - 1))).bind fun (v_s191 : (List Int)) =>
       G_orphan_Cut_L1 n v_size80 v_r172 v_n79 k v_s191 v_a190
     else none
    else
     some (.x0 v_w181 v_w182)
theorem G_orphan_Cut_L1_ok {Fi : Ex → PS → Prop} (hF : KC 94 Fi) (ks : List Fr) (n : Nat) (v_size80 : Int) (v_r172 : (Int)) (v_n79 : S_inode_Node)  : ∀ (k : Nat) (v_w181 : (List Int)) (v_w182 : (List Int)) (o : G_orphan_Cut_L1_R), G_orphan_Cut_L1 n v_size80 v_r172 v_n79 k v_w181 v_w182 = some o → RunE Try.prog 94 Fi ks (G_orphan_Cut_L1_ex o) (G_orphan_Cut_L1_st v_size80 v_r172 v_n79 o) → RunE Try.prog 94 Fi (.l k (cP (cB (cL (cR (cR (cR (cR (cR (cR (bodyOf Try.f46)))))))))) :: ks) .normal (G_orphan_Cut_L1_hd v_size80 v_r172 v_n79 v_w181 v_w182)
  | 0, v_w181, v_w182, o, h, q => by rw [G_orphan_Cut_L1] at h; cases h
  | k + 1, v_w181, v_w182, o, h, q => by
    rw [G_orphan_Cut_L1] at h
    by_cases h254 : (v_w181.length : Int) > v_r172
    · rw [if_pos h254] at h
      by_cases h263 : 0 ≤ (wi .i64 ((v_w181.length : Int) - 1)) ∧ ((wi .i64 ((v_w181.length : Int) - 1))).toNat < v_w181.length
      · rw [if_pos h263] at h
        obtain ⟨v_y188, h264, h⟩ := bind_some h
        by_cases h267 : v_y188 = 0
        · rw [if_pos h267] at h
          obtain ⟨v_s192, h270, h⟩ := bind_some h
          exact pkk_sound TTok mix hF 16 (hs := [.u (.d (.v (.int .i64 (v_w181.length : Int)))), .t true, .u (.d (.v (.int .i64 (v_w181.length : Int)))), .y ((eI .i64) v_y188), .t false, .u (.d (.v (.int .i64 (v_w181.length : Int)))), .w (v_s192.map (eI .i64))]) (ts := []) (s := [0, 1, 55, 3]) (l := [1, 2, 4, 9, 10, 11]) (by kernel_rfl) (by kernel_rfl) (.cons (len_ob (f := (eI .i64)) (l := v_w181)) (.cons (dt h254) (.cons (len_ob (f := (eI .i64)) (l := v_w181)) (.cons (idx_ob (f := (eI .i64)) h263) (.cons (get_ob (f := (eI .i64)) h264) (.cons (nf h267) (.cons (len_ob (f := (eI .i64)) (l := v_w181)) (.cons (Eq.refl (0 : Int)) (.cons (subR_ob (f := (eI .i64)) h270).1 (.cons (subR_ob (f := (eI .i64)) h270).2.1 (.cons (subR_ob (f := (eI .i64)) h270).2.2 .nil))))))))))) (G_orphan_Cut_L1_ok hF ks n v_size80 v_r172 v_n79 k v_s192 v_w182 _ h q)
        · rw [if_neg h267] at h
          obtain ⟨v_a190, h268, h⟩ := bind_some h
          obtain ⟨v_s191, h269, h⟩ := bind_some h
          exact pkk_sound TTok mix hF 16 (hs := [.u (.d (.v (.int .i64 (v_w181.length : Int)))), .t true, .u (.d (.v (.int .i64 (v_w181.length : Int)))), .y ((eI .i64) v_y188), .t true, .bd, .w (v_a190.map (eI .i64)), .u (.d (.v (.int .i64 (v_w181.length : Int)))), .w (v_s191.map (eI .i64))]) (ts := []) (s := [0, 1, 70, 52]) (l := [1, 2, 4, 9, 10, 11]) (by kernel_rfl) (by kernel_rfl) (.cons (len_ob (f := (eI .i64)) (l := v_w181)) (.cons (dt h254) (.cons (len_ob (f := (eI .i64)) (l := v_w181)) (.cons (idx_ob (f := (eI .i64)) h263) (.cons (get_ob (f := (eI .i64)) h264) (.cons (nt h267) (.cons (app_ob (f := (eI .i64)) (s := 1) h268 (fun _ => rfl)).1 (.cons (app_ob (f := (eI .i64)) (s := 1) h268 (fun _ => rfl)).2.1 (.cons (app_ob (f := (eI .i64)) (s := 1) h268 (fun _ => rfl)).2.2.1 (.cons (app_ob (f := (eI .i64)) (s := 1) h268 (fun _ => rfl)).2.2.2 (.cons (len_ob (f := (eI .i64)) (l := v_w181)) (.cons (Eq.refl (0 : Int)) (.cons (subR_ob (f := (eI .i64)) h269).1 (.cons (subR_ob (f := (eI .i64)) h269).2.1 (.cons (subR_ob (f := (eI .i64)) h269).2.2 .nil))))))))))))))) (G_orphan_Cut_L1_ok hF ks n v_size80 v_r172 v_n79 k v_s191 v_a190 _ h q)
      · rw [if_neg h263] at h; cases h
    · rw [if_neg h254] at h
      cases h
      exact pkk_sound TTok mix hF 8 (hs := [.u (.d (.v (.int .i64 (v_w181.length : Int)))), .t false]) (ts := []) (s := [0, 1, 2, 3]) (l := [1, 2, 4, 9, 10, 11]) (by kernel_rfl) (by kernel_rfl) (.cons (len_ob (f := (eI .i64)) (l := v_w181)) (.cons (df h254) .nil)) q
inductive G_orphan_Cut_L2_R where
  | x0 (v_w202 : (List Int)) (v_w203 : (List Int))
def G_orphan_Cut_L2_ex : G_orphan_Cut_L2_R → Ex
  | .x0 _ _ => .exit 3
def G_orphan_Cut_L2_st (v_size80 : Int) (v_r172 : (Int)) (v_n79 : S_inode_Node) : G_orphan_Cut_L2_R → PS
  | .x0 v_w202 v_w203 => ⟨[dd, .d (.v (.int .i64 v_size80)), .ref 0 0, dd, .ref 1 0, dd, dd, dd, dd, .d (.v (.int .i64 v_r172)), .srf 2, .srf 3, dd, dd, dd, dd, dd, dd, dd, dd, dd, dd, dd, dd, dd, dd, dd, dd, dd, dd, dd, dd, dd, dd, dd, dd, dd, dd, dd, dd, dd, dd, dd, dd, dd, dd, dd, dd, dd, dd, dd, dd, dd, dd, dd, dd, dd, dd, dd, dd, dd, dd, dd, dd, dd, dd, dd, dd, dd, dd, dd, dd, dd, dd, dd, dd, dd, dd, dd, dd, dd, dd, dd, dd, dd, dd, dd, dd, dd, dd, dd, dd, dd, dd], [.box [.d (.v (.int .i64 v_n79.fKind)), .d (.v (.int .i64 v_n79.fMode)), .d (.v (.int .i64 v_n79.fUser)), .d (.v (.int .i64 v_n79.fGroup)), .d (.v (.int .i64 v_n79.fSize)), .d (.v (.int .i64 v_n79.fLinks)), .d (.v (.int .i64 v_n79.fUp)), .d (.sl (v_n79.fPoints.map (eI .i64)))], .box [.d (.v (.int .i64 0)), .d (.v (.int .i64 0)), .d (.v (.int .i64 0)), .d (.v (.int .i64 0)), .d (.v (.int .i64 0)), .d (.v (.int .i64 0)), .d (.v (.int .i64 0)), .d (vnil)], .row 3 1 (v_w202.map (eI .i64)), .row 3 1 (v_w203.map (eI .i64))]⟩
def G_orphan_Cut_L2_hd (v_size80 : Int) (v_r172 : (Int)) (v_n79 : S_inode_Node) (v_w198 : (List Int)) (v_w199 : (List Int)) : PS := ⟨[dd, .d (.v (.int .i64 v_size80)), .ref 0 0, dd, .ref 1 0, dd, dd, dd, dd, .d (.v (.int .i64 v_r172)), .srf 2, .srf 3, dd, dd, dd, dd, dd, dd, dd, dd, dd, dd, dd, dd, dd, dd, dd, dd, dd, dd, dd, dd, dd, dd, dd, dd, dd, dd, dd, dd, dd, dd, dd, dd, dd, dd, dd, dd, dd, dd, dd, dd, dd, dd, dd, dd, dd, dd, dd, dd, dd, dd, dd, dd, dd, dd, dd, dd, dd, dd, dd, dd, dd, dd, dd, dd, dd, dd, dd, dd, dd, dd, dd, dd, dd, dd, dd, dd, dd, dd, dd, dd, dd, dd], [.box [.d (.v (.int .i64 v_n79.fKind)), .d (.v (.int .i64 v_n79.fMode)), .d (.v (.int .i64 v_n79.fUser)), .d (.v (.int .i64 v_n79.fGroup)), .d (.v (.int .i64 v_n79.fSize)), .d (.v (.int .i64 v_n79.fLinks)), .d (.v (.int .i64 v_n79.fUp)), .d (.sl (v_n79.fPoints.map (eI .i64)))], .box [.d (.v (.int .i64 0)), .d (.v (.int .i64 0)), .d (.v (.int .i64 0)), .d (.v (.int .i64 0)), .d (.v (.int .i64 0)), .d (.v (.int .i64 0)), .d (.v (.int .i64 0)), .d (vnil)], .row 3 1 (v_w198.map (eI .i64)), .row 3 1 (v_w199.map (eI .i64))]⟩
def G_orphan_Cut_L2 (n : Nat) (v_size80 : Int) (v_r172 : (Int)) (v_n79 : S_inode_Node) : Nat → (List Int) → (List Int) → Option G_orphan_Cut_L2_R
  | 0, _, _ => none
  | k + 1, v_w198, v_w199 =>
    if (v_w198.length : Int) < v_r172 then
     (app 8 v_w198 ([0])).bind fun (v_a201 : (List Int)) =>
     G_orphan_Cut_L2 n v_size80 v_r172 v_n79 k v_a201 v_w199
    else
     some (.x0 v_w198 v_w199)
theorem G_orphan_Cut_L2_ok {Fi : Ex → PS → Prop} (hF : KC 94 Fi) (ks : List Fr) (n : Nat) (v_size80 : Int) (v_r172 : (Int)) (v_n79 : S_inode_Node)  : ∀ (k : Nat) (v_w198 : (List Int)) (v_w199 : (List Int)) (o : G_orphan_Cut_L2_R), G_orphan_Cut_L2 n v_size80 v_r172 v_n79 k v_w198 v_w199 = some o → RunE Try.prog 94 Fi ks (G_orphan_Cut_L2_ex o) (G_orphan_Cut_L2_st v_size80 v_r172 v_n79 o) → RunE Try.prog 94 Fi (.l k (cP (cB (cL (cR (cR (cR (cR (cR (cR (cR (bodyOf Try.f46))))))))))) :: ks) .normal (G_orphan_Cut_L2_hd v_size80 v_r172 v_n79 v_w198 v_w199)
  | 0, v_w198, v_w199, o, h, q => by rw [G_orphan_Cut_L2] at h; cases h
  | k + 1, v_w198, v_w199, o, h, q => by
    rw [G_orphan_Cut_L2] at h
    by_cases h272 : (v_w198.length : Int) < v_r172
    · rw [if_pos h272] at h
      obtain ⟨v_a201, h274, h⟩ := bind_some h
      exact pkk_sound TTok mix hF 9 (hs := [.u (.d (.v (.int .i64 (v_w198.length : Int)))), .t true, .bd, .w (v_a201.map (eI .i64))]) (ts := []) (s := [0, 1, 22, 3]) (l := [1, 2, 4, 9, 10, 11]) (by kernel_rfl) (by kernel_rfl) (.cons (len_ob (f := (eI .i64)) (l := v_w198)) (.cons (dt h272) (.cons (app_ob (f := (eI .i64)) (s := 1) h274 (fun _ => rfl)).1 (.cons (app_ob (f := (eI .i64)) (s := 1) h274 (fun _ => rfl)).2.1 (.cons (app_ob (f := (eI .i64)) (s := 1) h274 (fun _ => rfl)).2.2.1 (.cons (app_ob (f := (eI .i64)) (s := 1) h274 (fun _ => rfl)).2.2.2 .nil)))))) (G_orphan_Cut_L2_ok hF ks n v_size80 v_r172 v_n79 k v_a201 v_w199 _ h q)
    · rw [if_neg h272] at h
      cases h
      exact pkk_sound TTok mix hF 8 (hs := [.u (.d (.v (.int .i64 (v_w198.length : Int)))), .t false]) (ts := []) (s := [0, 1, 2, 3]) (l := [1, 2, 4, 9, 10, 11]) (by kernel_rfl) (by kernel_rfl) (.cons (len_ob (f := (eI .i64)) (l := v_w198)) (.cons (df h272) .nil)) q
inductive G_orphan_Cut_C3_R where
  | x0 (v_x281 : Bool) (v_w282 : (List Int)) (v_w283 : (List Int))
def G_orphan_Cut_C3_ex : G_orphan_Cut_C3_R → Ex
  | .x0 _ _ _ => .normal
def G_orphan_Cut_C3_st (v_size80 : Int) (v_r172 : (Int)) (v_n79 : S_inode_Node) (v_z205 : (List Int)) (v_r278 : ((List Int))) : G_orphan_Cut_C3_R → PS
  | .x0 v_x281 v_w282 v_w283 => ⟨[dd, .d (.v (.int .i64 v_size80)), .ref 0 0, dd, .ref 1 0, dd, dd, dd, dd, dd, .srf 2, .srf 3, dd, .d (.v (.int .i64 0)), dd, dd, dd, dd, dd, dd, dd, dd, dd, dd, dd, dd, dd, dd, dd, dd, dd, dd, dd, dd, dd, dd, dd, dd, dd, dd, dd, dd, dd, dd, dd, dd, dd, dd, dd, dd, dd, dd, dd, dd, dd, dd, dd, dd, dd, dd, dd, dd, dd, dd, dd, dd, dd, dd, dd, dd, dd, dd, dd, dd, dd, dd, dd, dd, dd, dd, dd, dd, dd, dd, .d (.v (.bool v_x281)), dd, dd, dd, dd, dd, dd, dd, dd, dd], [.box [.d (.v (.int .i64 v_n79.fKind)), .d (.v (.int .i64 v_n79.fMode)), .d (.v (.int .i64 v_n79.fUser)), .d (.v (.int .i64 v_n79.fGroup)), .d (.v (.int .i64 v_n79.fSize)), .d (.v (.int .i64 v_n79.fLinks)), .d (.v (.int .i64 v_n79.fUp)), .d (.sl (v_n79.fPoints.map (eI .i64)))], .box [.d (.v (.int .i64 0)), .d (.v (.int .i64 0)), .d (.v (.int .i64 0)), .d (.v (.int .i64 0)), .d (.v (.int .i64 0)), .d (.v (.int .i64 0)), .d (.v (.int .i64 0)), .d (vnil)], .row 3 1 (v_w282.map (eI .i64)), .row 3 1 (v_w283.map (eI .i64))]⟩
def G_orphan_Cut_C3_hd (v_size80 : Int) (v_r172 : (Int)) (v_n79 : S_inode_Node) (v_z205 : (List Int)) (v_r278 : ((List Int)))  : PS := ⟨[dd, .d (.v (.int .i64 v_size80)), .ref 0 0, dd, .ref 1 0, dd, dd, dd, dd, .d (.v (.int .i64 v_r172)), .srf 2, .srf 3, dd, .d (.v (.int .i64 0)), dd, dd, dd, dd, dd, dd, dd, dd, dd, dd, dd, dd, dd, dd, dd, dd, dd, dd, dd, dd, dd, dd, dd, dd, dd, dd, dd, dd, dd, dd, dd, dd, dd, dd, dd, dd, dd, dd, dd, dd, dd, dd, dd, dd, dd, dd, dd, dd, dd, dd, dd, dd, dd, dd, dd, dd, dd, dd, dd, dd, dd, dd, dd, dd, dd, dd, dd, dd, dd, dd, dd, dd, dd, dd, dd, dd, dd, dd, dd, dd], [.box [.d (.v (.int .i64 v_n79.fKind)), .d (.v (.int .i64 v_n79.fMode)), .d (.v (.int .i64 v_n79.fUser)), .d (.v (.int .i64 v_n79.fGroup)), .d (.v (.int .i64 v_n79.fSize)), .d (.v (.int .i64 v_n79.fLinks)), .d (.v (.int .i64 v_n79.fUp)), .d (.sl (v_n79.fPoints.map (eI .i64)))], .box [.d (.v (.int .i64 0)), .d (.v (.int .i64 0)), .d (.v (.int .i64 0)), .d (.v (.int .i64 0)), .d (.v (.int .i64 0)), .d (.v (.int .i64 0)), .d (.v (.int .i64 0)), .d (vnil)], .row 3 1 (v_z205.map (eI .i64)), .row 3 1 (v_r278.map (eI .i64))]⟩
def G_orphan_Cut_C3 (n : Nat) (v_size80 : Int) (v_r172 : (Int)) (v_n79 : S_inode_Node) (v_z205 : (List Int)) (v_r278 : ((List Int))) : Option G_orphan_Cut_C3_R :=
  if v_size80 < v_n79.fSize then
   if (remI v_size80 64) = 0 then
    some (.x0 false v_z205 v_r278)
   else
    if 0 ≤ (wi .i64 (v_r172 - 1)) ∧ ((wi .i64 (v_r172 - 1))).toNat < v_z205.length then
     (v_z205[((wi .i64 (v_r172 - 1))).toNat]?).bind fun (v_y280 : Int) =>
     some (.x0 (v_y280 != 0) v_z205 v_r278)
    else none
  else
   some (.x0 false v_z205 v_r278)
theorem G_orphan_Cut_C3_ok {Fi : Ex → PS → Prop} (hF : KC 94 Fi) (ks : List Fr) (n : Nat) (v_size80 : Int) (v_r172 : (Int)) (v_n79 : S_inode_Node) (v_z205 : (List Int)) (v_r278 : ((List Int)))  (o : G_orphan_Cut_C3_R) (h : G_orphan_Cut_C3 n v_size80 v_r172 v_n79 v_z205 v_r278 = some o) (q : RunE Try.prog 94 Fi ks (G_orphan_Cut_C3_ex o) (G_orphan_Cut_C3_st v_size80 v_r172 v_n79 v_z205 v_r278 o)) : RunE Try.prog 94 Fi (.s (cL (cL (cR (cR (cR (cR (cR (cR (cR (cR (cR (cR (bodyOf Try.f46))))))))))))) :: ks) .normal (G_orphan_Cut_C3_hd v_size80 v_r172 v_n79 v_z205 v_r278) := by
  unfold G_orphan_Cut_C3 at h
  by_cases h371 : v_size80 < v_n79.fSize
  · rw [if_pos h371] at h
    by_cases h373 : (remI v_size80 64) = 0
    · rw [if_pos h373] at h
      cases h
      exact pkk_sound TTok mix hF 1 (hs := [.c, .t true, .c, .c, .t false, .c, .c, .c, .c, .c]) (ts := []) (s := [0, 1, 2, 3]) (l := [1, 2, 4, 10, 11, 13, 84]) (by kernel_rfl) (by kernel_rfl) (.cons (dt h371) (.cons (show (64 : Int) ≠ 0 by decide) (.cons (nf h373) .nil))) q
    · rw [if_neg h373] at h
      by_cases h374 : 0 ≤ (wi .i64 (v_r172 - 1)) ∧ ((wi .i64 (v_r172 - 1))).toNat < v_z205.length
      · rw [if_pos h374] at h
        obtain ⟨v_y280, h375, h⟩ := bind_some h
        cases h
        exact pkk_sound TTok mix hF 1 (hs := [.c, .t true, .c, .c, .t true, .c, .c, .c, .c, .y ((eI .i64) v_y280), .c]) (ts := []) (s := [0, 1, 2, 3]) (l := [1, 2, 4, 10, 11, 13, 84]) (by kernel_rfl) (by kernel_rfl) (.cons (dt h371) (.cons (show (64 : Int) ≠ 0 by decide) (.cons (nt h373) (.cons (idx_ob (f := (eI .i64)) h374) (.cons (get_ob (f := (eI .i64)) h375) .nil))))) q
      · rw [if_neg h374] at h; cases h
  · rw [if_neg h371] at h
    cases h
    exact pkk_sound TTok mix hF 1 (hs := [.c, .t false, .c, .c, .c, .c, .c, .c, .c, .c]) (ts := []) (s := [0, 1, 2, 3]) (l := [1, 2, 4, 10, 11, 13, 84]) (by kernel_rfl) (by kernel_rfl) (.cons (df h371) .nil) q
/- ringhall/orphan.Cut -/
def G_orphan_Cut (n : Nat) (v_n79 : S_inode_Node) (v_size80 : Int) : Option (S_inode_Node × (List Int) × Int × Int) :=
  (G_inode_Right n v_n79).bind fun (v_r171 : (Int)) =>
  if v_r171 = 0 then
   if v_n79.fKind = 0 then
    some ((S_inode_Node.mk 0 0 0 0 0 0 0 ([] : (List Int))), ([] : (List Int)), 0, 4)
   else
    if v_size80 < 0 then
     some ((S_inode_Node.mk 0 0 0 0 0 0 0 ([] : (List Int))), ([] : (List Int)), 0, 1)
    else
     if v_size80 > 512 then
      some ((S_inode_Node.mk 0 0 0 0 0 0 0 ([] : (List Int))), ([] : (List Int)), 0, 2)
     else
      (G_inode_Blocks n v_size80).bind fun (v_r172 : (Int)) =>
      (G_slices_Clone_int_int n v_n79.fPoints).bind fun (v_r180 : ((List Int))) =>
      (G_orphan_Cut_L1 n v_size80 v_r172 v_n79 n v_r180 ([] : List Int)).bind fun v_o195 => match v_o195 with
      | .x0 v_z196 v_z197 =>
        (G_orphan_Cut_L2 n v_size80 v_r172 v_n79 n v_z196 v_z197).bind fun v_o204 => match v_o204 with
        | .x0 v_z205 v_z206 =>
          (G_slices_Sort_int_int_h n v_z206).bind fun (v_r278 : ((List Int))) =>
          (G_orphan_Cut_C3 n v_size80 v_r172 v_n79 v_z205 v_r278).bind fun v_o290 => match v_o290 with
          | .x0 v_z291 v_z292 v_z293 =>
            if v_z291 = true then
             some ((S_inode_Node.mk v_n79.fKind v_n79.fMode v_n79.fUser v_n79.fGroup v_size80 v_n79.fLinks v_n79.fUp v_z292), v_z293, (remI v_size80 64), 0)
            else
             some ((S_inode_Node.mk v_n79.fKind v_n79.fMode v_n79.fUser v_n79.fGroup v_size80 v_n79.fLinks v_n79.fUp v_z292), v_z293, 0, 0)
  else
   some ((S_inode_Node.mk 0 0 0 0 0 0 0 ([] : (List Int))), ([] : (List Int)), 0, v_r171)
theorem G_orphan_Cut_ok (n : Nat) (v_n79 : S_inode_Node) (v_size80 : Int) (r : S_inode_Node × (List Int) × Int × Int) (h : G_orphan_Cut n v_n79 v_size80 = some r) : Ret Try.prog 46 [eS_inode_Node v_n79, (eI .i64) v_size80] (.tup [eS_inode_Node r.1, (eL (eI .i64)) r.2.1, (eI .i64) r.2.2.1, (eI .i64) r.2.2.2]) := by
  refine ret_run (n := 94) (fn := Try.f46) (c := bodyOf Try.f46) (by kernel_rfl) (by kernel_rfl) (by kernel_rfl) (by kernel_rfl) ?_
  have hF : KC 94 (FinR Try.prog Try.f46 (.tup [eS_inode_Node r.1, (eL (eI .i64)) r.2.1, (eI .i64) r.2.2.1, (eI .i64) r.2.2.2])) := FinR.kc' (by kernel_rfl)
  unfold G_orphan_Cut at h
  obtain ⟨v_r171, h229, h⟩ := bind_some h
  by_cases h231 : v_r171 = 0
  · rw [if_pos h231] at h
    by_cases h244 : v_n79.fKind = 0
    · rw [if_pos h244] at h
      obtain rfl := Option.some.inj h
      exact pend_sound TTok mix 19 (hs := [.c, .r ((eI .i64) v_r171), .t false, .c, .t true, .c]) (by kernel_rfl) (by kernel_rfl) (by kernel_rfl) (.cons (G_inode_Right_ok n v_n79 _ h229) (.cons (nf h231) (.cons (bt h244) (.cons (show 0 + 8 ≤ 8 by decide) .nil))))
    · rw [if_neg h244] at h
      by_cases h247 : v_size80 < 0
      · rw [if_pos h247] at h
        obtain rfl := Option.some.inj h
        exact pend_sound TTok mix 22 (hs := [.c, .r ((eI .i64) v_r171), .t false, .c, .t false, .t true, .c]) (by kernel_rfl) (by kernel_rfl) (by kernel_rfl) (.cons (G_inode_Right_ok n v_n79 _ h229) (.cons (nf h231) (.cons (bf h244) (.cons (dt h247) (.cons (show 0 + 8 ≤ 8 by decide) .nil)))))
      · rw [if_neg h247] at h
        by_cases h249 : v_size80 > 512
        · rw [if_pos h249] at h
          obtain rfl := Option.some.inj h
          exact pend_sound TTok mix 25 (hs := [.c, .r ((eI .i64) v_r171), .t false, .c, .t false, .t false, .t true, .c]) (by kernel_rfl) (by kernel_rfl) (by kernel_rfl) (.cons (G_inode_Right_ok n v_n79 _ h229) (.cons (nf h231) (.cons (bf h244) (.cons (df h247) (.cons (dt h249) (.cons (show 0 + 8 ≤ 8 by decide) .nil))))))
        · rw [if_neg h249] at h
          obtain ⟨v_r172, h250, h⟩ := bind_some h
          obtain ⟨v_r180, h253, h⟩ := bind_some h
          obtain ⟨v_o195, h271, h⟩ := bind_some h
          refine pkk_sound TTok mix hF 31 (hs := [.c, .r ((eI .i64) v_r171), .t false, .c, .t false, .t false, .t false, .r ((eI .i64) v_r172), .c, .h [] [] [.row 3 1 (v_r180.map (eI .i64))] (.srf 0), .n n]) (ts := [(11, 3, 1)]) (s := [0, 3, 75, 84]) (l := [1, 2, 4, 9, 10, 11]) (by kernel_rfl) (by kernel_rfl) (.cons (G_inode_Right_ok n v_n79 _ h229) (.cons (nf h231) (.cons (bf h244) (.cons (df h247) (.cons (df h249) (.cons (G_inode_Blocks_ok n v_size80 _ h250) (.cons (G_slices_Clone_int_int_ok n v_n79.fPoints _ h253) .nil))))))) (G_orphan_Cut_L1_ok hF (.b 1 :: .s (cR (cR (cR (cR (cR (cR (cR (bodyOf Try.f46)))))))) :: []) n v_size80 v_r172 v_n79 n v_r180 ([] : List Int) _ h271 ?_)
          cases v_o195 with
          | x0 v_z196 v_z197 =>
            try dsimp only at h
            obtain ⟨v_o204, h275, h⟩ := bind_some h
            refine pkk_sound TTok mix hF 4 (hs := [.n n]) (ts := []) (s := [0, 1, 2, 3]) (l := [1, 2, 4, 9, 10, 11]) (by kernel_rfl) (by kernel_rfl) .nil (G_orphan_Cut_L2_ok hF (.b 3 :: .s (cR (cR (cR (cR (cR (cR (cR (cR (bodyOf Try.f46))))))))) :: []) n v_size80 v_r172 v_n79 n v_z196 v_z197 _ h275 ?_)
            cases v_o204 with
            | x0 v_z205 v_z206 =>
              try dsimp only at h
              obtain ⟨v_r278, h365, h⟩ := bind_some h
              obtain ⟨v_o290, h376, h⟩ := bind_some h
              refine pkk_sound TTok mix hF 7 (hs := [.h [3] [] [.row 3 1 (v_r278.map (eI .i64))] (.tup [])]) (ts := []) (s := [0, 1, 2, 3]) (l := [1, 2, 4, 9, 10, 11, 13]) (by kernel_rfl) (by kernel_rfl) (.cons (G_slices_Sort_int_int_h_ok n v_z206 _ h365) .nil) (G_orphan_Cut_C3_ok hF (.s (cR (cL (cR (cR (cR (cR (cR (cR (cR (cR (cR (cR (bodyOf Try.f46))))))))))))) :: .s (cR (cR (cR (cR (cR (cR (cR (cR (cR (cR (cR (bodyOf Try.f46)))))))))))) :: []) n v_size80 v_r172 v_n79 v_z205 v_r278 _ h376 ?_)
              cases v_o290 with
              | x0 v_z291 v_z292 v_z293 =>
                try dsimp only at h
                by_cases h379 : v_z291 = true
                · rw [if_pos h379] at h
                  obtain rfl := Option.some.inj h
                  exact pend_sound TTok mix 7 (hs := [.t true, .c, .c, .c, .c]) (by kernel_rfl) (by kernel_rfl) (by kernel_rfl) (.cons h379 (.cons (show (64 : Int) ≠ 0 by decide) (.cons (show 4 + 1 ≤ 8 by decide) (.cons (show 7 + 1 ≤ 8 by decide) (.cons (show 0 + 8 ≤ 8 by decide) .nil)))))
                · rw [if_neg h379] at h
                  obtain rfl := Option.some.inj h
                  exact pend_sound TTok mix 7 (hs := [.t false, .c, .c, .c, .c]) (by kernel_rfl) (by kernel_rfl) (by kernel_rfl) (.cons (vf h379) (.cons (show 4 + 1 ≤ 8 by decide) (.cons (show 7 + 1 ≤ 8 by decide) (.cons (show 0 + 8 ≤ 8 by decide) .nil))))
  · rw [if_neg h231] at h
    obtain rfl := Option.some.inj h
    exact pend_sound TTok mix 12 (hs := [.c, .r ((eI .i64) v_r171), .t true, .c]) (by kernel_rfl) (by kernel_rfl) (by kernel_rfl) (.cons (G_inode_Right_ok n v_n79 _ h229) (.cons (nt h231) (.cons (show 0 + 8 ≤ 8 by decide) .nil)))
inductive G_slices_Equal_int_int_L1_R where
  | x0 (v_x305 : Bool)
  | x1 
def G_slices_Equal_int_int_L1_ex : G_slices_Equal_int_int_L1_R → Ex
  | .x0 _ => .ret
  | .x1  => .exit 0
def G_slices_Equal_int_int_L1_st (v_s298 : (List Int)) (v_s299 : (List Int)) : G_slices_Equal_int_int_L1_R → PS
  | .x0 v_x305 => ⟨[dd, dd, dd, dd, .d (.v (.bool v_x305)), dd, dd, dd, dd, dd, dd, dd, dd, dd, dd, dd, dd, dd, dd, dd, dd, dd, dd, dd, dd, dd], []⟩
  | .x1  => ⟨[dd, dd, dd, dd, dd, dd, dd, dd, dd, dd, dd, dd, dd, dd, dd, dd, dd, dd, dd, dd, dd, dd, dd, dd, dd, dd], []⟩
def G_slices_Equal_int_int_L1_hd (v_s298 : (List Int)) (v_s299 : (List Int)) (v_x300 : Int) : PS := ⟨[.d (.sl (v_s298.map (eI .i64))), .d (.sl (v_s299.map (eI .i64))), dd, dd, dd, dd, dd, dd, dd, dd, dd, dd, .d (.v (.int .i64 (v_s298.length : Int))), .d (.v (.int .i64 v_x300)), dd, dd, dd, dd, dd, dd, dd, dd, dd, dd, dd, dd], []⟩
def G_slices_Equal_int_int_L1 (n : Nat) (v_s298 : (List Int)) (v_s299 : (List Int)) : Nat → Int → Option G_slices_Equal_int_int_L1_R
  | 0, _ => none
  | k + 1, v_x300 =>
    if v_x300 < (v_s298.length : Int) then
     (getI v_s298 v_x300).bind fun (v_y303 : Int) =>
     (getI v_s299 v_x300).bind fun (v_y304 : Int) =>
     if v_y303 = v_y304 then
      G_slices_Equal_int_int_L1 n v_s298 v_s299 k (wi .i64 (v_x300 + 1))
     else
      some (.x0 false)
    else
     some (.x1 )
theorem G_slices_Equal_int_int_L1_ok {Fi : Ex → PS → Prop} (hF : KC 26 Fi) (ks : List Fr) (n : Nat) (v_s298 : (List Int)) (v_s299 : (List Int))  : ∀ (k : Nat) (v_x300 : Int) (o : G_slices_Equal_int_int_L1_R), G_slices_Equal_int_int_L1 n v_s298 v_s299 k v_x300 = some o → RunE Try.prog 26 Fi ks (G_slices_Equal_int_int_L1_ex o) (G_slices_Equal_int_int_L1_st v_s298 v_s299 o) → RunE Try.prog 26 Fi (.l k (cP (cB (cR (cL (cR (cR (bodyOf Try.f43))))))) :: ks) .normal (G_slices_Equal_int_int_L1_hd v_s298 v_s299 v_x300)
  | 0, v_x300, o, h, q => by rw [G_slices_Equal_int_int_L1] at h; cases h
  | k + 1, v_x300, o, h, q => by
    rw [G_slices_Equal_int_int_L1] at h
    by_cases h393 : v_x300 < (v_s298.length : Int)
    · rw [if_pos h393] at h
      obtain ⟨v_y303, h397, h⟩ := bind_some h
      obtain ⟨v_y304, h398, h⟩ := bind_some h
      by_cases h399 : v_y303 = v_y304
      · rw [if_pos h399] at h
        exact pkk_sound TTok mix hF 16 (hs := [.t true, .y ((eI .i64) v_y303), .c, .y ((eI .i64) v_y304), .c, .t false]) (ts := []) (s := []) (l := [0, 1, 12, 13]) (by kernel_rfl) (by kernel_rfl) (.cons (dt h393) (.cons (getI_ob (f := (eI .i64)) h397) (.cons (getI_ob (f := (eI .i64)) h398) (.cons (nf h399) .nil)))) (G_slices_Equal_int_int_L1_ok hF ks n v_s298 v_s299 k (wi .i64 (v_x300 + 1)) _ h q)
      · rw [if_neg h399] at h
        cases h
        exact pkk_sound TTok mix hF 19 (hs := [.t true, .y ((eI .i64) v_y303), .c, .y ((eI .i64) v_y304), .c, .t true]) (ts := []) (s := []) (l := [4]) (by kernel_rfl) (by kernel_rfl) (.cons (dt h393) (.cons (getI_ob (f := (eI .i64)) h397) (.cons (getI_ob (f := (eI .i64)) h398) (.cons (nt h399) .nil)))) q
    · rw [if_neg h393] at h
      cases h
      exact pkk_sound TTok mix hF 8 (hs := [.t false]) (ts := []) (s := []) (l := []) (by kernel_rfl) (by kernel_rfl) (.cons (df h393) .nil) q
/- slices.Equal[[]int,int] -/
def G_slices_Equal_int_int (n : Nat) (v_s298 : (List Int)) (v_s299 : (List Int)) : Option (Bool) :=
  if (v_s298.length : Int) = (v_s299.length : Int) then
   (G_slices_Equal_int_int_L1 n v_s298 v_s299 n 0).bind fun v_o306 => match v_o306 with
   | .x0 v_z307 =>
     some v_z307
   | .x1  =>
     some true
  else
   some false
theorem G_slices_Equal_int_int_ok (n : Nat) (v_s298 : (List Int)) (v_s299 : (List Int)) (r : Bool) (h : G_slices_Equal_int_int n v_s298 v_s299 = some r) : Ret Try.prog 43 [(eL (eI .i64)) v_s298, (eL (eI .i64)) v_s299] (eB r) := by
  refine ret_run (n := 26) (fn := Try.f43) (c := bodyOf Try.f43) (by kernel_rfl) (by kernel_rfl) (by kernel_rfl) (by kernel_rfl) ?_
  have hF : KC 26 (FinR Try.prog Try.f43 (eB r)) := FinR.kc' (by kernel_rfl)
  unfold G_slices_Equal_int_int at h
  by_cases h392 : (v_s298.length : Int) = (v_s299.length : Int)
  · rw [if_pos h392] at h
    obtain ⟨v_o306, h400, h⟩ := bind_some h
    refine pkk_sound TTok mix hF 12 (hs := [.u (.d (.v (.int .i64 (v_s298.length : Int)))), .u (.d (.v (.int .i64 (v_s299.length : Int)))), .t false, .u (.d (.v (.int .i64 (v_s298.length : Int)))), .n n]) (ts := []) (s := []) (l := [0, 1, 12, 13]) (by kernel_rfl) (by kernel_rfl) (.cons (len_ob (f := (eI .i64)) (l := v_s298)) (.cons (len_ob (f := (eI .i64)) (l := v_s299)) (.cons (nf h392) (.cons (len_ob (f := (eI .i64)) (l := v_s298)) .nil)))) (G_slices_Equal_int_int_L1_ok hF (.b 0 :: .s (cR (cR (cR (bodyOf Try.f43)))) :: []) n v_s298 v_s299 n 0 _ h400 ?_)
    cases v_o306 with
    | x0 v_z307 =>
      try dsimp only at h
      obtain rfl := Option.some.inj h
      exact pend_sound TTok mix 2 (hs := []) (by kernel_rfl) (by kernel_rfl) (by kernel_rfl) .nil
    | x1  =>
      try dsimp only at h
      obtain rfl := Option.some.inj h
      exact pend_sound TTok mix 4 (hs := []) (by kernel_rfl) (by kernel_rfl) (by kernel_rfl) .nil
  · rw [if_neg h392] at h
    obtain rfl := Option.some.inj h
    exact pend_sound TTok mix 10 (hs := [.u (.d (.v (.int .i64 (v_s298.length : Int)))), .u (.d (.v (.int .i64 (v_s299.length : Int)))), .t true]) (by kernel_rfl) (by kernel_rfl) (by kernel_rfl) (.cons (len_ob (f := (eI .i64)) (l := v_s298)) (.cons (len_ob (f := (eI .i64)) (l := v_s299)) (.cons (nt h392) .nil)))
inductive G_ringlaw3_sameNode_C1_R where
  | x0 (v_x310 : Bool)
def G_ringlaw3_sameNode_C1_ex : G_ringlaw3_sameNode_C1_R → Ex
  | .x0 _ => .normal
def G_ringlaw3_sameNode_C1_st (v_r297 : (S_ringref3_Node)) (v_b296 : S_ringref3_Node) : G_ringlaw3_sameNode_C1_R → PS
  | .x0 v_x310 => ⟨[dd, dd, dd, dd, .d (.v (.bool v_x310)), dd, dd, dd, dd, dd, dd, dd, dd, dd, dd, dd, dd, dd, dd, dd, dd, dd, dd, dd, dd, dd, dd, dd, dd, dd, dd, dd, dd, dd, dd, dd, dd, dd, dd, dd, dd, dd, dd, dd, dd, dd, dd, dd, dd, dd, dd, dd, dd, dd, dd, dd, dd, dd, dd, dd, dd, dd, dd, dd, dd, dd, dd, dd], []⟩
def G_ringlaw3_sameNode_C1_hd (v_r297 : (S_ringref3_Node)) (v_b296 : S_ringref3_Node)  : PS := ⟨[dd, dd, dd, .ref 0 0, dd, .ref 1 0, .d (.sl (v_r297.fPoints.map (eI .i64))), .d (.sl (v_b296.fPoints.map (eI .i64))), dd, dd, dd, dd, dd, dd, dd, dd, dd, dd, dd, dd, dd, dd, dd, dd, dd, dd, dd, dd, dd, dd, dd, dd, dd, dd, dd, dd, dd, dd, dd, dd, dd, dd, dd, dd, dd, dd, dd, dd, dd, dd, dd, dd, dd, dd, dd, dd, dd, dd, dd, dd, dd, dd, dd, dd, dd, dd, dd, dd], [.box [.d (.v (.int .i64 v_b296.fKind)), .d (.v (.int .i64 v_b296.fMode)), .d (.v (.int .i64 v_b296.fUser)), .d (.v (.int .i64 v_b296.fGroup)), .d (.v (.int .i64 v_b296.fSize)), .d (.v (.int .i64 v_b296.fLinks)), .d (.v (.int .i64 v_b296.fUp)), .d (vnil)], .box [.d (.v (.int .i64 v_r297.fKind)), .d (.v (.int .i64 v_r297.fMode)), .d (.v (.int .i64 v_r297.fUser)), .d (.v (.int .i64 v_r297.fGroup)), .d (.v (.int .i64 v_r297.fSize)), .d (.v (.int .i64 v_r297.fLinks)), .d (.v (.int .i64 v_r297.fUp)), .d (vnil)]]⟩
def G_ringlaw3_sameNode_C1 (n : Nat) (v_r297 : (S_ringref3_Node)) (v_b296 : S_ringref3_Node) : Option G_ringlaw3_sameNode_C1_R :=
  if v_r297.fKind = v_b296.fKind then
   if v_r297.fMode = v_b296.fMode then
    if v_r297.fUser = v_b296.fUser then
     if v_r297.fGroup = v_b296.fGroup then
      if v_r297.fSize = v_b296.fSize then
       if v_r297.fLinks = v_b296.fLinks then
        if v_r297.fUp = v_b296.fUp then
         (G_slices_Equal_int_int n v_r297.fPoints v_b296.fPoints).bind fun (v_r309 : (Bool)) =>
         some (.x0 v_r309)
        else
         some (.x0 false)
       else
        some (.x0 false)
      else
       some (.x0 false)
     else
      some (.x0 false)
    else
     some (.x0 false)
   else
    some (.x0 false)
  else
   some (.x0 false)
theorem G_ringlaw3_sameNode_C1_ok {Fi : Ex → PS → Prop} (hF : KC 68 Fi) (ks : List Fr) (n : Nat) (v_r297 : (S_ringref3_Node)) (v_b296 : S_ringref3_Node)  (o : G_ringlaw3_sameNode_C1_R) (h : G_ringlaw3_sameNode_C1 n v_r297 v_b296 = some o) (q : RunE Try.prog 68 Fi ks (G_ringlaw3_sameNode_C1_ex o) (G_ringlaw3_sameNode_C1_st v_r297 v_b296 o)) : RunE Try.prog 68 Fi (.s (cL (cR (cR (cR (cR (cR (cR (bodyOf Try.f47)))))))) :: ks) .normal (G_ringlaw3_sameNode_C1_hd v_r297 v_b296) := by
  unfold G_ringlaw3_sameNode_C1 at h
  by_cases h402 : v_r297.fKind = v_b296.fKind
  · rw [if_pos h402] at h
    by_cases h403 : v_r297.fMode = v_b296.fMode
    · rw [if_pos h403] at h
      by_cases h404 : v_r297.fUser = v_b296.fUser
      · rw [if_pos h404] at h
        by_cases h405 : v_r297.fGroup = v_b296.fGroup
        · rw [if_pos h405] at h
          by_cases h406 : v_r297.fSize = v_b296.fSize
          · rw [if_pos h406] at h
            by_cases h407 : v_r297.fLinks = v_b296.fLinks
            · rw [if_pos h407] at h
              by_cases h408 : v_r297.fUp = v_b296.fUp
              · rw [if_pos h408] at h
                obtain ⟨v_r309, h409, h⟩ := bind_some h
                cases h
                exact pkk_sound TTok mix hF 1 (hs := [.c, .c, .t true, .c, .c, .c, .c, .c, .c, .t true, .c, .c, .c, .c, .c, .c, .t true, .c, .c, .c, .c, .c, .c, .t true, .c, .c, .c, .c, .c, .c, .t true, .c, .c, .c, .c, .c, .c, .t true, .c, .c, .c, .c, .c, .c, .t true, .c, .c, .r (eB v_r309)]) (ts := []) (s := []) (l := [4]) (by kernel_rfl) (by kernel_rfl) (.cons (bt h402) (.cons (bt h403) (.cons (bt h404) (.cons (bt h405) (.cons (bt h406) (.cons (bt h407) (.cons (bt h408) (.cons (G_slices_Equal_int_int_ok n v_r297.fPoints v_b296.fPoints _ h409) .nil)))))))) q
              · rw [if_neg h408] at h
                cases h
                exact pkk_sound TTok mix hF 1 (hs := [.c, .c, .t true, .c, .c, .c, .c, .c, .c, .t true, .c, .c, .c, .c, .c, .c, .t true, .c, .c, .c, .c, .c, .c, .t true, .c, .c, .c, .c, .c, .c, .t true, .c, .c, .c, .c, .c, .c, .t true, .c, .c, .c, .c, .c, .c, .t false, .c, .c]) (ts := []) (s := []) (l := [4]) (by kernel_rfl) (by kernel_rfl) (.cons (bt h402) (.cons (bt h403) (.cons (bt h404) (.cons (bt h405) (.cons (bt h406) (.cons (bt h407) (.cons (bf h408) .nil))))))) q
            · rw [if_neg h407] at h
              cases h
              exact pkk_sound TTok mix hF 1 (hs := [.c, .c, .t true, .c, .c, .c, .c, .c, .c, .t true, .c, .c, .c, .c, .c, .c, .t true, .c, .c, .c, .c, .c, .c, .t true, .c, .c, .c, .c, .c, .c, .t true, .c, .c, .c, .c, .c, .c, .t false, .c, .c, .c, .c, .c, .c, .c]) (ts := []) (s := []) (l := [4]) (by kernel_rfl) (by kernel_rfl) (.cons (bt h402) (.cons (bt h403) (.cons (bt h404) (.cons (bt h405) (.cons (bt h406) (.cons (bf h407) .nil)))))) q
          · rw [if_neg h406] at h
            cases h
            exact pkk_sound TTok mix hF 1 (hs := [.c, .c, .t true, .c, .c, .c, .c, .c, .c, .t true, .c, .c, .c, .c, .c, .c, .t true, .c, .c, .c, .c, .c, .c, .t true, .c, .c, .c, .c, .c, .c, .t false, .c, .c, .c, .c, .c, .c, .c, .c, .c, .c, .c, .c]) (ts := []) (s := []) (l := [4]) (by kernel_rfl) (by kernel_rfl) (.cons (bt h402) (.cons (bt h403) (.cons (bt h404) (.cons (bt h405) (.cons (bf h406) .nil))))) q
        · rw [if_neg h405] at h
          cases h
          exact pkk_sound TTok mix hF 1 (hs := [.c, .c, .t true, .c, .c, .c, .c, .c, .c, .t true, .c, .c, .c, .c, .c, .c, .t true, .c, .c, .c, .c, .c, .c, .t false, .c, .c, .c, .c, .c, .c, .c, .c, .c, .c, .c, .c, .c, .c, .c, .c, .c]) (ts := []) (s := []) (l := [4]) (by kernel_rfl) (by kernel_rfl) (.cons (bt h402) (.cons (bt h403) (.cons (bt h404) (.cons (bf h405) .nil)))) q
      · rw [if_neg h404] at h
        cases h
        exact pkk_sound TTok mix hF 1 (hs := [.c, .c, .t true, .c, .c, .c, .c, .c, .c, .t true, .c, .c, .c, .c, .c, .c, .t false, .c, .c, .c, .c, .c, .c, .c, .c, .c, .c, .c, .c, .c, .c, .c, .c, .c, .c, .c, .c, .c, .c]) (ts := []) (s := []) (l := [4]) (by kernel_rfl) (by kernel_rfl) (.cons (bt h402) (.cons (bt h403) (.cons (bf h404) .nil))) q
    · rw [if_neg h403] at h
      cases h
      exact pkk_sound TTok mix hF 1 (hs := [.c, .c, .t true, .c, .c, .c, .c, .c, .c, .t false, .c, .c, .c, .c, .c, .c, .c, .c, .c, .c, .c, .c, .c, .c, .c, .c, .c, .c, .c, .c, .c, .c, .c, .c, .c, .c, .c]) (ts := []) (s := []) (l := [4]) (by kernel_rfl) (by kernel_rfl) (.cons (bt h402) (.cons (bf h403) .nil)) q
  · rw [if_neg h402] at h
    cases h
    exact pkk_sound TTok mix hF 1 (hs := [.c, .c, .t false, .c, .c, .c, .c, .c, .c, .c, .c, .c, .c, .c, .c, .c, .c, .c, .c, .c, .c, .c, .c, .c, .c, .c, .c, .c, .c, .c, .c, .c, .c, .c, .c]) (ts := []) (s := []) (l := [4]) (by kernel_rfl) (by kernel_rfl) (.cons (bf h402) .nil) q
/- ringhall/ringlaw3.sameNode -/
def G_ringlaw3_sameNode (n : Nat) (v_a295 : S_inode_Node) (v_b296 : S_ringref3_Node) : Option (Bool) :=
  (G_ringlaw3_node n v_a295).bind fun (v_r297 : (S_ringref3_Node)) =>
  (G_ringlaw3_sameNode_C1 n v_r297 v_b296).bind fun v_o318 => match v_o318 with
  | .x0 v_z319 =>
    some v_z319
theorem G_ringlaw3_sameNode_ok (n : Nat) (v_a295 : S_inode_Node) (v_b296 : S_ringref3_Node) (r : Bool) (h : G_ringlaw3_sameNode n v_a295 v_b296 = some r) : Ret Try.prog 47 [eS_inode_Node v_a295, eS_ringref3_Node v_b296] (eB r) := by
  refine ret_run (n := 68) (fn := Try.f47) (c := bodyOf Try.f47) (by kernel_rfl) (by kernel_rfl) (by kernel_rfl) (by kernel_rfl) ?_
  have hF : KC 68 (FinR Try.prog Try.f47 (eB r)) := FinR.kc' (by kernel_rfl)
  unfold G_ringlaw3_sameNode at h
  obtain ⟨v_r297, h384, h⟩ := bind_some h
  obtain ⟨v_o318, h410, h⟩ := bind_some h
  refine pkk_sound TTok mix hF 13 (hs := [.c, .r (eS_ringref3_Node v_r297), .c, .c, .c, .c, .c]) (ts := []) (s := [3, 15]) (l := [3, 5, 6, 7]) (by kernel_rfl) (by kernel_rfl) (.cons (G_ringlaw3_node_ok n v_a295 _ h384) (.cons (show 0 + 8 ≤ 8 by decide) (.cons (show 7 + 1 ≤ 8 by decide) (.cons (show 7 + 1 ≤ 8 by decide) .nil)))) (G_ringlaw3_sameNode_C1_ok hF (.s (cR (cR (cR (cR (cR (cR (cR (bodyOf Try.f47)))))))) :: []) n v_r297 v_b296 _ h410 ?_)
  cases v_o318 with
  | x0 v_z319 =>
    try dsimp only at h
    obtain rfl := Option.some.inj h
    exact pend_sound TTok mix 1 (hs := []) (by kernel_rfl) (by kernel_rfl) (by kernel_rfl) .nil
/- sort.Ints -/
def G_sort_Ints_h (n : Nat) (v_x382 : (List Int)) : Option ((List Int)) :=
  (G_slices_Sort_int_int_h n v_x382).bind fun (v_r383 : ((List Int))) =>
  some v_r383
theorem G_sort_Ints_h_ok (n : Nat) (v_x382 : (List Int)) (r : (List Int)) (h : G_sort_Ints_h n v_x382 = some r) : RetH Try.prog 130 [.srf 0] [.row 3 1 (v_x382.map (eI .i64))] (.tup []) [.row 3 1 (r.map (eI .i64))] := by
  refine retH_run (n := 4) (fn := Try.f130) (c := bodyOf Try.f130) (by kernel_rfl) (by kernel_rfl) (by kernel_rfl) (by kernel_rfl) ?_
  have hF : KC 4 (FinH Try.prog Try.f130 [.row 3 1 (v_x382.map (eI .i64))] (.tup []) [.row 3 1 (r.map (eI .i64))]) := FinH.kc' (by kernel_rfl)
  unfold G_sort_Ints_h at h
  obtain ⟨v_r383, h458, h⟩ := bind_some h
  obtain rfl := Option.some.inj h
  exact pendH_sound TTok mix 1 (hs := [.h [0] [] [.row 3 1 (v_r383.map (eI .i64))] (.tup [])]) [0] (by kernel_rfl) (by kernel_rfl) (by kernel_rfl) (.cons (G_slices_Sort_int_int_h_ok n v_x382 _ h458) .nil)
inductive G_ringref3_Cut_C1_R where
  | x0 (v_w356 : (List Int)) (v_w357 : (List Int))
def G_ringref3_Cut_C1_ex : G_ringref3_Cut_C1_R → Ex
  | .x0 _ _ => .normal
def G_ringref3_Cut_C1_st (v_size329 : Int) (v_r330 : (Int)) (v_y352 : Int) (v_n328 : S_ringref3_Node) (v_x331 : Int) (v_w332 : (List Int)) (v_w333 : (List Int)) : G_ringref3_Cut_C1_R → PS
  | .x0 v_w356 v_w357 => ⟨[dd, .d (.v (.int .i64 v_size329)), .ref 0 0, dd, .ref 1 0, dd, dd, .d (.v (.int .i64 v_r330)), .srf 2, .srf 3, dd, dd, dd, dd, dd, dd, dd, dd, dd, .d (.v (.int .i64 (maxI v_r330 (v_n328.fPoints.length : Int)))), .d (.v (.int .i64 v_x331)), dd, dd, dd, dd, dd, dd, dd, dd, dd, dd, dd, dd, dd, dd, dd, dd, dd, dd, dd, dd, dd, dd, dd, dd, dd, dd, dd, dd, dd, dd, dd, dd, dd, dd, dd, dd, dd, dd, dd, dd, dd, dd, dd, dd, dd, dd, dd, dd, dd, dd, dd, dd, dd, dd], [.box [.d (.v (.int .i64 v_n328.fKind)), .d (.v (.int .i64 v_n328.fMode)), .d (.v (.int .i64 v_n328.fUser)), .d (.v (.int .i64 v_n328.fGroup)), .d (.v (.int .i64 v_n328.fSize)), .d (.v (.int .i64 v_n328.fLinks)), .d (.v (.int .i64 v_n328.fUp)), .d (.sl (v_n328.fPoints.map (eI .i64)))], .box [.d (.v (.int .i64 0)), .d (.v (.int .i64 0)), .d (.v (.int .i64 0)), .d (.v (.int .i64 0)), .d (.v (.int .i64 0)), .d (.v (.int .i64 0)), .d (.v (.int .i64 0)), .d (vnil)], .row 3 1 (v_w356.map (eI .i64)), .row 3 1 (v_w357.map (eI .i64))]⟩
def G_ringref3_Cut_C1_hd (v_size329 : Int) (v_r330 : (Int)) (v_y352 : Int) (v_n328 : S_ringref3_Node) (v_x331 : Int) (v_w332 : (List Int)) (v_w333 : (List Int))  : PS := ⟨[dd, .d (.v (.int .i64 v_size329)), .ref 0 0, dd, .ref 1 0, dd, dd, .d (.v (.int .i64 v_r330)), .srf 2, .srf 3, dd, .d (.v (.int .i64 v_y352)), dd, dd, dd, dd, dd, dd, dd, .d (.v (.int .i64 (maxI v_r330 (v_n328.fPoints.length : Int)))), .d (.v (.int .i64 v_x331)), dd, dd, dd, dd, dd, dd, dd, dd, dd, dd, dd, dd, dd, dd, .d (.v (.bool (decide (v_x331 < v_r330)))), dd, dd, dd, dd, dd, dd, dd, dd, dd, dd, dd, dd, dd, dd, dd, dd, dd, dd, dd, dd, dd, dd, dd, dd, dd, dd, dd, dd, dd, dd, dd, dd, dd, dd, dd, dd, dd, dd, dd], [.box [.d (.v (.int .i64 v_n328.fKind)), .d (.v (.int .i64 v_n328.fMode)), .d (.v (.int .i64 v_n328.fUser)), .d (.v (.int .i64 v_n328.fGroup)), .d (.v (.int .i64 v_n328.fSize)), .d (.v (.int .i64 v_n328.fLinks)), .d (.v (.int .i64 v_n328.fUp)), .d (.sl (v_n328.fPoints.map (eI .i64)))], .box [.d (.v (.int .i64 0)), .d (.v (.int .i64 0)), .d (.v (.int .i64 0)), .d (.v (.int .i64 0)), .d (.v (.int .i64 0)), .d (.v (.int .i64 0)), .d (.v (.int .i64 0)), .d (vnil)], .row 3 1 (v_w332.map (eI .i64)), .row 3 1 (v_w333.map (eI .i64))]⟩
def G_ringref3_Cut_C1 (n : Nat) (v_size329 : Int) (v_r330 : (Int)) (v_y352 : Int) (v_n328 : S_ringref3_Node) (v_x331 : Int) (v_w332 : (List Int)) (v_w333 : (List Int)) : Option G_ringref3_Cut_C1_R :=
  if v_x331 < v_r330 then
   (app 8 v_w332 ([v_y352])).bind fun (v_a355 : (List Int)) =>
   some (.x0 v_a355 v_w333)
  else
   if v_y352 > 0 then
    (app 8 v_w333 ([v_y352])).bind fun (v_a358 : (List Int)) =>
    some (.x0 v_w332 v_a358)
   else
    some (.x0 v_w332 v_w333)
theorem G_ringref3_Cut_C1_ok {Fi : Ex → PS → Prop} (hF : KC 75 Fi) (ks : List Fr) (n : Nat) (v_size329 : Int) (v_r330 : (Int)) (v_y352 : Int) (v_n328 : S_ringref3_Node) (v_x331 : Int) (v_w332 : (List Int)) (v_w333 : (List Int))  (o : G_ringref3_Cut_C1_R) (h : G_ringref3_Cut_C1 n v_size329 v_r330 v_y352 v_n328 v_x331 v_w332 v_w333 = some o) (q : RunE Try.prog 75 Fi ks (G_ringref3_Cut_C1_ex o) (G_ringref3_Cut_C1_st v_size329 v_r330 v_y352 v_n328 v_x331 v_w332 v_w333 o)) : RunE Try.prog 75 Fi (.s (cR (cR (cR (cR (cB (cL (cR (cR (cP (cB (cR (cL (cR (cR (cR (bodyOf Try.f48)))))))))))))))) :: ks) .normal (G_ringref3_Cut_C1_hd v_size329 v_r330 v_y352 v_n328 v_x331 v_w332 v_w333) := by
  unfold G_ringref3_Cut_C1 at h
  by_cases h447 : v_x331 < v_r330
  · rw [if_pos h447] at h
    obtain ⟨v_a355, h448, h⟩ := bind_some h
    cases h
    exact pkk_sound TTok mix hF 2 (hs := [.t true, .bd, .w (v_a355.map (eI .i64))]) (ts := []) (s := [0, 1, 13, 3]) (l := [1, 2, 4, 7, 8, 9, 19, 20]) (by kernel_rfl) (by kernel_rfl) (.cons (dt h447) (.cons (app_ob (f := (eI .i64)) (s := 1) h448 (fun _ => rfl)).1 (.cons (app_ob (f := (eI .i64)) (s := 1) h448 (fun _ => rfl)).2.1 (.cons (app_ob (f := (eI .i64)) (s := 1) h448 (fun _ => rfl)).2.2.1 (.cons (app_ob (f := (eI .i64)) (s := 1) h448 (fun _ => rfl)).2.2.2 .nil))))) q
  · rw [if_neg h447] at h
    by_cases h449 : v_y352 > 0
    · rw [if_pos h449] at h
      obtain ⟨v_a358, h450, h⟩ := bind_some h
      cases h
      exact pkk_sound TTok mix hF 5 (hs := [.t false, .t true, .bd, .w (v_a358.map (eI .i64))]) (ts := []) (s := [0, 1, 2, 19]) (l := [1, 2, 4, 7, 8, 9, 19, 20]) (by kernel_rfl) (by kernel_rfl) (.cons (df h447) (.cons (dt h449) (.cons (app_ob (f := (eI .i64)) (s := 1) h450 (fun _ => rfl)).1 (.cons (app_ob (f := (eI .i64)) (s := 1) h450 (fun _ => rfl)).2.1 (.cons (app_ob (f := (eI .i64)) (s := 1) h450 (fun _ => rfl)).2.2.1 (.cons (app_ob (f := (eI .i64)) (s := 1) h450 (fun _ => rfl)).2.2.2 .nil)))))) q
    · rw [if_neg h449] at h
      cases h
      exact pkk_sound TTok mix hF 5 (hs := [.t false, .t false]) (ts := []) (s := [0, 1, 2, 3]) (l := [1, 2, 4, 7, 8, 9, 19, 20]) (by kernel_rfl) (by kernel_rfl) (.cons (df h447) (.cons (df h449) .nil)) q
inductive G_ringref3_Cut_C2_R where
  | x0 (v_w366 : (List Int)) (v_w367 : (List Int))
def G_ringref3_Cut_C2_ex : G_ringref3_Cut_C2_R → Ex
  | .x0 _ _ => .normal
def G_ringref3_Cut_C2_st (v_size329 : Int) (v_r330 : (Int)) (v_n328 : S_ringref3_Node) (v_x331 : Int) (v_w332 : (List Int)) (v_w333 : (List Int)) : G_ringref3_Cut_C2_R → PS
  | .x0 v_w366 v_w367 => ⟨[dd, .d (.v (.int .i64 v_size329)), .ref 0 0, dd, .ref 1 0, dd, dd, .d (.v (.int .i64 v_r330)), .srf 2, .srf 3, dd, dd, dd, dd, dd, dd, dd, dd, dd, .d (.v (.int .i64 (maxI v_r330 (v_n328.fPoints.length : Int)))), .d (.v (.int .i64 v_x331)), dd, dd, dd, dd, dd, dd, dd, dd, dd, dd, dd, dd, dd, dd, dd, dd, dd, dd, dd, dd, dd, dd, dd, dd, dd, dd, dd, dd, dd, dd, dd, dd, dd, dd, dd, dd, dd, dd, dd, dd, dd, dd, dd, dd, dd, dd, dd, dd, dd, dd, dd, dd, dd, dd], [.box [.d (.v (.int .i64 v_n328.fKind)), .d (.v (.int .i64 v_n328.fMode)), .d (.v (.int .i64 v_n328.fUser)), .d (.v (.int .i64 v_n328.fGroup)), .d (.v (.int .i64 v_n328.fSize)), .d (.v (.int .i64 v_n328.fLinks)), .d (.v (.int .i64 v_n328.fUp)), .d (.sl (v_n328.fPoints.map (eI .i64)))], .box [.d (.v (.int .i64 0)), .d (.v (.int .i64 0)), .d (.v (.int .i64 0)), .d (.v (.int .i64 0)), .d (.v (.int .i64 0)), .d (.v (.int .i64 0)), .d (.v (.int .i64 0)), .d (vnil)], .row 3 1 (v_w366.map (eI .i64)), .row 3 1 (v_w367.map (eI .i64))]⟩
def G_ringref3_Cut_C2_hd (v_size329 : Int) (v_r330 : (Int)) (v_n328 : S_ringref3_Node) (v_x331 : Int) (v_w332 : (List Int)) (v_w333 : (List Int))  : PS := ⟨[dd, .d (.v (.int .i64 v_size329)), .ref 0 0, dd, .ref 1 0, dd, dd, .d (.v (.int .i64 v_r330)), .srf 2, .srf 3, dd, dd, dd, dd, dd, dd, dd, dd, dd, .d (.v (.int .i64 (maxI v_r330 (v_n328.fPoints.length : Int)))), .d (.v (.int .i64 v_x331)), dd, dd, dd, dd, dd, dd, dd, dd, dd, dd, dd, dd, dd, dd, dd, dd, dd, dd, dd, dd, dd, dd, dd, dd, dd, dd, dd, dd, dd, dd, dd, dd, dd, dd, dd, dd, dd, dd, dd, dd, dd, dd, dd, dd, dd, dd, dd, dd, dd, dd, dd, dd, dd, dd], [.box [.d (.v (.int .i64 v_n328.fKind)), .d (.v (.int .i64 v_n328.fMode)), .d (.v (.int .i64 v_n328.fUser)), .d (.v (.int .i64 v_n328.fGroup)), .d (.v (.int .i64 v_n328.fSize)), .d (.v (.int .i64 v_n328.fLinks)), .d (.v (.int .i64 v_n328.fUp)), .d (.sl (v_n328.fPoints.map (eI .i64)))], .box [.d (.v (.int .i64 0)), .d (.v (.int .i64 0)), .d (.v (.int .i64 0)), .d (.v (.int .i64 0)), .d (.v (.int .i64 0)), .d (.v (.int .i64 0)), .d (.v (.int .i64 0)), .d (vnil)], .row 3 1 (v_w332.map (eI .i64)), .row 3 1 (v_w333.map (eI .i64))]⟩
def G_ringref3_Cut_C2 (n : Nat) (v_size329 : Int) (v_r330 : (Int)) (v_n328 : S_ringref3_Node) (v_x331 : Int) (v_w332 : (List Int)) (v_w333 : (List Int)) : Option G_ringref3_Cut_C2_R :=
  if v_x331 < (v_n328.fPoints.length : Int) then
   (getI v_n328.fPoints v_x331).bind fun (v_y352 : Int) =>
   (G_ringref3_Cut_C1 n v_size329 v_r330 v_y352 v_n328 v_x331 v_w332 v_w333).bind fun v_o363 => match v_o363 with
   | .x0 v_z364 v_z365 =>
     some (.x0 v_z364 v_z365)
  else
   if v_x331 < v_r330 then
    (app 8 v_w332 ([0])).bind fun (v_a369 : (List Int)) =>
    some (.x0 v_a369 v_w333)
   else
    some (.x0 v_w332 v_w333)
theorem G_ringref3_Cut_C2_ok {Fi : Ex → PS → Prop} (hF : KC 75 Fi) (ks : List Fr) (n : Nat) (v_size329 : Int) (v_r330 : (Int)) (v_n328 : S_ringref3_Node) (v_x331 : Int) (v_w332 : (List Int)) (v_w333 : (List Int))  (o : G_ringref3_Cut_C2_R) (h : G_ringref3_Cut_C2 n v_size329 v_r330 v_n328 v_x331 v_w332 v_w333 = some o) (q : RunE Try.prog 75 Fi ks (G_ringref3_Cut_C2_ex o) (G_ringref3_Cut_C2_st v_size329 v_r330 v_n328 v_x331 v_w332 v_w333 o)) : RunE Try.prog 75 Fi (.s (cL (cR (cR (cP (cB (cR (cL (cR (cR (cR (bodyOf Try.f48))))))))))) :: ks) .normal (G_ringref3_Cut_C2_hd v_size329 v_r330 v_n328 v_x331 v_w332 v_w333) := by
  unfold G_ringref3_Cut_C2 at h
  by_cases h441 : v_x331 < (v_n328.fPoints.length : Int)
  · rw [if_pos h441] at h
    obtain ⟨v_y352, h442, h⟩ := bind_some h
    obtain ⟨v_o363, h451, h⟩ := bind_some h
    refine pkk_sound TTok mix hF 12 (hs := [.c, .u (.d (.v (.int .i64 (v_n328.fPoints.length : Int)))), .t true, .c, .y ((eI .i64) v_y352), .c]) (ts := []) (s := [0, 1, 2, 3]) (l := [1, 2, 4, 7, 8, 9, 11, 19, 20, 35]) (by kernel_rfl) (by kernel_rfl) (.cons (len_ob (f := (eI .i64)) (l := v_n328.fPoints)) (.cons (dt h441) (.cons (getI_ob (f := (eI .i64)) h442) .nil))) (G_ringref3_Cut_C1_ok hF (.b 1 :: ks) n v_size329 v_r330 v_y352 v_n328 v_x331 v_w332 v_w333 _ h451 ?_)
    cases v_o363 with
    | x0 v_z364 v_z365 =>
      try dsimp only at h
      cases h
      exact pkk_sound TTok mix hF 1 (hs := []) (ts := []) (s := [0, 1, 2, 3]) (l := [1, 2, 4, 7, 8, 9, 19, 20]) (by kernel_rfl) (by kernel_rfl) .nil q
  · rw [if_neg h441] at h
    by_cases h454 : v_x331 < v_r330
    · rw [if_pos h454] at h
      obtain ⟨v_a369, h455, h⟩ := bind_some h
      cases h
      exact pkk_sound TTok mix hF 15 (hs := [.c, .u (.d (.v (.int .i64 (v_n328.fPoints.length : Int)))), .t false, .t true, .bd, .w (v_a369.map (eI .i64))]) (ts := []) (s := [0, 1, 46, 3]) (l := [1, 2, 4, 7, 8, 9, 19, 20]) (by kernel_rfl) (by kernel_rfl) (.cons (len_ob (f := (eI .i64)) (l := v_n328.fPoints)) (.cons (df h441) (.cons (dt h454) (.cons (app_ob (f := (eI .i64)) (s := 1) h455 (fun _ => rfl)).1 (.cons (app_ob (f := (eI .i64)) (s := 1) h455 (fun _ => rfl)).2.1 (.cons (app_ob (f := (eI .i64)) (s := 1) h455 (fun _ => rfl)).2.2.1 (.cons (app_ob (f := (eI .i64)) (s := 1) h455 (fun _ => rfl)).2.2.2 .nil))))))) q
    · rw [if_neg h454] at h
      cases h
      exact pkk_sound TTok mix hF 18 (hs := [.c, .u (.d (.v (.int .i64 (v_n328.fPoints.length : Int)))), .t false, .t false, .c]) (ts := []) (s := [0, 1, 2, 3]) (l := [1, 2, 4, 7, 8, 9, 19, 20]) (by kernel_rfl) (by kernel_rfl) (.cons (len_ob (f := (eI .i64)) (l := v_n328.fPoints)) (.cons (df h441) (.cons (df h454) .nil))) q
inductive G_ringref3_Cut_L3_R where
  | x0 (v_w377 : (List Int)) (v_w378 : (List Int))
def G_ringref3_Cut_L3_ex : G_ringref3_Cut_L3_R → Ex
  | .x0 _ _ => .exit 0
def G_ringref3_Cut_L3_st (v_size329 : Int) (v_r330 : (Int)) (v_n328 : S_ringref3_Node) : G_ringref3_Cut_L3_R → PS
  | .x0 v_w377 v_w378 => ⟨[dd, .d (.v (.int .i64 v_size329)), .ref 0 0, dd, .ref 1 0, dd, dd, .d (.v (.int .i64 v_r330)), .srf 2, .srf 3, dd, dd, dd, dd, dd, dd, dd, dd, dd, dd, dd, dd, dd, dd, dd, dd, dd, dd, dd, dd, dd, dd, dd, dd, dd, dd, dd, dd, dd, dd, dd, dd, dd, dd, dd, dd, dd, dd, dd, dd, dd, dd, dd, dd, dd, dd, dd, dd, dd, dd, dd, dd, dd, dd, dd, dd, dd, dd, dd, dd, dd, dd, dd, dd, dd], [.box [.d (.v (.int .i64 v_n328.fKind)), .d (.v (.int .i64 v_n328.fMode)), .d (.v (.int .i64 v_n328.fUser)), .d (.v (.int .i64 v_n328.fGroup)), .d (.v (.int .i64 v_n328.fSize)), .d (.v (.int .i64 v_n328.fLinks)), .d (.v (.int .i64 v_n328.fUp)), .d (.sl (v_n328.fPoints.map (eI .i64)))], .box [.d (.v (.int .i64 0)), .d (.v (.int .i64 0)), .d (.v (.int .i64 0)), .d (.v (.int .i64 0)), .d (.v (.int .i64 0)), .d (.v (.int .i64 0)), .d (.v (.int .i64 0)), .d (vnil)], .row 3 1 (v_w377.map (eI .i64)), .row 3 1 (v_w378.map (eI .i64))]⟩
def G_ringref3_Cut_L3_hd (v_size329 : Int) (v_r330 : (Int)) (v_n328 : S_ringref3_Node) (v_x331 : Int) (v_w332 : (List Int)) (v_w333 : (List Int)) : PS := ⟨[dd, .d (.v (.int .i64 v_size329)), .ref 0 0, dd, .ref 1 0, dd, dd, .d (.v (.int .i64 v_r330)), .srf 2, .srf 3, dd, dd, dd, dd, dd, dd, dd, dd, dd, .d (.v (.int .i64 (maxI v_r330 (v_n328.fPoints.length : Int)))), .d (.v (.int .i64 v_x331)), dd, dd, dd, dd, dd, dd, dd, dd, dd, dd, dd, dd, dd, dd, dd, dd, dd, dd, dd, dd, dd, dd, dd, dd, dd, dd, dd, dd, dd, dd, dd, dd, dd, dd, dd, dd, dd, dd, dd, dd, dd, dd, dd, dd, dd, dd, dd, dd, dd, dd, dd, dd, dd, dd], [.box [.d (.v (.int .i64 v_n328.fKind)), .d (.v (.int .i64 v_n328.fMode)), .d (.v (.int .i64 v_n328.fUser)), .d (.v (.int .i64 v_n328.fGroup)), .d (.v (.int .i64 v_n328.fSize)), .d (.v (.int .i64 v_n328.fLinks)), .d (.v (.int .i64 v_n328.fUp)), .d (.sl (v_n328.fPoints.map (eI .i64)))], .box [.d (.v (.int .i64 0)), .d (.v (.int .i64 0)), .d (.v (.int .i64 0)), .d (.v (.int .i64 0)), .d (.v (.int .i64 0)), .d (.v (.int .i64 0)), .d (.v (.int .i64 0)), .d (vnil)], .row 3 1 (v_w332.map (eI .i64)), .row 3 1 (v_w333.map (eI .i64))]⟩
def G_ringref3_Cut_L3 (n : Nat) (v_size329 : Int) (v_r330 : (Int)) (v_n328 : S_ringref3_Node) : Nat → Int → (List Int) → (List Int) → Option G_ringref3_Cut_L3_R
  | 0, _, _, _ => none
  | k + 1, v_x331, v_w332, v_w333 =>
    if v_x331 < (maxI v_r330 (v_n328.fPoints.length : Int)) then
     (G_ringref3_Cut_C2 n v_size329 v_r330 v_n328 v_x331 v_w332 v_w333).bind fun v_o374 => match v_o374 with
     | .x0 v_z375 v_z376 =>
       G_ringref3_Cut_L3 n v_size329 v_r330 v_n328 k (wi .i64 (v_x331 + 1)) v_z375 v_z376
    else
     some (.x0 v_w332 v_w333)
theorem G_ringref3_Cut_L3_ok {Fi : Ex → PS → Prop} (hF : KC 75 Fi) (ks : List Fr) (n : Nat) (v_size329 : Int) (v_r330 : (Int)) (v_n328 : S_ringref3_Node)  : ∀ (k : Nat) (v_x331 : Int) (v_w332 : (List Int)) (v_w333 : (List Int)) (o : G_ringref3_Cut_L3_R), G_ringref3_Cut_L3 n v_size329 v_r330 v_n328 k v_x331 v_w332 v_w333 = some o → RunE Try.prog 75 Fi ks (G_ringref3_Cut_L3_ex o) (G_ringref3_Cut_L3_st v_size329 v_r330 v_n328 o) → RunE Try.prog 75 Fi (.l k (cP (cB (cR (cL (cR (cR (cR (bodyOf Try.f48)))))))) :: ks) .normal (G_ringref3_Cut_L3_hd v_size329 v_r330 v_n328 v_x331 v_w332 v_w333)
  | 0, v_x331, v_w332, v_w333, o, h, q => by rw [G_ringref3_Cut_L3] at h; cases h
  | k + 1, v_x331, v_w332, v_w333, o, h, q => by
    rw [G_ringref3_Cut_L3] at h
    by_cases h421 : v_x331 < (maxI v_r330 (v_n328.fPoints.length : Int))
    · rw [if_pos h421] at h
      obtain ⟨v_o374, h456, h⟩ := bind_some h
      refine pkk_sound TTok mix hF 7 (hs := [.t true]) (ts := []) (s := [0, 1, 2, 3]) (l := [1, 2, 4, 7, 8, 9, 19, 20]) (by kernel_rfl) (by kernel_rfl) (.cons (dt h421) .nil) (G_ringref3_Cut_C2_ok hF (.s (cR (cR (cR (cP (cB (cR (cL (cR (cR (cR (bodyOf Try.f48))))))))))) :: .l k (cP (cB (cR (cL (cR (cR (cR (bodyOf Try.f48)))))))) :: ks) n v_size329 v_r330 v_n328 v_x331 v_w332 v_w333 _ h456 ?_)
      cases v_o374 with
      | x0 v_z375 v_z376 =>
        try dsimp only at h
        exact pkk_sound TTok mix hF 1 (hs := []) (ts := []) (s := [0, 1, 2, 3]) (l := [1, 2, 4, 7, 8, 9, 19, 20]) (by kernel_rfl) (by kernel_rfl) .nil (G_ringref3_Cut_L3_ok hF ks n v_size329 v_r330 v_n328 k (wi .i64 (v_x331 + 1)) v_z375 v_z376 _ h q)
    · rw [if_neg h421] at h
      cases h
      exact pkk_sound TTok mix hF 8 (hs := [.t false]) (ts := []) (s := [0, 1, 2, 3]) (l := [1, 2, 4, 7, 8, 9]) (by kernel_rfl) (by kernel_rfl) (.cons (df h421) .nil) q
inductive G_ringref3_Cut_C4_R where
  | x0 (v_x387 : Bool) (v_w388 : (List Int)) (v_w389 : (List Int))
def G_ringref3_Cut_C4_ex : G_ringref3_Cut_C4_R → Ex
  | .x0 _ _ _ => .normal
def G_ringref3_Cut_C4_st (v_size329 : Int) (v_r330 : (Int)) (v_n328 : S_ringref3_Node) (v_z380 : (List Int)) (v_r384 : ((List Int))) : G_ringref3_Cut_C4_R → PS
  | .x0 v_x387 v_w388 v_w389 => ⟨[dd, .d (.v (.int .i64 v_size329)), .ref 0 0, dd, .ref 1 0, dd, dd, dd, .srf 2, .srf 3, dd, dd, .d (.v (.int .i64 0)), dd, dd, dd, dd, dd, dd, dd, dd, dd, dd, dd, dd, dd, dd, dd, dd, dd, dd, dd, dd, dd, dd, dd, dd, dd, dd, dd, dd, dd, dd, dd, dd, dd, dd, dd, dd, dd, dd, dd, dd, dd, dd, dd, dd, dd, dd, dd, dd, dd, dd, dd, dd, .d (.v (.bool v_x387)), dd, dd, dd, dd, dd, dd, dd, dd, dd], [.box [.d (.v (.int .i64 v_n328.fKind)), .d (.v (.int .i64 v_n328.fMode)), .d (.v (.int .i64 v_n328.fUser)), .d (.v (.int .i64 v_n328.fGroup)), .d (.v (.int .i64 v_n328.fSize)), .d (.v (.int .i64 v_n328.fLinks)), .d (.v (.int .i64 v_n328.fUp)), .d (.sl (v_n328.fPoints.map (eI .i64)))], .box [.d (.v (.int .i64 0)), .d (.v (.int .i64 0)), .d (.v (.int .i64 0)), .d (.v (.int .i64 0)), .d (.v (.int .i64 0)), .d (.v (.int .i64 0)), .d (.v (.int .i64 0)), .d (vnil)], .row 3 1 (v_w388.map (eI .i64)), .row 3 1 (v_w389.map (eI .i64))]⟩
def G_ringref3_Cut_C4_hd (v_size329 : Int) (v_r330 : (Int)) (v_n328 : S_ringref3_Node) (v_z380 : (List Int)) (v_r384 : ((List Int)))  : PS := ⟨[dd, .d (.v (.int .i64 v_size329)), .ref 0 0, dd, .ref 1 0, dd, dd, .d (.v (.int .i64 v_r330)), .srf 2, .srf 3, dd, dd, .d (.v (.int .i64 0)), dd, dd, dd, dd, dd, dd, dd, dd, dd, dd, dd, dd, dd, dd, dd, dd, dd, dd, dd, dd, dd, dd, dd, dd, dd, dd, dd, dd, dd, dd, dd, dd, dd, dd, dd, dd, dd, dd, dd, dd, dd, dd, dd, dd, dd, dd, dd, dd, dd, dd, dd, dd, dd, dd, dd, dd, dd, dd, dd, dd, dd, dd], [.box [.d (.v (.int .i64 v_n328.fKind)), .d (.v (.int .i64 v_n328.fMode)), .d (.v (.int .i64 v_n328.fUser)), .d (.v (.int .i64 v_n328.fGroup)), .d (.v (.int .i64 v_n328.fSize)), .d (.v (.int .i64 v_n328.fLinks)), .d (.v (.int .i64 v_n328.fUp)), .d (.sl (v_n328.fPoints.map (eI .i64)))], .box [.d (.v (.int .i64 0)), .d (.v (.int .i64 0)), .d (.v (.int .i64 0)), .d (.v (.int .i64 0)), .d (.v (.int .i64 0)), .d (.v (.int .i64 0)), .d (.v (.int .i64 0)), .d (vnil)], .row 3 1 (v_z380.map (eI .i64)), .row 3 1 (v_r384.map (eI .i64))]⟩
def G_ringref3_Cut_C4 (n : Nat) (v_size329 : Int) (v_r330 : (Int)) (v_n328 : S_ringref3_Node) (v_z380 : (List Int)) (v_r384 : ((List Int))) : Option G_ringref3_Cut_C4_R :=
  if v_size329 < v_n328.fSize then
   if (remI v_size329 64) > 0 then
    if 0 ≤ (wi .i64 (v_r330 - 1)) ∧ ((wi .i64 (v_r330 - 1))).toNat < v_z380.length then
     (v_z380[((wi .i64 (v_r330 - 1))).toNat]?).bind fun (v_y386 : Int) =>
     some (.x0 (decide (v_y386 > 0)) v_z380 v_r384)
    else none
   else
    some (.x0 false v_z380 v_r384)
  else
   some (.x0 false v_z380 v_r384)
theorem G_ringref3_Cut_C4_ok {Fi : Ex → PS → Prop} (hF : KC 75 Fi) (ks : List Fr) (n : Nat) (v_size329 : Int) (v_r330 : (Int)) (v_n328 : S_ringref3_Node) (v_z380 : (List Int)) (v_r384 : ((List Int)))  (o : G_ringref3_Cut_C4_R) (h : G_ringref3_Cut_C4 n v_size329 v_r330 v_n328 v_z380 v_r384 = some o) (q : RunE Try.prog 75 Fi ks (G_ringref3_Cut_C4_ex o) (G_ringref3_Cut_C4_st v_size329 v_r330 v_n328 v_z380 v_r384 o)) : RunE Try.prog 75 Fi (.s (cL (cL (cR (cR (cR (cR (cR (cR (bodyOf Try.f48))))))))) :: ks) .normal (G_ringref3_Cut_C4_hd v_size329 v_r330 v_n328 v_z380 v_r384) := by
  unfold G_ringref3_Cut_C4 at h
  by_cases h465 : v_size329 < v_n328.fSize
  · rw [if_pos h465] at h
    by_cases h467 : (remI v_size329 64) > 0
    · rw [if_pos h467] at h
      by_cases h468 : 0 ≤ (wi .i64 (v_r330 - 1)) ∧ ((wi .i64 (v_r330 - 1))).toNat < v_z380.length
      · rw [if_pos h468] at h
        obtain ⟨v_y386, h469, h⟩ := bind_some h
        cases h
        exact pkk_sound TTok mix hF 1 (hs := [.c, .t true, .c, .c, .t true, .c, .c, .c, .c, .y ((eI .i64) v_y386), .c]) (ts := []) (s := [0, 1, 2, 3]) (l := [1, 2, 4, 8, 9, 12, 65]) (by kernel_rfl) (by kernel_rfl) (.cons (dt h465) (.cons (show (64 : Int) ≠ 0 by decide) (.cons (dt h467) (.cons (idx_ob (f := (eI .i64)) h468) (.cons (get_ob (f := (eI .i64)) h469) .nil))))) q
      · rw [if_neg h468] at h; cases h
    · rw [if_neg h467] at h
      cases h
      exact pkk_sound TTok mix hF 1 (hs := [.c, .t true, .c, .c, .t false, .c, .c, .c, .c, .c]) (ts := []) (s := [0, 1, 2, 3]) (l := [1, 2, 4, 8, 9, 12, 65]) (by kernel_rfl) (by kernel_rfl) (.cons (dt h465) (.cons (show (64 : Int) ≠ 0 by decide) (.cons (df h467) .nil))) q
  · rw [if_neg h465] at h
    cases h
    exact pkk_sound TTok mix hF 1 (hs := [.c, .t false, .c, .c, .c, .c, .c, .c, .c, .c]) (ts := []) (s := [0, 1, 2, 3]) (l := [1, 2, 4, 8, 9, 12, 65]) (by kernel_rfl) (by kernel_rfl) (.cons (df h465) .nil) q
/- ringhall/ringref3.Cut -/
def G_ringref3_Cut (n : Nat) (v_n328 : S_ringref3_Node) (v_size329 : Int) : Option (S_ringref3_Node × (List Int) × Int) :=
  (G_ringref3_Blocks n v_size329).bind fun (v_r330 : (Int)) =>
  (G_ringref3_Cut_L3 n v_size329 v_r330 v_n328 n 0 ([] : List Int) ([] : List Int)).bind fun v_o379 => match v_o379 with
  | .x0 v_z380 v_z381 =>
    (G_sort_Ints_h n v_z381).bind fun (v_r384 : ((List Int))) =>
    (G_ringref3_Cut_C4 n v_size329 v_r330 v_n328 v_z380 v_r384).bind fun v_o396 => match v_o396 with
    | .x0 v_z397 v_z398 v_z399 =>
      if v_z397 = true then
       some ((S_ringref3_Node.mk v_n328.fKind v_n328.fMode v_n328.fUser v_n328.fGroup v_size329 v_n328.fLinks v_n328.fUp v_z398), v_z399, (remI v_size329 64))
      else
       some ((S_ringref3_Node.mk v_n328.fKind v_n328.fMode v_n328.fUser v_n328.fGroup v_size329 v_n328.fLinks v_n328.fUp v_z398), v_z399, 0)
theorem G_ringref3_Cut_ok (n : Nat) (v_n328 : S_ringref3_Node) (v_size329 : Int) (r : S_ringref3_Node × (List Int) × Int) (h : G_ringref3_Cut n v_n328 v_size329 = some r) : Ret Try.prog 48 [eS_ringref3_Node v_n328, (eI .i64) v_size329] (.tup [eS_ringref3_Node r.1, (eL (eI .i64)) r.2.1, (eI .i64) r.2.2]) := by
  refine ret_run (n := 75) (fn := Try.f48) (c := bodyOf Try.f48) (by kernel_rfl) (by kernel_rfl) (by kernel_rfl) (by kernel_rfl) ?_
  have hF : KC 75 (FinR Try.prog Try.f48 (.tup [eS_ringref3_Node r.1, (eL (eI .i64)) r.2.1, (eI .i64) r.2.2])) := FinR.kc' (by kernel_rfl)
  unfold G_ringref3_Cut at h
  obtain ⟨v_r330, h420, h⟩ := bind_some h
  obtain ⟨v_o379, h457, h⟩ := bind_some h
  refine pkk_sound TTok mix hF 11 (hs := [.r ((eI .i64) v_r330), .c, .u (.d (.v (.int .i64 (v_n328.fPoints.length : Int)))), .n n]) (ts := [(8, 3, 1), (9, 3, 1)]) (s := [0, 3, 45, 46]) (l := [1, 2, 4, 7, 8, 9, 19, 20]) (by kernel_rfl) (by kernel_rfl) (.cons (G_ringref3_Blocks_ok n v_size329 _ h420) (.cons (len_ob (f := (eI .i64)) (l := v_n328.fPoints)) .nil)) (G_ringref3_Cut_L3_ok hF (.b 0 :: .s (cR (cR (cR (cR (bodyOf Try.f48))))) :: []) n v_size329 v_r330 v_n328 n 0 ([] : List Int) ([] : List Int) _ h457 ?_)
  cases v_o379 with
  | x0 v_z380 v_z381 =>
    try dsimp only at h
    obtain ⟨v_r384, h459, h⟩ := bind_some h
    obtain ⟨v_o396, h470, h⟩ := bind_some h
    refine pkk_sound TTok mix hF 7 (hs := [.h [3] [] [.row 3 1 (v_r384.map (eI .i64))] (.tup [])]) (ts := []) (s := [0, 1, 2, 3]) (l := [1, 2, 4, 7, 8, 9, 12]) (by kernel_rfl) (by kernel_rfl) (.cons (G_sort_Ints_h_ok n v_z381 _ h459) .nil) (G_ringref3_Cut_C4_ok hF (.s (cR (cL (cR (cR (cR (cR (cR (cR (bodyOf Try.f48))))))))) :: .s (cR (cR (cR (cR (cR (cR (cR (bodyOf Try.f48)))))))) :: []) n v_size329 v_r330 v_n328 v_z380 v_r384 _ h470 ?_)
    cases v_o396 with
    | x0 v_z397 v_z398 v_z399 =>
      try dsimp only at h
      by_cases h473 : v_z397 = true
      · rw [if_pos h473] at h
        obtain rfl := Option.some.inj h
        exact pend_sound TTok mix 7 (hs := [.t true, .c, .c, .c, .c]) (by kernel_rfl) (by kernel_rfl) (by kernel_rfl) (.cons h473 (.cons (show (64 : Int) ≠ 0 by decide) (.cons (show 4 + 1 ≤ 8 by decide) (.cons (show 7 + 1 ≤ 8 by decide) (.cons (show 0 + 8 ≤ 8 by decide) .nil)))))
      · rw [if_neg h473] at h
        obtain rfl := Option.some.inj h
        exact pend_sound TTok mix 7 (hs := [.t false, .c, .c, .c, .c]) (by kernel_rfl) (by kernel_rfl) (by kernel_rfl) (.cons (vf h473) (.cons (show 4 + 1 ≤ 8 by decide) (.cons (show 7 + 1 ≤ 8 by decide) (.cons (show 0 + 8 ≤ 8 by decide) .nil))))
inductive G_slices_Index_int_int_L1_R where
  | x0 (v_x442 : Int)
  | x1 
def G_slices_Index_int_int_L1_ex : G_slices_Index_int_int_L1_R → Ex
  | .x0 _ => .ret
  | .x1  => .exit 0
def G_slices_Index_int_int_L1_st (v_s437 : (List Int)) (v_v438 : Int) : G_slices_Index_int_int_L1_R → PS
  | .x0 v_x442 => ⟨[dd, dd, dd, dd, .d (.v (.int .i64 v_x442)), dd, dd, dd, dd, dd, dd, dd, dd, dd, dd, dd, dd, dd, dd], []⟩
  | .x1  => ⟨[dd, dd, dd, dd, dd, dd, dd, dd, dd, dd, dd, dd, dd, dd, dd, dd, dd, dd, dd], []⟩
def G_slices_Index_int_int_L1_hd (v_s437 : (List Int)) (v_v438 : Int) (v_x439 : Int) : PS := ⟨[.d (.sl (v_s437.map (eI .i64))), .d (.v (.int .i64 v_v438)), dd, dd, dd, dd, dd, .d (.v (.int .i64 (v_s437.length : Int))), .d (.v (.int .i64 v_x439)), dd, dd, dd, dd, dd, dd, dd, dd, dd, dd], []⟩
def G_slices_Index_int_int_L1 (n : Nat) (v_s437 : (List Int)) (v_v438 : Int) : Nat → Int → Option G_slices_Index_int_int_L1_R
  | 0, _ => none
  | k + 1, v_x439 =>
    if v_x439 < (v_s437.length : Int) then
     (getI v_s437 v_x439).bind fun (v_y441 : Int) =>
     if v_v438 = v_y441 then
      some (.x0 v_x439)
     else
      G_slices_Index_int_int_L1 n v_s437 v_v438 k (wi .i64 (v_x439 + 1))
    else
     some (.x1 )
theorem G_slices_Index_int_int_L1_ok {Fi : Ex → PS → Prop} (hF : KC 19 Fi) (ks : List Fr) (n : Nat) (v_s437 : (List Int)) (v_v438 : Int)  : ∀ (k : Nat) (v_x439 : Int) (o : G_slices_Index_int_int_L1_R), G_slices_Index_int_int_L1 n v_s437 v_v438 k v_x439 = some o → RunE Try.prog 19 Fi ks (G_slices_Index_int_int_L1_ex o) (G_slices_Index_int_int_L1_st v_s437 v_v438 o) → RunE Try.prog 19 Fi (.l k (cP (cB (cR (cL (cR (bodyOf Try.f119)))))) :: ks) .normal (G_slices_Index_int_int_L1_hd v_s437 v_v438 v_x439)
  | 0, v_x439, o, h, q => by rw [G_slices_Index_int_int_L1] at h; cases h
  | k + 1, v_x439, o, h, q => by
    rw [G_slices_Index_int_int_L1] at h
    by_cases h512 : v_x439 < (v_s437.length : Int)
    · rw [if_pos h512] at h
      obtain ⟨v_y441, h515, h⟩ := bind_some h
      by_cases h516 : v_v438 = v_y441
      · rw [if_pos h516] at h
        cases h
        exact pkk_sound TTok mix hF 19 (hs := [.t true, .y ((eI .i64) v_y441), .c, .t true]) (ts := []) (s := []) (l := [4]) (by kernel_rfl) (by kernel_rfl) (.cons (dt h512) (.cons (getI_ob (f := (eI .i64)) h515) (.cons (bt h516) .nil))) q
      · rw [if_neg h516] at h
        exact pkk_sound TTok mix hF 16 (hs := [.t true, .y ((eI .i64) v_y441), .c, .t false]) (ts := []) (s := []) (l := [0, 1, 7, 8]) (by kernel_rfl) (by kernel_rfl) (.cons (dt h512) (.cons (getI_ob (f := (eI .i64)) h515) (.cons (bf h516) .nil))) (G_slices_Index_int_int_L1_ok hF ks n v_s437 v_v438 k (wi .i64 (v_x439 + 1)) _ h q)
    · rw [if_neg h512] at h
      cases h
      exact pkk_sound TTok mix hF 8 (hs := [.t false]) (ts := []) (s := []) (l := []) (by kernel_rfl) (by kernel_rfl) (.cons (df h512) .nil) q
/- slices.Index[[]int,int] -/
def G_slices_Index_int_int (n : Nat) (v_s437 : (List Int)) (v_v438 : Int) : Option (Int) :=
  (G_slices_Index_int_int_L1 n v_s437 v_v438 n 0).bind fun v_o443 => match v_o443 with
  | .x0 v_z444 =>
    some v_z444
  | .x1  =>
    some (-1)
theorem G_slices_Index_int_int_ok (n : Nat) (v_s437 : (List Int)) (v_v438 : Int) (r : Int) (h : G_slices_Index_int_int n v_s437 v_v438 = some r) : Ret Try.prog 119 [(eL (eI .i64)) v_s437, (eI .i64) v_v438] ((eI .i64) r) := by
  refine ret_run (n := 19) (fn := Try.f119) (c := bodyOf Try.f119) (by kernel_rfl) (by kernel_rfl) (by kernel_rfl) (by kernel_rfl) ?_
  have hF : KC 19 (FinR Try.prog Try.f119 ((eI .i64) r)) := FinR.kc' (by kernel_rfl)
  unfold G_slices_Index_int_int at h
  obtain ⟨v_o443, h517, h⟩ := bind_some h
  refine pkk_sound TTok mix hF 7 (hs := [.u (.d (.v (.int .i64 (v_s437.length : Int)))), .n n]) (ts := []) (s := []) (l := [0, 1, 7, 8]) (by kernel_rfl) (by kernel_rfl) (.cons (len_ob (f := (eI .i64)) (l := v_s437)) .nil) (G_slices_Index_int_int_L1_ok hF (.b 0 :: .s (cR (cR (bodyOf Try.f119))) :: []) n v_s437 v_v438 n 0 _ h517 ?_)
  cases v_o443 with
  | x0 v_z444 =>
    try dsimp only at h
    obtain rfl := Option.some.inj h
    exact pend_sound TTok mix 2 (hs := []) (by kernel_rfl) (by kernel_rfl) (by kernel_rfl) .nil
  | x1  =>
    try dsimp only at h
    obtain rfl := Option.some.inj h
    exact pend_sound TTok mix 4 (hs := []) (by kernel_rfl) (by kernel_rfl) (by kernel_rfl) .nil
/- slices.Contains[[]int,int] -/
def G_slices_Contains_int_int (n : Nat) (v_s435 : (List Int)) (v_v436 : Int) : Option (Bool) :=
  (G_slices_Index_int_int n v_s435 v_v436).bind fun (v_r445 : (Int)) =>
  some (decide (v_r445 ≥ 0))
theorem G_slices_Contains_int_int_ok (n : Nat) (v_s435 : (List Int)) (v_v436 : Int) (r : Bool) (h : G_slices_Contains_int_int n v_s435 v_v436 = some r) : Ret Try.prog 21 [(eL (eI .i64)) v_s435, (eI .i64) v_v436] (eB r) := by
  refine ret_run (n := 9) (fn := Try.f21) (c := bodyOf Try.f21) (by kernel_rfl) (by kernel_rfl) (by kernel_rfl) (by kernel_rfl) ?_
  have hF : KC 9 (FinR Try.prog Try.f21 (eB r)) := FinR.kc' (by kernel_rfl)
  unfold G_slices_Contains_int_int at h
  obtain ⟨v_r445, h518, h⟩ := bind_some h
  obtain rfl := Option.some.inj h
  exact pend_sound TTok mix 5 (hs := [.r ((eI .i64) v_r445)]) (by kernel_rfl) (by kernel_rfl) (by kernel_rfl) (.cons (G_slices_Index_int_int_ok n v_s435 v_v436 _ h518) .nil)
inductive G_orphan_Lost_C1_R where
  | x0 (v_x525 : Bool) (v_w526 : (List Int))
def G_orphan_Lost_C1_ex : G_orphan_Lost_C1_R → Ex
  | .x0 _ _ => .normal
def G_orphan_Lost_C1_st (v_held505 : (List Int)) (v_x506 : Int) (v_l504 : (List S_inode_Node)) (v_w507 : (List Int)) (v_y522 : S_inode_Node) : G_orphan_Lost_C1_R → PS
  | .x0 v_x525 v_w526 => ⟨[dd, .d (.sl (v_held505.map (eI .i64))), dd, dd, dd, .srf 0, .d (.v (.int .i64 v_x506)), dd, .d (.sl (v_l504.map eS_inode_Node)), .d (.v (.int .i64 (v_l504.length : Int))), .d (.v (.int .i64 v_x506)), dd, dd, dd, dd, dd, dd, dd, dd, dd, dd, dd, dd, dd, dd, dd, dd, dd, dd, .d (.v (.bool v_x525)), dd, dd, dd, dd, dd, dd, dd], [.row 3 1 (v_w526.map (eI .i64))]⟩
def G_orphan_Lost_C1_hd (v_held505 : (List Int)) (v_x506 : Int) (v_l504 : (List S_inode_Node)) (v_w507 : (List Int)) (v_y522 : S_inode_Node)  : PS := ⟨[dd, .d (.sl (v_held505.map (eI .i64))), dd, dd, dd, .srf 0, .d (.v (.int .i64 v_x506)), .ref 1 0, .d (.sl (v_l504.map eS_inode_Node)), .d (.v (.int .i64 (v_l504.length : Int))), .d (.v (.int .i64 v_x506)), dd, dd, dd, dd, dd, dd, dd, dd, dd, dd, dd, dd, dd, dd, dd, dd, dd, dd, dd, dd, dd, dd, dd, dd, dd, dd], [.row 3 1 (v_w507.map (eI .i64)), .box [.d (.v (.int .i64 v_y522.fKind)), .d (.v (.int .i64 v_y522.fMode)), .d (.v (.int .i64 v_y522.fUser)), .d (.v (.int .i64 v_y522.fGroup)), .d (.v (.int .i64 v_y522.fSize)), .d (.v (.int .i64 v_y522.fLinks)), .d (.v (.int .i64 v_y522.fUp)), .d (.sl (v_y522.fPoints.map (eI .i64)))]]⟩
def G_orphan_Lost_C1 (n : Nat) (v_held505 : (List Int)) (v_x506 : Int) (v_l504 : (List S_inode_Node)) (v_w507 : (List Int)) (v_y522 : S_inode_Node) : Option G_orphan_Lost_C1_R :=
  if v_y522.fKind = 0 then
   some (.x0 false v_w507)
  else
   if v_y522.fLinks = 0 then
    (G_slices_Contains_int_int n v_held505 (wi .i64 (v_x506 + 1))).bind fun (v_r524 : (Bool)) =>
    some (.x0 (!v_r524) v_w507)
   else
    some (.x0 false v_w507)
theorem G_orphan_Lost_C1_ok {Fi : Ex → PS → Prop} (hF : KC 37 Fi) (ks : List Fr) (n : Nat) (v_held505 : (List Int)) (v_x506 : Int) (v_l504 : (List S_inode_Node)) (v_w507 : (List Int)) (v_y522 : S_inode_Node)  (o : G_orphan_Lost_C1_R) (h : G_orphan_Lost_C1 n v_held505 v_x506 v_l504 v_w507 v_y522 = some o) (q : RunE Try.prog 37 Fi ks (G_orphan_Lost_C1_ex o) (G_orphan_Lost_C1_st v_held505 v_x506 v_l504 v_w507 v_y522 o)) : RunE Try.prog 37 Fi (.s (cL (cR (cB (cL (cR (cR (cP (cB (cR (cL (cR (cR (bodyOf Try.f49))))))))))))) :: ks) .normal (G_orphan_Lost_C1_hd v_held505 v_x506 v_l504 v_w507 v_y522) := by
  unfold G_orphan_Lost_C1 at h
  by_cases h588 : v_y522.fKind = 0
  · rw [if_pos h588] at h
    cases h
    exact pkk_sound TTok mix hF 1 (hs := [.c, .t false, .c, .c, .c, .c, .c, .c, .c]) (ts := []) (s := [0]) (l := [1, 5, 6, 8, 9, 10, 29]) (by kernel_rfl) (by kernel_rfl) (.cons (nf h588) .nil) q
  · rw [if_neg h588] at h
    by_cases h589 : v_y522.fLinks = 0
    · rw [if_pos h589] at h
      obtain ⟨v_r524, h590, h⟩ := bind_some h
      cases h
      exact pkk_sound TTok mix hF 1 (hs := [.c, .t true, .c, .c, .c, .t true, .c, .c, .c, .r (eB v_r524), .c]) (ts := []) (s := [0]) (l := [1, 5, 6, 8, 9, 10, 29]) (by kernel_rfl) (by kernel_rfl) (.cons (nt h588) (.cons (bt h589) (.cons (G_slices_Contains_int_int_ok n v_held505 (wi .i64 (v_x506 + 1)) _ h590) .nil))) q
    · rw [if_neg h589] at h
      cases h
      exact pkk_sound TTok mix hF 1 (hs := [.c, .t true, .c, .c, .c, .t false, .c, .c, .c, .c]) (ts := []) (s := [0]) (l := [1, 5, 6, 8, 9, 10, 29]) (by kernel_rfl) (by kernel_rfl) (.cons (nt h588) (.cons (bf h589) .nil)) q
inductive G_orphan_Lost_L2_R where
  | x0 (v_w536 : (List Int))
def G_orphan_Lost_L2_ex : G_orphan_Lost_L2_R → Ex
  | .x0 _ => .exit 0
def G_orphan_Lost_L2_st (v_held505 : (List Int)) (v_l504 : (List S_inode_Node)) : G_orphan_Lost_L2_R → PS
  | .x0 v_w536 => ⟨[dd, dd, dd, dd, dd, .srf 0, dd, dd, dd, dd, dd, dd, dd, dd, dd, dd, dd, dd, dd, dd, dd, dd, dd, dd, dd, dd, dd, dd, dd, dd, dd, dd, dd, dd, dd, dd, dd], [.row 3 1 (v_w536.map (eI .i64))]⟩
def G_orphan_Lost_L2_hd (v_held505 : (List Int)) (v_l504 : (List S_inode_Node)) (v_x506 : Int) (v_w507 : (List Int)) : PS := ⟨[dd, .d (.sl (v_held505.map (eI .i64))), dd, dd, dd, .srf 0, dd, dd, .d (.sl (v_l504.map eS_inode_Node)), .d (.v (.int .i64 (v_l504.length : Int))), .d (.v (.int .i64 v_x506)), dd, dd, dd, dd, dd, dd, dd, dd, dd, dd, dd, dd, dd, dd, dd, dd, dd, dd, dd, dd, dd, dd, dd, dd, dd, dd], [.row 3 1 (v_w507.map (eI .i64))]⟩
def G_orphan_Lost_L2 (n : Nat) (v_held505 : (List Int)) (v_l504 : (List S_inode_Node)) : Nat → Int → (List Int) → Option G_orphan_Lost_L2_R
  | 0, _, _ => none
  | k + 1, v_x506, v_w507 =>
    if v_x506 < (v_l504.length : Int) then
     (getI v_l504 v_x506).bind fun (v_y522 : S_inode_Node) =>
     (G_orphan_Lost_C1 n v_held505 v_x506 v_l504 v_w507 v_y522).bind fun v_o531 => match v_o531 with
     | .x0 v_z532 v_z533 =>
       if v_z532 = true then
        (app 8 v_z533 ([(wi .i64 (v_x506 + 1))])).bind fun (v_a535 : (List Int)) =>
        G_orphan_Lost_L2 n v_held505 v_l504 k (wi .i64 (v_x506 + 1)) v_a535
       else
        G_orphan_Lost_L2 n v_held505 v_l504 k (wi .i64 (v_x506 + 1)) v_z533
    else
     some (.x0 v_w507)
theorem G_orphan_Lost_L2_ok {Fi : Ex → PS → Prop} (hF : KC 37 Fi) (ks : List Fr) (n : Nat) (v_held505 : (List Int)) (v_l504 : (List S_inode_Node))  : ∀ (k : Nat) (v_x506 : Int) (v_w507 : (List Int)) (o : G_orphan_Lost_L2_R), G_orphan_Lost_L2 n v_held505 v_l504 k v_x506 v_w507 = some o → RunE Try.prog 37 Fi ks (G_orphan_Lost_L2_ex o) (G_orphan_Lost_L2_st v_held505 v_l504 o) → RunE Try.prog 37 Fi (.l k (cP (cB (cR (cL (cR (cR (bodyOf Try.f49))))))) :: ks) .normal (G_orphan_Lost_L2_hd v_held505 v_l504 v_x506 v_w507)
  | 0, v_x506, v_w507, o, h, q => by rw [G_orphan_Lost_L2] at h; cases h
  | k + 1, v_x506, v_w507, o, h, q => by
    rw [G_orphan_Lost_L2] at h
    by_cases h571 : v_x506 < (v_l504.length : Int)
    · rw [if_pos h571] at h
      obtain ⟨v_y522, h584, h⟩ := bind_some h
      obtain ⟨v_o531, h591, h⟩ := bind_some h
      refine pkk_sound TTok mix hF 11 (hs := [.t true, .y (eS_inode_Node v_y522), .c]) (ts := []) (s := [0, 13]) (l := [1, 5, 6, 7, 8, 9, 10]) (by kernel_rfl) (by kernel_rfl) (.cons (dt h571) (.cons (getI_ob (f := eS_inode_Node) h584) (.cons (show 0 + 8 ≤ 8 by decide) .nil))) (G_orphan_Lost_C1_ok hF (.s (cR (cR (cB (cL (cR (cR (cP (cB (cR (cL (cR (cR (bodyOf Try.f49))))))))))))) :: .b 1 :: .s (cR (cR (cR (cP (cB (cR (cL (cR (cR (bodyOf Try.f49)))))))))) :: .l k (cP (cB (cR (cL (cR (cR (bodyOf Try.f49))))))) :: ks) n v_held505 v_x506 v_l504 v_w507 v_y522 _ h591 ?_)
      cases v_o531 with
      | x0 v_z532 v_z533 =>
        try dsimp only at h
        by_cases h594 : v_z532 = true
        · rw [if_pos h594] at h
          obtain ⟨v_a535, h595, h⟩ := bind_some h
          exact pkk_sound TTok mix hF 4 (hs := [.t true, .bd, .w (v_a535.map (eI .i64))]) (ts := []) (s := [13]) (l := [1, 5, 8, 9, 10]) (by kernel_rfl) (by kernel_rfl) (.cons h594 (.cons (app_ob (f := (eI .i64)) (s := 1) h595 (fun _ => rfl)).1 (.cons (app_ob (f := (eI .i64)) (s := 1) h595 (fun _ => rfl)).2.1 (.cons (app_ob (f := (eI .i64)) (s := 1) h595 (fun _ => rfl)).2.2.1 (.cons (app_ob (f := (eI .i64)) (s := 1) h595 (fun _ => rfl)).2.2.2 .nil))))) (G_orphan_Lost_L2_ok hF ks n v_held505 v_l504 k (wi .i64 (v_x506 + 1)) v_a535 _ h q)
        · rw [if_neg h594] at h
          exact pkk_sound TTok mix hF 4 (hs := [.t false]) (ts := []) (s := [0]) (l := [1, 5, 8, 9, 10]) (by kernel_rfl) (by kernel_rfl) (.cons (vf h594) .nil) (G_orphan_Lost_L2_ok hF ks n v_held505 v_l504 k (wi .i64 (v_x506 + 1)) v_z533 _ h q)
    · rw [if_neg h571] at h
      cases h
      exact pkk_sound TTok mix hF 8 (hs := [.t false]) (ts := []) (s := [0]) (l := [5]) (by kernel_rfl) (by kernel_rfl) (.cons (df h571) .nil) q
/- ringhall/orphan.Lost -/
def G_orphan_Lost (n : Nat) (v_l504 : (List S_inode_Node)) (v_held505 : (List Int)) : Option ((List Int)) :=
  (G_orphan_Lost_L2 n v_held505 v_l504 n 0 ([] : List Int)).bind fun v_o537 => match v_o537 with
  | .x0 v_z538 =>
    some v_z538
theorem G_orphan_Lost_ok (n : Nat) (v_l504 : (List S_inode_Node)) (v_held505 : (List Int)) (r : (List Int)) (h : G_orphan_Lost n v_l504 v_held505 = some r) : Ret Try.prog 49 [(eL eS_inode_Node) v_l504, (eL (eI .i64)) v_held505] ((eL (eI .i64)) r) := by
  refine ret_run (n := 37) (fn := Try.f49) (c := bodyOf Try.f49) (by kernel_rfl) (by kernel_rfl) (by kernel_rfl) (by kernel_rfl) ?_
  have hF : KC 37 (FinR Try.prog Try.f49 ((eL (eI .i64)) r)) := FinR.kc' (by kernel_rfl)
  unfold G_orphan_Lost at h
  obtain ⟨v_o537, h596, h⟩ := bind_some h
  refine pkk_sound TTok mix hF 9 (hs := [.u (.d (.v (.int .i64 (v_l504.length : Int)))), .n n]) (ts := [(5, 3, 1)]) (s := [15]) (l := [1, 5, 8, 9, 10]) (by kernel_rfl) (by kernel_rfl) (.cons (len_ob (f := eS_inode_Node) (l := v_l504)) .nil) (G_orphan_Lost_L2_ok hF (.b 0 :: .s (cR (cR (cR (bodyOf Try.f49)))) :: []) n v_held505 v_l504 n 0 ([] : List Int) _ h596 ?_)
  cases v_o537 with
  | x0 v_z538 =>
    try dsimp only at h
    obtain rfl := Option.some.inj h
    exact pend_sound TTok mix 4 (hs := []) (by kernel_rfl) (by kernel_rfl) (by kernel_rfl) .nil
inductive G_orphan_Names_C1_R where
  | x0 (v_w556 : (List Int))
def G_orphan_Names_C1_ex : G_orphan_Names_C1_R → Ex
  | .x0 _ => .normal
def G_orphan_Names_C1_st (v_entries541 : (List S_api_Entry)) (v_x544 : Int) (v_w545 : (List Int)) : G_orphan_Names_C1_R → PS
  | .x0 v_w556 => ⟨[dd, dd, dd, dd, dd, .srf 0, dd, dd, dd, dd, dd, dd, .d (.sl (v_entries541.map eS_api_Entry)), .d (.v (.int .i64 (v_entries541.length : Int))), .d (.v (.int .i64 v_x544)), dd, dd, dd, dd, dd, dd, dd, dd, dd, dd, dd, dd, dd, dd, dd, dd, dd, dd, dd, dd, dd, dd, dd], [.row 3 1 (v_w556.map (eI .i64))]⟩
def G_orphan_Names_C1_hd (v_entries541 : (List S_api_Entry)) (v_x544 : Int) (v_w545 : (List Int))  : PS := ⟨[dd, dd, dd, dd, dd, .srf 0, dd, dd, dd, dd, dd, dd, .d (.sl (v_entries541.map eS_api_Entry)), .d (.v (.int .i64 (v_entries541.length : Int))), .d (.v (.int .i64 v_x544)), dd, dd, dd, dd, dd, dd, dd, dd, dd, dd, dd, dd, dd, dd, dd, dd, dd, dd, dd, dd, dd, dd, dd], [.row 3 1 (v_w545.map (eI .i64))]⟩
def G_orphan_Names_C1 (n : Nat) (v_entries541 : (List S_api_Entry)) (v_x544 : Int) (v_w545 : (List Int)) : Option G_orphan_Names_C1_R :=
  (getI v_entries541 v_x544).bind fun (v_y551 : S_api_Entry) =>
  if v_y551.fIno ≥ 1 then
   if v_y551.fIno ≤ (v_w545.length : Int) then
    if 0 ≤ (wi .i64 (v_y551.fIno - 1)) ∧ ((wi .i64 (v_y551.fIno - 1))).toNat < v_w545.length then
     (v_w545[((wi .i64 (v_y551.fIno - 1))).toNat]?).bind fun (v_y554 : Int) =>
     if 0 ≤ (wi .i64 (v_y551.fIno - 1)) ∧ ((wi .i64 (v_y551.fIno - 1))).toNat < v_w545.length then
      (v_w545[((wi .i64 (v_y551.fIno - 1))).toNat]?).bind fun (v_y555 : Int) =>
      some (.x0 (v_w545.set ((wi .i64 (v_y551.fIno - 1))).toNat (wi .i64 (v_y554 + 1))))
     else none
    else none
   else
    some (.x0 v_w545)
  else
   some (.x0 v_w545)
theorem G_orphan_Names_C1_ok {Fi : Ex → PS → Prop} (hF : KC 38 Fi) (ks : List Fr) (n : Nat) (v_entries541 : (List S_api_Entry)) (v_x544 : Int) (v_w545 : (List Int))  (o : G_orphan_Names_C1_R) (h : G_orphan_Names_C1 n v_entries541 v_x544 v_w545 = some o) (q : RunE Try.prog 38 Fi ks (G_orphan_Names_C1_ex o) (G_orphan_Names_C1_st v_entries541 v_x544 v_w545 o)) : RunE Try.prog 38 Fi (.s (cL (cR (cR (cP (cB (cR (cL (cR (cR (bodyOf Try.f50)))))))))) :: ks) .normal (G_orphan_Names_C1_hd v_entries541 v_x544 v_w545) := by
  unfold G_orphan_Names_C1 at h
  obtain ⟨v_y551, h615, h⟩ := bind_some h
  by_cases h617 : v_y551.fIno ≥ 1
  · rw [if_pos h617] at h
    by_cases h623 : v_y551.fIno ≤ (v_w545.length : Int)
    · rw [if_pos h623] at h
      by_cases h624 : 0 ≤ (wi .i64 (v_y551.fIno - 1)) ∧ ((wi .i64 (v_y551.fIno - 1))).toNat < v_w545.length
      · rw [if_pos h624] at h
        obtain ⟨v_y554, h625, h⟩ := bind_some h
        by_cases h626 : 0 ≤ (wi .i64 (v_y551.fIno - 1)) ∧ ((wi .i64 (v_y551.fIno - 1))).toNat < v_w545.length
        · rw [if_pos h626] at h
          obtain ⟨v_y555, h627, h⟩ := bind_some h
          cases h
          exact pkk_sound TTok mix hF 8 (hs := [.y (eS_api_Entry v_y551), .c, .c, .t true, .c, .c, .c, .c, .u (.d (.v (.int .i64 (v_w545.length : Int)))), .c, .t true, .c, .y ((eI .i64) v_y554), .w ((v_w545.set ((wi .i64 (v_y551.fIno - 1))).toNat (wi .i64 (v_y554 + 1))).map (eI .i64)), .y ((eI .i64) v_y555)]) (ts := []) (s := [0]) (l := [5, 12, 13, 14]) (by kernel_rfl) (by kernel_rfl) (.cons (getI_ob (f := eS_api_Entry) h615) (.cons (show 0 + 2 ≤ 2 by decide) (.cons (dt h617) (.cons (len_ob (f := (eI .i64)) (l := v_w545)) (.cons (dt h623) (.cons (idx_ob (f := (eI .i64)) h624) (.cons (get_ob (f := (eI .i64)) h625) (.cons (idx_ob (f := (eI .i64)) h626) (.cons (get_ob (f := (eI .i64)) h627) (.cons (Eq.refl (pcells (.v (.int .i64 (wi .i64 (v_y554 + 1)))))) (.cons (set_ob (f := (eI .i64)) (l := v_w545) (k := ((wi .i64 (v_y551.fIno - 1))).toNat) (z := (wi .i64 (v_y554 + 1))) (p := .v (.int .i64 (wi .i64 (v_y554 + 1)))) rfl) .nil))))))))))) q
        · rw [if_neg h626] at h; cases h
      · rw [if_neg h624] at h; cases h
    · rw [if_neg h623] at h
      cases h
      exact pkk_sound TTok mix hF 8 (hs := [.y (eS_api_Entry v_y551), .c, .c, .t true, .c, .c, .c, .c, .u (.d (.v (.int .i64 (v_w545.length : Int)))), .c, .t false]) (ts := []) (s := [0]) (l := [5, 12, 13, 14]) (by kernel_rfl) (by kernel_rfl) (.cons (getI_ob (f := eS_api_Entry) h615) (.cons (show 0 + 2 ≤ 2 by decide) (.cons (dt h617) (.cons (len_ob (f := (eI .i64)) (l := v_w545)) (.cons (df h623) .nil))))) q
  · rw [if_neg h617] at h
    cases h
    exact pkk_sound TTok mix hF 8 (hs := [.y (eS_api_Entry v_y551), .c, .c, .t false, .c, .c, .c, .c, .c]) (ts := []) (s := [0]) (l := [5, 12, 13, 14]) (by kernel_rfl) (by kernel_rfl) (.cons (getI_ob (f := eS_api_Entry) h615) (.cons (show 0 + 2 ≤ 2 by decide) (.cons (df h617) .nil))) q
inductive G_orphan_Names_L2_R where
  | x0 (v_w561 : (List Int))
def G_orphan_Names_L2_ex : G_orphan_Names_L2_R → Ex
  | .x0 _ => .exit 0
def G_orphan_Names_L2_st (v_entries541 : (List S_api_Entry)) : G_orphan_Names_L2_R → PS
  | .x0 v_w561 => ⟨[dd, dd, dd, dd, dd, .srf 0, dd, dd, dd, dd, dd, dd, dd, dd, dd, dd, dd, dd, dd, dd, dd, dd, dd, dd, dd, dd, dd, dd, dd, dd, dd, dd, dd, dd, dd, dd, dd, dd], [.row 3 1 (v_w561.map (eI .i64))]⟩
def G_orphan_Names_L2_hd (v_entries541 : (List S_api_Entry)) (v_x544 : Int) (v_w545 : (List Int)) : PS := ⟨[dd, dd, dd, dd, dd, .srf 0, dd, dd, dd, dd, dd, dd, .d (.sl (v_entries541.map eS_api_Entry)), .d (.v (.int .i64 (v_entries541.length : Int))), .d (.v (.int .i64 v_x544)), dd, dd, dd, dd, dd, dd, dd, dd, dd, dd, dd, dd, dd, dd, dd, dd, dd, dd, dd, dd, dd, dd, dd], [.row 3 1 (v_w545.map (eI .i64))]⟩
def G_orphan_Names_L2 (n : Nat) (v_entries541 : (List S_api_Entry)) : Nat → Int → (List Int) → Option G_orphan_Names_L2_R
  | 0, _, _ => none
  | k + 1, v_x544, v_w545 =>
    if v_x544 < (v_entries541.length : Int) then
     (G_orphan_Names_C1 n v_entries541 v_x544 v_w545).bind fun v_o559 => match v_o559 with
     | .x0 v_z560 =>
       G_orphan_Names_L2 n v_entries541 k (wi .i64 (v_x544 + 1)) v_z560
    else
     some (.x0 v_w545)
theorem G_orphan_Names_L2_ok {Fi : Ex → PS → Prop} (hF : KC 38 Fi) (ks : List Fr) (n : Nat) (v_entries541 : (List S_api_Entry))  : ∀ (k : Nat) (v_x544 : Int) (v_w545 : (List Int)) (o : G_orphan_Names_L2_R), G_orphan_Names_L2 n v_entries541 k v_x544 v_w545 = some o → RunE Try.prog 38 Fi ks (G_orphan_Names_L2_ex o) (G_orphan_Names_L2_st v_entries541 o) → RunE Try.prog 38 Fi (.l k (cP (cB (cR (cL (cR (cR (bodyOf Try.f50))))))) :: ks) .normal (G_orphan_Names_L2_hd v_entries541 v_x544 v_w545)
  | 0, v_x544, v_w545, o, h, q => by rw [G_orphan_Names_L2] at h; cases h
  | k + 1, v_x544, v_w545, o, h, q => by
    rw [G_orphan_Names_L2] at h
    by_cases h601 : v_x544 < (v_entries541.length : Int)
    · rw [if_pos h601] at h
      obtain ⟨v_o559, h628, h⟩ := bind_some h
      refine pkk_sound TTok mix hF 7 (hs := [.t true]) (ts := []) (s := [0]) (l := [5, 12, 13, 14]) (by kernel_rfl) (by kernel_rfl) (.cons (dt h601) .nil) (G_orphan_Names_C1_ok hF (.s (cR (cR (cR (cP (cB (cR (cL (cR (cR (bodyOf Try.f50)))))))))) :: .l k (cP (cB (cR (cL (cR (cR (bodyOf Try.f50))))))) :: ks) n v_entries541 v_x544 v_w545 _ h628 ?_)
      cases v_o559 with
      | x0 v_z560 =>
        try dsimp only at h
        exact pkk_sound TTok mix hF 1 (hs := []) (ts := []) (s := [0]) (l := [5, 12, 13, 14]) (by kernel_rfl) (by kernel_rfl) .nil (G_orphan_Names_L2_ok hF ks n v_entries541 k (wi .i64 (v_x544 + 1)) v_z560 _ h q)
    · rw [if_neg h601] at h
      cases h
      exact pkk_sound TTok mix hF 8 (hs := [.t false]) (ts := []) (s := [0]) (l := [5]) (by kernel_rfl) (by kernel_rfl) (.cons (df h601) .nil) q
/- ringhall/orphan.Names -/
def G_orphan_Names (n : Nat) (v_entries541 : (List S_api_Entry)) (v_nodes542 : Int) : Option ((List Int)) :=
  (mkL 8 0 (maxI 0 (minI v_nodes542 32))).bind fun (v_m543 : (List Int)) =>
  (G_orphan_Names_L2 n v_entries541 n 0 v_m543).bind fun v_o562 => match v_o562 with
  | .x0 v_z563 =>
    some v_z563
theorem G_orphan_Names_ok (n : Nat) (v_entries541 : (List S_api_Entry)) (v_nodes542 : Int) (r : (List Int)) (h : G_orphan_Names n v_entries541 v_nodes542 = some r) : Ret Try.prog 50 [(eL eS_api_Entry) v_entries541, (eI .i64) v_nodes542] ((eL (eI .i64)) r) := by
  refine ret_run (n := 38) (fn := Try.f50) (c := bodyOf Try.f50) (by kernel_rfl) (by kernel_rfl) (by kernel_rfl) (by kernel_rfl) ?_
  have hF : KC 38 (FinR Try.prog Try.f50 ((eL (eI .i64)) r)) := FinR.kc' (by kernel_rfl)
  unfold G_orphan_Names at h
  obtain ⟨v_m543, h600, h⟩ := bind_some h
  obtain ⟨v_o562, h629, h⟩ := bind_some h
  refine pkk_sound TTok mix hF 9 (hs := [.w (v_m543.map (eI .i64)), .u (.d (.v (.int .i64 (v_entries541.length : Int)))), .n n]) (ts := []) (s := [12]) (l := [5, 12, 13, 14]) (by kernel_rfl) (by kernel_rfl) (.cons (mkL_ob (f := (eI .i64)) (p := .v (.int .i64 0)) h600 rfl).1 (.cons (mkL_ob (f := (eI .i64)) (p := .v (.int .i64 0)) h600 rfl).2.1 (.cons (mkL_ob (f := (eI .i64)) (p := .v (.int .i64 0)) h600 rfl).2.2.1 (.cons (mkL_ob (f := (eI .i64)) (p := .v (.int .i64 0)) h600 rfl).2.2.2.1 (.cons (mkL_ob (f := (eI .i64)) (p := .v (.int .i64 0)) h600 rfl).2.2.2.2 (.cons (len_ob (f := eS_api_Entry) (l := v_entries541)) .nil)))))) (G_orphan_Names_L2_ok hF (.b 0 :: .s (cR (cR (cR (bodyOf Try.f50)))) :: []) n v_entries541 n 0 v_m543 _ h629 ?_)
  cases v_o562 with
  | x0 v_z563 =>
    try dsimp only at h
    obtain rfl := Option.some.inj h
    exact pend_sound TTok mix 4 (hs := []) (by kernel_rfl) (by kernel_rfl) (by kernel_rfl) .nil
inductive G_ringlaw3_OrphanCuts_C1_R where
  | x0 (v_x7 : Bool)
def G_ringlaw3_OrphanCuts_C1_ex : G_ringlaw3_OrphanCuts_C1_R → Ex
  | .x0 _ => .normal
def G_ringlaw3_OrphanCuts_C1_st (v_size2 : Int) (v_l3 : (List S_inode_Node)) (v_held4 : (List Int)) (v_entries5 : (List S_api_Entry)) (v_many6 : Int) (v_n1 : S_inode_Node) : G_ringlaw3_OrphanCuts_C1_R → PS
  | .x0 v_x7 => ⟨[dd, .d (.v (.int .i64 v_size2)), .d (.sl (v_l3.map eS_inode_Node)), .d (.sl (v_held4.map (eI .i64))), .d (.sl (v_entries5.map eS_api_Entry)), .d (.v (.int .i64 v_many6)), .ref 0 0, dd, dd, dd, dd, dd, dd, dd, dd, dd, dd, dd, dd, dd, dd, dd, dd, dd, dd, dd, dd, dd, dd, dd, dd, dd, dd, dd, dd, dd, dd, dd, dd, dd, dd, dd, dd, dd, dd, .d (.v (.bool v_x7)), dd, dd, dd, dd, dd, dd, dd, dd, dd, dd, dd, dd, dd, dd, dd, dd, dd, dd, dd, dd, dd, dd, dd, dd, dd, dd, dd, dd, dd, dd, dd, dd, dd, dd, dd, dd, dd, dd, dd, dd, dd, dd, dd, dd, dd, dd, dd, dd, dd, dd, dd, dd, dd, dd, dd, dd, dd, dd, dd, dd, dd, dd, dd, dd, dd, dd, dd, dd, dd, dd, dd, dd, dd, dd, dd, dd, dd, dd, dd, dd, dd, dd, dd, dd, dd, dd, dd, dd, dd, dd, dd, dd, dd, dd, dd, dd, dd, dd, dd, dd, dd, dd, dd, dd, dd, dd, dd, dd, dd, dd, dd, dd, dd, dd, dd, dd, dd, dd, dd, dd, dd, dd, dd, dd, dd, dd, dd, dd, dd, dd, dd, dd, dd, dd], [.box [.d (.v (.int .i64 v_n1.fKind)), .d (.v (.int .i64 v_n1.fMode)), .d (.v (.int .i64 v_n1.fUser)), .d (.v (.int .i64 v_n1.fGroup)), .d (.v (.int .i64 v_n1.fSize)), .d (.v (.int .i64 v_n1.fLinks)), .d (.v (.int .i64 v_n1.fUp)), .d (.sl (v_n1.fPoints.map (eI .i64)))]]⟩
def G_ringlaw3_OrphanCuts_C1_hd (v_size2 : Int) (v_l3 : (List S_inode_Node)) (v_held4 : (List Int)) (v_entries5 : (List S_api_Entry)) (v_many6 : Int) (v_n1 : S_inode_Node)  : PS := ⟨[dd, .d (.v (.int .i64 v_size2)), .d (.sl (v_l3.map eS_inode_Node)), .d (.sl (v_held4.map (eI .i64))), .d (.sl (v_entries5.map eS_api_Entry)), .d (.v (.int .i64 v_many6)), .ref 0 0, dd, dd, dd, dd, dd, dd, dd, dd, dd, dd, dd, dd, dd, dd, dd, dd, dd, dd, dd, dd, dd, dd, dd, dd, dd, dd, dd, dd, dd, dd, dd, dd, dd, dd, dd, dd, dd, dd, dd, dd, dd, dd, dd, dd, dd, dd, dd, dd, dd, dd, dd, dd, dd, dd, dd, dd, dd, dd, dd, dd, dd, dd, dd, dd, dd, dd, dd, dd, dd, dd, dd, dd, dd, dd, dd, dd, dd, dd, dd, dd, dd, dd, dd, dd, dd, dd, dd, dd, dd, dd, dd, dd, dd, dd, dd, dd, dd, dd, dd, dd, dd, dd, dd, dd, dd, dd, dd, dd, dd, dd, dd, dd, dd, dd, dd, dd, dd, dd, dd, dd, dd, dd, dd, dd, dd, dd, dd, dd, dd, dd, dd, dd, dd, dd, dd, dd, dd, dd, dd, dd, dd, dd, dd, dd, dd, dd, dd, dd, dd, dd, dd, dd, dd, dd, dd, dd, dd, dd, dd, dd, dd, dd, dd, dd, dd, dd, dd, dd, dd, dd, dd, dd, dd], [.box [.d (.v (.int .i64 v_n1.fKind)), .d (.v (.int .i64 v_n1.fMode)), .d (.v (.int .i64 v_n1.fUser)), .d (.v (.int .i64 v_n1.fGroup)), .d (.v (.int .i64 v_n1.fSize)), .d (.v (.int .i64 v_n1.fLinks)), .d (.v (.int .i64 v_n1.fUp)), .d (.sl (v_n1.fPoints.map (eI .i64)))]]⟩
def G_ringlaw3_OrphanCuts_C1 (n : Nat) (v_size2 : Int) (v_l3 : (List S_inode_Node)) (v_held4 : (List Int)) (v_entries5 : (List S_api_Entry)) (v_many6 : Int) (v_n1 : S_inode_Node) : Option G_ringlaw3_OrphanCuts_C1_R :=
  if (v_n1.fPoints.length : Int) > 30 then
   some (.x0 true)
  else
   if (v_l3.length : Int) > 60 then
    some (.x0 true)
   else
    if (v_held4.length : Int) > 60 then
     some (.x0 true)
    else
     some (.x0 (decide ((v_entries5.length : Int) > 200)))
theorem G_ringlaw3_OrphanCuts_C1_ok {Fi : Ex → PS → Prop} (hF : KC 180 Fi) (ks : List Fr) (n : Nat) (v_size2 : Int) (v_l3 : (List S_inode_Node)) (v_held4 : (List Int)) (v_entries5 : (List S_api_Entry)) (v_many6 : Int) (v_n1 : S_inode_Node)  (o : G_ringlaw3_OrphanCuts_C1_R) (h : G_ringlaw3_OrphanCuts_C1 n v_size2 v_l3 v_held4 v_entries5 v_many6 v_n1 = some o) (q : RunE Try.prog 180 Fi ks (G_ringlaw3_OrphanCuts_C1_ex o) (G_ringlaw3_OrphanCuts_C1_st v_size2 v_l3 v_held4 v_entries5 v_many6 v_n1 o)) : RunE Try.prog 180 Fi (.s (cL (cL (cR (bodyOf Try.f6)))) :: ks) .normal (G_ringlaw3_OrphanCuts_C1_hd v_size2 v_l3 v_held4 v_entries5 v_many6 v_n1) := by
  unfold G_ringlaw3_OrphanCuts_C1 at h
  by_cases h4 : (v_n1.fPoints.length : Int) > 30
  · rw [if_pos h4] at h
    cases h
    exact pkk_sound TTok mix hF 1 (hs := [.c, .u (.d (.v (.int .i64 (v_n1.fPoints.length : Int)))), .t true, .c, .c, .c, .c, .c, .c, .c, .c]) (ts := []) (s := [0]) (l := [1, 2, 3, 4, 5, 6, 45]) (by kernel_rfl) (by kernel_rfl) (.cons (len_ob (f := (eI .i64)) (l := v_n1.fPoints)) (.cons (dt h4) .nil)) q
  · rw [if_neg h4] at h
    by_cases h5 : (v_l3.length : Int) > 60
    · rw [if_pos h5] at h
      cases h
      exact pkk_sound TTok mix hF 1 (hs := [.c, .u (.d (.v (.int .i64 (v_n1.fPoints.length : Int)))), .t false, .c, .u (.d (.v (.int .i64 (v_l3.length : Int)))), .c, .t true, .c, .c, .c, .c, .c]) (ts := []) (s := [0]) (l := [1, 2, 3, 4, 5, 6, 45]) (by kernel_rfl) (by kernel_rfl) (.cons (len_ob (f := (eI .i64)) (l := v_n1.fPoints)) (.cons (df h4) (.cons (len_ob (f := eS_inode_Node) (l := v_l3)) (.cons (dt h5) .nil)))) q
    · rw [if_neg h5] at h
      by_cases h6 : (v_held4.length : Int) > 60
      · rw [if_pos h6] at h
        cases h
        exact pkk_sound TTok mix hF 1 (hs := [.c, .u (.d (.v (.int .i64 (v_n1.fPoints.length : Int)))), .t false, .c, .u (.d (.v (.int .i64 (v_l3.length : Int)))), .c, .t false, .c, .u (.d (.v (.int .i64 (v_held4.length : Int)))), .c, .t true, .c, .c]) (ts := []) (s := [0]) (l := [1, 2, 3, 4, 5, 6, 45]) (by kernel_rfl) (by kernel_rfl) (.cons (len_ob (f := (eI .i64)) (l := v_n1.fPoints)) (.cons (df h4) (.cons (len_ob (f := eS_inode_Node) (l := v_l3)) (.cons (df h5) (.cons (len_ob (f := (eI .i64)) (l := v_held4)) (.cons (dt h6) .nil)))))) q
      · rw [if_neg h6] at h
        cases h
        exact pkk_sound TTok mix hF 1 (hs := [.c, .u (.d (.v (.int .i64 (v_n1.fPoints.length : Int)))), .t false, .c, .u (.d (.v (.int .i64 (v_l3.length : Int)))), .c, .t false, .c, .u (.d (.v (.int .i64 (v_held4.length : Int)))), .c, .t false, .c, .u (.d (.v (.int .i64 (v_entries5.length : Int)))), .c]) (ts := []) (s := [0]) (l := [1, 2, 3, 4, 5, 6, 45]) (by kernel_rfl) (by kernel_rfl) (.cons (len_ob (f := (eI .i64)) (l := v_n1.fPoints)) (.cons (df h4) (.cons (len_ob (f := eS_inode_Node) (l := v_l3)) (.cons (df h5) (.cons (len_ob (f := (eI .i64)) (l := v_held4)) (.cons (df h6) (.cons (len_ob (f := eS_api_Entry) (l := v_entries5)) .nil))))))) q
inductive G_ringlaw3_OrphanCuts_C2_R where
  | x0 (v_e72 : Int)
def G_ringlaw3_OrphanCuts_C2_ex : G_ringlaw3_OrphanCuts_C2_R → Ex
  | .x0 _ => .normal
def G_ringlaw3_OrphanCuts_C2_st (v_size2 : Int) (v_l3 : (List S_inode_Node)) (v_held4 : (List Int)) (v_entries5 : (List S_api_Entry)) (v_many6 : Int) (v_r64 : (Int)) (v_n1 : S_inode_Node) : G_ringlaw3_OrphanCuts_C2_R → PS
  | .x0 v_e72 => ⟨[dd, .d (.v (.int .i64 v_size2)), .d (.sl (v_l3.map eS_inode_Node)), .d (.sl (v_held4.map (eI .i64))), .d (.sl (v_entries5.map eS_api_Entry)), .d (.v (.int .i64 v_many6)), .ref 0 0, dd, dd, dd, dd, dd, dd, .d (.v (.int .i64 v_e72)), dd, dd, dd, dd, dd, dd, dd, dd, dd, dd, dd, dd, dd, dd, dd, dd, dd, dd, dd, dd, dd, dd, dd, dd, dd, dd, dd, dd, dd, dd, dd, dd, dd, dd, dd, dd, dd, dd, dd, dd, dd, dd, dd, dd, dd, dd, dd, dd, dd, dd, dd, dd, dd, dd, dd, dd, dd, dd, dd, dd, dd, dd, dd, dd, dd, dd, dd, dd, dd, dd, dd, dd, dd, dd, dd, dd, dd, dd, dd, dd, dd, dd, dd, dd, dd, dd, dd, dd, dd, dd, dd, dd, dd, dd, dd, dd, dd, dd, dd, dd, dd, dd, dd, dd, dd, dd, dd, dd, dd, dd, dd, dd, dd, dd, dd, dd, dd, dd, dd, dd, dd, dd, dd, dd, dd, dd, dd, dd, dd, dd, dd, dd, dd, dd, dd, dd, dd, dd, dd, dd, dd, dd, dd, dd, dd, dd, dd, dd, dd, dd, dd, dd, dd, dd, dd, dd, dd, dd, dd, dd, dd, dd, dd, dd, dd, dd], [.box [.d (.v (.int .i64 v_n1.fKind)), .d (.v (.int .i64 v_n1.fMode)), .d (.v (.int .i64 v_n1.fUser)), .d (.v (.int .i64 v_n1.fGroup)), .d (.v (.int .i64 v_n1.fSize)), .d (.v (.int .i64 v_n1.fLinks)), .d (.v (.int .i64 v_n1.fUp)), .d (.sl (v_n1.fPoints.map (eI .i64)))]]⟩
def G_ringlaw3_OrphanCuts_C2_hd (v_size2 : Int) (v_l3 : (List S_inode_Node)) (v_held4 : (List Int)) (v_entries5 : (List S_api_Entry)) (v_many6 : Int) (v_r64 : (Int)) (v_n1 : S_inode_Node)  : PS := ⟨[dd, .d (.v (.int .i64 v_size2)), .d (.sl (v_l3.map eS_inode_Node)), .d (.sl (v_held4.map (eI .i64))), .d (.sl (v_entries5.map eS_api_Entry)), .d (.v (.int .i64 v_many6)), .ref 0 0, dd, dd, dd, dd, dd, dd, .d (.v (.int .i64 v_r64)), dd, dd, dd, dd, dd, dd, dd, dd, dd, dd, dd, dd, dd, dd, dd, dd, dd, dd, dd, dd, dd, dd, dd, dd, dd, dd, dd, dd, dd, dd, dd, dd, dd, dd, dd, .d (.v (.bool (v_r64 != 0))), dd, dd, dd, dd, dd, dd, dd, dd, dd, dd, dd, dd, dd, dd, dd, dd, dd, dd, dd, dd, dd, dd, dd, dd, dd, dd, dd, dd, dd, dd, dd, dd, dd, dd, dd, dd, dd, dd, dd, dd, dd, dd, dd, dd, dd, dd, dd, dd, dd, dd, dd, dd, dd, dd, dd, dd, dd, dd, dd, dd, dd, dd, dd, dd, dd, dd, dd, dd, dd, dd, dd, dd, dd, dd, dd, dd, dd, dd, dd, dd, dd, dd, dd, dd, dd, dd, dd, dd, dd, dd, dd, dd, dd, dd, dd, dd, dd, dd, dd, dd, dd, dd, dd, dd, dd, dd, dd, dd, dd, dd, dd, dd, dd, dd, dd, dd, dd, dd, dd, dd, dd, dd, dd, dd, dd, dd, dd, dd, dd, dd], [.box [.d (.v (.int .i64 v_n1.fKind)), .d (.v (.int .i64 v_n1.fMode)), .d (.v (.int .i64 v_n1.fUser)), .d (.v (.int .i64 v_n1.fGroup)), .d (.v (.int .i64 v_n1.fSize)), .d (.v (.int .i64 v_n1.fLinks)), .d (.v (.int .i64 v_n1.fUp)), .d (.sl (v_n1.fPoints.map (eI .i64)))]]⟩
def G_ringlaw3_OrphanCuts_C2 (n : Nat) (v_size2 : Int) (v_l3 : (List S_inode_Node)) (v_held4 : (List Int)) (v_entries5 : (List S_api_Entry)) (v_many6 : Int) (v_r64 : (Int)) (v_n1 : S_inode_Node) : Option G_ringlaw3_OrphanCuts_C2_R :=
  if v_r64 = 0 then
   if v_n1.fKind = 0 then
    some (.x0 4)
   else
    if v_size2 < 0 then
     some (.x0 1)
    else
     if v_size2 > 512 then
      some (.x0 2)
     else
      some (.x0 v_r64)
  else
   some (.x0 v_r64)
theorem G_ringlaw3_OrphanCuts_C2_ok {Fi : Ex → PS → Prop} (hF : KC 180 Fi) (ks : List Fr) (n : Nat) (v_size2 : Int) (v_l3 : (List S_inode_Node)) (v_held4 : (List Int)) (v_entries5 : (List S_api_Entry)) (v_many6 : Int) (v_r64 : (Int)) (v_n1 : S_inode_Node)  (o : G_ringlaw3_OrphanCuts_C2_R) (h : G_ringlaw3_OrphanCuts_C2 n v_size2 v_l3 v_held4 v_entries5 v_many6 v_r64 v_n1 = some o) (q : RunE Try.prog 180 Fi ks (G_ringlaw3_OrphanCuts_C2_ex o) (G_ringlaw3_OrphanCuts_C2_st v_size2 v_l3 v_held4 v_entries5 v_many6 v_r64 v_n1 o)) : RunE Try.prog 180 Fi (.s (cR (cB (cL (cR (cR (cR (bodyOf Try.f6))))))) :: ks) .normal (G_ringlaw3_OrphanCuts_C2_hd v_size2 v_l3 v_held4 v_entries5 v_many6 v_r64 v_n1) := by
  unfold G_ringlaw3_OrphanCuts_C2 at h
  by_cases h79 : v_r64 = 0
  · rw [if_pos h79] at h
    by_cases h80 : v_n1.fKind = 0
    · rw [if_pos h80] at h
      cases h
      exact pkk_sound TTok mix hF 5 (hs := [.t false, .c, .t true]) (ts := []) (s := [0]) (l := [1, 2, 3, 4, 5, 6, 13]) (by kernel_rfl) (by kernel_rfl) (.cons (nf h79) (.cons (bt h80) .nil)) q
    · rw [if_neg h80] at h
      by_cases h81 : v_size2 < 0
      · rw [if_pos h81] at h
        cases h
        exact pkk_sound TTok mix hF 8 (hs := [.t false, .c, .t false, .t true]) (ts := []) (s := [0]) (l := [1, 2, 3, 4, 5, 6, 13]) (by kernel_rfl) (by kernel_rfl) (.cons (nf h79) (.cons (bf h80) (.cons (dt h81) .nil))) q
      · rw [if_neg h81] at h
        by_cases h82 : v_size2 > 512
        · rw [if_pos h82] at h
          cases h
          exact pkk_sound TTok mix hF 11 (hs := [.t false, .c, .t false, .t false, .t true]) (ts := []) (s := [0]) (l := [1, 2, 3, 4, 5, 6, 13]) (by kernel_rfl) (by kernel_rfl) (.cons (nf h79) (.cons (bf h80) (.cons (df h81) (.cons (dt h82) .nil)))) q
        · rw [if_neg h82] at h
          cases h
          exact pkk_sound TTok mix hF 11 (hs := [.t false, .c, .t false, .t false, .t false]) (ts := []) (s := [0]) (l := [1, 2, 3, 4, 5, 6, 13]) (by kernel_rfl) (by kernel_rfl) (.cons (nf h79) (.cons (bf h80) (.cons (df h81) (.cons (df h82) .nil)))) q
  · rw [if_neg h79] at h
    cases h
    exact pkk_sound TTok mix hF 2 (hs := [.t true]) (ts := []) (s := [0]) (l := [1, 2, 3, 4, 5, 6, 13]) (by kernel_rfl) (by kernel_rfl) (.cons (nt h79) .nil) q
inductive G_ringlaw3_OrphanCuts_C3_R where
  | x0 (v_x412 : Bool)
def G_ringlaw3_OrphanCuts_C3_ex : G_ringlaw3_OrphanCuts_C3_R → Ex
  | .x0 _ => .normal
def G_ringlaw3_OrphanCuts_C3_st (v_l3 : (List S_inode_Node)) (v_held4 : (List Int)) (v_entries5 : (List S_api_Entry)) (v_many6 : Int) (v_r294 : (S_inode_Node × (List Int) × Int × Int)) : G_ringlaw3_OrphanCuts_C3_R → PS
  | .x0 v_x412 => ⟨[dd, dd, .d (.sl (v_l3.map eS_inode_Node)), .d (.sl (v_held4.map (eI .i64))), .d (.sl (v_entries5.map eS_api_Entry)), .d (.v (.int .i64 v_many6)), dd, dd, dd, dd, dd, dd, dd, dd, dd, dd, dd, dd, dd, dd, dd, dd, dd, dd, dd, dd, dd, dd, dd, dd, dd, dd, dd, dd, dd, dd, dd, dd, dd, dd, dd, dd, dd, dd, dd, dd, dd, dd, dd, dd, dd, dd, dd, dd, dd, dd, dd, dd, dd, dd, dd, dd, dd, dd, dd, dd, dd, dd, dd, dd, dd, dd, dd, dd, dd, dd, dd, dd, dd, dd, dd, dd, dd, dd, dd, dd, dd, .d (.v (.bool v_x412)), dd, dd, dd, dd, dd, dd, dd, dd, dd, dd, dd, dd, dd, dd, dd, dd, dd, dd, dd, dd, dd, dd, dd, dd, dd, dd, dd, dd, dd, dd, dd, dd, dd, dd, dd, dd, dd, dd, dd, dd, dd, dd, dd, dd, dd, dd, dd, dd, dd, dd, dd, dd, dd, dd, dd, dd, dd, dd, dd, dd, dd, dd, dd, dd, dd, dd, dd, dd, dd, dd, dd, dd, dd, dd, dd, dd, dd, dd, dd, dd, dd, dd, dd, dd, dd, dd, dd, dd, dd, dd, dd, dd], []⟩
def G_ringlaw3_OrphanCuts_C3_hd (v_l3 : (List S_inode_Node)) (v_held4 : (List Int)) (v_entries5 : (List S_api_Entry)) (v_many6 : Int) (v_r294 : (S_inode_Node × (List Int) × Int × Int))  : PS := ⟨[dd, dd, .d (.sl (v_l3.map eS_inode_Node)), .d (.sl (v_held4.map (eI .i64))), .d (.sl (v_entries5.map eS_api_Entry)), .d (.v (.int .i64 v_many6)), dd, dd, dd, dd, dd, dd, dd, dd, .ref 0 0, .d (.sl (v_r294.2.1.map (eI .i64))), .d (.v (.int .i64 v_r294.2.2.1)), dd, dd, dd, dd, dd, dd, dd, dd, dd, dd, dd, dd, dd, dd, dd, dd, dd, dd, dd, dd, dd, dd, dd, dd, dd, dd, dd, dd, dd, dd, dd, dd, dd, dd, dd, dd, dd, dd, dd, dd, dd, dd, dd, dd, dd, dd, dd, dd, dd, dd, dd, dd, dd, dd, dd, dd, dd, dd, dd, dd, dd, dd, dd, dd, dd, dd, dd, dd, dd, dd, dd, dd, dd, dd, dd, dd, dd, dd, dd, dd, dd, dd, dd, dd, dd, dd, dd, dd, dd, dd, dd, dd, dd, dd, dd, dd, dd, dd, dd, dd, dd, dd, dd, dd, dd, dd, dd, dd, dd, dd, dd, dd, dd, dd, dd, dd, dd, dd, dd, dd, dd, dd, dd, dd, dd, dd, dd, dd, dd, dd, dd, dd, dd, dd, dd, dd, dd, dd, dd, dd, dd, dd, dd, dd, dd, dd, dd, dd, dd, dd, dd, dd, dd, dd, dd, dd, dd, dd, dd, dd, dd, dd, dd], [.box [.d (.v (.int .i64 v_r294.1.fKind)), .d (.v (.int .i64 v_r294.1.fMode)), .d (.v (.int .i64 v_r294.1.fUser)), .d (.v (.int .i64 v_r294.1.fGroup)), .d (.v (.int .i64 v_r294.1.fSize)), .d (.v (.int .i64 v_r294.1.fLinks)), .d (.v (.int .i64 v_r294.1.fUp)), .d (.sl (v_r294.1.fPoints.map (eI .i64)))]]⟩
def G_ringlaw3_OrphanCuts_C3 (n : Nat) (v_l3 : (List S_inode_Node)) (v_held4 : (List Int)) (v_entries5 : (List S_api_Entry)) (v_many6 : Int) (v_r294 : (S_inode_Node × (List Int) × Int × Int)) : Option G_ringlaw3_OrphanCuts_C3_R :=
  (G_ringlaw3_sameNode n v_r294.1 (S_ringref3_Node.mk 0 0 0 0 0 0 0 ([] : (List Int)))).bind fun (v_r411 : (Bool)) =>
  if v_r411 = true then
   if (v_r294.2.1.length : Int) > 0 then
    some (.x0 true)
   else
    some (.x0 (v_r294.2.2.1 != 0))
  else
   some (.x0 true)
theorem G_ringlaw3_OrphanCuts_C3_ok {Fi : Ex → PS → Prop} (hF : KC 180 Fi) (ks : List Fr) (n : Nat) (v_l3 : (List S_inode_Node)) (v_held4 : (List Int)) (v_entries5 : (List S_api_Entry)) (v_many6 : Int) (v_r294 : (S_inode_Node × (List Int) × Int × Int))  (o : G_ringlaw3_OrphanCuts_C3_R) (h : G_ringlaw3_OrphanCuts_C3 n v_l3 v_held4 v_entries5 v_many6 v_r294 = some o) (q : RunE Try.prog 180 Fi ks (G_ringlaw3_OrphanCuts_C3_ex o) (G_ringlaw3_OrphanCuts_C3_st v_l3 v_held4 v_entries5 v_many6 v_r294 o)) : RunE Try.prog 180 Fi (.s (cL (cT (cR (cL (cR (cR (cR (cR (cR (cR (bodyOf Try.f6))))))))))) :: ks) .normal (G_ringlaw3_OrphanCuts_C3_hd v_l3 v_held4 v_entries5 v_many6 v_r294) := by
  unfold G_ringlaw3_OrphanCuts_C3 at h
  obtain ⟨v_r411, h490, h⟩ := bind_some h
  by_cases h491 : v_r411 = true
  · rw [if_pos h491] at h
    by_cases h492 : (v_r294.2.1.length : Int) > 0
    · rw [if_pos h492] at h
      cases h
      exact pkk_sound TTok mix hF 1 (hs := [.c, .r (eB v_r411), .t false, .c, .u (.d (.v (.int .i64 (v_r294.2.1.length : Int)))), .c, .t true, .c]) (ts := []) (s := []) (l := [2, 3, 4, 5, 87]) (by kernel_rfl) (by kernel_rfl) (.cons (G_ringlaw3_sameNode_ok n v_r294.1 (S_ringref3_Node.mk 0 0 0 0 0 0 0 ([] : (List Int))) _ h490) (.cons (bnf h491) (.cons (len_ob (f := (eI .i64)) (l := v_r294.2.1)) (.cons (dt h492) .nil)))) q
    · rw [if_neg h492] at h
      cases h
      exact pkk_sound TTok mix hF 1 (hs := [.c, .r (eB v_r411), .t false, .c, .u (.d (.v (.int .i64 (v_r294.2.1.length : Int)))), .c, .t false, .c]) (ts := []) (s := []) (l := [2, 3, 4, 5, 87]) (by kernel_rfl) (by kernel_rfl) (.cons (G_ringlaw3_sameNode_ok n v_r294.1 (S_ringref3_Node.mk 0 0 0 0 0 0 0 ([] : (List Int))) _ h490) (.cons (bnf h491) (.cons (len_ob (f := (eI .i64)) (l := v_r294.2.1)) (.cons (df h492) .nil)))) q
  · rw [if_neg h491] at h
    cases h
    exact pkk_sound TTok mix hF 1 (hs := [.c, .r (eB v_r411), .t true, .c, .c, .c, .c]) (ts := []) (s := []) (l := [2, 3, 4, 5, 87]) (by kernel_rfl) (by kernel_rfl) (.cons (G_ringlaw3_sameNode_ok n v_r294.1 (S_ringref3_Node.mk 0 0 0 0 0 0 0 ([] : (List Int))) _ h490) (.cons (bnt (vf h491)) .nil)) q
inductive G_ringlaw3_OrphanCuts_C4_R where
  | x0 (v_x423 : Bool)
def G_ringlaw3_OrphanCuts_C4_ex : G_ringlaw3_OrphanCuts_C4_R → Ex
  | .x0 _ => .normal
def G_ringlaw3_OrphanCuts_C4_st (v_l3 : (List S_inode_Node)) (v_held4 : (List Int)) (v_entries5 : (List S_api_Entry)) (v_many6 : Int) (v_r294 : (S_inode_Node × (List Int) × Int × Int)) (v_r419 : (S_ringref3_Node × (List Int) × Int)) : G_ringlaw3_OrphanCuts_C4_R → PS
  | .x0 v_x423 => ⟨[dd, dd, .d (.sl (v_l3.map eS_inode_Node)), .d (.sl (v_held4.map (eI .i64))), .d (.sl (v_entries5.map eS_api_Entry)), .d (.v (.int .i64 v_many6)), dd, dd, dd, dd, dd, dd, dd, dd, dd, dd, dd, dd, dd, dd, dd, dd, dd, dd, dd, dd, dd, dd, dd, dd, dd, dd, dd, dd, dd, dd, dd, dd, dd, dd, dd, dd, dd, dd, dd, dd, dd, dd, dd, dd, dd, dd, dd, dd, dd, dd, dd, dd, dd, dd, dd, dd, dd, dd, dd, dd, dd, dd, dd, dd, dd, dd, dd, dd, dd, dd, dd, dd, dd, dd, dd, dd, dd, dd, dd, dd, dd, dd, dd, dd, dd, dd, dd, dd, dd, dd, dd, dd, dd, dd, dd, dd, dd, dd, dd, dd, dd, dd, dd, dd, .d (.v (.bool v_x423)), dd, dd, dd, dd, dd, dd, dd, dd, dd, dd, dd, dd, dd, dd, dd, dd, dd, dd, dd, dd, dd, dd, dd, dd, dd, dd, dd, dd, dd, dd, dd, dd, dd, dd, dd, dd, dd, dd, dd, dd, dd, dd, dd, dd, dd, dd, dd, dd, dd, dd, dd, dd, dd, dd, dd, dd, dd, dd, dd, dd, dd, dd, dd, dd, dd, dd, dd, dd, dd], []⟩
def G_ringlaw3_OrphanCuts_C4_hd (v_l3 : (List S_inode_Node)) (v_held4 : (List Int)) (v_entries5 : (List S_api_Entry)) (v_many6 : Int) (v_r294 : (S_inode_Node × (List Int) × Int × Int)) (v_r419 : (S_ringref3_Node × (List Int) × Int))  : PS := ⟨[dd, dd, .d (.sl (v_l3.map eS_inode_Node)), .d (.sl (v_held4.map (eI .i64))), .d (.sl (v_entries5.map eS_api_Entry)), .d (.v (.int .i64 v_many6)), dd, dd, dd, dd, dd, dd, dd, dd, .ref 0 0, .d (.sl (v_r294.2.1.map (eI .i64))), .d (.v (.int .i64 v_r294.2.2.1)), dd, .ref 1 0, .d (.sl (v_r419.2.1.map (eI .i64))), .d (.v (.int .i64 v_r419.2.2)), dd, dd, dd, dd, dd, dd, dd, dd, dd, dd, dd, dd, dd, dd, dd, dd, dd, dd, dd, dd, dd, dd, dd, dd, dd, dd, dd, dd, dd, dd, dd, dd, dd, dd, dd, dd, dd, dd, dd, dd, dd, dd, dd, dd, dd, dd, dd, dd, dd, dd, dd, dd, dd, dd, dd, dd, dd, dd, dd, dd, dd, dd, dd, dd, dd, dd, dd, dd, dd, dd, dd, dd, dd, dd, dd, dd, dd, dd, dd, dd, dd, dd, dd, dd, dd, dd, dd, dd, dd, dd, dd, dd, dd, dd, dd, dd, dd, dd, dd, dd, dd, dd, dd, dd, dd, dd, dd, dd, dd, dd, dd, dd, dd, dd, dd, dd, dd, dd, dd, dd, dd, dd, dd, dd, dd, dd, dd, dd, dd, dd, dd, dd, dd, dd, dd, dd, dd, dd, dd, dd, dd, dd, dd, dd, dd, dd, dd, dd, dd, dd, dd, dd, dd, dd, dd, dd, dd, dd, dd], [.box [.d (.v (.int .i64 v_r294.1.fKind)), .d (.v (.int .i64 v_r294.1.fMode)), .d (.v (.int .i64 v_r294.1.fUser)), .d (.v (.int .i64 v_r294.1.fGroup)), .d (.v (.int .i64 v_r294.1.fSize)), .d (.v (.int .i64 v_r294.1.fLinks)), .d (.v (.int .i64 v_r294.1.fUp)), .d (.sl (v_r294.1.fPoints.map (eI .i64)))], .box [.d (.v (.int .i64 v_r419.1.fKind)), .d (.v (.int .i64 v_r419.1.fMode)), .d (.v (.int .i64 v_r419.1.fUser)), .d (.v (.int .i64 v_r419.1.fGroup)), .d (.v (.int .i64 v_r419.1.fSize)), .d (.v (.int .i64 v_r419.1.fLinks)), .d (.v (.int .i64 v_r419.1.fUp)), .d (.sl (v_r419.1.fPoints.map (eI .i64)))]]⟩
def G_ringlaw3_OrphanCuts_C4 (n : Nat) (v_l3 : (List S_inode_Node)) (v_held4 : (List Int)) (v_entries5 : (List S_api_Entry)) (v_many6 : Int) (v_r294 : (S_inode_Node × (List Int) × Int × Int)) (v_r419 : (S_ringref3_Node × (List Int) × Int)) : Option G_ringlaw3_OrphanCuts_C4_R :=
  (G_ringlaw3_sameNode n v_r294.1 v_r419.1).bind fun (v_r422 : (Bool)) =>
  if v_r422 = true then
   (G_slices_Equal_int_int n v_r294.2.1 v_r419.2.1).bind fun (v_r424 : (Bool)) =>
   if v_r424 = true then
    some (.x0 (v_r294.2.2.1 != v_r419.2.2))
   else
    some (.x0 true)
  else
   some (.x0 true)
theorem G_ringlaw3_OrphanCuts_C4_ok {Fi : Ex → PS → Prop} (hF : KC 180 Fi) (ks : List Fr) (n : Nat) (v_l3 : (List S_inode_Node)) (v_held4 : (List Int)) (v_entries5 : (List S_api_Entry)) (v_many6 : Int) (v_r294 : (S_inode_Node × (List Int) × Int × Int)) (v_r419 : (S_ringref3_Node × (List Int) × Int))  (o : G_ringlaw3_OrphanCuts_C4_R) (h : G_ringlaw3_OrphanCuts_C4 n v_l3 v_held4 v_entries5 v_many6 v_r294 v_r419 = some o) (q : RunE Try.prog 180 Fi ks (G_ringlaw3_OrphanCuts_C4_ex o) (G_ringlaw3_OrphanCuts_C4_st v_l3 v_held4 v_entries5 v_many6 v_r294 v_r419 o)) : RunE Try.prog 180 Fi (.s (cL (cR (cF (cR (cL (cR (cR (cR (cR (cR (cR (bodyOf Try.f6)))))))))))) :: ks) .normal (G_ringlaw3_OrphanCuts_C4_hd v_l3 v_held4 v_entries5 v_many6 v_r294 v_r419) := by
  unfold G_ringlaw3_OrphanCuts_C4 at h
  obtain ⟨v_r422, h501, h⟩ := bind_some h
  by_cases h502 : v_r422 = true
  · rw [if_pos h502] at h
    obtain ⟨v_r424, h503, h⟩ := bind_some h
    by_cases h504 : v_r424 = true
    · rw [if_pos h504] at h
      cases h
      exact pkk_sound TTok mix hF 1 (hs := [.c, .c, .r (eB v_r422), .t false, .c, .c, .r (eB v_r424), .c, .t false, .c, .c]) (ts := []) (s := []) (l := [2, 3, 4, 5, 110]) (by kernel_rfl) (by kernel_rfl) (.cons (G_ringlaw3_sameNode_ok n v_r294.1 v_r419.1 _ h501) (.cons (bnf h502) (.cons (G_slices_Equal_int_int_ok n v_r294.2.1 v_r419.2.1 _ h503) (.cons (bnf h504) .nil)))) q
    · rw [if_neg h504] at h
      cases h
      exact pkk_sound TTok mix hF 1 (hs := [.c, .c, .r (eB v_r422), .t false, .c, .c, .r (eB v_r424), .c, .t true, .c, .c]) (ts := []) (s := []) (l := [2, 3, 4, 5, 110]) (by kernel_rfl) (by kernel_rfl) (.cons (G_ringlaw3_sameNode_ok n v_r294.1 v_r419.1 _ h501) (.cons (bnf h502) (.cons (G_slices_Equal_int_int_ok n v_r294.2.1 v_r419.2.1 _ h503) (.cons (bnt (vf h504)) .nil)))) q
  · rw [if_neg h502] at h
    cases h
    exact pkk_sound TTok mix hF 1 (hs := [.c, .c, .r (eB v_r422), .t true, .c, .c, .c, .c, .c, .c]) (ts := []) (s := []) (l := [2, 3, 4, 5, 110]) (by kernel_rfl) (by kernel_rfl) (.cons (G_ringlaw3_sameNode_ok n v_r294.1 v_r419.1 _ h501) (.cons (bnt (vf h502)) .nil)) q
inductive G_ringlaw3_OrphanCuts_C5_R where
  | x0 (v_x417 : Bool)
  | x1 
def G_ringlaw3_OrphanCuts_C5_ex : G_ringlaw3_OrphanCuts_C5_R → Ex
  | .x0 _ => .ret
  | .x1  => .normal
def G_ringlaw3_OrphanCuts_C5_st (v_size2 : Int) (v_l3 : (List S_inode_Node)) (v_held4 : (List Int)) (v_entries5 : (List S_api_Entry)) (v_many6 : Int) (v_r294 : (S_inode_Node × (List Int) × Int × Int)) (v_z78 : Int) (v_n1 : S_inode_Node) : G_ringlaw3_OrphanCuts_C5_R → PS
  | .x0 v_x417 => ⟨[dd, dd, dd, dd, dd, dd, dd, dd, dd, dd, dd, dd, .d (.v (.bool v_x417)), dd, dd, dd, dd, dd, dd, dd, dd, dd, dd, dd, dd, dd, dd, dd, dd, dd, dd, dd, dd, dd, dd, dd, dd, dd, dd, dd, dd, dd, dd, dd, dd, dd, dd, dd, dd, dd, dd, dd, dd, dd, dd, dd, dd, dd, dd, dd, dd, dd, dd, dd, dd, dd, dd, dd, dd, dd, dd, dd, dd, dd, dd, dd, dd, dd, dd, dd, dd, dd, dd, dd, dd, dd, dd, dd, dd, dd, dd, dd, dd, dd, dd, dd, dd, dd, dd, dd, dd, dd, dd, dd, dd, dd, dd, dd, dd, dd, dd, dd, dd, dd, dd, dd, dd, dd, dd, dd, dd, dd, dd, dd, dd, dd, dd, dd, dd, dd, dd, dd, dd, dd, dd, dd, dd, dd, dd, dd, dd, dd, dd, dd, dd, dd, dd, dd, dd, dd, dd, dd, dd, dd, dd, dd, dd, dd, dd, dd, dd, dd, dd, dd, dd, dd, dd, dd, dd, dd, dd, dd, dd, dd, dd, dd, dd, dd, dd, dd], []⟩
  | .x1  => ⟨[dd, dd, .d (.sl (v_l3.map eS_inode_Node)), .d (.sl (v_held4.map (eI .i64))), .d (.sl (v_entries5.map eS_api_Entry)), .d (.v (.int .i64 v_many6)), dd, dd, dd, dd, dd, dd, dd, dd, dd, dd, dd, dd, dd, dd, dd, dd, dd, dd, dd, dd, dd, dd, dd, dd, dd, dd, dd, dd, dd, dd, dd, dd, dd, dd, dd, dd, dd, dd, dd, dd, dd, dd, dd, dd, dd, dd, dd, dd, dd, dd, dd, dd, dd, dd, dd, dd, dd, dd, dd, dd, dd, dd, dd, dd, dd, dd, dd, dd, dd, dd, dd, dd, dd, dd, dd, dd, dd, dd, dd, dd, dd, dd, dd, dd, dd, dd, dd, dd, dd, dd, dd, dd, dd, dd, dd, dd, dd, dd, dd, dd, dd, dd, dd, dd, dd, dd, dd, dd, dd, dd, dd, dd, dd, dd, dd, dd, dd, dd, dd, dd, dd, dd, dd, dd, dd, dd, dd, dd, dd, dd, dd, dd, dd, dd, dd, dd, dd, dd, dd, dd, dd, dd, dd, dd, dd, dd, dd, dd, dd, dd, dd, dd, dd, dd, dd, dd, dd, dd, dd, dd, dd, dd, dd, dd, dd, dd, dd, dd, dd, dd, dd, dd, dd, dd], []⟩
def G_ringlaw3_OrphanCuts_C5_hd (v_size2 : Int) (v_l3 : (List S_inode_Node)) (v_held4 : (List Int)) (v_entries5 : (List S_api_Entry)) (v_many6 : Int) (v_r294 : (S_inode_Node × (List Int) × Int × Int)) (v_z78 : Int) (v_n1 : S_inode_Node)  : PS := ⟨[dd, .d (.v (.int .i64 v_size2)), .d (.sl (v_l3.map eS_inode_Node)), .d (.sl (v_held4.map (eI .i64))), .d (.sl (v_entries5.map eS_api_Entry)), .d (.v (.int .i64 v_many6)), .ref 0 0, dd, dd, dd, dd, dd, dd, dd, .ref 1 0, .d (.sl (v_r294.2.1.map (eI .i64))), .d (.v (.int .i64 v_r294.2.2.1)), dd, dd, dd, dd, dd, dd, dd, dd, dd, dd, dd, dd, dd, dd, dd, dd, dd, dd, dd, dd, dd, dd, dd, dd, dd, dd, dd, dd, dd, dd, dd, dd, dd, dd, dd, dd, dd, dd, dd, dd, dd, dd, dd, dd, dd, dd, dd, dd, dd, dd, dd, dd, dd, dd, dd, dd, dd, .d (.v (.bool (v_z78 != 0))), dd, dd, dd, dd, dd, dd, dd, dd, dd, dd, dd, dd, dd, dd, dd, dd, dd, dd, dd, dd, dd, dd, dd, dd, dd, dd, dd, dd, dd, dd, dd, dd, dd, dd, dd, dd, dd, dd, dd, dd, dd, dd, dd, dd, dd, dd, dd, dd, dd, dd, dd, dd, dd, dd, dd, dd, dd, dd, dd, dd, dd, dd, dd, dd, dd, dd, dd, dd, dd, dd, dd, dd, dd, dd, dd, dd, dd, dd, dd, dd, dd, dd, dd, dd, dd, dd, dd, dd, dd, dd, dd, dd, dd, dd, dd, dd, dd, dd, dd, dd, dd, dd, dd, dd, dd], [.box [.d (.v (.int .i64 v_n1.fKind)), .d (.v (.int .i64 v_n1.fMode)), .d (.v (.int .i64 v_n1.fUser)), .d (.v (.int .i64 v_n1.fGroup)), .d (.v (.int .i64 v_n1.fSize)), .d (.v (.int .i64 v_n1.fLinks)), .d (.v (.int .i64 v_n1.fUp)), .d (.sl (v_n1.fPoints.map (eI .i64)))], .box [.d (.v (.int .i64 v_r294.1.fKind)), .d (.v (.int .i64 v_r294.1.fMode)), .d (.v (.int .i64 v_r294.1.fUser)), .d (.v (.int .i64 v_r294.1.fGroup)), .d (.v (.int .i64 v_r294.1.fSize)), .d (.v (.int .i64 v_r294.1.fLinks)), .d (.v (.int .i64 v_r294.1.fUp)), .d (.sl (v_r294.1.fPoints.map (eI .i64)))]]⟩
def G_ringlaw3_OrphanCuts_C5 (n : Nat) (v_size2 : Int) (v_l3 : (List S_inode_Node)) (v_held4 : (List Int)) (v_entries5 : (List S_api_Entry)) (v_many6 : Int) (v_r294 : (S_inode_Node × (List Int) × Int × Int)) (v_z78 : Int) (v_n1 : S_inode_Node) : Option G_ringlaw3_OrphanCuts_C5_R :=
  if v_z78 = 0 then
   (G_ringlaw3_node n v_n1).bind fun (v_r418 : (S_ringref3_Node)) =>
   (G_ringref3_Cut n v_r418 v_size2).bind fun (v_r419 : (S_ringref3_Node × (List Int) × Int)) =>
   (G_ringlaw3_OrphanCuts_C4 n v_l3 v_held4 v_entries5 v_many6 v_r294 v_r419).bind fun v_o427 => match v_o427 with
   | .x0 v_z428 =>
     if v_z428 = true then
      some (.x0 false)
     else
      some (.x1 )
  else
   (G_ringlaw3_OrphanCuts_C3 n v_l3 v_held4 v_entries5 v_many6 v_r294).bind fun v_o415 => match v_o415 with
   | .x0 v_z416 =>
     if v_z416 = true then
      some (.x0 false)
     else
      some (.x1 )
theorem G_ringlaw3_OrphanCuts_C5_ok {Fi : Ex → PS → Prop} (hF : KC 180 Fi) (ks : List Fr) (n : Nat) (v_size2 : Int) (v_l3 : (List S_inode_Node)) (v_held4 : (List Int)) (v_entries5 : (List S_api_Entry)) (v_many6 : Int) (v_r294 : (S_inode_Node × (List Int) × Int × Int)) (v_z78 : Int) (v_n1 : S_inode_Node)  (o : G_ringlaw3_OrphanCuts_C5_R) (h : G_ringlaw3_OrphanCuts_C5 n v_size2 v_l3 v_held4 v_entries5 v_many6 v_r294 v_z78 v_n1 = some o) (q : RunE Try.prog 180 Fi ks (G_ringlaw3_OrphanCuts_C5_ex o) (G_ringlaw3_OrphanCuts_C5_st v_size2 v_l3 v_held4 v_entries5 v_many6 v_r294 v_z78 v_n1 o)) : RunE Try.prog 180 Fi (.s (cR (cL (cR (cR (cR (cR (cR (cR (bodyOf Try.f6))))))))) :: ks) .normal (G_ringlaw3_OrphanCuts_C5_hd v_size2 v_l3 v_held4 v_entries5 v_many6 v_r294 v_z78 v_n1) := by
  unfold G_ringlaw3_OrphanCuts_C5 at h
  by_cases h486 : v_z78 = 0
  · rw [if_pos h486] at h
    obtain ⟨v_r418, h495, h⟩ := bind_some h
    obtain ⟨v_r419, h496, h⟩ := bind_some h
    obtain ⟨v_o427, h505, h⟩ := bind_some h
    refine pkk_sound TTok mix hF 4 (hs := [.t false, .c, .r (eS_ringref3_Node v_r418), .r (.tup [eS_ringref3_Node v_r419.1, (eL (eI .i64)) v_r419.2.1, (eI .i64) v_r419.2.2]), .c]) (ts := []) (s := [1, 26]) (l := [2, 3, 4, 5, 14, 15, 16, 18, 19, 20]) (by kernel_rfl) (by kernel_rfl) (.cons (nf h486) (.cons (G_ringlaw3_node_ok n v_n1 _ h495) (.cons (G_ringref3_Cut_ok n v_r418 v_size2 _ h496) (.cons (show 0 + 8 ≤ 8 by decide) .nil)))) (G_ringlaw3_OrphanCuts_C4_ok hF (.s (cR (cR (cF (cR (cL (cR (cR (cR (cR (cR (cR (bodyOf Try.f6)))))))))))) :: ks) n v_l3 v_held4 v_entries5 v_many6 v_r294 v_r419 _ h505 ?_)
    cases v_o427 with
    | x0 v_z428 =>
      try dsimp only at h
      by_cases h506 : v_z428 = true
      · rw [if_pos h506] at h
        cases h
        exact pkk_sound TTok mix hF 4 (hs := [.t true]) (ts := []) (s := []) (l := [12]) (by kernel_rfl) (by kernel_rfl) (.cons h506 .nil) q
      · rw [if_neg h506] at h
        cases h
        exact pkk_sound TTok mix hF 2 (hs := [.t false]) (ts := []) (s := []) (l := [2, 3, 4, 5]) (by kernel_rfl) (by kernel_rfl) (.cons (vf h506) .nil) q
  · rw [if_neg h486] at h
    obtain ⟨v_o415, h493, h⟩ := bind_some h
    refine pkk_sound TTok mix hF 2 (hs := [.t true]) (ts := []) (s := [1]) (l := [2, 3, 4, 5, 14, 15, 16]) (by kernel_rfl) (by kernel_rfl) (.cons (nt h486) .nil) (G_ringlaw3_OrphanCuts_C3_ok hF (.s (cR (cT (cR (cL (cR (cR (cR (cR (cR (cR (bodyOf Try.f6))))))))))) :: ks) n v_l3 v_held4 v_entries5 v_many6 v_r294 _ h493 ?_)
    cases v_o415 with
    | x0 v_z416 =>
      try dsimp only at h
      by_cases h494 : v_z416 = true
      · rw [if_pos h494] at h
        cases h
        exact pkk_sound TTok mix hF 4 (hs := [.t true]) (ts := []) (s := []) (l := [12]) (by kernel_rfl) (by kernel_rfl) (.cons h494 .nil) q
      · rw [if_neg h494] at h
        cases h
        exact pkk_sound TTok mix hF 2 (hs := [.t false]) (ts := []) (s := []) (l := [2, 3, 4, 5]) (by kernel_rfl) (by kernel_rfl) (.cons (vf h494) .nil) q
inductive G_ringlaw3_OrphanCuts_C6_R where
  | x0 (v_x462 : Bool) (v_w463 : (List Int))
def G_ringlaw3_OrphanCuts_C6_ex : G_ringlaw3_OrphanCuts_C6_R → Ex
  | .x0 _ _ => .normal
def G_ringlaw3_OrphanCuts_C6_st (v_l3 : (List S_inode_Node)) (v_held4 : (List Int)) (v_entries5 : (List S_api_Entry)) (v_many6 : Int) (v_x432 : Int) (v_w433 : (List Int)) (v_y459 : S_inode_Node) : G_ringlaw3_OrphanCuts_C6_R → PS
  | .x0 v_x462 v_w463 => ⟨[dd, dd, .d (.sl (v_l3.map eS_inode_Node)), .d (.sl (v_held4.map (eI .i64))), .d (.sl (v_entries5.map eS_api_Entry)), .d (.v (.int .i64 v_many6)), dd, dd, dd, dd, dd, dd, dd, dd, dd, dd, dd, dd, dd, dd, dd, .srf 0, .d (.v (.int .i64 v_x432)), dd, dd, dd, dd, dd, dd, dd, dd, dd, dd, dd, dd, dd, dd, dd, dd, dd, dd, dd, dd, dd, dd, dd, dd, dd, dd, dd, dd, dd, dd, dd, dd, dd, dd, dd, dd, dd, dd, dd, dd, dd, dd, dd, dd, dd, dd, dd, dd, dd, dd, dd, dd, dd, dd, dd, dd, dd, dd, dd, dd, dd, dd, dd, dd, dd, dd, dd, dd, dd, dd, dd, dd, dd, dd, dd, dd, dd, dd, dd, dd, dd, dd, dd, dd, dd, dd, dd, dd, .d (.sl (v_l3.map eS_inode_Node)), .d (.v (.int .i64 (v_l3.length : Int))), .d (.v (.int .i64 v_x432)), dd, dd, dd, dd, dd, dd, dd, dd, dd, dd, dd, dd, dd, dd, dd, dd, dd, dd, .d (.v (.bool v_x462)), dd, dd, dd, dd, dd, dd, dd, dd, dd, dd, dd, dd, dd, dd, dd, dd, dd, dd, dd, dd, dd, dd, dd, dd, dd, dd, dd, dd, dd, dd, dd, dd, dd, dd, dd, dd, dd, dd, dd, dd, dd, dd, dd, dd, dd, dd, dd], [.row 3 1 (v_w463.map (eI .i64))]⟩
def G_ringlaw3_OrphanCuts_C6_hd (v_l3 : (List S_inode_Node)) (v_held4 : (List Int)) (v_entries5 : (List S_api_Entry)) (v_many6 : Int) (v_x432 : Int) (v_w433 : (List Int)) (v_y459 : S_inode_Node)  : PS := ⟨[dd, dd, .d (.sl (v_l3.map eS_inode_Node)), .d (.sl (v_held4.map (eI .i64))), .d (.sl (v_entries5.map eS_api_Entry)), .d (.v (.int .i64 v_many6)), dd, dd, dd, dd, dd, dd, dd, dd, dd, dd, dd, dd, dd, dd, dd, .srf 0, .d (.v (.int .i64 v_x432)), .ref 1 0, dd, dd, dd, dd, dd, dd, dd, dd, dd, dd, dd, dd, dd, dd, dd, dd, dd, dd, dd, dd, dd, dd, dd, dd, dd, dd, dd, dd, dd, dd, dd, dd, dd, dd, dd, dd, dd, dd, dd, dd, dd, dd, dd, dd, dd, dd, dd, dd, dd, dd, dd, dd, dd, dd, dd, dd, dd, dd, dd, dd, dd, dd, dd, dd, dd, dd, dd, dd, dd, dd, dd, dd, dd, dd, dd, dd, dd, dd, dd, dd, dd, dd, dd, dd, dd, dd, dd, .d (.sl (v_l3.map eS_inode_Node)), .d (.v (.int .i64 (v_l3.length : Int))), .d (.v (.int .i64 v_x432)), dd, dd, dd, dd, dd, dd, dd, dd, dd, dd, dd, dd, dd, dd, dd, dd, dd, dd, dd, dd, dd, dd, dd, dd, dd, dd, dd, dd, dd, dd, dd, dd, dd, dd, dd, dd, dd, dd, dd, dd, dd, dd, dd, dd, dd, dd, dd, dd, dd, dd, dd, dd, dd, dd, dd, dd, dd, dd, dd, dd, dd, dd, dd, dd, dd, dd], [.row 3 1 (v_w433.map (eI .i64)), .box [.d (.v (.int .i64 v_y459.fKind)), .d (.v (.int .i64 v_y459.fMode)), .d (.v (.int .i64 v_y459.fUser)), .d (.v (.int .i64 v_y459.fGroup)), .d (.v (.int .i64 v_y459.fSize)), .d (.v (.int .i64 v_y459.fLinks)), .d (.v (.int .i64 v_y459.fUp)), .d (.sl (v_y459.fPoints.map (eI .i64)))]]⟩
def G_ringlaw3_OrphanCuts_C6 (n : Nat) (v_l3 : (List S_inode_Node)) (v_held4 : (List Int)) (v_entries5 : (List S_api_Entry)) (v_many6 : Int) (v_x432 : Int) (v_w433 : (List Int)) (v_y459 : S_inode_Node) : Option G_ringlaw3_OrphanCuts_C6_R :=
  if v_y459.fKind = 0 then
   some (.x0 false v_w433)
  else
   if v_y459.fLinks = 0 then
    (G_slices_Contains_int_int n v_held4 (wi .i64 (v_x432 + 1))).bind fun (v_r461 : (Bool)) =>
    some (.x0 (!v_r461) v_w433)
   else
    some (.x0 false v_w433)
theorem G_ringlaw3_OrphanCuts_C6_ok {Fi : Ex → PS → Prop} (hF : KC 180 Fi) (ks : List Fr) (n : Nat) (v_l3 : (List S_inode_Node)) (v_held4 : (List Int)) (v_entries5 : (List S_api_Entry)) (v_many6 : Int) (v_x432 : Int) (v_w433 : (List Int)) (v_y459 : S_inode_Node)  (o : G_ringlaw3_OrphanCuts_C6_R) (h : G_ringlaw3_OrphanCuts_C6 n v_l3 v_held4 v_entries5 v_many6 v_x432 v_w433 v_y459 = some o) (q : RunE Try.prog 180 Fi ks (G_ringlaw3_OrphanCuts_C6_ex o) (G_ringlaw3_OrphanCuts_C6_st v_l3 v_held4 v_entries5 v_many6 v_x432 v_w433 v_y459 o)) : RunE Try.prog 180 Fi (.s (cL (cR (cB (cL (cR (cR (cP (cB (cR (cL (cR (cR (cR (cR (cR (cR (cR (cR (bodyOf Try.f6))))))))))))))))))) :: ks) .normal (G_ringlaw3_OrphanCuts_C6_hd v_l3 v_held4 v_entries5 v_many6 v_x432 v_w433 v_y459) := by
  unfold G_ringlaw3_OrphanCuts_C6 at h
  by_cases h532 : v_y459.fKind = 0
  · rw [if_pos h532] at h
    cases h
    exact pkk_sound TTok mix hF 1 (hs := [.c, .t false, .c, .c, .c, .c, .c, .c, .c]) (ts := []) (s := [0]) (l := [2, 3, 4, 5, 21, 22, 111, 112, 113, 132]) (by kernel_rfl) (by kernel_rfl) (.cons (nf h532) .nil) q
  · rw [if_neg h532] at h
    by_cases h533 : v_y459.fLinks = 0
    · rw [if_pos h533] at h
      obtain ⟨v_r461, h534, h⟩ := bind_some h
      cases h
      exact pkk_sound TTok mix hF 1 (hs := [.c, .t true, .c, .c, .c, .t true, .c, .c, .c, .r (eB v_r461), .c]) (ts := []) (s := [0]) (l := [2, 3, 4, 5, 21, 22, 111, 112, 113, 132]) (by kernel_rfl) (by kernel_rfl) (.cons (nt h532) (.cons (bt h533) (.cons (G_slices_Contains_int_int_ok n v_held4 (wi .i64 (v_x432 + 1)) _ h534) .nil))) q
    · rw [if_neg h533] at h
      cases h
      exact pkk_sound TTok mix hF 1 (hs := [.c, .t true, .c, .c, .c, .t false, .c, .c, .c, .c]) (ts := []) (s := [0]) (l := [2, 3, 4, 5, 21, 22, 111, 112, 113, 132]) (by kernel_rfl) (by kernel_rfl) (.cons (nt h532) (.cons (bf h533) .nil)) q
inductive G_ringlaw3_OrphanCuts_L7_R where
  | x0 (v_w473 : (List Int))
def G_ringlaw3_OrphanCuts_L7_ex : G_ringlaw3_OrphanCuts_L7_R → Ex
  | .x0 _ => .exit 1
def G_ringlaw3_OrphanCuts_L7_st (v_l3 : (List S_inode_Node)) (v_held4 : (List Int)) (v_entries5 : (List S_api_Entry)) (v_many6 : Int) : G_ringlaw3_OrphanCuts_L7_R → PS
  | .x0 v_w473 => ⟨[dd, dd, .d (.sl (v_l3.map eS_inode_Node)), .d (.sl (v_held4.map (eI .i64))), .d (.sl (v_entries5.map eS_api_Entry)), .d (.v (.int .i64 v_many6)), dd, dd, dd, dd, dd, dd, dd, dd, dd, dd, dd, dd, dd, dd, dd, .srf 0, dd, dd, dd, dd, dd, dd, dd, dd, dd, dd, dd, dd, dd, dd, dd, dd, dd, dd, dd, dd, dd, dd, dd, dd, dd, dd, dd, dd, dd, dd, dd, dd, dd, dd, dd, dd, dd, dd, dd, dd, dd, dd, dd, dd, dd, dd, dd, dd, dd, dd, dd, dd, dd, dd, dd, dd, dd, dd, dd, dd, dd, dd, dd, dd, dd, dd, dd, dd, dd, dd, dd, dd, dd, dd, dd, dd, dd, dd, dd, dd, dd, dd, dd, dd, dd, dd, dd, dd, dd, dd, dd, dd, dd, dd, dd, dd, dd, dd, dd, dd, dd, dd, dd, dd, dd, dd, dd, dd, dd, dd, dd, dd, dd, dd, dd, dd, dd, dd, dd, dd, dd, dd, dd, dd, dd, dd, dd, dd, dd, dd, dd, dd, dd, dd, dd, dd, dd, dd, dd, dd, dd, dd, dd, dd, dd, dd, dd, dd, dd, dd, dd, dd, dd, dd, dd, dd, dd, dd], [.row 3 1 (v_w473.map (eI .i64))]⟩
def G_ringlaw3_OrphanCuts_L7_hd (v_l3 : (List S_inode_Node)) (v_held4 : (List Int)) (v_entries5 : (List S_api_Entry)) (v_many6 : Int) (v_x432 : Int) (v_w433 : (List Int)) : PS := ⟨[dd, dd, .d (.sl (v_l3.map eS_inode_Node)), .d (.sl (v_held4.map (eI .i64))), .d (.sl (v_entries5.map eS_api_Entry)), .d (.v (.int .i64 v_many6)), dd, dd, dd, dd, dd, dd, dd, dd, dd, dd, dd, dd, dd, dd, dd, .srf 0, dd, dd, dd, dd, dd, dd, dd, dd, dd, dd, dd, dd, dd, dd, dd, dd, dd, dd, dd, dd, dd, dd, dd, dd, dd, dd, dd, dd, dd, dd, dd, dd, dd, dd, dd, dd, dd, dd, dd, dd, dd, dd, dd, dd, dd, dd, dd, dd, dd, dd, dd, dd, dd, dd, dd, dd, dd, dd, dd, dd, dd, dd, dd, dd, dd, dd, dd, dd, dd, dd, dd, dd, dd, dd, dd, dd, dd, dd, dd, dd, dd, dd, dd, dd, dd, dd, dd, dd, dd, .d (.sl (v_l3.map eS_inode_Node)), .d (.v (.int .i64 (v_l3.length : Int))), .d (.v (.int .i64 v_x432)), dd, dd, dd, dd, dd, dd, dd, dd, dd, dd, dd, dd, dd, dd, dd, dd, dd, dd, dd, dd, dd, dd, dd, dd, dd, dd, dd, dd, dd, dd, dd, dd, dd, dd, dd, dd, dd, dd, dd, dd, dd, dd, dd, dd, dd, dd, dd, dd, dd, dd, dd, dd, dd, dd, dd, dd, dd, dd, dd, dd, dd, dd, dd, dd, dd, dd], [.row 3 1 (v_w433.map (eI .i64))]⟩
def G_ringlaw3_OrphanCuts_L7 (n : Nat) (v_l3 : (List S_inode_Node)) (v_held4 : (List Int)) (v_entries5 : (List S_api_Entry)) (v_many6 : Int) : Nat → Int → (List Int) → Option G_ringlaw3_OrphanCuts_L7_R
  | 0, _, _ => none
  | k + 1, v_x432, v_w433 =>
    if v_x432 < (v_l3.length : Int) then
     (getI v_l3 v_x432).bind fun (v_y459 : S_inode_Node) =>
     (G_ringlaw3_OrphanCuts_C6 n v_l3 v_held4 v_entries5 v_many6 v_x432 v_w433 v_y459).bind fun v_o468 => match v_o468 with
     | .x0 v_z469 v_z470 =>
       if v_z469 = true then
        (app 8 v_z470 ([(wi .i64 (v_x432 + 1))])).bind fun (v_a472 : (List Int)) =>
        G_ringlaw3_OrphanCuts_L7 n v_l3 v_held4 v_entries5 v_many6 k (wi .i64 (v_x432 + 1)) v_a472
       else
        G_ringlaw3_OrphanCuts_L7 n v_l3 v_held4 v_entries5 v_many6 k (wi .i64 (v_x432 + 1)) v_z470
    else
     some (.x0 v_w433)
theorem G_ringlaw3_OrphanCuts_L7_ok {Fi : Ex → PS → Prop} (hF : KC 180 Fi) (ks : List Fr) (n : Nat) (v_l3 : (List S_inode_Node)) (v_held4 : (List Int)) (v_entries5 : (List S_api_Entry)) (v_many6 : Int)  : ∀ (k : Nat) (v_x432 : Int) (v_w433 : (List Int)) (o : G_ringlaw3_OrphanCuts_L7_R), G_ringlaw3_OrphanCuts_L7 n v_l3 v_held4 v_entries5 v_many6 k v_x432 v_w433 = some o → RunE Try.prog 180 Fi ks (G_ringlaw3_OrphanCuts_L7_ex o) (G_ringlaw3_OrphanCuts_L7_st v_l3 v_held4 v_entries5 v_many6 o) → RunE Try.prog 180 Fi (.l k (cP (cB (cR (cL (cR (cR (cR (cR (cR (cR (cR (cR (bodyOf Try.f6))))))))))))) :: ks) .normal (G_ringlaw3_OrphanCuts_L7_hd v_l3 v_held4 v_entries5 v_many6 v_x432 v_w433)
  | 0, v_x432, v_w433, o, h, q => by rw [G_ringlaw3_OrphanCuts_L7] at h; cases h
  | k + 1, v_x432, v_w433, o, h, q => by
    rw [G_ringlaw3_OrphanCuts_L7] at h
    by_cases h508 : v_x432 < (v_l3.length : Int)
    · rw [if_pos h508] at h
      obtain ⟨v_y459, h528, h⟩ := bind_some h
      obtain ⟨v_o468, h535, h⟩ := bind_some h
      refine pkk_sound TTok mix hF 11 (hs := [.t true, .y (eS_inode_Node v_y459), .c]) (ts := []) (s := [0, 13]) (l := [2, 3, 4, 5, 21, 22, 23, 111, 112, 113]) (by kernel_rfl) (by kernel_rfl) (.cons (dt h508) (.cons (getI_ob (f := eS_inode_Node) h528) (.cons (show 0 + 8 ≤ 8 by decide) .nil))) (G_ringlaw3_OrphanCuts_C6_ok hF (.s (cR (cR (cB (cL (cR (cR (cP (cB (cR (cL (cR (cR (cR (cR (cR (cR (cR (cR (bodyOf Try.f6))))))))))))))))))) :: .b 2 :: .s (cR (cR (cR (cP (cB (cR (cL (cR (cR (cR (cR (cR (cR (cR (cR (bodyOf Try.f6)))))))))))))))) :: .l k (cP (cB (cR (cL (cR (cR (cR (cR (cR (cR (cR (cR (bodyOf Try.f6))))))))))))) :: ks) n v_l3 v_held4 v_entries5 v_many6 v_x432 v_w433 v_y459 _ h535 ?_)
      cases v_o468 with
      | x0 v_z469 v_z470 =>
        try dsimp only at h
        by_cases h538 : v_z469 = true
        · rw [if_pos h538] at h
          obtain ⟨v_a472, h539, h⟩ := bind_some h
          exact pkk_sound TTok mix hF 4 (hs := [.t true, .bd, .w (v_a472.map (eI .i64))]) (ts := []) (s := [13]) (l := [2, 3, 4, 5, 21, 111, 112, 113]) (by kernel_rfl) (by kernel_rfl) (.cons h538 (.cons (app_ob (f := (eI .i64)) (s := 1) h539 (fun _ => rfl)).1 (.cons (app_ob (f := (eI .i64)) (s := 1) h539 (fun _ => rfl)).2.1 (.cons (app_ob (f := (eI .i64)) (s := 1) h539 (fun _ => rfl)).2.2.1 (.cons (app_ob (f := (eI .i64)) (s := 1) h539 (fun _ => rfl)).2.2.2 .nil))))) (G_ringlaw3_OrphanCuts_L7_ok hF ks n v_l3 v_held4 v_entries5 v_many6 k (wi .i64 (v_x432 + 1)) v_a472 _ h q)
        · rw [if_neg h538] at h
          exact pkk_sound TTok mix hF 4 (hs := [.t false]) (ts := []) (s := [0]) (l := [2, 3, 4, 5, 21, 111, 112, 113]) (by kernel_rfl) (by kernel_rfl) (.cons (vf h538) .nil) (G_ringlaw3_OrphanCuts_L7_ok hF ks n v_l3 v_held4 v_entries5 v_many6 k (wi .i64 (v_x432 + 1)) v_z470 _ h q)
    · rw [if_neg h508] at h
      cases h
      exact pkk_sound TTok mix hF 8 (hs := [.t false]) (ts := []) (s := [0]) (l := [2, 3, 4, 5, 21]) (by kernel_rfl) (by kernel_rfl) (.cons (df h508) .nil) q
inductive G_ringlaw3_OrphanCuts_C8_R where
  | x0 (v_w490 : (List Int)) (v_w491 : (List Int))
def G_ringlaw3_OrphanCuts_C8_ex : G_ringlaw3_OrphanCuts_C8_R → Ex
  | .x0 _ _ => .normal
def G_ringlaw3_OrphanCuts_C8_st (v_l3 : (List S_inode_Node)) (v_held4 : (List Int)) (v_entries5 : (List S_api_Entry)) (v_many6 : Int) (v_x477 : Int) (v_w478 : (List Int)) (v_w479 : (List Int)) : G_ringlaw3_OrphanCuts_C8_R → PS
  | .x0 v_w490 v_w491 => ⟨[dd, dd, .d (.sl (v_l3.map eS_inode_Node)), .d (.sl (v_held4.map (eI .i64))), .d (.sl (v_entries5.map eS_api_Entry)), .d (.v (.int .i64 v_many6)), dd, dd, dd, dd, dd, dd, dd, dd, dd, dd, dd, dd, dd, dd, dd, .srf 0, dd, dd, .srf 1, dd, dd, dd, dd, dd, dd, dd, dd, dd, dd, dd, dd, dd, dd, dd, dd, dd, dd, dd, dd, dd, dd, dd, dd, dd, dd, dd, dd, dd, dd, dd, dd, dd, dd, dd, dd, dd, dd, dd, dd, dd, dd, dd, dd, dd, dd, dd, dd, dd, dd, dd, dd, dd, dd, dd, dd, dd, dd, dd, dd, dd, dd, dd, dd, dd, dd, dd, dd, dd, dd, dd, dd, dd, dd, dd, dd, dd, dd, dd, dd, dd, dd, dd, dd, dd, dd, dd, dd, dd, dd, dd, dd, dd, dd, dd, dd, dd, dd, dd, dd, dd, dd, dd, dd, dd, dd, dd, dd, dd, dd, dd, dd, dd, dd, dd, dd, dd, dd, .d (.sl (v_entries5.map eS_api_Entry)), .d (.v (.int .i64 (v_entries5.length : Int))), .d (.v (.int .i64 v_x477)), dd, dd, dd, dd, dd, dd, dd, dd, dd, dd, dd, dd, dd, dd, dd, dd, dd, dd, dd, dd, dd, dd, dd, dd, dd, dd, dd, dd, dd, dd, dd, dd, dd, dd], [.row 3 1 (v_w490.map (eI .i64)), .row 3 1 (v_w491.map (eI .i64))]⟩
def G_ringlaw3_OrphanCuts_C8_hd (v_l3 : (List S_inode_Node)) (v_held4 : (List Int)) (v_entries5 : (List S_api_Entry)) (v_many6 : Int) (v_x477 : Int) (v_w478 : (List Int)) (v_w479 : (List Int))  : PS := ⟨[dd, dd, .d (.sl (v_l3.map eS_inode_Node)), .d (.sl (v_held4.map (eI .i64))), .d (.sl (v_entries5.map eS_api_Entry)), .d (.v (.int .i64 v_many6)), dd, dd, dd, dd, dd, dd, dd, dd, dd, dd, dd, dd, dd, dd, dd, .srf 0, dd, dd, .srf 1, dd, dd, dd, dd, dd, dd, dd, dd, dd, dd, dd, dd, dd, dd, dd, dd, dd, dd, dd, dd, dd, dd, dd, dd, dd, dd, dd, dd, dd, dd, dd, dd, dd, dd, dd, dd, dd, dd, dd, dd, dd, dd, dd, dd, dd, dd, dd, dd, dd, dd, dd, dd, dd, dd, dd, dd, dd, dd, dd, dd, dd, dd, dd, dd, dd, dd, dd, dd, dd, dd, dd, dd, dd, dd, dd, dd, dd, dd, dd, dd, dd, dd, dd, dd, dd, dd, dd, dd, dd, dd, dd, dd, dd, dd, dd, dd, dd, dd, dd, dd, dd, dd, dd, dd, dd, dd, dd, dd, dd, dd, dd, dd, dd, dd, dd, dd, dd, dd, .d (.sl (v_entries5.map eS_api_Entry)), .d (.v (.int .i64 (v_entries5.length : Int))), .d (.v (.int .i64 v_x477)), dd, dd, dd, dd, dd, dd, dd, dd, dd, dd, dd, dd, dd, dd, dd, dd, dd, dd, dd, dd, dd, dd, dd, dd, dd, dd, dd, dd, dd, dd, dd, dd, dd, dd], [.row 3 1 (v_w478.map (eI .i64)), .row 3 1 (v_w479.map (eI .i64))]⟩
def G_ringlaw3_OrphanCuts_C8 (n : Nat) (v_l3 : (List S_inode_Node)) (v_held4 : (List Int)) (v_entries5 : (List S_api_Entry)) (v_many6 : Int) (v_x477 : Int) (v_w478 : (List Int)) (v_w479 : (List Int)) : Option G_ringlaw3_OrphanCuts_C8_R :=
  (getI v_entries5 v_x477).bind fun (v_y485 : S_api_Entry) =>
  if v_y485.fIno > 0 then
   if v_y485.fIno ≤ (v_w479.length : Int) then
    if 0 ≤ (wi .i64 (v_y485.fIno - 1)) ∧ ((wi .i64 (v_y485.fIno - 1))).toNat < v_w479.length then
     (v_w479[((wi .i64 (v_y485.fIno - 1))).toNat]?).bind fun (v_y488 : Int) =>
     if 0 ≤ (wi .i64 (v_y485.fIno - 1)) ∧ ((wi .i64 (v_y485.fIno - 1))).toNat < v_w479.length then
      (v_w479[((wi .i64 (v_y485.fIno - 1))).toNat]?).bind fun (v_y489 : Int) =>
      some (.x0 v_w478 (v_w479.set ((wi .i64 (v_y485.fIno - 1))).toNat (wi .i64 (v_y488 + 1))))
     else none
    else none
   else
    some (.x0 v_w478 v_w479)
  else
   some (.x0 v_w478 v_w479)
theorem G_ringlaw3_OrphanCuts_C8_ok {Fi : Ex → PS → Prop} (hF : KC 180 Fi) (ks : List Fr) (n : Nat) (v_l3 : (List S_inode_Node)) (v_held4 : (List Int)) (v_entries5 : (List S_api_Entry)) (v_many6 : Int) (v_x477 : Int) (v_w478 : (List Int)) (v_w479 : (List Int))  (o : G_ringlaw3_OrphanCuts_C8_R) (h : G_ringlaw3_OrphanCuts_C8 n v_l3 v_held4 v_entries5 v_many6 v_x477 v_w478 v_w479 = some o) (q : RunE Try.prog 180 Fi ks (G_ringlaw3_OrphanCuts_C8_ex o) (G_ringlaw3_OrphanCuts_C8_st v_l3 v_held4 v_entries5 v_many6 v_x477 v_w478 v_w479 o)) : RunE Try.prog 180 Fi (.s (cL (cR (cR (cP (cB (cR (cL (cR (cR (cR (cR (cR (cR (cR (cR (cR (cR (bodyOf Try.f6)))))))))))))))))) :: ks) .normal (G_ringlaw3_OrphanCuts_C8_hd v_l3 v_held4 v_entries5 v_many6 v_x477 v_w478 v_w479) := by
  unfold G_ringlaw3_OrphanCuts_C8 at h
  obtain ⟨v_y485, h556, h⟩ := bind_some h
  by_cases h558 : v_y485.fIno > 0
  · rw [if_pos h558] at h
    by_cases h564 : v_y485.fIno ≤ (v_w479.length : Int)
    · rw [if_pos h564] at h
      by_cases h565 : 0 ≤ (wi .i64 (v_y485.fIno - 1)) ∧ ((wi .i64 (v_y485.fIno - 1))).toNat < v_w479.length
      · rw [if_pos h565] at h
        obtain ⟨v_y488, h566, h⟩ := bind_some h
        by_cases h567 : 0 ≤ (wi .i64 (v_y485.fIno - 1)) ∧ ((wi .i64 (v_y485.fIno - 1))).toNat < v_w479.length
        · rw [if_pos h567] at h
          obtain ⟨v_y489, h568, h⟩ := bind_some h
          cases h
          exact pkk_sound TTok mix hF 8 (hs := [.y (eS_api_Entry v_y485), .c, .c, .t true, .c, .c, .c, .c, .u (.d (.v (.int .i64 (v_w479.length : Int)))), .c, .t true, .c, .y ((eI .i64) v_y488), .w ((v_w479.set ((wi .i64 (v_y485.fIno - 1))).toNat (wi .i64 (v_y488 + 1))).map (eI .i64)), .y ((eI .i64) v_y489)]) (ts := []) (s := [0, 1]) (l := [2, 3, 4, 5, 21, 24, 143, 144, 145]) (by kernel_rfl) (by kernel_rfl) (.cons (getI_ob (f := eS_api_Entry) h556) (.cons (show 0 + 2 ≤ 2 by decide) (.cons (dt h558) (.cons (len_ob (f := (eI .i64)) (l := v_w479)) (.cons (dt h564) (.cons (idx_ob (f := (eI .i64)) h565) (.cons (get_ob (f := (eI .i64)) h566) (.cons (idx_ob (f := (eI .i64)) h567) (.cons (get_ob (f := (eI .i64)) h568) (.cons (Eq.refl (pcells (.v (.int .i64 (wi .i64 (v_y488 + 1)))))) (.cons (set_ob (f := (eI .i64)) (l := v_w479) (k := ((wi .i64 (v_y485.fIno - 1))).toNat) (z := (wi .i64 (v_y488 + 1))) (p := .v (.int .i64 (wi .i64 (v_y488 + 1)))) rfl) .nil))))))))))) q
        · rw [if_neg h567] at h; cases h
      · rw [if_neg h565] at h; cases h
    · rw [if_neg h564] at h
      cases h
      exact pkk_sound TTok mix hF 8 (hs := [.y (eS_api_Entry v_y485), .c, .c, .t true, .c, .c, .c, .c, .u (.d (.v (.int .i64 (v_w479.length : Int)))), .c, .t false]) (ts := []) (s := [0, 1]) (l := [2, 3, 4, 5, 21, 24, 143, 144, 145]) (by kernel_rfl) (by kernel_rfl) (.cons (getI_ob (f := eS_api_Entry) h556) (.cons (show 0 + 2 ≤ 2 by decide) (.cons (dt h558) (.cons (len_ob (f := (eI .i64)) (l := v_w479)) (.cons (df h564) .nil))))) q
  · rw [if_neg h558] at h
    cases h
    exact pkk_sound TTok mix hF 8 (hs := [.y (eS_api_Entry v_y485), .c, .c, .t false, .c, .c, .c, .c, .c]) (ts := []) (s := [0, 1]) (l := [2, 3, 4, 5, 21, 24, 143, 144, 145]) (by kernel_rfl) (by kernel_rfl) (.cons (getI_ob (f := eS_api_Entry) h556) (.cons (show 0 + 2 ≤ 2 by decide) (.cons (df h558) .nil))) q
inductive G_ringlaw3_OrphanCuts_L9_R where
  | x0 (v_w499 : (List Int)) (v_w500 : (List Int))
def G_ringlaw3_OrphanCuts_L9_ex : G_ringlaw3_OrphanCuts_L9_R → Ex
  | .x0 _ _ => .exit 3
def G_ringlaw3_OrphanCuts_L9_st (v_l3 : (List S_inode_Node)) (v_held4 : (List Int)) (v_entries5 : (List S_api_Entry)) (v_many6 : Int) : G_ringlaw3_OrphanCuts_L9_R → PS
  | .x0 v_w499 v_w500 => ⟨[dd, dd, .d (.sl (v_l3.map eS_inode_Node)), .d (.sl (v_held4.map (eI .i64))), .d (.sl (v_entries5.map eS_api_Entry)), .d (.v (.int .i64 v_many6)), dd, dd, dd, dd, dd, dd, dd, dd, dd, dd, dd, dd, dd, dd, dd, .srf 0, dd, dd, .srf 1, dd, dd, dd, dd, dd, dd, dd, dd, dd, dd, dd, dd, dd, dd, dd, dd, dd, dd, dd, dd, dd, dd, dd, dd, dd, dd, dd, dd, dd, dd, dd, dd, dd, dd, dd, dd, dd, dd, dd, dd, dd, dd, dd, dd, dd, dd, dd, dd, dd, dd, dd, dd, dd, dd, dd, dd, dd, dd, dd, dd, dd, dd, dd, dd, dd, dd, dd, dd, dd, dd, dd, dd, dd, dd, dd, dd, dd, dd, dd, dd, dd, dd, dd, dd, dd, dd, dd, dd, dd, dd, dd, dd, dd, dd, dd, dd, dd, dd, dd, dd, dd, dd, dd, dd, dd, dd, dd, dd, dd, dd, dd, dd, dd, dd, dd, dd, dd, dd, dd, dd, dd, dd, dd, dd, dd, dd, dd, dd, dd, dd, dd, dd, dd, dd, dd, dd, dd, dd, dd, dd, dd, dd, dd, dd, dd, dd, dd, dd, dd, dd, dd, dd, dd, dd, dd], [.row 3 1 (v_w499.map (eI .i64)), .row 3 1 (v_w500.map (eI .i64))]⟩
def G_ringlaw3_OrphanCuts_L9_hd (v_l3 : (List S_inode_Node)) (v_held4 : (List Int)) (v_entries5 : (List S_api_Entry)) (v_many6 : Int) (v_x477 : Int) (v_w478 : (List Int)) (v_w479 : (List Int)) : PS := ⟨[dd, dd, .d (.sl (v_l3.map eS_inode_Node)), .d (.sl (v_held4.map (eI .i64))), .d (.sl (v_entries5.map eS_api_Entry)), .d (.v (.int .i64 v_many6)), dd, dd, dd, dd, dd, dd, dd, dd, dd, dd, dd, dd, dd, dd, dd, .srf 0, dd, dd, .srf 1, dd, dd, dd, dd, dd, dd, dd, dd, dd, dd, dd, dd, dd, dd, dd, dd, dd, dd, dd, dd, dd, dd, dd, dd, dd, dd, dd, dd, dd, dd, dd, dd, dd, dd, dd, dd, dd, dd, dd, dd, dd, dd, dd, dd, dd, dd, dd, dd, dd, dd, dd, dd, dd, dd, dd, dd, dd, dd, dd, dd, dd, dd, dd, dd, dd, dd, dd, dd, dd, dd, dd, dd, dd, dd, dd, dd, dd, dd, dd, dd, dd, dd, dd, dd, dd, dd, dd, dd, dd, dd, dd, dd, dd, dd, dd, dd, dd, dd, dd, dd, dd, dd, dd, dd, dd, dd, dd, dd, dd, dd, dd, dd, dd, dd, dd, dd, dd, dd, .d (.sl (v_entries5.map eS_api_Entry)), .d (.v (.int .i64 (v_entries5.length : Int))), .d (.v (.int .i64 v_x477)), dd, dd, dd, dd, dd, dd, dd, dd, dd, dd, dd, dd, dd, dd, dd, dd, dd, dd, dd, dd, dd, dd, dd, dd, dd, dd, dd, dd, dd, dd, dd, dd, dd, dd], [.row 3 1 (v_w478.map (eI .i64)), .row 3 1 (v_w479.map (eI .i64))]⟩
def G_ringlaw3_OrphanCuts_L9 (n : Nat) (v_l3 : (List S_inode_Node)) (v_held4 : (List Int)) (v_entries5 : (List S_api_Entry)) (v_many6 : Int) : Nat → Int → (List Int) → (List Int) → Option G_ringlaw3_OrphanCuts_L9_R
  | 0, _, _, _ => none
  | k + 1, v_x477, v_w478, v_w479 =>
    if v_x477 < (v_entries5.length : Int) then
     (G_ringlaw3_OrphanCuts_C8 n v_l3 v_held4 v_entries5 v_many6 v_x477 v_w478 v_w479).bind fun v_o496 => match v_o496 with
     | .x0 v_z497 v_z498 =>
       G_ringlaw3_OrphanCuts_L9 n v_l3 v_held4 v_entries5 v_many6 k (wi .i64 (v_x477 + 1)) v_z497 v_z498
    else
     some (.x0 v_w478 v_w479)
theorem G_ringlaw3_OrphanCuts_L9_ok {Fi : Ex → PS → Prop} (hF : KC 180 Fi) (ks : List Fr) (n : Nat) (v_l3 : (List S_inode_Node)) (v_held4 : (List Int)) (v_entries5 : (List S_api_Entry)) (v_many6 : Int)  : ∀ (k : Nat) (v_x477 : Int) (v_w478 : (List Int)) (v_w479 : (List Int)) (o : G_ringlaw3_OrphanCuts_L9_R), G_ringlaw3_OrphanCuts_L9 n v_l3 v_held4 v_entries5 v_many6 k v_x477 v_w478 v_w479 = some o → RunE Try.prog 180 Fi ks (G_ringlaw3_OrphanCuts_L9_ex o) (G_ringlaw3_OrphanCuts_L9_st v_l3 v_held4 v_entries5 v_many6 o) → RunE Try.prog 180 Fi (.l k (cP (cB (cR (cL (cR (cR (cR (cR (cR (cR (cR (cR (cR (cR (bodyOf Try.f6))))))))))))))) :: ks) .normal (G_ringlaw3_OrphanCuts_L9_hd v_l3 v_held4 v_entries5 v_many6 v_x477 v_w478 v_w479)
  | 0, v_x477, v_w478, v_w479, o, h, q => by rw [G_ringlaw3_OrphanCuts_L9] at h; cases h
  | k + 1, v_x477, v_w478, v_w479, o, h, q => by
    rw [G_ringlaw3_OrphanCuts_L9] at h
    by_cases h542 : v_x477 < (v_entries5.length : Int)
    · rw [if_pos h542] at h
      obtain ⟨v_o496, h569, h⟩ := bind_some h
      refine pkk_sound TTok mix hF 7 (hs := [.t true]) (ts := []) (s := [0, 1]) (l := [2, 3, 4, 5, 21, 24, 143, 144, 145]) (by kernel_rfl) (by kernel_rfl) (.cons (dt h542) .nil) (G_ringlaw3_OrphanCuts_C8_ok hF (.s (cR (cR (cR (cP (cB (cR (cL (cR (cR (cR (cR (cR (cR (cR (cR (cR (cR (bodyOf Try.f6)))))))))))))))))) :: .l k (cP (cB (cR (cL (cR (cR (cR (cR (cR (cR (cR (cR (cR (cR (bodyOf Try.f6))))))))))))))) :: ks) n v_l3 v_held4 v_entries5 v_many6 v_x477 v_w478 v_w479 _ h569 ?_)
      cases v_o496 with
      | x0 v_z497 v_z498 =>
        try dsimp only at h
        exact pkk_sound TTok mix hF 1 (hs := []) (ts := []) (s := [0, 1]) (l := [2, 3, 4, 5, 21, 24, 143, 144, 145]) (by kernel_rfl) (by kernel_rfl) .nil (G_ringlaw3_OrphanCuts_L9_ok hF ks n v_l3 v_held4 v_entries5 v_many6 k (wi .i64 (v_x477 + 1)) v_z497 v_z498 _ h q)
    · rw [if_neg h542] at h
      cases h
      exact pkk_sound TTok mix hF 8 (hs := [.t false]) (ts := []) (s := [0, 1]) (l := [2, 3, 4, 5, 21, 24]) (by kernel_rfl) (by kernel_rfl) (.cons (df h542) .nil) q
/- ringhall/ringlaw3.OrphanCuts -/
def G_ringlaw3_OrphanCuts (n : Nat) (v_n1 : S_inode_Node) (v_size2 : Int) (v_l3 : (List S_inode_Node)) (v_held4 : (List Int)) (v_entries5 : (List S_api_Entry)) (v_many6 : Int) : Option (Bool) :=
  (G_ringlaw3_OrphanCuts_C1 n v_size2 v_l3 v_held4 v_entries5 v_many6 v_n1).bind fun v_o11 => match v_o11 with
  | .x0 v_z12 =>
    if v_z12 = true then
     some true
    else
     (G_ringlaw3_node n v_n1).bind fun (v_r14 : (S_ringref3_Node)) =>
     (G_ringref3_NodeRight n v_r14).bind fun (v_r64 : (Int)) =>
     (G_ringlaw3_OrphanCuts_C2 n v_size2 v_l3 v_held4 v_entries5 v_many6 v_r64 v_n1).bind fun v_o77 => match v_o77 with
     | .x0 v_z78 =>
       (G_orphan_Cut n v_n1 v_size2).bind fun (v_r294 : (S_inode_Node × (List Int) × Int × Int)) =>
       if v_r294.2.2.2 = v_z78 then
        (G_ringlaw3_OrphanCuts_C5 n v_size2 v_l3 v_held4 v_entries5 v_many6 v_r294 v_z78 v_n1).bind fun v_o430 => match v_o430 with
        | .x0 v_z431 =>
          some v_z431
        | .x1  =>
          (G_ringlaw3_OrphanCuts_L7 n v_l3 v_held4 v_entries5 v_many6 n 0 ([] : List Int)).bind fun v_o474 => match v_o474 with
          | .x0 v_z475 =>
            (mkL 8 0 (maxI 0 (minI v_many6 32))).bind fun (v_m476 : (List Int)) =>
            (G_ringlaw3_OrphanCuts_L9 n v_l3 v_held4 v_entries5 v_many6 n 0 v_z475 v_m476).bind fun v_o501 => match v_o501 with
            | .x0 v_z502 v_z503 =>
              (G_orphan_Lost n v_l3 v_held4).bind fun (v_r566 : ((List Int))) =>
              (G_slices_Equal_int_int n v_r566 v_z502).bind fun (v_r567 : (Bool)) =>
              if v_r567 = true then
               (G_orphan_Names n v_entries5 v_many6).bind fun (v_r568 : ((List Int))) =>
               (G_slices_Equal_int_int n v_r568 v_z503).bind fun (v_r569 : (Bool)) =>
               some v_r569
              else
               some false
       else
        some false
theorem G_ringlaw3_OrphanCuts_ok (n : Nat) (v_n1 : S_inode_Node) (v_size2 : Int) (v_l3 : (List S_inode_Node)) (v_held4 : (List Int)) (v_entries5 : (List S_api_Entry)) (v_many6 : Int) (r : Bool) (h : G_ringlaw3_OrphanCuts n v_n1 v_size2 v_l3 v_held4 v_entries5 v_many6 = some r) : Ret Try.prog 6 [eS_inode_Node v_n1, (eI .i64) v_size2, (eL eS_inode_Node) v_l3, (eL (eI .i64)) v_held4, (eL eS_api_Entry) v_entries5, (eI .i64) v_many6] (eB r) := by
  refine ret_run (n := 180) (fn := Try.f6) (c := bodyOf Try.f6) (by kernel_rfl) (by kernel_rfl) (by kernel_rfl) (by kernel_rfl) ?_
  have hF : KC 180 (FinR Try.prog Try.f6 (eB r)) := FinR.kc' (by kernel_rfl)
  unfold G_ringlaw3_OrphanCuts at h
  obtain ⟨v_o11, h7, h⟩ := bind_some h
  refine pkk_sound TTok mix hF 4 (hs := []) (ts := []) (s := [0]) (l := [1, 2, 3, 4, 5, 6]) (by kernel_rfl) (by kernel_rfl) .nil (G_ringlaw3_OrphanCuts_C1_ok hF (.s (cR (cL (cR (bodyOf Try.f6)))) :: .s (cR (cR (bodyOf Try.f6))) :: []) n v_size2 v_l3 v_held4 v_entries5 v_many6 v_n1 _ h7 ?_)
  cases v_o11 with
  | x0 v_z12 =>
    try dsimp only at h
    by_cases h8 : v_z12 = true
    · rw [if_pos h8] at h
      obtain rfl := Option.some.inj h
      exact pend_sound TTok mix 5 (hs := [.t true]) (by kernel_rfl) (by kernel_rfl) (by kernel_rfl) (.cons h8 .nil)
    · rw [if_neg h8] at h
      obtain ⟨v_r14, h9, h⟩ := bind_some h
      obtain ⟨v_r64, h65, h⟩ := bind_some h
      obtain ⟨v_o77, h83, h⟩ := bind_some h
      refine pkk_sound TTok mix hF 8 (hs := [.t false, .c, .r (eS_ringref3_Node v_r14), .r ((eI .i64) v_r64)]) (ts := []) (s := [0]) (l := [1, 2, 3, 4, 5, 6, 13, 49]) (by kernel_rfl) (by kernel_rfl) (.cons (vf h8) (.cons (G_ringlaw3_node_ok n v_n1 _ h9) (.cons (G_ringref3_NodeRight_ok n v_r14 _ h65) .nil))) (G_ringlaw3_OrphanCuts_C2_ok hF (.b 0 :: .s (cR (cR (cR (cR (bodyOf Try.f6))))) :: []) n v_size2 v_l3 v_held4 v_entries5 v_many6 v_r64 v_n1 _ h83 ?_)
      cases v_o77 with
      | x0 v_z78 =>
        try dsimp only at h
        obtain ⟨v_r294, h381, h⟩ := bind_some h
        by_cases h382 : v_r294.2.2.2 = v_z78
        · rw [if_pos h382] at h
          obtain ⟨v_o430, h507, h⟩ := bind_some h
          refine pkk_sound TTok mix hF 11 (hs := [.c, .r (.tup [eS_inode_Node v_r294.1, (eL (eI .i64)) v_r294.2.1, (eI .i64) v_r294.2.2.1, (eI .i64) v_r294.2.2.2]), .c, .t false]) (ts := []) (s := [0, 25]) (l := [1, 2, 3, 4, 5, 6, 14, 15, 16, 74]) (by kernel_rfl) (by kernel_rfl) (.cons (G_orphan_Cut_ok n v_n1 v_size2 _ h381) (.cons (show 0 + 8 ≤ 8 by decide) (.cons (nf h382) .nil))) (G_ringlaw3_OrphanCuts_C5_ok hF (.s (cR (cR (cR (cR (cR (cR (cR (bodyOf Try.f6)))))))) :: []) n v_size2 v_l3 v_held4 v_entries5 v_many6 v_r294 v_z78 v_n1 _ h507 ?_)
          cases v_o430 with
          | x0 v_z431 =>
            try dsimp only at h
            obtain rfl := Option.some.inj h
            exact pend_sound TTok mix 1 (hs := []) (by kernel_rfl) (by kernel_rfl) (by kernel_rfl) .nil
          | x1  =>
            try dsimp only at h
            obtain ⟨v_o474, h540, h⟩ := bind_some h
            refine pkk_sound TTok mix hF 7 (hs := [.u (.d (.v (.int .i64 (v_l3.length : Int)))), .n n]) (ts := [(21, 3, 1)]) (s := [12]) (l := [2, 3, 4, 5, 21, 111, 112, 113]) (by kernel_rfl) (by kernel_rfl) (.cons (len_ob (f := eS_inode_Node) (l := v_l3)) .nil) (G_ringlaw3_OrphanCuts_L7_ok hF (.b 1 :: .s (cR (cR (cR (cR (cR (cR (cR (cR (cR (bodyOf Try.f6)))))))))) :: []) n v_l3 v_held4 v_entries5 v_many6 n 0 ([] : List Int) _ h540 ?_)
            cases v_o474 with
            | x0 v_z475 =>
              try dsimp only at h
              obtain ⟨v_m476, h541, h⟩ := bind_some h
              obtain ⟨v_o501, h570, h⟩ := bind_some h
              refine pkk_sound TTok mix hF 8 (hs := [.w (v_m476.map (eI .i64)), .u (.d (.v (.int .i64 (v_entries5.length : Int)))), .n n]) (ts := []) (s := [0, 10]) (l := [2, 3, 4, 5, 21, 24, 143, 144, 145]) (by kernel_rfl) (by kernel_rfl) (.cons (mkL_ob (f := (eI .i64)) (p := .v (.int .i64 0)) h541 rfl).1 (.cons (mkL_ob (f := (eI .i64)) (p := .v (.int .i64 0)) h541 rfl).2.1 (.cons (mkL_ob (f := (eI .i64)) (p := .v (.int .i64 0)) h541 rfl).2.2.1 (.cons (mkL_ob (f := (eI .i64)) (p := .v (.int .i64 0)) h541 rfl).2.2.2.1 (.cons (mkL_ob (f := (eI .i64)) (p := .v (.int .i64 0)) h541 rfl).2.2.2.2 (.cons (len_ob (f := eS_api_Entry) (l := v_entries5)) .nil)))))) (G_ringlaw3_OrphanCuts_L9_ok hF (.b 3 :: .s (cR (cR (cR (cR (cR (cR (cR (cR (cR (cR (cR (bodyOf Try.f6)))))))))))) :: []) n v_l3 v_held4 v_entries5 v_many6 n 0 v_z475 v_m476 _ h570 ?_)
              cases v_o501 with
              | x0 v_z502 v_z503 =>
                try dsimp only at h
                obtain ⟨v_r566, h632, h⟩ := bind_some h
                obtain ⟨v_r567, h633, h⟩ := bind_some h
                by_cases h634 : v_r567 = true
                · rw [if_pos h634] at h
                  obtain ⟨v_r568, h635, h⟩ := bind_some h
                  obtain ⟨v_r569, h636, h⟩ := bind_some h
                  obtain rfl := Option.some.inj h
                  exact pend_sound TTok mix 4 (hs := [.r ((eL (eI .i64)) v_r566), .c, .r (eB v_r567), .t true, .c, .c, .r ((eL (eI .i64)) v_r568), .c, .c, .c, .r (eB v_r569)]) (by kernel_rfl) (by kernel_rfl) (by kernel_rfl) (.cons (G_orphan_Lost_ok n v_l3 v_held4 _ h632) (.cons (G_slices_Equal_int_int_ok n v_r566 v_z502 _ h633) (.cons h634 (.cons (G_orphan_Names_ok n v_entries5 v_many6 _ h635) (.cons (G_slices_Equal_int_int_ok n v_r568 v_z503 _ h636) .nil)))))
                · rw [if_neg h634] at h
                  obtain rfl := Option.some.inj h
                  exact pend_sound TTok mix 4 (hs := [.r ((eL (eI .i64)) v_r566), .c, .r (eB v_r567), .t false, .c, .c, .c, .c]) (by kernel_rfl) (by kernel_rfl) (by kernel_rfl) (.cons (G_orphan_Lost_ok n v_l3 v_held4 _ h632) (.cons (G_slices_Equal_int_int_ok n v_r566 v_z502 _ h633) (.cons (vf h634) .nil)))
        · rw [if_neg h382] at h
          obtain rfl := Option.some.inj h
          exact pend_sound TTok mix 11 (hs := [.c, .r (.tup [eS_inode_Node v_r294.1, (eL (eI .i64)) v_r294.2.1, (eI .i64) v_r294.2.2.1, (eI .i64) v_r294.2.2.2]), .c, .t true]) (by kernel_rfl) (by kernel_rfl) (by kernel_rfl) (.cons (G_orphan_Cut_ok n v_n1 v_size2 _ h381) (.cons (show 0 + 8 ≤ 8 by decide) (.cons (nt h382) .nil)))
def okS_inode_Node (x : S_inode_Node) : Prop := (fun a => (Lit.int .i64 a).wf = true) x.fKind ∧ (fun a => (Lit.int .i64 a).wf = true) x.fMode ∧ (fun a => (Lit.int .i64 a).wf = true) x.fUser ∧ (fun a => (Lit.int .i64 a).wf = true) x.fGroup ∧ (fun a => (Lit.int .i64 a).wf = true) x.fSize ∧ (fun a => (Lit.int .i64 a).wf = true) x.fLinks ∧ (fun a => (Lit.int .i64 a).wf = true) x.fUp ∧ (okL 8 (fun a => (Lit.int .i64 a).wf = true)) x.fPoints ∧ True
theorem brS_inode_Node : Br (.pair (.int .i64) (.pair (.int .i64) (.pair (.int .i64) (.pair (.int .i64) (.pair (.int .i64) (.pair (.int .i64) (.pair (.int .i64) (.pair (.slice 8 (.int .i64)) .unit)))))))) (fun x : S_inode_Node => [.v (.int .i64 x.fKind), .v (.int .i64 x.fMode), .v (.int .i64 x.fUser), .v (.int .i64 x.fGroup), .v (.int .i64 x.fSize), .v (.int .i64 x.fLinks), .v (.int .i64 x.fUp), .sl (x.fPoints.map (eI .i64))]) okS_inode_Node := br_map (br_pair (br_int .i64) (br_pair (br_int .i64) (br_pair (br_int .i64) (br_pair (br_int .i64) (br_pair (br_int .i64) (br_pair (br_int .i64) (br_pair (br_int .i64) (br_pair (br_slice (f := (eI .i64)) (ok := (fun a => (Lit.int .i64 a).wf = true)) (br_int .i64) (fun _ => rfl) (by decide)) br_unit)))))))) (fun p => S_inode_Node.mk p.1 p.2.1 p.2.2.1 p.2.2.2.1 p.2.2.2.2.1 p.2.2.2.2.2.1 p.2.2.2.2.2.2.1 p.2.2.2.2.2.2.2.1) (fun p h => ⟨rfl, h⟩)
def okS_api_Entry (x : S_api_Entry) : Prop := (fun a => ByteArray.size a ≤ 140737488351232) x.fName ∧ (fun a => (Lit.int .i64 a).wf = true) x.fIno ∧ True
theorem brS_api_Entry : Br (.pair .str (.pair (.int .i64) .unit)) (fun x : S_api_Entry => [.v (.string x.fName), .v (.int .i64 x.fIno)]) okS_api_Entry := br_map (br_pair br_str (br_pair (br_int .i64) br_unit)) (fun p => S_api_Entry.mk p.1 p.2.1) (fun p h => ⟨rfl, h⟩)
theorem OrphanCuts_walk (H : ∀ (a0 : S_inode_Node) (a1 : Int) (a2 : (List S_inode_Node)) (a3 : (List Int)) (a4 : (List S_api_Entry)) (a5 : Int), okS_inode_Node a0 → (fun a => (Lit.int .i64 a).wf = true) a1 → (okL 80 okS_inode_Node) a2 → (okL 8 (fun a => (Lit.int .i64 a).wf = true)) a3 → (okL 24 okS_api_Entry) a4 → (fun a => (Lit.int .i64 a).wf = true) a5 → ∃ n, G_ringlaw3_OrphanCuts n a0 a1 a2 a3 a4 a5 = some true) (w : World) (v0 : Value) (v1 : Value) (v2 : Value) (v3 : Value) (v4 : Value) (v5 : Value) (h0 : rep.Arg w (.pair (.int .i64) (.pair (.int .i64) (.pair (.int .i64) (.pair (.int .i64) (.pair (.int .i64) (.pair (.int .i64) (.pair (.int .i64) (.pair (.slice 8 (.int .i64)) .unit)))))))) v0) (h1 : rep.Arg w (.int .i64) v1) (h2 : rep.Arg w (.slice 80 (.pair (.int .i64) (.pair (.int .i64) (.pair (.int .i64) (.pair (.int .i64) (.pair (.int .i64) (.pair (.int .i64) (.pair (.int .i64) (.pair (.slice 8 (.int .i64)) .unit))))))))) v2) (h3 : rep.Arg w (.slice 8 (.int .i64)) v3) (h4 : rep.Arg w (.slice 24 (.pair .str (.pair (.int .i64) .unit))) v4) (h5 : rep.Arg w (.int .i64) v5) : Calls Try.prog 6 #[v0, v1, v2, v3, v4, v5] w (help.Ret (.bool true) w) := by
  obtain ⟨a0, o0, r0⟩ := arg_agg brS_inode_Node (by rfl) h0
  obtain ⟨a1, o1, r1⟩ := arg_one (br_int .i64) (by rfl) h1
  obtain ⟨a2, o2, r2⟩ := arg_one (br_slice (f := eS_inode_Node) (ok := okS_inode_Node) brS_inode_Node (fun _ => rfl) (by decide)) (by rfl) h2
  obtain ⟨a3, o3, r3⟩ := arg_one (br_slice (f := (eI .i64)) (ok := (fun a => (Lit.int .i64 a).wf = true)) (br_int .i64) (fun _ => rfl) (by decide)) (by rfl) h3
  obtain ⟨a4, o4, r4⟩ := arg_one (br_slice (f := eS_api_Entry) (ok := okS_api_Entry) brS_api_Entry (fun _ => rfl) (by decide)) (by rfl) h4
  obtain ⟨a5, o5, r5⟩ := arg_one (br_int .i64) (by rfl) h5
  obtain ⟨n, hn⟩ := H a0 a1 a2 a3 a4 a5 o0 o1 o2 o3 o4 o5
  exact walk_of (G_ringlaw3_OrphanCuts_ok n a0 a1 a2 a3 a4 a5 true hn) (RT_cons r0 (RT_cons r1 (RT_cons r2 (RT_cons r3 (RT_cons r4 (RT_cons r5 RT_nil))))))
/- FRAME OrphanCuts; ringhall/ringlaw3.OrphanCuts; (.pair (.int .i64) (.pair (.int .i64) (.pair (.int .i64) (.pair (.int .i64) (.pair (.int .i64) (.pair (.int .i64) (.pair (.int .i64) (.pair (.slice 8 (.int .i64)) .unit)))))))) | (.int .i64) | (.slice 80 (.pair (.int .i64) (.pair (.int .i64) (.pair (.int .i64) (.pair (.int .i64) (.pair (.int .i64) (.pair (.int .i64) (.pair (.int .i64) (.pair (.slice 8 (.int .i64)) .unit))))))))) | (.slice 8 (.int .i64)) | (.slice 24 (.pair .str (.pair (.int .i64) .unit))) | (.int .i64); .agg #[.int .i64 0, .int .i64 0, .int .i64 0, .int .i64 0, .int .i64 0, .int .i64 0, .int .i64 0, .slice none 0 0] | .int .i64 0 | .slice none 0 0 | .slice none 0 0 | .slice none 0 0 | .int .i64 0 -/
end Go.Proofs.Ytjjjaakefnnbpaa.pv
