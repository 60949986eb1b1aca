/- What the functions compute, as functions over plain data, with their contracts: written by gen.py. -/
import Derived.Test.YtjjjaakefnnbpaaProg
import Derived.Test.YtjjjaakefnnbpaaQr
import Derived.Test.YtjjjaakefnnbpaaSg
set_option maxRecDepth 100000
set_option linter.all false
namespace Go.Proofs.Ytjjjaakefnnbpaa.pv
open Go.RowKit
def TT : List TI := [
⟨1, 0, .oth, []⟩,
⟨1, 8, .oth, [.nf]⟩,
⟨1, 8, .int .i64, [.i .i64]⟩,
⟨1, 8, .int .i64, [.i .i64]⟩,
⟨1, 1, .bool, [.b]⟩,
⟨1, 1, .int .u8, [.i .u8]⟩,
⟨1, 1, .int .u8, [.i .u8]⟩,
⟨4, 24, .st [(0, 2), (1, 3), (2, 4), (3, 6)], [.i .i64, .i .i64, .b, .i .u8]⟩,
⟨4, 24, .st [(0, 2), (1, 3), (2, 4), (3, 6)], [.i .i64, .i .i64, .b, .i .u8]⟩,
⟨1, 16, .str, [.s]⟩,
⟨1, 16, .str, [.s]⟩,
⟨1, 16, .str, [.s]⟩,
⟨1, 8, .int .u64, [.i .u64]⟩,
⟨2, 24, .st [(0, 9), (1, 12)], [.s, .i .u64]⟩,
⟨2, 24, .st [(0, 9), (1, 12)], [.s, .i .u64]⟩,
⟨1, 8, .ptr 333, [.np]⟩,
⟨1, 8, .ptr 336, [.np]⟩,
⟨1, 8, .ptr 343, [.np]⟩,
⟨1, 8, .st [(0, 17)], [.np]⟩,
⟨1, 8, .st [(0, 17)], [.np]⟩,
⟨1, 16, .oth, [.ni]⟩,
⟨1, 4, .int .i32, [.i .i32]⟩,
⟨1, 24, .sl 3, [.sl]⟩,
⟨6, 64, .st [(0, 3), (1, 3), (2, 22), (3, 3), (4, 3), (5, 3)], [.i .i64, .i .i64, .sl, .i .i64, .i .i64, .i .i64]⟩,
⟨6, 64, .st [(0, 3), (1, 3), (2, 22), (3, 3), (4, 3), (5, 3)], [.i .i64, .i .i64, .sl, .i .i64, .i .i64, .i .i64]⟩,
⟨1, 8, .int .i64, [.i .i64]⟩,
⟨1, 0, .oth, []⟩,
⟨1, 8, .oth, [.nf]⟩,
⟨1, 0, .oth, []⟩,
⟨1, 8, .oth, [.nf]⟩,
⟨1, 8, .oth, [.nf]⟩,
⟨1, 8, .oth, [.nf]⟩,
⟨1, 8, .oth, [.nf]⟩,
⟨1, 8, .oth, [.nf]⟩,
⟨1, 8, .oth, [.nf]⟩,
⟨1, 8, .oth, [.nf]⟩,
⟨1, 8, .oth, [.nf]⟩,
⟨1, 8, .oth, [.nf]⟩,
⟨1, 24, .sl 211, [.sl]⟩,
⟨1, 8, .oth, [.nf]⟩,
⟨1, 0, .oth, []⟩,
⟨1, 8, .oth, [.nf]⟩,
⟨1, 8, .oth, [.nf]⟩,
⟨1, 24, .sl 47, [.sl]⟩,
⟨1, 8, .oth, [.nf]⟩,
⟨1, 8, .oth, [.nf]⟩,
⟨1, 8, .oth, [.nf]⟩,
⟨3, 24, .arr 3 3, [.i .i64, .i .i64, .i .i64]⟩,
⟨1, 8, .oth, [.nf]⟩,
⟨1, 8, .oth, [.nf]⟩,
⟨1, 24, .sl 59, [.sl]⟩,
⟨1, 24, .sl 65, [.sl]⟩,
⟨1, 24, .sl 4, [.sl]⟩,
⟨1, 0, .oth, []⟩,
⟨1, 8, .oth, [.nf]⟩,
⟨1, 0, .oth, []⟩,
⟨1, 8, .oth, [.nf]⟩,
⟨1, 8, .oth, [.nf]⟩,
⟨2, 16, .st [(0, 3), (1, 3)], [.i .i64, .i .i64]⟩,
⟨2, 16, .st [(0, 3), (1, 3)], [.i .i64, .i .i64]⟩,
⟨1, 8, .oth, [.nf]⟩,
⟨1, 8, .oth, [.nf]⟩,
⟨1, 8, .oth, [.nf]⟩,
⟨1, 8, .oth, [.nf]⟩,
⟨3, 24, .st [(0, 3), (1, 3), (2, 4)], [.i .i64, .i .i64, .b]⟩,
⟨3, 24, .st [(0, 3), (1, 3), (2, 4)], [.i .i64, .i .i64, .b]⟩,
⟨1, 8, .oth, [.nf]⟩,
⟨1, 8, .oth, [.nf]⟩,
⟨1, 8, .oth, [.nf]⟩,
⟨1, 8, .oth, [.nf]⟩,
⟨8, 80, .st [(0, 3), (1, 3), (2, 3), (3, 3), (4, 3), (5, 3), (6, 3), (7, 22)], [.i .i64, .i .i64, .i .i64, .i .i64, .i .i64, .i .i64, .i .i64, .sl]⟩,
⟨8, 80, .st [(0, 3), (1, 3), (2, 3), (3, 3), (4, 3), (5, 3), (6, 3), (7, 22)], [.i .i64, .i .i64, .i .i64, .i .i64, .i .i64, .i .i64, .i .i64, .sl]⟩,
⟨1, 24, .sl 71, [.sl]⟩,
⟨1, 24, .sl 83, [.sl]⟩,
⟨1, 8, .oth, [.nf]⟩,
⟨8, 80, .st [(0, 3), (1, 3), (2, 3), (3, 3), (4, 3), (5, 3), (6, 3), (7, 22)], [.i .i64, .i .i64, .i .i64, .i .i64, .i .i64, .i .i64, .i .i64, .sl]⟩,
⟨1, 8, .oth, [.nf]⟩,
⟨1, 0, .oth, []⟩,
⟨1, 8, .oth, [.nf]⟩,
⟨1, 8, .oth, [.nf]⟩,
⟨1, 0, .oth, []⟩,
⟨1, 8, .oth, [.nf]⟩,
⟨2, 24, .st [(0, 9), (1, 3)], [.s, .i .i64]⟩,
⟨2, 24, .st [(0, 9), (1, 3)], [.s, .i .i64]⟩,
⟨1, 8, .oth, [.nf]⟩,
⟨1, 8, .oth, [.nf]⟩,
⟨1, 8, .oth, [.nf]⟩,
⟨16, 128, .arr 16 3, List.replicate 16 (.i .i64)⟩,
⟨18, 144, .st [(0, 3), (1, 3), (2, 87)], List.replicate 18 (.i .i64)⟩,
⟨18, 144, .st [(0, 3), (1, 3), (2, 87)], List.replicate 18 (.i .i64)⟩,
⟨1, 0, .oth, []⟩,
⟨1, 8, .oth, [.nf]⟩,
⟨1, 8, .oth, [.nf]⟩,
⟨1, 8, .oth, [.nf]⟩,
⟨1, 0, .oth, []⟩,
⟨1, 8, .oth, [.nf]⟩,
⟨1, 8, .oth, [.nf]⟩,
⟨1, 8, .oth, [.nf]⟩,
⟨1, 8, .oth, [.nf]⟩,
⟨18, 176, .st [(0, 22), (1, 22), (2, 87)], (List.replicate 2 (.sl) ++ List.replicate 16 (.i .i64))⟩,
⟨18, 176, .st [(0, 22), (1, 22), (2, 87)], (List.replicate 2 (.sl) ++ List.replicate 16 (.i .i64))⟩,
⟨1, 8, .oth, [.nf]⟩,
⟨1, 8, .oth, [.nf]⟩,
⟨1, 8, .oth, [.nf]⟩,
⟨1, 8, .oth, [.nf]⟩,
⟨1, 8, .oth, [.nf]⟩,
⟨1, 24, .sl 229, [.sl]⟩,
⟨1, 24, .sl 5, [.sl]⟩,
⟨1, 8, .oth, [.nf]⟩,
⟨1, 0, .oth, []⟩,
⟨1, 8, .oth, [.nf]⟩,
⟨1, 0, .oth, []⟩,
⟨1, 8, .oth, [.nf]⟩,
⟨1, 0, .oth, []⟩,
⟨1, 8, .oth, [.nf]⟩,
⟨1, 8, .oth, [.nf]⟩,
⟨1, 24, .sl 121, [.sl]⟩,
⟨1, 8, .oth, [.nf]⟩,
⟨1, 8, .oth, [.nf]⟩,
⟨1, 8, .oth, [.nf]⟩,
⟨1, 8, .oth, [.nf]⟩,
⟨2, 16, .arr 2 3, [.i .i64, .i .i64]⟩,
⟨1, 8, .oth, [.nf]⟩,
⟨1, 8, .oth, [.nf]⟩,
⟨1, 8, .oth, [.nf]⟩,
⟨1, 8, .oth, [.nf]⟩,
⟨1, 8, .oth, [.nf]⟩,
⟨1, 0, .oth, []⟩,
⟨1, 8, .oth, [.nf]⟩,
⟨1, 0, .oth, []⟩,
⟨1, 8, .oth, [.nf]⟩,
⟨1, 8, .oth, [.nf]⟩,
⟨1, 8, .oth, [.nf]⟩,
⟨6, 48, .st [(0, 3), (1, 3), (2, 3), (3, 3), (4, 3), (5, 3)], [.i .i64, .i .i64, .i .i64, .i .i64, .i .i64, .i .i64]⟩,
⟨6, 48, .st [(0, 3), (1, 3), (2, 3), (3, 3), (4, 3), (5, 3)], [.i .i64, .i .i64, .i .i64, .i .i64, .i .i64, .i .i64]⟩,
⟨1, 8, .oth, [.nf]⟩,
⟨1, 8, .oth, [.nf]⟩,
⟨1, 8, .oth, [.nf]⟩,
⟨1, 8, .oth, [.nf]⟩,
⟨1, 24, .sl 233, [.sl]⟩,
⟨1, 24, .sl 155, [.sl]⟩,
⟨1, 8, .oth, [.nf]⟩,
⟨1, 8, .oth, [.nf]⟩,
⟨1, 0, .oth, []⟩,
⟨1, 8, .oth, [.nf]⟩,
⟨1, 0, .oth, []⟩,
⟨1, 8, .oth, [.nf]⟩,
⟨1, 8, .oth, [.nf]⟩,
⟨1, 8, .oth, [.nf]⟩,
⟨1, 8, .oth, [.nf]⟩,
⟨1, 8, .oth, [.nf]⟩,
⟨1, 8, .oth, [.nf]⟩,
⟨1, 8, .oth, [.nf]⟩,
⟨1, 8, .oth, [.nf]⟩,
⟨2, 16, .st [(0, 3), (1, 3)], [.i .i64, .i .i64]⟩,
⟨2, 16, .st [(0, 3), (1, 3)], [.i .i64, .i .i64]⟩,
⟨1, 8, .oth, [.nf]⟩,
⟨1, 8, .oth, [.nf]⟩,
⟨1, 8, .oth, [.nf]⟩,
⟨1, 24, .sl 166, [.sl]⟩,
⟨1, 8, .ptr 245, [.np]⟩,
⟨1, 8, .oth, [.nf]⟩,
⟨1, 24, .sl 180, [.sl]⟩,
⟨1, 24, .sl 180, [.sl]⟩,
⟨1, 8, .oth, [.nf]⟩,
⟨3, 24, .st [(0, 3), (1, 3), (2, 3)], [.i .i64, .i .i64, .i .i64]⟩,
⟨3, 24, .st [(0, 3), (1, 3), (2, 3)], [.i .i64, .i .i64, .i .i64]⟩,
⟨1, 8, .oth, [.nf]⟩,
⟨1, 8, .oth, [.nf]⟩,
⟨1, 8, .oth, [.nf]⟩,
⟨1, 0, .oth, []⟩,
⟨1, 8, .oth, [.nf]⟩,
⟨1, 8, .oth, [.nf]⟩,
⟨1, 8, .oth, [.nf]⟩,
⟨1, 0, .oth, []⟩,
⟨1, 8, .oth, [.nf]⟩,
⟨1, 0, .oth, []⟩,
⟨1, 8, .oth, [.nf]⟩,
⟨1, 8, .oth, [.nf]⟩,
⟨5, 40, .st [(0, 3), (1, 3), (2, 3), (3, 3), (4, 4)], [.i .i64, .i .i64, .i .i64, .i .i64, .b]⟩,
⟨5, 40, .st [(0, 3), (1, 3), (2, 3), (3, 3), (4, 4)], [.i .i64, .i .i64, .i .i64, .i .i64, .b]⟩,
⟨1, 8, .oth, [.nf]⟩,
⟨1, 8, .oth, [.nf]⟩,
⟨1, 8, .oth, [.nf]⟩,
⟨1, 8, .oth, [.nf]⟩,
⟨1, 24, .sl 202, [.sl]⟩,
⟨1, 8, .ptr 256, [.np]⟩,
⟨1, 8, .oth, [.nf]⟩,
⟨1, 8, .oth, [.nf]⟩,
⟨5, 40, .st [(0, 3), (1, 3), (2, 3), (3, 4), (4, 3)], [.i .i64, .i .i64, .i .i64, .b, .i .i64]⟩,
⟨5, 40, .st [(0, 3), (1, 3), (2, 3), (3, 4), (4, 3)], [.i .i64, .i .i64, .i .i64, .b, .i .i64]⟩,
⟨1, 24, .sl 190, [.sl]⟩,
⟨1, 0, .oth, []⟩,
⟨1, 8, .oth, [.nf]⟩,
⟨1, 8, .ptr 199, [.np]⟩,
⟨1, 24, .sl 200, [.sl]⟩,
⟨8, 64, .arr 8 3, [.i .i64, .i .i64, .i .i64, .i .i64, .i .i64, .i .i64, .i .i64, .i .i64]⟩,
⟨136, 1088, .arr 17 196, List.replicate 136 (.i .i64)⟩,
⟨137, 1112, .st [(0, 195), (1, 197)], (List.replicate 1 (.sl) ++ List.replicate 136 (.i .i64))⟩,
⟨137, 1112, .st [(0, 195), (1, 197)], (List.replicate 1 (.sl) ++ List.replicate 136 (.i .i64))⟩,
⟨5, 40, .st [(0, 3), (1, 3), (2, 3), (3, 4), (4, 3)], [.i .i64, .i .i64, .i .i64, .b, .i .i64]⟩,
⟨9, 72, .st [(0, 3), (1, 3), (2, 3), (3, 3), (4, 200)], [.i .i64, .i .i64, .i .i64, .i .i64, .i .i64, .i .i64, .i .i64, .b, .i .i64]⟩,
⟨9, 72, .st [(0, 3), (1, 3), (2, 3), (3, 3), (4, 200)], [.i .i64, .i .i64, .i .i64, .i .i64, .i .i64, .i .i64, .i .i64, .b, .i .i64]⟩,
⟨1, 8, .oth, [.nf]⟩,
⟨1, 8, .oth, [.nf]⟩,
⟨1, 8, .oth, [.nf]⟩,
⟨1, 8, .oth, [.nf]⟩,
⟨1, 8, .oth, [.nf]⟩,
⟨1, 8, .oth, [.nf]⟩,
⟨1, 8, .int .u64, [.i .u64]⟩,
⟨3, 24, .st [(0, 3), (1, 3), (2, 3)], [.i .i64, .i .i64, .i .i64]⟩,
⟨3, 24, .st [(0, 3), (1, 3), (2, 3)], [.i .i64, .i .i64, .i .i64]⟩,
⟨1, 0, .oth, []⟩,
⟨1, 8, .oth, [.nf]⟩,
⟨1, 8, .oth, [.nf]⟩,
⟨100, 100, .arr 100 4, List.replicate 100 (.b)⟩,
⟨1, 24, .sl 50, [.sl]⟩,
⟨1, 8, .oth, [.nf]⟩,
⟨6, 6, .arr 6 4, [.b, .b, .b, .b, .b, .b]⟩,
⟨1, 8, .oth, [.nf]⟩,
⟨1, 8, .oth, [.nf]⟩,
⟨1, 8, .oth, [.nf]⟩,
⟨1, 8, .oth, [.nf]⟩,
⟨1, 8, .oth, [.nf]⟩,
⟨1, 8, .oth, [.nf]⟩,
⟨1, 8, .oth, [.nf]⟩,
⟨1, 8, .oth, [.nf]⟩,
⟨1, 8, .oth, [.nf]⟩,
⟨2, 16, .st [(0, 3), (1, 3)], [.i .i64, .i .i64]⟩,
⟨2, 16, .st [(0, 3), (1, 3)], [.i .i64, .i .i64]⟩,
⟨1, 8, .oth, [.nf]⟩,
⟨1, 8, .oth, [.nf]⟩,
⟨1, 8, .oth, [.nf]⟩,
⟨2, 16, .st [(0, 3), (1, 3)], [.i .i64, .i .i64]⟩,
⟨1, 8, .oth, [.nf]⟩,
⟨1, 8, .oth, [.nf]⟩,
⟨1, 8, .oth, [.nf]⟩,
⟨1, 8, .oth, [.nf]⟩,
⟨1, 8, .oth, [.nm]⟩,
⟨1, 0, .oth, []⟩,
⟨1, 8, .oth, [.nf]⟩,
⟨4, 32, .st [(0, 3), (1, 3), (2, 3), (3, 3)], [.i .i64, .i .i64, .i .i64, .i .i64]⟩,
⟨4, 32, .st [(0, 3), (1, 3), (2, 3), (3, 3)], [.i .i64, .i .i64, .i .i64, .i .i64]⟩,
⟨68, 544, .arr 17 242, List.replicate 68 (.i .i64)⟩,
⟨68, 544, .st [(0, 243)], List.replicate 68 (.i .i64)⟩,
⟨68, 544, .st [(0, 243)], List.replicate 68 (.i .i64)⟩,
⟨1, 8, .oth, [.nf]⟩,
⟨1, 8, .oth, [.nf]⟩,
⟨1, 8, .oth, [.nf]⟩,
⟨1, 8, .oth, [.nf]⟩,
⟨1, 8, .oth, [.nf]⟩,
⟨1, 8, .oth, [.nf]⟩,
⟨6, 48, .st [(0, 190), (5, 3)], [.i .i64, .i .i64, .i .i64, .b, .i .i64, .i .i64]⟩,
⟨6, 48, .st [(0, 190), (5, 3)], [.i .i64, .i .i64, .i .i64, .b, .i .i64, .i .i64]⟩,
⟨192, 1536, .arr 32 253, (List.replicate 32 [.i .i64, .i .i64, .i .i64, .b, .i .i64, .i .i64]).flatten⟩,
⟨328, 2624, .st [(0, 254), (192, 197)], [.i .i64, .i .i64, .i .i64, .b, .i .i64, .i .i64, .i .i64, .i .i64, .i .i64, .b, .i .i64, .i .i64, .i .i64, .i .i64, .i .i64, .b, .i .i64, .i .i64, .i .i64, .i .i64, .i .i64, .b, .i .i64, .i .i64, .i .i64, .i .i64, .i .i64, .b, .i .i64, .i .i64, .i .i64, .i .i64, .i .i64, .b, .i .i64, .i .i64, .i .i64, .i .i64, .i .i64, .b, .i .i64, .i .i64, .i .i64, .i .i64, .i .i64, .b, .i .i64, .i .i64, .i .i64, .i .i64, .i .i64, .b, .i .i64, .i .i64, .i .i64, .i .i64, .i .i64, .b, .i .i64, .i .i64, .i .i64, .i .i64, .i .i64, .b, .i .i64, .i .i64, .i .i64, .i .i64, .i .i64, .b, .i .i64, .i .i64, .i .i64, .i .i64, .i .i64, .b, .i .i64, .i .i64, .i .i64, .i .i64, .i .i64, .b, .i .i64, .i .i64, .i .i64, .i .i64, .i .i64, .b, .i .i64, .i .i64, .i .i64, .i .i64, .i .i64, .b, .i .i64, .i .i64, .i .i64, .i .i64, .i .i64, .b, .i .i64, .i .i64, .i .i64, .i .i64, .i .i64, .b, .i .i64, .i .i64, .i .i64, .i .i64, .i .i64, .b, .i .i64, .i .i64, .i .i64, .i .i64, .i .i64, .b, .i .i64, .i .i64, .i .i64, .i .i64, .i .i64, .b, .i .i64, .i .i64, .i .i64, .i .i64, .i .i64, .b, .i .i64, .i .i64, .i .i64, .i .i64, .i .i64, .b, .i .i64, .i .i64, .i .i64, .i .i64, .i .i64, .b, .i .i64, .i .i64, .i .i64, .i .i64, .i .i64, .b, .i .i64, .i .i64, .i .i64, .i .i64, .i .i64, .b, .i .i64, .i .i64, .i .i64, .i .i64, .i .i64, .b, .i .i64, .i .i64, .i .i64, .i .i64, .i .i64, .b, .i .i64, .i .i64, .i .i64, .i .i64, .i .i64, .b, .i .i64, .i .i64, .i .i64, .i .i64, .i .i64, .b, .i .i64, .i .i64, .i .i64, .i .i64, .i .i64, .b, .i .i64, .i .i64, .i .i64, .i .i64, .i .i64, .b, .i .i64, .i .i64, .i .i64, .i .i64, .i .i64, .i .i64, .i .i64, .i .i64, .i .i64, .i .i64, .i .i64, .i .i64, .i .i64, .i .i64, .i .i64, .i .i64, .i .i64, .i .i64, .i .i64, .i .i64, .i .i64, .i .i64, .i .i64, .i .i64, .i .i64, .i .i64, .i .i64, .i .i64, .i .i64, .i .i64, .i .i64, .i .i64, .i .i64, .i .i64, .i .i64, .i .i64, .i .i64, .i .i64, .i .i64, .i .i64, .i .i64, .i .i64, .i .i64, .i .i64, .i .i64, .i .i64, .i .i64, .i .i64, .i .i64, .i .i64, .i .i64, .i .i64, .i .i64, .i .i64, .i .i64, .i .i64, .i .i64, .i .i64, .i .i64, .i .i64, .i .i64, .i .i64, .i .i64, .i .i64, .i .i64, .i .i64, .i .i64, .i .i64, .i .i64, .i .i64, .i .i64, .i .i64, .i .i64, .i .i64, .i .i64, .i .i64, .i .i64, .i .i64, .i .i64, .i .i64, .i .i64, .i .i64, .i .i64, .i .i64, .i .i64, .i .i64, .i .i64, .i .i64, .i .i64, .i .i64, .i .i64, .i .i64, .i .i64, .i .i64, .i .i64, .i .i64, .i .i64, .i .i64, .i .i64, .i .i64, .i .i64, .i .i64, .i .i64, .i .i64, .i .i64, .i .i64, .i .i64, .i .i64, .i .i64, .i .i64, .i .i64, .i .i64, .i .i64, .i .i64, .i .i64, .i .i64, .i .i64, .i .i64, .i .i64, .i .i64, .i .i64, .i .i64, .i .i64, .i .i64, .i .i64, .i .i64, .i .i64, .i .i64, .i .i64, .i .i64, .i .i64, .i .i64, .i .i64, .i .i64, .i .i64, .i .i64, .i .i64, .i .i64]⟩,
⟨328, 2624, .st [(0, 254), (192, 197)], [.i .i64, .i .i64, .i .i64, .b, .i .i64, .i .i64, .i .i64, .i .i64, .i .i64, .b, .i .i64, .i .i64, .i .i64, .i .i64, .i .i64, .b, .i .i64, .i .i64, .i .i64, .i .i64, .i .i64, .b, .i .i64, .i .i64, .i .i64, .i .i64, .i .i64, .b, .i .i64, .i .i64, .i .i64, .i .i64, .i .i64, .b, .i .i64, .i .i64, .i .i64, .i .i64, .i .i64, .b, .i .i64, .i .i64, .i .i64, .i .i64, .i .i64, .b, .i .i64, .i .i64, .i .i64, .i .i64, .i .i64, .b, .i .i64, .i .i64, .i .i64, .i .i64, .i .i64, .b, .i .i64, .i .i64, .i .i64, .i .i64, .i .i64, .b, .i .i64, .i .i64, .i .i64, .i .i64, .i .i64, .b, .i .i64, .i .i64, .i .i64, .i .i64, .i .i64, .b, .i .i64, .i .i64, .i .i64, .i .i64, .i .i64, .b, .i .i64, .i .i64, .i .i64, .i .i64, .i .i64, .b, .i .i64, .i .i64, .i .i64, .i .i64, .i .i64, .b, .i .i64, .i .i64, .i .i64, .i .i64, .i .i64, .b, .i .i64, .i .i64, .i .i64, .i .i64, .i .i64, .b, .i .i64, .i .i64, .i .i64, .i .i64, .i .i64, .b, .i .i64, .i .i64, .i .i64, .i .i64, .i .i64, .b, .i .i64, .i .i64, .i .i64, .i .i64, .i .i64, .b, .i .i64, .i .i64, .i .i64, .i .i64, .i .i64, .b, .i .i64, .i .i64, .i .i64, .i .i64, .i .i64, .b, .i .i64, .i .i64, .i .i64, .i .i64, .i .i64, .b, .i .i64, .i .i64, .i .i64, .i .i64, .i .i64, .b, .i .i64, .i .i64, .i .i64, .i .i64, .i .i64, .b, .i .i64, .i .i64, .i .i64, .i .i64, .i .i64, .b, .i .i64, .i .i64, .i .i64, .i .i64, .i .i64, .b, .i .i64, .i .i64, .i .i64, .i .i64, .i .i64, .b, .i .i64, .i .i64, .i .i64, .i .i64, .i .i64, .b, .i .i64, .i .i64, .i .i64, .i .i64, .i .i64, .b, .i .i64, .i .i64, .i .i64, .i .i64, .i .i64, .b, .i .i64, .i .i64, .i .i64, .i .i64, .i .i64, .i .i64, .i .i64, .i .i64, .i .i64, .i .i64, .i .i64, .i .i64, .i .i64, .i .i64, .i .i64, .i .i64, .i .i64, .i .i64, .i .i64, .i .i64, .i .i64, .i .i64, .i .i64, .i .i64, .i .i64, .i .i64, .i .i64, .i .i64, .i .i64, .i .i64, .i .i64, .i .i64, .i .i64, .i .i64, .i .i64, .i .i64, .i .i64, .i .i64, .i .i64, .i .i64, .i .i64, .i .i64, .i .i64, .i .i64, .i .i64, .i .i64, .i .i64, .i .i64, .i .i64, .i .i64, .i .i64, .i .i64, .i .i64, .i .i64, .i .i64, .i .i64, .i .i64, .i .i64, .i .i64, .i .i64, .i .i64, .i .i64, .i .i64, .i .i64, .i .i64, .i .i64, .i .i64, .i .i64, .i .i64, .i .i64, .i .i64, .i .i64, .i .i64, .i .i64, .i .i64, .i .i64, .i .i64, .i .i64, .i .i64, .i .i64, .i .i64, .i .i64, .i .i64, .i .i64, .i .i64, .i .i64, .i .i64, .i .i64, .i .i64, .i .i64, .i .i64, .i .i64, .i .i64, .i .i64, .i .i64, .i .i64, .i .i64, .i .i64, .i .i64, .i .i64, .i .i64, .i .i64, .i .i64, .i .i64, .i .i64, .i .i64, .i .i64, .i .i64, .i .i64, .i .i64, .i .i64, .i .i64, .i .i64, .i .i64, .i .i64, .i .i64, .i .i64, .i .i64, .i .i64, .i .i64, .i .i64, .i .i64, .i .i64, .i .i64, .i .i64, .i .i64, .i .i64, .i .i64, .i .i64, .i .i64, .i .i64, .i .i64, .i .i64, .i .i64, .i .i64, .i .i64, .i .i64, .i .i64]⟩,
⟨1, 0, .oth, []⟩,
⟨1, 8, .oth, [.nf]⟩,
⟨1, 8, .oth, [.nf]⟩,
⟨1, 8, .oth, [.nf]⟩,
⟨1, 0, .oth, []⟩,
⟨1, 8, .oth, [.nf]⟩,
⟨1, 8, .ptr 200, [.np]⟩,
⟨1, 8, .oth, [.nf]⟩,
⟨1, 8, .oth, [.nf]⟩,
⟨1, 0, .oth, []⟩,
⟨1, 8, .oth, [.nf]⟩,
⟨1, 8, .oth, [.nf]⟩,
⟨1, 8, .oth, [.nf]⟩,
⟨1, 8, .int .i64, [.i .i64]⟩,
⟨1, 0, .oth, []⟩,
⟨1, 8, .oth, [.nf]⟩,
⟨1, 8, .oth, [.nf]⟩,
⟨1, 8, .oth, [.nf]⟩,
⟨1, 8, .oth, [.nf]⟩,
⟨1, 8, .oth, [.nf]⟩,
⟨1, 8, .oth, [.nf]⟩,
⟨1, 4, .int .u32, [.i .u32]⟩,
⟨1, 8, .oth, [.nf]⟩,
⟨1, 8, .int .u64, [.i .u64]⟩,
⟨1, 8, .oth, [.nf]⟩,
⟨1, 8, .oth, [.nf]⟩,
⟨1, 0, .oth, []⟩,
⟨1, 8, .oth, [.nf]⟩,
⟨1, 8, .oth, [.nf]⟩,
⟨1, 8, .ptr 288, [.np]⟩,
⟨2, 32, .st [(0, 286), (1, 107)], [.np, .sl]⟩,
⟨2, 32, .st [(0, 286), (1, 107)], [.np, .sl]⟩,
⟨1, 8, .oth, [.nf]⟩,
⟨1, 16, .oth, [.ni]⟩,
⟨1, 16, .oth, [.ni]⟩,
⟨1, 0, .oth, []⟩,
⟨1, 8, .oth, [.nf]⟩,
⟨1, 8, .oth, [.nf]⟩,
⟨1, 8, .oth, [.nf]⟩,
⟨1, 8, .oth, [.nf]⟩,
⟨1, 8, .oth, [.nf]⟩,
⟨1, 8, .oth, [.nf]⟩,
⟨1, 8, .ptr 253, [.np]⟩,
⟨1, 0, .oth, []⟩,
⟨1, 8, .oth, [.nf]⟩,
⟨1, 8, .oth, [.nf]⟩,
⟨1, 8, .oth, [.nf]⟩,
⟨1, 8, .oth, [.nf]⟩,
⟨1, 8, .oth, [.nf]⟩,
⟨1, 8, .int .u64, [.i .u64]⟩,
⟨1, 8, .oth, [.nf]⟩,
⟨1, 8, .oth, [.nf]⟩,
⟨1, 8, .oth, [.nf]⟩,
⟨1, 8, .ptr 3, [.np]⟩,
⟨1, 8, .oth, [.nf]⟩,
⟨1, 0, .oth, []⟩,
⟨1, 8, .oth, [.nf]⟩,
⟨1, 0, .oth, []⟩,
⟨1, 8, .oth, [.nf]⟩,
⟨1, 8, .ptr 5, [.np]⟩,
⟨1, 8, .oth, [.nf]⟩,
⟨1, 8, .oth, [.nf]⟩,
⟨1, 8, .oth, [.nf]⟩,
⟨1, 8, .oth, [.nf]⟩,
⟨1, 8, .oth, [.nf]⟩,
⟨1, 8, .ptr 306, [.np]⟩,
⟨1, 0, .oth, []⟩,
⟨1, 8, .oth, [.nf]⟩,
⟨1, 8, .oth, [.np]⟩,
⟨1, 8, .oth, [.nf]⟩,
⟨1, 8, .oth, [.nf]⟩,
⟨1, 8, .oth, [.nf]⟩,
⟨1, 8, .oth, [.nf]⟩,
⟨1, 8, .oth, [.nf]⟩,
⟨1, 8, .oth, [.nf]⟩,
⟨4, 40, .st [(0, 17), (1, 17), (2, 17), (3, 9)], [.np, .np, .np, .s]⟩,
⟨4, 40, .st [(0, 17), (1, 17), (2, 17), (3, 9)], [.np, .np, .np, .s]⟩,
⟨0, 0, .arr 0 16, []⟩,
⟨0, 0, .st [(0, 334)], []⟩,
⟨0, 0, .st [(0, 334)], []⟩,
⟨1, 1, .int .u8, [.i .u8]⟩,
⟨1, 1, .int .u8, [.i .u8]⟩,
⟨1, 8, .oth, [.nf]⟩,
⟨1, 4, .int .i32, [.i .i32]⟩,
⟨1, 4, .int .i32, [.i .i32]⟩,
⟨11, 48, .st [(0, 12), (1, 12), (2, 278), (3, 337), (4, 5), (5, 5), (6, 338), (7, 339), (8, 316), (9, 340), (10, 341)], [.i .u64, .i .u64, .i .u32, .i .u8, .i .u8, .i .u8, .i .u8, .nf, .np, .i .i32, .i .i32]⟩,
⟨11, 48, .st [(0, 12), (1, 12), (2, 278), (3, 337), (4, 5), (5, 5), (6, 338), (7, 339), (8, 316), (9, 340), (10, 341)], [.i .u64, .i .u64, .i .u32, .i .u8, .i .u8, .i .u8, .i .u8, .nf, .np, .i .i32, .i .i32]⟩]
theorem TTok : TOk Try.prog TT := by unfold TOk; kernel_rfl
theorem mix : Try.prog.follows .mixedOrders = true := by kernel_rfl
structure S_ringlaw5_Deed where
  fKind : Int
  fP : Int
  fN : Int
def eS_ringlaw5_Deed (x : S_ringlaw5_Deed) : PV := .agg [.v (.int .i64 x.fKind), .v (.int .i64 x.fP), .v (.int .i64 x.fN)]
structure S_proc_entry where
  fstate : Int
  fparent : Int
  fgroup : Int
  fstatus : Int
def eS_proc_entry (x : S_proc_entry) : PV := .agg [.v (.int .i64 x.fstate), .v (.int .i64 x.fparent), .v (.int .i64 x.fgroup), .v (.int .i64 x.fstatus)]
structure S_proc_Table where
  fl : (Fin 17 → S_proc_entry)
def cS_proc_Table (x : S_proc_Table) : List PV := [.v (.int .i64 ((x.fl 0).fstate)), .v (.int .i64 ((x.fl 0).fparent)), .v (.int .i64 ((x.fl 0).fgroup)), .v (.int .i64 ((x.fl 0).fstatus)), .v (.int .i64 ((x.fl 1).fstate)), .v (.int .i64 ((x.fl 1).fparent)), .v (.int .i64 ((x.fl 1).fgroup)), .v (.int .i64 ((x.fl 1).fstatus)), .v (.int .i64 ((x.fl 2).fstate)), .v (.int .i64 ((x.fl 2).fparent)), .v (.int .i64 ((x.fl 2).fgroup)), .v (.int .i64 ((x.fl 2).fstatus)), .v (.int .i64 ((x.fl 3).fstate)), .v (.int .i64 ((x.fl 3).fparent)), .v (.int .i64 ((x.fl 3).fgroup)), .v (.int .i64 ((x.fl 3).fstatus)), .v (.int .i64 ((x.fl 4).fstate)), .v (.int .i64 ((x.fl 4).fparent)), .v (.int .i64 ((x.fl 4).fgroup)), .v (.int .i64 ((x.fl 4).fstatus)), .v (.int .i64 ((x.fl 5).fstate)), .v (.int .i64 ((x.fl 5).fparent)), .v (.int .i64 ((x.fl 5).fgroup)), .v (.int .i64 ((x.fl 5).fstatus)), .v (.int .i64 ((x.fl 6).fstate)), .v (.int .i64 ((x.fl 6).fparent)), .v (.int .i64 ((x.fl 6).fgroup)), .v (.int .i64 ((x.fl 6).fstatus)), .v (.int .i64 ((x.fl 7).fstate)), .v (.int .i64 ((x.fl 7).fparent)), .v (.int .i64 ((x.fl 7).fgroup)), .v (.int .i64 ((x.fl 7).fstatus)), .v (.int .i64 ((x.fl 8).fstate)), .v (.int .i64 ((x.fl 8).fparent)), .v (.int .i64 ((x.fl 8).fgroup)), .v (.int .i64 ((x.fl 8).fstatus)), .v (.int .i64 ((x.fl 9).fstate)), .v (.int .i64 ((x.fl 9).fparent)), .v (.int .i64 ((x.fl 9).fgroup)), .v (.int .i64 ((x.fl 9).fstatus)), .v (.int .i64 ((x.fl 10).fstate)), .v (.int .i64 ((x.fl 10).fparent)), .v (.int .i64 ((x.fl 10).fgroup)), .v (.int .i64 ((x.fl 10).fstatus)), .v (.int .i64 ((x.fl 11).fstate)), .v (.int .i64 ((x.fl 11).fparent)), .v (.int .i64 ((x.fl 11).fgroup)), .v (.int .i64 ((x.fl 11).fstatus)), .v (.int .i64 ((x.fl 12).fstate)), .v (.int .i64 ((x.fl 12).fparent)), .v (.int .i64 ((x.fl 12).fgroup)), .v (.int .i64 ((x.fl 12).fstatus)), .v (.int .i64 ((x.fl 13).fstate)), .v (.int .i64 ((x.fl 13).fparent)), .v (.int .i64 ((x.fl 13).fgroup)), .v (.int .i64 ((x.fl 13).fstatus)), .v (.int .i64 ((x.fl 14).fstate)), .v (.int .i64 ((x.fl 14).fparent)), .v (.int .i64 ((x.fl 14).fgroup)), .v (.int .i64 ((x.fl 14).fstatus)), .v (.int .i64 ((x.fl 15).fstate)), .v (.int .i64 ((x.fl 15).fparent)), .v (.int .i64 ((x.fl 15).fgroup)), .v (.int .i64 ((x.fl 15).fstatus)), .v (.int .i64 ((x.fl 16).fstate)), .v (.int .i64 ((x.fl 16).fparent)), .v (.int .i64 ((x.fl 16).fgroup)), .v (.int .i64 ((x.fl 16).fstatus))]
def eS_proc_Table (x : S_proc_Table) : PV := .agg (cS_proc_Table x)
structure S_ringref5_Proc where
  fId : Int
  fUp : Int
  fGroup : Int
  fStatus : Int
  fEnded : Bool
def eS_ringref5_Proc (x : S_ringref5_Proc) : PV := .agg [.v (.int .i64 x.fId), .v (.int .i64 x.fUp), .v (.int .i64 x.fGroup), .v (.int .i64 x.fStatus), .v (.bool x.fEnded)]
def cA_t243 (x : (Fin 17 → S_proc_entry)) : List PV := (List.ofFn x).flatMap fun a => [.v (.int .i64 a.fstate), .v (.int .i64 a.fparent), .v (.int .i64 a.fgroup), .v (.int .i64 a.fstatus)]

/- ringhall/proc.New -/
def G_proc_New_h (n : Nat)  : Option (S_proc_Table) :=
  some (S_proc_Table.mk (fun i : Fin 17 => [(S_proc_entry.mk 0 0 0 0), (S_proc_entry.mk 1 0 1 0), (S_proc_entry.mk 0 0 0 0), (S_proc_entry.mk 0 0 0 0), (S_proc_entry.mk 0 0 0 0), (S_proc_entry.mk 0 0 0 0), (S_proc_entry.mk 0 0 0 0), (S_proc_entry.mk 0 0 0 0), (S_proc_entry.mk 0 0 0 0), (S_proc_entry.mk 0 0 0 0), (S_proc_entry.mk 0 0 0 0), (S_proc_entry.mk 0 0 0 0), (S_proc_entry.mk 0 0 0 0), (S_proc_entry.mk 0 0 0 0), (S_proc_entry.mk 0 0 0 0), (S_proc_entry.mk 0 0 0 0), (S_proc_entry.mk 0 0 0 0)].get i))
theorem G_proc_New_h_ok (n : Nat)  (r : S_proc_Table) (h : G_proc_New_h n  = some r) : RetH Try.prog 99 [] [] (.ref 0 0) [.box ((cS_proc_Table r).map FV.d)] := by
  refine retH_run (n := 10) (fn := Try.f99) (c := bodyOf Try.f99) (by kernel_rfl) (by kernel_rfl) (by kernel_rfl) (by kernel_rfl) ?_
  have hF : KC 10 (FinH Try.prog Try.f99 [] (.ref 0 0) [.box ((cS_proc_Table r).map FV.d)]) := FinH.kc' (by kernel_rfl)
  unfold G_proc_New_h at h
  obtain rfl := Option.some.inj h
  exact pendH_sound TTok mix 9 (hs := [.c]) [6] (by kernel_rfl) (by kernel_rfl) (by kernel_rfl) (.cons (show (0 : Int) ≤ 1 ∧ (1 : Int) < 17 by decide) (.cons (show 4 + 4 ≤ 68 by decide) .nil))
/- ringhall/ringref5.FirstProcs -/
def G_ringref5_FirstProcs_h (n : Nat)  : Option ((List S_ringref5_Proc)) :=
  some ([(S_ringref5_Proc.mk 1 0 1 0 false)])
theorem G_ringref5_FirstProcs_h_ok (n : Nat)  (r : (List S_ringref5_Proc)) (h : G_ringref5_FirstProcs_h n  = some r) : RetH Try.prog 100 [] [] (.srf 0) [.row 180 5 (r.map eS_ringref5_Proc)] := by
  refine retH_run (n := 3) (fn := Try.f100) (c := bodyOf Try.f100) (by kernel_rfl) (by kernel_rfl) (by kernel_rfl) (by kernel_rfl) ?_
  have hF : KC 3 (FinH Try.prog Try.f100 [] (.srf 0) [.row 180 5 (r.map eS_ringref5_Proc)]) := FinH.kc' (by kernel_rfl)
  unfold G_ringref5_FirstProcs_h at h
  obtain rfl := Option.some.inj h
  exact pendH_sound TTok mix 5 (hs := [.w ([(S_ringref5_Proc.mk 1 0 1 0 false)].map eS_ringref5_Proc)]) [6] (by kernel_rfl) (by kernel_rfl) (by kernel_rfl) (.cons (Eq.refl ([(S_ringref5_Proc.mk 1 0 1 0 false)].map eS_ringref5_Proc)) .nil)
inductive G_slices_IndexFunc_ringref5_Procs_ringref5_Proc_L1_R where
  | x0 (v_x18 : Int)
  | x1 
def G_slices_IndexFunc_ringref5_Procs_ringref5_Proc_L1_ex : G_slices_IndexFunc_ringref5_Procs_ringref5_Proc_L1_R → Ex
  | .x0 _ => .ret
  | .x1  => .exit 0
def G_slices_IndexFunc_ringref5_Procs_ringref5_Proc_L1_st (v_s11 : (List S_ringref5_Proc)) (v_f12 : (S_ringref5_Proc → Option (Bool))) (v_f12_g : FuncId) (v_f12_c : (List PV)) : G_slices_IndexFunc_ringref5_Procs_ringref5_Proc_L1_R → PS
  | .x0 v_x18 => ⟨[dd, dd, dd, dd, .d (.v (.int .i64 v_x18)), dd, dd, dd, dd, dd, dd, dd, dd, dd, dd, dd, dd, dd, dd], []⟩
  | .x1  => ⟨[dd, dd, dd, dd, dd, dd, dd, dd, dd, dd, dd, dd, dd, dd, dd, dd, dd, dd, dd], []⟩
def G_slices_IndexFunc_ringref5_Procs_ringref5_Proc_L1_hd (v_s11 : (List S_ringref5_Proc)) (v_f12 : (S_ringref5_Proc → Option (Bool))) (v_f12_g : FuncId) (v_f12_c : (List PV)) (v_x13 : Int) : PS := ⟨[.d (.sl (v_s11.map eS_ringref5_Proc)), .d (.clo v_f12_g v_f12_c), dd, dd, dd, dd, dd, .d (.v (.int .i64 (v_s11.length : Int))), .d (.v (.int .i64 v_x13)), dd, dd, dd, dd, dd, dd, dd, dd, dd, dd], []⟩
def G_slices_IndexFunc_ringref5_Procs_ringref5_Proc_L1 (n : Nat) (v_s11 : (List S_ringref5_Proc)) (v_f12 : (S_ringref5_Proc → Option (Bool))) : Nat → Int → Option G_slices_IndexFunc_ringref5_Procs_ringref5_Proc_L1_R
  | 0, _ => none
  | k + 1, v_x13 =>
    if v_x13 < (v_s11.length : Int) then
     (getI v_s11 v_x13).bind fun (v_y16 : S_ringref5_Proc) =>
     (v_f12 v_y16).bind fun (v_r17 : (Bool)) =>
     if v_r17 = true then
      some (.x0 v_x13)
     else
      G_slices_IndexFunc_ringref5_Procs_ringref5_Proc_L1 n v_s11 v_f12 k (wi .i64 (v_x13 + 1))
    else
     some (.x1 )
theorem G_slices_IndexFunc_ringref5_Procs_ringref5_Proc_L1_ok {Fi : Ex → PS → Prop} (hF : KC 19 Fi) (ks : List Fr) (n : Nat) (v_s11 : (List S_ringref5_Proc)) (v_f12 : (S_ringref5_Proc → Option (Bool))) (v_f12_g : FuncId) (v_f12_c : (List PV)) (v_f12_h : ∀ (x0 : S_ringref5_Proc) (r : Bool), v_f12 x0 = some r → Ret Try.prog v_f12_g ([eS_ringref5_Proc x0] ++ v_f12_c) (eB r)) : ∀ (k : Nat) (v_x13 : Int) (o : G_slices_IndexFunc_ringref5_Procs_ringref5_Proc_L1_R), G_slices_IndexFunc_ringref5_Procs_ringref5_Proc_L1 n v_s11 v_f12 k v_x13 = some o → RunE Try.prog 19 Fi ks (G_slices_IndexFunc_ringref5_Procs_ringref5_Proc_L1_ex o) (G_slices_IndexFunc_ringref5_Procs_ringref5_Proc_L1_st v_s11 v_f12 v_f12_g v_f12_c o) → RunE Try.prog 19 Fi (.l k (cP (cB (cR (cL (cR (bodyOf Try.f152)))))) :: ks) .normal (G_slices_IndexFunc_ringref5_Procs_ringref5_Proc_L1_hd v_s11 v_f12 v_f12_g v_f12_c v_x13)
  | 0, v_x13, o, h, q => by rw [G_slices_IndexFunc_ringref5_Procs_ringref5_Proc_L1] at h; cases h
  | k + 1, v_x13, o, h, q => by
    rw [G_slices_IndexFunc_ringref5_Procs_ringref5_Proc_L1] at h
    by_cases h7 : v_x13 < (v_s11.length : Int)
    · rw [if_pos h7] at h
      obtain ⟨v_y16, h11, h⟩ := bind_some h
      obtain ⟨v_r17, h12, h⟩ := bind_some h
      by_cases h13 : v_r17 = true
      · rw [if_pos h13] at h
        cases h
        exact pkk_sound TTok mix hF 19 (hs := [.t true, .y (eS_ringref5_Proc v_y16), .r (eB v_r17), .t true]) (ts := []) (s := []) (l := [4]) (by kernel_rfl) (by kernel_rfl) (.cons (dt h7) (.cons (getI_ob (f := eS_ringref5_Proc) h11) (.cons (v_f12_h v_y16 _ h12) (.cons h13 .nil)))) q
      · rw [if_neg h13] at h
        exact pkk_sound TTok mix hF 16 (hs := [.t true, .y (eS_ringref5_Proc v_y16), .r (eB v_r17), .t false]) (ts := []) (s := []) (l := [0, 1, 7, 8]) (by kernel_rfl) (by kernel_rfl) (.cons (dt h7) (.cons (getI_ob (f := eS_ringref5_Proc) h11) (.cons (v_f12_h v_y16 _ h12) (.cons (vf h13) .nil)))) (G_slices_IndexFunc_ringref5_Procs_ringref5_Proc_L1_ok hF ks n v_s11 v_f12 v_f12_g v_f12_c v_f12_h k (wi .i64 (v_x13 + 1)) _ h q)
    · rw [if_neg h7] at h
      cases h
      exact pkk_sound TTok mix hF 8 (hs := [.t false]) (ts := []) (s := []) (l := []) (by kernel_rfl) (by kernel_rfl) (.cons (df h7) .nil) q
/- slices.IndexFunc[ringhall/ringref5.Procs,ringhall/ringref5.Proc] -/
def G_slices_IndexFunc_ringref5_Procs_ringref5_Proc (n : Nat) (v_s11 : (List S_ringref5_Proc)) (v_f12 : (S_ringref5_Proc → Option (Bool))) : Option (Int) :=
  (G_slices_IndexFunc_ringref5_Procs_ringref5_Proc_L1 n v_s11 v_f12 n 0).bind fun v_o19 => match v_o19 with
  | .x0 v_z20 =>
    some v_z20
  | .x1  =>
    some (-1)
theorem G_slices_IndexFunc_ringref5_Procs_ringref5_Proc_ok (n : Nat) (v_s11 : (List S_ringref5_Proc)) (v_f12 : (S_ringref5_Proc → Option (Bool))) (v_f12_g : FuncId) (v_f12_c : List PV) (v_f12_h : ∀ (x0 : S_ringref5_Proc) (r : Bool), v_f12 x0 = some r → Ret Try.prog v_f12_g ([eS_ringref5_Proc x0] ++ v_f12_c) (eB r)) (r : Int) (h : G_slices_IndexFunc_ringref5_Procs_ringref5_Proc n v_s11 v_f12 = some r) : Ret Try.prog 152 [(eL eS_ringref5_Proc) v_s11, (.clo v_f12_g v_f12_c)] ((eI .i64) r) := by
  refine ret_run (n := 19) (fn := Try.f152) (c := bodyOf Try.f152) (by kernel_rfl) (by kernel_rfl) (by kernel_rfl) (by kernel_rfl) ?_
  have hF : KC 19 (FinR Try.prog Try.f152 ((eI .i64) r)) := FinR.kc' (by kernel_rfl)
  unfold G_slices_IndexFunc_ringref5_Procs_ringref5_Proc at h
  obtain ⟨v_o19, h14, h⟩ := bind_some h
  refine pkk_sound TTok mix hF 7 (hs := [.u (.d (.v (.int .i64 (v_s11.length : Int)))), .n n]) (ts := []) (s := []) (l := [0, 1, 7, 8]) (by kernel_rfl) (by kernel_rfl) (.cons (len_ob (f := eS_ringref5_Proc) (l := v_s11)) .nil) (G_slices_IndexFunc_ringref5_Procs_ringref5_Proc_L1_ok hF (.b 0 :: .s (cR (cR (bodyOf Try.f152))) :: []) n v_s11 v_f12 v_f12_g v_f12_c v_f12_h n 0 _ h14 ?_)
  cases v_o19 with
  | x0 v_z20 =>
    try dsimp only at h
    obtain rfl := Option.some.inj h
    exact pend_sound TTok mix 2 (hs := []) (by kernel_rfl) (by kernel_rfl) (by kernel_rfl) .nil
  | x1  =>
    try dsimp only at h
    obtain rfl := Option.some.inj h
    exact pend_sound TTok mix 4 (hs := []) (by kernel_rfl) (by kernel_rfl) (by kernel_rfl) .nil
/- (ringhall/ringref5.Procs).Find$1 -/
def G_ringref5_Procs_Find_1 (n : Nat) (v_x21 : S_ringref5_Proc) (v_c22 : Int) : Option (Bool) :=
  some (v_x21.fId == v_c22)
theorem G_ringref5_Procs_Find_1_ok (n : Nat) (v_x21 : S_ringref5_Proc) (v_c22 : Int) (r : Bool) (h : G_ringref5_Procs_Find_1 n v_x21 v_c22 = some r) : Ret Try.prog 153 [eS_ringref5_Proc v_x21, .iptr [.v (.int .i64 v_c22)] 0] (eB r) := by
  refine ret_run (n := 8) (fn := Try.f153) (c := bodyOf Try.f153) (by kernel_rfl) (by kernel_rfl) (by kernel_rfl) (by kernel_rfl) ?_
  have hF : KC 8 (FinR Try.prog Try.f153 (eB r)) := FinR.kc' (by kernel_rfl)
  unfold G_ringref5_Procs_Find_1 at h
  obtain rfl := Option.some.inj h
  exact pend_sound TTok mix 5 (hs := [.c, .c]) (by kernel_rfl) (by kernel_rfl) (by kernel_rfl) .nil
/- (ringhall/ringref5.Procs).Find -/
def G_ringref5_Procs_Find (n : Nat) (v_l9 : (List S_ringref5_Proc)) (v_p10 : Int) : Option (Int) :=
  (G_slices_IndexFunc_ringref5_Procs_ringref5_Proc n v_l9 (fun (y0 : S_ringref5_Proc) => G_ringref5_Procs_Find_1 n y0 v_p10)).bind fun (v_r23 : (Int)) =>
  some v_r23
theorem G_ringref5_Procs_Find_ok (n : Nat) (v_l9 : (List S_ringref5_Proc)) (v_p10 : Int) (r : Int) (h : G_ringref5_Procs_Find n v_l9 v_p10 = some r) : Ret Try.prog 111 [(eL eS_ringref5_Proc) v_l9, (eI .i64) v_p10] ((eI .i64) r) := by
  refine ret_run (n := 8) (fn := Try.f111) (c := bodyOf Try.f111) (by kernel_rfl) (by kernel_rfl) (by kernel_rfl) (by kernel_rfl) ?_
  have hF : KC 8 (FinR Try.prog Try.f111 ((eI .i64) r)) := FinR.kc' (by kernel_rfl)
  unfold G_ringref5_Procs_Find at h
  obtain ⟨v_r23, h15, h⟩ := bind_some h
  obtain rfl := Option.some.inj h
  exact pend_sound TTok mix 5 (hs := [.c, .r ((eI .i64) v_r23)]) (by kernel_rfl) (by kernel_rfl) (by kernel_rfl) (.cons (G_slices_IndexFunc_ringref5_Procs_ringref5_Proc_ok n v_l9 (fun (y0 : S_ringref5_Proc) => G_ringref5_Procs_Find_1 n y0 v_p10) 153 [.iptr [.v (.int .i64 v_p10)] 0] (fun y0 r h => G_ringref5_Procs_Find_1_ok n y0 v_p10 r h) _ h15) .nil)
/- (ringhall/ringref5.Procs).Err -/
def G_ringref5_Procs_Err (n : Nat) (v_l7 : (List S_ringref5_Proc)) (v_p8 : Int) : Option (Int) :=
  if v_p8 < 1 then
   some 1
  else
   if v_p8 > 16 then
    some 1
   else
    (G_ringref5_Procs_Find n v_l7 v_p8).bind fun (v_r24 : (Int)) =>
    if v_r24 < 0 then
     some 4
    else
     (getI v_l7 v_r24).bind fun (v_y26 : S_ringref5_Proc) =>
     if v_y26.fEnded = true then
      some 4
     else
      some 0
theorem G_ringref5_Procs_Err_ok (n : Nat) (v_l7 : (List S_ringref5_Proc)) (v_p8 : Int) (r : Int) (h : G_ringref5_Procs_Err n v_l7 v_p8 = some r) : Ret Try.prog 101 [(eL eS_ringref5_Proc) v_l7, (eI .i64) v_p8] ((eI .i64) r) := by
  refine ret_run (n := 24) (fn := Try.f101) (c := bodyOf Try.f101) (by kernel_rfl) (by kernel_rfl) (by kernel_rfl) (by kernel_rfl) ?_
  have hF : KC 24 (FinR Try.prog Try.f101 ((eI .i64) r)) := FinR.kc' (by kernel_rfl)
  unfold G_ringref5_Procs_Err at h
  by_cases h5 : v_p8 < 1
  · rw [if_pos h5] at h
    obtain rfl := Option.some.inj h
    exact pend_sound TTok mix 10 (hs := [.t true, .c, .c]) (by kernel_rfl) (by kernel_rfl) (by kernel_rfl) (.cons (dt h5) .nil)
  · rw [if_neg h5] at h
    by_cases h6 : v_p8 > 16
    · rw [if_pos h6] at h
      obtain rfl := Option.some.inj h
      exact pend_sound TTok mix 10 (hs := [.t false, .c, .t true]) (by kernel_rfl) (by kernel_rfl) (by kernel_rfl) (.cons (df h5) (.cons (dt h6) .nil))
    · rw [if_neg h6] at h
      obtain ⟨v_r24, h16, h⟩ := bind_some h
      by_cases h19 : v_r24 < 0
      · rw [if_pos h19] at h
        obtain rfl := Option.some.inj h
        exact pend_sound TTok mix 17 (hs := [.t false, .c, .t false, .r ((eI .i64) v_r24), .t true, .c, .c, .c, .c, .c]) (by kernel_rfl) (by kernel_rfl) (by kernel_rfl) (.cons (df h5) (.cons (df h6) (.cons (G_ringref5_Procs_Find_ok n v_l7 v_p8 _ h16) (.cons (dt h19) .nil))))
      · rw [if_neg h19] at h
        obtain ⟨v_y26, h20, h⟩ := bind_some h
        by_cases h21 : v_y26.fEnded = true
        · rw [if_pos h21] at h
          obtain rfl := Option.some.inj h
          exact pend_sound TTok mix 17 (hs := [.t false, .c, .t false, .r ((eI .i64) v_r24), .t false, .c, .c, .y (eS_ringref5_Proc v_y26), .c, .c, .c, .t true]) (by kernel_rfl) (by kernel_rfl) (by kernel_rfl) (.cons (df h5) (.cons (df h6) (.cons (G_ringref5_Procs_Find_ok n v_l7 v_p8 _ h16) (.cons (df h19) (.cons (getI_ob (f := eS_ringref5_Proc) h20) (.cons h21 .nil))))))
        · rw [if_neg h21] at h
          obtain rfl := Option.some.inj h
          exact pend_sound TTok mix 17 (hs := [.t false, .c, .t false, .r ((eI .i64) v_r24), .t false, .c, .c, .y (eS_ringref5_Proc v_y26), .c, .c, .c, .t false]) (by kernel_rfl) (by kernel_rfl) (by kernel_rfl) (.cons (df h5) (.cons (df h6) (.cons (G_ringref5_Procs_Find_ok n v_l7 v_p8 _ h16) (.cons (df h19) (.cons (getI_ob (f := eS_ringref5_Proc) h20) (.cons (vf h21) .nil))))))
/- ringhall/ringref5.Rest -/
def G_ringref5_Rest (n : Nat) (v_n28 : Int) (v_m29 : Int) : Option (Int) :=
  if v_m29 ≠ 0 then
   if (remI v_n28 v_m29) < 0 then
    some (wi .i64 ((remI v_n28 v_m29) + v_m29))
   else
    some (remI v_n28 v_m29)
  else none
theorem G_ringref5_Rest_ok (n : Nat) (v_n28 : Int) (v_m29 : Int) (r : Int) (h : G_ringref5_Rest n v_n28 v_m29 = some r) : Ret Try.prog 102 [(eI .i64) v_n28, (eI .i64) v_m29] ((eI .i64) r) := by
  refine ret_run (n := 14) (fn := Try.f102) (c := bodyOf Try.f102) (by kernel_rfl) (by kernel_rfl) (by kernel_rfl) (by kernel_rfl) ?_
  have hF : KC 14 (FinR Try.prog Try.f102 ((eI .i64) r)) := FinR.kc' (by kernel_rfl)
  unfold G_ringref5_Rest at h
  by_cases h23 : v_m29 ≠ 0
  · rw [if_pos h23] at h
    by_cases h25 : (remI v_n28 v_m29) < 0
    · rw [if_pos h25] at h
      obtain rfl := Option.some.inj h
      exact pend_sound TTok mix 12 (hs := [.t true]) (by kernel_rfl) (by kernel_rfl) (by kernel_rfl) (.cons h23 (.cons (dt h25) .nil))
    · rw [if_neg h25] at h
      obtain rfl := Option.some.inj h
      exact pend_sound TTok mix 12 (hs := [.t false]) (by kernel_rfl) (by kernel_rfl) (by kernel_rfl) (.cons h23 (.cons (df h25) .nil))
  · rw [if_neg h23] at h; cases h
/- ringhall/proc.number -/
def G_proc_number (n : Nat) (v_p35 : Int) : Option (Bool) :=
  if v_p35 ≥ 1 then
   some (decide (v_p35 ≤ 16))
  else
   some false
theorem G_proc_number_ok (n : Nat) (v_p35 : Int) (r : Bool) (h : G_proc_number n v_p35 = some r) : Ret Try.prog 154 [(eI .i64) v_p35] (eB r) := by
  refine ret_run (n := 9) (fn := Try.f154) (c := bodyOf Try.f154) (by kernel_rfl) (by kernel_rfl) (by kernel_rfl) (by kernel_rfl) ?_
  have hF : KC 9 (FinR Try.prog Try.f154 (eB r)) := FinR.kc' (by kernel_rfl)
  unfold G_proc_number at h
  by_cases h28 : v_p35 ≥ 1
  · rw [if_pos h28] at h
    obtain rfl := Option.some.inj h
    exact pend_sound TTok mix 5 (hs := [.t true, .c]) (by kernel_rfl) (by kernel_rfl) (by kernel_rfl) (.cons (dt h28) .nil)
  · rw [if_neg h28] at h
    obtain rfl := Option.some.inj h
    exact pend_sound TTok mix 5 (hs := [.t false, .c]) (by kernel_rfl) (by kernel_rfl) (by kernel_rfl) (.cons (df h28) .nil)
/- (*ringhall/proc.Table).living -/
def G_proc_Table_living_h (n : Nat) (v_t33 : S_proc_Table) (v_p34 : Int) : Option (Int × S_proc_Table) :=
  (G_proc_number n v_p34).bind fun (v_r36 : (Bool)) =>
  if v_r36 = true then
   if 0 ≤ v_p34 ∧ v_p34 < (17 : Int) then
    (getA v_t33.fl v_p34).bind fun (v_y37 : S_proc_entry) =>
    if v_y37.fstate = 1 then
     some (0, v_t33)
    else
     some (4, v_t33)
   else none
  else
   some (1, v_t33)
theorem G_proc_Table_living_h_ok (n : Nat) (v_t33 : S_proc_Table) (v_p34 : Int) (r : Int × S_proc_Table) (h : G_proc_Table_living_h n v_t33 v_p34 = some r) : RetH Try.prog 147 [.ref 0 0, .d ((eI .i64) v_p34)] [.box ((cS_proc_Table v_t33).map FV.d)] (.d ((eI .i64) r.1)) [.box ((cS_proc_Table r.2).map FV.d)] := by
  refine retH_run (n := 16) (fn := Try.f147) (c := bodyOf Try.f147) (by kernel_rfl) (by kernel_rfl) (by kernel_rfl) (by kernel_rfl) ?_
  have hF : KC 16 (FinH Try.prog Try.f147 [.box ((cS_proc_Table v_t33).map FV.d)] (.d ((eI .i64) r.1)) [.box ((cS_proc_Table r.2).map FV.d)]) := FinH.kc' (by kernel_rfl)
  unfold G_proc_Table_living_h at h
  obtain ⟨v_r36, h29, h⟩ := bind_some h
  by_cases h30 : v_r36 = true
  · rw [if_pos h30] at h
    by_cases h31 : 0 ≤ v_p34 ∧ v_p34 < (17 : Int)
    · rw [if_pos h31] at h
      obtain ⟨v_y37, h32, h⟩ := bind_some h
      by_cases h33 : v_y37.fstate = 1
      · rw [if_pos h33] at h
        obtain rfl := Option.some.inj h
        exact pendH_sound TTok mix 15 (hs := [.r (eB v_r36), .t false, .l (.d (.v (.int .i64 v_y37.fstate))), .t false]) [0] (by kernel_rfl) (by kernel_rfl) (by kernel_rfl) (.cons (G_proc_number_ok n v_p34 _ h29) (.cons (bnf h30) (.cons h31 (.cons (arr_cell (γ := FV) (sz := 4) (g := (fun x => [.d (.v (.int .i64 x.fstate)), .d (.v (.int .i64 x.fparent)), .d (.v (.int .i64 x.fgroup)), .d (.v (.int .i64 x.fstatus))])) (pre := []) (post := []) (o := 0) (fun _ => rfl) h32 rfl) (.cons (nf h33) .nil)))))
      · rw [if_neg h33] at h
        obtain rfl := Option.some.inj h
        exact pendH_sound TTok mix 15 (hs := [.r (eB v_r36), .t false, .l (.d (.v (.int .i64 v_y37.fstate))), .t true]) [0] (by kernel_rfl) (by kernel_rfl) (by kernel_rfl) (.cons (G_proc_number_ok n v_p34 _ h29) (.cons (bnf h30) (.cons h31 (.cons (arr_cell (γ := FV) (sz := 4) (g := (fun x => [.d (.v (.int .i64 x.fstate)), .d (.v (.int .i64 x.fparent)), .d (.v (.int .i64 x.fgroup)), .d (.v (.int .i64 x.fstatus))])) (pre := []) (post := []) (o := 0) (fun _ => rfl) h32 rfl) (.cons (nt h33) .nil)))))
    · rw [if_neg h31] at h; cases h
  · rw [if_neg h30] at h
    obtain rfl := Option.some.inj h
    exact pendH_sound TTok mix 10 (hs := [.r (eB v_r36), .t true]) [0] (by kernel_rfl) (by kernel_rfl) (by kernel_rfl) (.cons (G_proc_number_ok n v_p34 _ h29) (.cons (bnt (vf h30)) .nil))
inductive G_proc_Table_Fork_h_L1_R where
  | x0 (v_x50 : Int) (v_x51 : Int) (v_b52 : S_proc_Table)
  | x1 
def G_proc_Table_Fork_h_L1_ex : G_proc_Table_Fork_h_L1_R → Ex
  | .x0 _ _ _ => .ret
  | .x1  => .exit 0
def G_proc_Table_Fork_h_L1_st (v_p32 : Int) (v_r38 : (Int × S_proc_Table)) : G_proc_Table_Fork_h_L1_R → PS
  | .x0 v_x50 v_x51 v_b52 => ⟨[dd, dd, dd, dd, .d (.v (.int .i64 v_x50)), .d (.v (.int .i64 v_x51)), dd, dd, dd, dd, dd, dd, dd, dd, dd, dd, dd, dd, dd, dd, dd, dd, dd, dd, dd, dd, dd, dd, dd, dd, dd, dd, dd, dd, dd, dd, dd, dd, dd, dd, dd], [.gh 0 (.ref 1 0), .box ((cS_proc_Table v_b52).map FV.d)]⟩
  | .x1  => ⟨[dd, dd, dd, dd, dd, dd, dd, dd, dd, dd, dd, dd, dd, dd, dd, dd, dd, dd, dd, dd, dd, dd, dd, dd, dd, dd, dd, dd, dd, dd, dd, dd, dd, dd, dd, dd, dd, dd, dd, dd, dd], [.gh 0 (.ref 1 0), .box ((cS_proc_Table v_r38.2).map FV.d)]⟩
def G_proc_Table_Fork_h_L1_hd (v_p32 : Int) (v_r38 : (Int × S_proc_Table)) (v_k39 : Int) : PS := ⟨[.ref 1 0, .d (.v (.int .i64 v_p32)), dd, dd, dd, dd, dd, .d (.v (.int .i64 v_k39)), dd, dd, dd, dd, dd, dd, dd, dd, dd, dd, dd, dd, dd, dd, dd, dd, dd, dd, dd, dd, dd, dd, dd, dd, dd, dd, dd, dd, dd, dd, dd, dd, dd], [.gh 0 (.ref 1 0), .box ((cS_proc_Table v_r38.2).map FV.d)]⟩
def G_proc_Table_Fork_h_L1 (n : Nat) (v_p32 : Int) (v_r38 : (Int × S_proc_Table)) : Nat → Int → Option G_proc_Table_Fork_h_L1_R
  | 0, _ => none
  | k + 1, v_k39 =>
    if v_k39 ≤ 16 then
     if 0 ≤ v_k39 ∧ v_k39 < (17 : Int) then
      (getA v_r38.2.fl v_k39).bind fun (v_y45 : S_proc_entry) =>
      if v_y45.fstate = 0 then
       if 0 ≤ v_p32 ∧ v_p32 < (17 : Int) then
        (getA v_r38.2.fl v_p32).bind fun (v_y48 : S_proc_entry) =>
        if 0 ≤ v_k39 ∧ v_k39 < (17 : Int) then
         (getA v_r38.2.fl v_k39).bind fun (v_y49 : S_proc_entry) =>
         some (.x0 v_k39 0 (S_proc_Table.mk (setA v_r38.2.fl v_k39 (S_proc_entry.mk 1 v_p32 v_y48.fgroup 0))))
        else none
       else none
      else
       G_proc_Table_Fork_h_L1 n v_p32 v_r38 k (wi .i64 (v_k39 + 1))
     else none
    else
     some (.x1 )
theorem G_proc_Table_Fork_h_L1_ok {Fi : Ex → PS → Prop} (hF : KC 41 Fi) (ks : List Fr) (n : Nat) (v_p32 : Int) (v_r38 : (Int × S_proc_Table))  : ∀ (k : Nat) (v_k39 : Int) (o : G_proc_Table_Fork_h_L1_R), G_proc_Table_Fork_h_L1 n v_p32 v_r38 k v_k39 = some o → RunE Try.prog 41 Fi ks (G_proc_Table_Fork_h_L1_ex o) (G_proc_Table_Fork_h_L1_st v_p32 v_r38 o) → RunE Try.prog 41 Fi (.l k (cP (cB (cR (cL (cR (cR (bodyOf Try.f103))))))) :: ks) .normal (G_proc_Table_Fork_h_L1_hd v_p32 v_r38 v_k39)
  | 0, v_k39, o, h, q => by rw [G_proc_Table_Fork_h_L1] at h; cases h
  | k + 1, v_k39, o, h, q => by
    rw [G_proc_Table_Fork_h_L1] at h
    by_cases h37 : v_k39 ≤ 16
    · rw [if_pos h37] at h
      by_cases h50 : 0 ≤ v_k39 ∧ v_k39 < (17 : Int)
      · rw [if_pos h50] at h
        obtain ⟨v_y45, h51, h⟩ := bind_some h
        by_cases h57 : v_y45.fstate = 0
        · rw [if_pos h57] at h
          by_cases h58 : 0 ≤ v_p32 ∧ v_p32 < (17 : Int)
          · rw [if_pos h58] at h
            obtain ⟨v_y48, h59, h⟩ := bind_some h
            by_cases h60 : 0 ≤ v_k39 ∧ v_k39 < (17 : Int)
            · rw [if_pos h60] at h
              obtain ⟨v_y49, h61, h⟩ := bind_some h
              cases h
              exact pkk_sound TTok mix hF 19 (hs := [.t true, .l (.d (.v (.int .i64 v_y45.fstate))), .t true, .l (.d (.v (.int .i64 v_y48.fgroup))), .x ((cS_proc_Table (S_proc_Table.mk (setA v_r38.2.fl v_k39 (S_proc_entry.mk 1 v_p32 v_y48.fgroup 0)))).map FV.d), .c]) (ts := []) (s := [0, 1]) (l := [4, 5]) (by kernel_rfl) (by kernel_rfl) (.cons (dt h37) (.cons h50 (.cons (arr_cell (γ := FV) (sz := 4) (g := (fun x => [.d (.v (.int .i64 x.fstate)), .d (.v (.int .i64 x.fparent)), .d (.v (.int .i64 x.fgroup)), .d (.v (.int .i64 x.fstatus))])) (pre := []) (post := []) (o := 0) (fun _ => rfl) h51 rfl) (.cons (bt h57) (.cons h58 (.cons (arr_cell (γ := FV) (sz := 4) (g := (fun x => [.d (.v (.int .i64 x.fstate)), .d (.v (.int .i64 x.fparent)), .d (.v (.int .i64 x.fgroup)), .d (.v (.int .i64 x.fstatus))])) (pre := []) (post := []) (o := 2) (fun _ => rfl) h59 rfl) (.cons h60 (.cons (arr_store (γ := FV) (sz := 4) (g := (fun x => [.d (.v (.int .i64 x.fstate)), .d (.v (.int .i64 x.fparent)), .d (.v (.int .i64 x.fgroup)), .d (.v (.int .i64 x.fstatus))])) (pre := []) (post := []) (o := 0) (y := (S_proc_entry.mk 1 v_p32 v_y48.fgroup 0)) (zs := [.d (.v (.int .i64 1)), .d (.v (.int .i64 v_p32)), .d (.v (.int .i64 v_y48.fgroup)), .d (.v (.int .i64 0))]) (fun _ => rfl) h61 rfl (Nat.le_of_ble_eq_true rfl)).1 (.cons (arr_store (γ := FV) (sz := 4) (g := (fun x => [.d (.v (.int .i64 x.fstate)), .d (.v (.int .i64 x.fparent)), .d (.v (.int .i64 x.fgroup)), .d (.v (.int .i64 x.fstatus))])) (pre := []) (post := []) (o := 0) (y := (S_proc_entry.mk 1 v_p32 v_y48.fgroup 0)) (zs := [.d (.v (.int .i64 1)), .d (.v (.int .i64 v_p32)), .d (.v (.int .i64 v_y48.fgroup)), .d (.v (.int .i64 0))]) (fun _ => rfl) h61 rfl (Nat.le_of_ble_eq_true rfl)).2 .nil))))))))) q
            · rw [if_neg h60] at h; cases h
          · rw [if_neg h58] at h; cases h
        · rw [if_neg h57] at h
          exact pkk_sound TTok mix hF 14 (hs := [.t true, .l (.d (.v (.int .i64 v_y45.fstate))), .t false]) (ts := []) (s := [0, 1]) (l := [0, 1, 7]) (by kernel_rfl) (by kernel_rfl) (.cons (dt h37) (.cons h50 (.cons (arr_cell (γ := FV) (sz := 4) (g := (fun x => [.d (.v (.int .i64 x.fstate)), .d (.v (.int .i64 x.fparent)), .d (.v (.int .i64 x.fgroup)), .d (.v (.int .i64 x.fstatus))])) (pre := []) (post := []) (o := 0) (fun _ => rfl) h51 rfl) (.cons (bf h57) .nil)))) (G_proc_Table_Fork_h_L1_ok hF ks n v_p32 v_r38 k (wi .i64 (v_k39 + 1)) _ h q)
      · rw [if_neg h50] at h; cases h
    · rw [if_neg h37] at h
      cases h
      exact pkk_sound TTok mix hF 8 (hs := [.t false]) (ts := []) (s := [0, 1]) (l := []) (by kernel_rfl) (by kernel_rfl) (.cons (df h37) .nil) q
/- (*ringhall/proc.Table).Fork -/
def G_proc_Table_Fork_h (n : Nat) (v_t31 : S_proc_Table) (v_p32 : Int) : Option (Int × Int × S_proc_Table) :=
  (G_proc_Table_living_h n v_t31 v_p32).bind fun (v_r38 : (Int × S_proc_Table)) =>
  if v_r38.1 = 0 then
   (G_proc_Table_Fork_h_L1 n v_p32 v_r38 n 1).bind fun v_o53 => match v_o53 with
   | .x0 v_z54 v_z55 v_z56 =>
     some (v_z54, v_z55, v_z56)
   | .x1  =>
     some (0, 6, v_r38.2)
  else
   some (0, v_r38.1, v_r38.2)
theorem G_proc_Table_Fork_h_ok (n : Nat) (v_t31 : S_proc_Table) (v_p32 : Int) (r : Int × Int × S_proc_Table) (h : G_proc_Table_Fork_h n v_t31 v_p32 = some r) : RetH Try.prog 103 [.ref 0 0, .d ((eI .i64) v_p32)] [.box ((cS_proc_Table v_t31).map FV.d)] (.tup [.d ((eI .i64) r.1), .d ((eI .i64) r.2.1)]) [.box ((cS_proc_Table r.2.2).map FV.d)] := by
  refine retH_run (n := 41) (fn := Try.f103) (c := bodyOf Try.f103) (by kernel_rfl) (by kernel_rfl) (by kernel_rfl) (by kernel_rfl) ?_
  have hF : KC 41 (FinH Try.prog Try.f103 [.box ((cS_proc_Table v_t31).map FV.d)] (.tup [.d ((eI .i64) r.1), .d ((eI .i64) r.2.1)]) [.box ((cS_proc_Table r.2.2).map FV.d)]) := FinH.kc' (by kernel_rfl)
  unfold G_proc_Table_Fork_h at h
  obtain ⟨v_r38, h34, h⟩ := bind_some h
  by_cases h36 : v_r38.1 = 0
  · rw [if_pos h36] at h
    obtain ⟨v_o53, h62, h⟩ := bind_some h
    refine pkk_sound TTok mix hF 14 (hs := [.h [0] [] [.box ((cS_proc_Table v_r38.2).map FV.d)] (.d (.v (.int .i64 v_r38.1))), .t false, .n n]) (ts := []) (s := [1, 0]) (l := [0, 1, 7]) (by kernel_rfl) (by kernel_rfl) (.cons (G_proc_Table_living_h_ok n v_t31 v_p32 _ h34) (.cons (nf h36) .nil)) (G_proc_Table_Fork_h_L1_ok hF (.b 0 :: .s (cR (cR (cR (bodyOf Try.f103)))) :: []) n v_p32 v_r38 n 1 _ h62 ?_)
    cases v_o53 with
    | x0 v_z54 v_z55 v_z56 =>
      try dsimp only at h
      obtain rfl := Option.some.inj h
      exact pendH_sound TTok mix 2 (hs := []) [1] (by kernel_rfl) (by kernel_rfl) (by kernel_rfl) .nil
    | x1  =>
      try dsimp only at h
      obtain rfl := Option.some.inj h
      exact pendH_sound TTok mix 4 (hs := []) [1] (by kernel_rfl) (by kernel_rfl) (by kernel_rfl) .nil
  · rw [if_neg h36] at h
    obtain rfl := Option.some.inj h
    exact pendH_sound TTok mix 12 (hs := [.h [0] [] [.box ((cS_proc_Table v_r38.2).map FV.d)] (.d (.v (.int .i64 v_r38.1))), .t true]) [0] (by kernel_rfl) (by kernel_rfl) (by kernel_rfl) (.cons (G_proc_Table_living_h_ok n v_t31 v_p32 _ h34) (.cons (nt h36) .nil))
/- slices.Clone[ringhall/ringref5.Procs,ringhall/ringref5.Proc] -/
def G_slices_Clone_ringref5_Procs_ringref5_Proc_A (n : Nat) (v_c63 : Nat) : Option ((List S_ringref5_Proc)) :=
  some ([] : List S_ringref5_Proc)
theorem G_slices_Clone_ringref5_Procs_ringref5_Proc_A_ok (n : Nat) (v_c63 : Nat) (r : (List S_ringref5_Proc)) (h : G_slices_Clone_ringref5_Procs_ringref5_Proc_A n v_c63 = some r) : RetH Try.prog 148 [.d (.v (.slice none 0 v_c63))] [] (.srf 0) [.row 180 5 (r.map eS_ringref5_Proc)] := by
  refine retH_run (n := 8) (fn := Try.f148) (c := bodyOf Try.f148) (by kernel_rfl) (by kernel_rfl) (by kernel_rfl) (by kernel_rfl) ?_
  have hF : KC 8 (FinH Try.prog Try.f148 [] (.srf 0) [.row 180 5 (r.map eS_ringref5_Proc)]) := FinH.kc' (by kernel_rfl)
  unfold G_slices_Clone_ringref5_Procs_ringref5_Proc_A at h
  obtain rfl := Option.some.inj h
  exact pendH_sound TTok mix 11 (hs := [.c, .dl 4, .th 2 180 5]) [12] (by kernel_rfl) (by kernel_rfl) (by kernel_rfl) .nil
/- slices.Clone[ringhall/ringref5.Procs,ringhall/ringref5.Proc] -/
def G_slices_Clone_ringref5_Procs_ringref5_Proc_B (n : Nat) (v_a64 : Addr) (v_c65 : Nat) : Option ((List S_ringref5_Proc)) :=
  (app 40 ([] : List S_ringref5_Proc) ([] : (List S_ringref5_Proc))).bind fun (v_a66 : (List S_ringref5_Proc)) =>
  some v_a66
theorem G_slices_Clone_ringref5_Procs_ringref5_Proc_B_ok (n : Nat) (v_a64 : Addr) (v_c65 : Nat) (r : (List S_ringref5_Proc)) (h : G_slices_Clone_ringref5_Procs_ringref5_Proc_B n v_a64 v_c65 = some r) : RetH Try.prog 148 [.d (.v (.slice (some v_a64) 0 v_c65))] [] (.srf 0) [.row 180 5 (r.map eS_ringref5_Proc)] := by
  refine retH_run (n := 8) (fn := Try.f148) (c := bodyOf Try.f148) (by kernel_rfl) (by kernel_rfl) (by kernel_rfl) (by kernel_rfl) ?_
  have hF : KC 8 (FinH Try.prog Try.f148 [] (.srf 0) [.row 180 5 (r.map eS_ringref5_Proc)]) := FinH.kc' (by kernel_rfl)
  unfold G_slices_Clone_ringref5_Procs_ringref5_Proc_B at h
  obtain ⟨v_a66, h68, h⟩ := bind_some h
  obtain rfl := Option.some.inj h
  exact pendH_sound TTok mix 10 (hs := [.c, .w (([] : List S_ringref5_Proc).map eS_ringref5_Proc), .w (v_a66.map eS_ringref5_Proc)]) [15] (by kernel_rfl) (by kernel_rfl) (by kernel_rfl) (.cons (Eq.refl (([] : List S_ringref5_Proc).map eS_ringref5_Proc)) (.cons (app_ob (f := eS_ringref5_Proc) (s := 5) h68 (fun _ => rfl)).1 (.cons (app_ob (f := eS_ringref5_Proc) (s := 5) h68 (fun _ => rfl)).2.1 (.cons (app_ob (f := eS_ringref5_Proc) (s := 5) h68 (fun _ => rfl)).2.2.1 (.cons (app_ob (f := eS_ringref5_Proc) (s := 5) h68 (fun _ => rfl)).2.2.2 .nil)))))
/- slices.Clone[ringhall/ringref5.Procs,ringhall/ringref5.Proc] -/
def G_slices_Clone_ringref5_Procs_ringref5_Proc_C (n : Nat) (v_y67 : S_ringref5_Proc) (v_ys68 : (List S_ringref5_Proc)) : Option ((List S_ringref5_Proc)) :=
  (app 40 ([] : List S_ringref5_Proc) (v_y67 :: v_ys68)).bind fun (v_a69 : (List S_ringref5_Proc)) =>
  some v_a69
theorem G_slices_Clone_ringref5_Procs_ringref5_Proc_C_ok (n : Nat) (v_y67 : S_ringref5_Proc) (v_ys68 : (List S_ringref5_Proc)) (r : (List S_ringref5_Proc)) (h : G_slices_Clone_ringref5_Procs_ringref5_Proc_C n v_y67 v_ys68 = some r) : RetH Try.prog 148 [.d (.sl (eS_ringref5_Proc v_y67 :: v_ys68.map eS_ringref5_Proc))] [] (.srf 0) [.row 180 5 (r.map eS_ringref5_Proc)] := by
  refine retH_run (n := 8) (fn := Try.f148) (c := bodyOf Try.f148) (by kernel_rfl) (by kernel_rfl) (by kernel_rfl) (by kernel_rfl) ?_
  have hF : KC 8 (FinH Try.prog Try.f148 [] (.srf 0) [.row 180 5 (r.map eS_ringref5_Proc)]) := FinH.kc' (by kernel_rfl)
  unfold G_slices_Clone_ringref5_Procs_ringref5_Proc_C at h
  obtain ⟨v_a69, h69, h⟩ := bind_some h
  obtain rfl := Option.some.inj h
  exact pendH_sound TTok mix 10 (hs := [.c, .w (([] : List S_ringref5_Proc).map eS_ringref5_Proc), .w (v_a69.map eS_ringref5_Proc)]) [15] (by kernel_rfl) (by kernel_rfl) (by kernel_rfl) (.cons (Eq.refl (([] : List S_ringref5_Proc).map eS_ringref5_Proc)) (.cons (app_ob (f := eS_ringref5_Proc) (s := 5) h69 (fun _ => rfl)).1 (.cons (app_ob (f := eS_ringref5_Proc) (s := 5) h69 (fun _ => rfl)).2.1 (.cons (app_ob (f := eS_ringref5_Proc) (s := 5) h69 (fun _ => rfl)).2.2.1 (.cons (app_ob (f := eS_ringref5_Proc) (s := 5) h69 (fun _ => rfl)).2.2.2 .nil)))))
def G_slices_Clone_ringref5_Procs_ringref5_Proc (n : Nat) (xs : (List S_ringref5_Proc)) : Option (List S_ringref5_Proc) := app 40 [] xs
theorem G_slices_Clone_ringref5_Procs_ringref5_Proc_ok (n : Nat) (xs : (List S_ringref5_Proc)) (r : (List S_ringref5_Proc)) (h : G_slices_Clone_ringref5_Procs_ringref5_Proc n xs = some r) : RetH Try.prog 148 [.d (.sl (xs.map eS_ringref5_Proc))] [] (.srf 0) [.row 180 5 (r.map eS_ringref5_Proc)] := by
  unfold G_slices_Clone_ringref5_Procs_ringref5_Proc at h
  have e : app 40 ([] : (List S_ringref5_Proc)) [] = some [] := by simp [app]
  cases xs with
  | nil =>
    rw [e] at h; obtain rfl := Option.some.inj h
    exact clone_nil (fun c => G_slices_Clone_ringref5_Procs_ringref5_Proc_A_ok n c _ (by unfold G_slices_Clone_ringref5_Procs_ringref5_Proc_A; rfl)) (fun a c => G_slices_Clone_ringref5_Procs_ringref5_Proc_B_ok n a c _ (by unfold G_slices_Clone_ringref5_Procs_ringref5_Proc_B; rw [e]; rfl))
  | cons y ys => exact G_slices_Clone_ringref5_Procs_ringref5_Proc_C_ok n y ys _ (by unfold G_slices_Clone_ringref5_Procs_ringref5_Proc_C; rw [h]; rfl)
/- (ringhall/ringref5.Procs).Forked$1 -/
def G_ringref5_Procs_Forked_1 (n : Nat) (v_a74 : S_ringref5_Proc) (v_b75 : S_ringref5_Proc) : Option (Int) :=
  some (wi .i64 (v_a74.fId - v_b75.fId))
theorem G_ringref5_Procs_Forked_1_ok (n : Nat) (v_a74 : S_ringref5_Proc) (v_b75 : S_ringref5_Proc) (r : Int) (h : G_ringref5_Procs_Forked_1 n v_a74 v_b75 = some r) : Ret Try.prog 150 [eS_ringref5_Proc v_a74, eS_ringref5_Proc v_b75] ((eI .i64) r) := by
  refine ret_run (n := 10) (fn := Try.f150) (c := bodyOf Try.f150) (by kernel_rfl) (by kernel_rfl) (by kernel_rfl) (by kernel_rfl) ?_
  have hF : KC 10 (FinR Try.prog Try.f150 ((eI .i64) r)) := FinR.kc' (by kernel_rfl)
  unfold G_ringref5_Procs_Forked_1 at h
  obtain rfl := Option.some.inj h
  exact pend_sound TTok mix 5 (hs := [.c, .c]) (by kernel_rfl) (by kernel_rfl) (by kernel_rfl) .nil
/- math/bits.Len64 -/
def G_math_bits_Len64 (n : Nat) (v_x79 : Int) : Option (Int) :=
  if v_x79 ≥ 4294967296 then
   if (shrI .u64 v_x79 32) ≥ 65536 then
    if (shrI .u64 (shrI .u64 v_x79 32) 16) ≥ 256 then
     (getS (ByteArray.mk #[0, 1, 2, 2, 3, 3, 3, 3, 4, 4, 4, 4, 4, 4, 4, 4, 5, 5, 5, 5, 5, 5, 5, 5, 5, 5, 5, 5, 5, 5, 5, 5, 6, 6, 6, 6, 6, 6, 6, 6, 6, 6, 6, 6, 6, 6, 6, 6, 6, 6, 6, 6, 6, 6, 6, 6, 6, 6, 6, 6, 6, 6, 6, 6, 7, 7, 7, 7, 7, 7, 7, 7, 7, 7, 7, 7, 7, 7, 7, 7, 7, 7, 7, 7, 7, 7, 7, 7, 7, 7, 7, 7, 7, 7, 7, 7, 7, 7, 7, 7, 7, 7, 7, 7, 7, 7, 7, 7, 7, 7, 7, 7, 7, 7, 7, 7, 7, 7, 7, 7, 7, 7, 7, 7, 7, 7, 7, 7, 8, 8, 8, 8, 8, 8, 8, 8, 8, 8, 8, 8, 8, 8, 8, 8, 8, 8, 8, 8, 8, 8, 8, 8, 8, 8, 8, 8, 8, 8, 8, 8, 8, 8, 8, 8, 8, 8, 8, 8, 8, 8, 8, 8, 8, 8, 8, 8, 8, 8, 8, 8, 8, 8, 8, 8, 8, 8, 8, 8, 8, 8, 8, 8, 8, 8, 8, 8, 8, 8, 8, 8, 8, 8, 8, 8, 8, 8, 8, 8, 8, 8, 8, 8, 8, 8, 8, 8, 8, 8, 8, 8, 8, 8, 8, 8, 8, 8, 8, 8, 8, 8, 8, 8, 8, 8, 8, 8, 8, 8, 8, 8, 8, 8, 8, 8, 8, 8, 8, 8, 8, 8, 8, 8, 8, 8, 8, 8]) (wi .u8 (shrI .u64 (shrI .u64 (shrI .u64 v_x79 32) 16) 8))).bind fun (v_y80 : Int) =>
     some (wi .i64 ((wi .i64 ((wi .i64 (32 + 16)) + 8)) + (wi .i64 v_y80)))
    else
     (getS (ByteArray.mk #[0, 1, 2, 2, 3, 3, 3, 3, 4, 4, 4, 4, 4, 4, 4, 4, 5, 5, 5, 5, 5, 5, 5, 5, 5, 5, 5, 5, 5, 5, 5, 5, 6, 6, 6, 6, 6, 6, 6, 6, 6, 6, 6, 6, 6, 6, 6, 6, 6, 6, 6, 6, 6, 6, 6, 6, 6, 6, 6, 6, 6, 6, 6, 6, 7, 7, 7, 7, 7, 7, 7, 7, 7, 7, 7, 7, 7, 7, 7, 7, 7, 7, 7, 7, 7, 7, 7, 7, 7, 7, 7, 7, 7, 7, 7, 7, 7, 7, 7, 7, 7, 7, 7, 7, 7, 7, 7, 7, 7, 7, 7, 7, 7, 7, 7, 7, 7, 7, 7, 7, 7, 7, 7, 7, 7, 7, 7, 7, 8, 8, 8, 8, 8, 8, 8, 8, 8, 8, 8, 8, 8, 8, 8, 8, 8, 8, 8, 8, 8, 8, 8, 8, 8, 8, 8, 8, 8, 8, 8, 8, 8, 8, 8, 8, 8, 8, 8, 8, 8, 8, 8, 8, 8, 8, 8, 8, 8, 8, 8, 8, 8, 8, 8, 8, 8, 8, 8, 8, 8, 8, 8, 8, 8, 8, 8, 8, 8, 8, 8, 8, 8, 8, 8, 8, 8, 8, 8, 8, 8, 8, 8, 8, 8, 8, 8, 8, 8, 8, 8, 8, 8, 8, 8, 8, 8, 8, 8, 8, 8, 8, 8, 8, 8, 8, 8, 8, 8, 8, 8, 8, 8, 8, 8, 8, 8, 8, 8, 8, 8, 8, 8, 8, 8, 8, 8, 8]) (wi .u8 (shrI .u64 (shrI .u64 v_x79 32) 16))).bind fun (v_y81 : Int) =>
     some (wi .i64 ((wi .i64 (32 + 16)) + (wi .i64 v_y81)))
   else
    if (shrI .u64 v_x79 32) ≥ 256 then
     (getS (ByteArray.mk #[0, 1, 2, 2, 3, 3, 3, 3, 4, 4, 4, 4, 4, 4, 4, 4, 5, 5, 5, 5, 5, 5, 5, 5, 5, 5, 5, 5, 5, 5, 5, 5, 6, 6, 6, 6, 6, 6, 6, 6, 6, 6, 6, 6, 6, 6, 6, 6, 6, 6, 6, 6, 6, 6, 6, 6, 6, 6, 6, 6, 6, 6, 6, 6, 7, 7, 7, 7, 7, 7, 7, 7, 7, 7, 7, 7, 7, 7, 7, 7, 7, 7, 7, 7, 7, 7, 7, 7, 7, 7, 7, 7, 7, 7, 7, 7, 7, 7, 7, 7, 7, 7, 7, 7, 7, 7, 7, 7, 7, 7, 7, 7, 7, 7, 7, 7, 7, 7, 7, 7, 7, 7, 7, 7, 7, 7, 7, 7, 8, 8, 8, 8, 8, 8, 8, 8, 8, 8, 8, 8, 8, 8, 8, 8, 8, 8, 8, 8, 8, 8, 8, 8, 8, 8, 8, 8, 8, 8, 8, 8, 8, 8, 8, 8, 8, 8, 8, 8, 8, 8, 8, 8, 8, 8, 8, 8, 8, 8, 8, 8, 8, 8, 8, 8, 8, 8, 8, 8, 8, 8, 8, 8, 8, 8, 8, 8, 8, 8, 8, 8, 8, 8, 8, 8, 8, 8, 8, 8, 8, 8, 8, 8, 8, 8, 8, 8, 8, 8, 8, 8, 8, 8, 8, 8, 8, 8, 8, 8, 8, 8, 8, 8, 8, 8, 8, 8, 8, 8, 8, 8, 8, 8, 8, 8, 8, 8, 8, 8, 8, 8, 8, 8, 8, 8, 8, 8]) (wi .u8 (shrI .u64 (shrI .u64 v_x79 32) 8))).bind fun (v_y82 : Int) =>
     some (wi .i64 ((wi .i64 (32 + 8)) + (wi .i64 v_y82)))
    else
     (getS (ByteArray.mk #[0, 1, 2, 2, 3, 3, 3, 3, 4, 4, 4, 4, 4, 4, 4, 4, 5, 5, 5, 5, 5, 5, 5, 5, 5, 5, 5, 5, 5, 5, 5, 5, 6, 6, 6, 6, 6, 6, 6, 6, 6, 6, 6, 6, 6, 6, 6, 6, 6, 6, 6, 6, 6, 6, 6, 6, 6, 6, 6, 6, 6, 6, 6, 6, 7, 7, 7, 7, 7, 7, 7, 7, 7, 7, 7, 7, 7, 7, 7, 7, 7, 7, 7, 7, 7, 7, 7, 7, 7, 7, 7, 7, 7, 7, 7, 7, 7, 7, 7, 7, 7, 7, 7, 7, 7, 7, 7, 7, 7, 7, 7, 7, 7, 7, 7, 7, 7, 7, 7, 7, 7, 7, 7, 7, 7, 7, 7, 7, 8, 8, 8, 8, 8, 8, 8, 8, 8, 8, 8, 8, 8, 8, 8, 8, 8, 8, 8, 8, 8, 8, 8, 8, 8, 8, 8, 8, 8, 8, 8, 8, 8, 8, 8, 8, 8, 8, 8, 8, 8, 8, 8, 8, 8, 8, 8, 8, 8, 8, 8, 8, 8, 8, 8, 8, 8, 8, 8, 8, 8, 8, 8, 8, 8, 8, 8, 8, 8, 8, 8, 8, 8, 8, 8, 8, 8, 8, 8, 8, 8, 8, 8, 8, 8, 8, 8, 8, 8, 8, 8, 8, 8, 8, 8, 8, 8, 8, 8, 8, 8, 8, 8, 8, 8, 8, 8, 8, 8, 8, 8, 8, 8, 8, 8, 8, 8, 8, 8, 8, 8, 8, 8, 8, 8, 8, 8, 8]) (wi .u8 (shrI .u64 v_x79 32))).bind fun (v_y83 : Int) =>
     some (wi .i64 (32 + (wi .i64 v_y83)))
  else
   if v_x79 ≥ 65536 then
    if (shrI .u64 v_x79 16) ≥ 256 then
     (getS (ByteArray.mk #[0, 1, 2, 2, 3, 3, 3, 3, 4, 4, 4, 4, 4, 4, 4, 4, 5, 5, 5, 5, 5, 5, 5, 5, 5, 5, 5, 5, 5, 5, 5, 5, 6, 6, 6, 6, 6, 6, 6, 6, 6, 6, 6, 6, 6, 6, 6, 6, 6, 6, 6, 6, 6, 6, 6, 6, 6, 6, 6, 6, 6, 6, 6, 6, 7, 7, 7, 7, 7, 7, 7, 7, 7, 7, 7, 7, 7, 7, 7, 7, 7, 7, 7, 7, 7, 7, 7, 7, 7, 7, 7, 7, 7, 7, 7, 7, 7, 7, 7, 7, 7, 7, 7, 7, 7, 7, 7, 7, 7, 7, 7, 7, 7, 7, 7, 7, 7, 7, 7, 7, 7, 7, 7, 7, 7, 7, 7, 7, 8, 8, 8, 8, 8, 8, 8, 8, 8, 8, 8, 8, 8, 8, 8, 8, 8, 8, 8, 8, 8, 8, 8, 8, 8, 8, 8, 8, 8, 8, 8, 8, 8, 8, 8, 8, 8, 8, 8, 8, 8, 8, 8, 8, 8, 8, 8, 8, 8, 8, 8, 8, 8, 8, 8, 8, 8, 8, 8, 8, 8, 8, 8, 8, 8, 8, 8, 8, 8, 8, 8, 8, 8, 8, 8, 8, 8, 8, 8, 8, 8, 8, 8, 8, 8, 8, 8, 8, 8, 8, 8, 8, 8, 8, 8, 8, 8, 8, 8, 8, 8, 8, 8, 8, 8, 8, 8, 8, 8, 8, 8, 8, 8, 8, 8, 8, 8, 8, 8, 8, 8, 8, 8, 8, 8, 8, 8, 8]) (wi .u8 (shrI .u64 (shrI .u64 v_x79 16) 8))).bind fun (v_y84 : Int) =>
     some (wi .i64 ((wi .i64 ((wi .i64 (0 + 16)) + 8)) + (wi .i64 v_y84)))
    else
     (getS (ByteArray.mk #[0, 1, 2, 2, 3, 3, 3, 3, 4, 4, 4, 4, 4, 4, 4, 4, 5, 5, 5, 5, 5, 5, 5, 5, 5, 5, 5, 5, 5, 5, 5, 5, 6, 6, 6, 6, 6, 6, 6, 6, 6, 6, 6, 6, 6, 6, 6, 6, 6, 6, 6, 6, 6, 6, 6, 6, 6, 6, 6, 6, 6, 6, 6, 6, 7, 7, 7, 7, 7, 7, 7, 7, 7, 7, 7, 7, 7, 7, 7, 7, 7, 7, 7, 7, 7, 7, 7, 7, 7, 7, 7, 7, 7, 7, 7, 7, 7, 7, 7, 7, 7, 7, 7, 7, 7, 7, 7, 7, 7, 7, 7, 7, 7, 7, 7, 7, 7, 7, 7, 7, 7, 7, 7, 7, 7, 7, 7, 7, 8, 8, 8, 8, 8, 8, 8, 8, 8, 8, 8, 8, 8, 8, 8, 8, 8, 8, 8, 8, 8, 8, 8, 8, 8, 8, 8, 8, 8, 8, 8, 8, 8, 8, 8, 8, 8, 8, 8, 8, 8, 8, 8, 8, 8, 8, 8, 8, 8, 8, 8, 8, 8, 8, 8, 8, 8, 8, 8, 8, 8, 8, 8, 8, 8, 8, 8, 8, 8, 8, 8, 8, 8, 8, 8, 8, 8, 8, 8, 8, 8, 8, 8, 8, 8, 8, 8, 8, 8, 8, 8, 8, 8, 8, 8, 8, 8, 8, 8, 8, 8, 8, 8, 8, 8, 8, 8, 8, 8, 8, 8, 8, 8, 8, 8, 8, 8, 8, 8, 8, 8, 8, 8, 8, 8, 8, 8, 8]) (wi .u8 (shrI .u64 v_x79 16))).bind fun (v_y85 : Int) =>
     some (wi .i64 ((wi .i64 (0 + 16)) + (wi .i64 v_y85)))
   else
    if v_x79 ≥ 256 then
     (getS (ByteArray.mk #[0, 1, 2, 2, 3, 3, 3, 3, 4, 4, 4, 4, 4, 4, 4, 4, 5, 5, 5, 5, 5, 5, 5, 5, 5, 5, 5, 5, 5, 5, 5, 5, 6, 6, 6, 6, 6, 6, 6, 6, 6, 6, 6, 6, 6, 6, 6, 6, 6, 6, 6, 6, 6, 6, 6, 6, 6, 6, 6, 6, 6, 6, 6, 6, 7, 7, 7, 7, 7, 7, 7, 7, 7, 7, 7, 7, 7, 7, 7, 7, 7, 7, 7, 7, 7, 7, 7, 7, 7, 7, 7, 7, 7, 7, 7, 7, 7, 7, 7, 7, 7, 7, 7, 7, 7, 7, 7, 7, 7, 7, 7, 7, 7, 7, 7, 7, 7, 7, 7, 7, 7, 7, 7, 7, 7, 7, 7, 7, 8, 8, 8, 8, 8, 8, 8, 8, 8, 8, 8, 8, 8, 8, 8, 8, 8, 8, 8, 8, 8, 8, 8, 8, 8, 8, 8, 8, 8, 8, 8, 8, 8, 8, 8, 8, 8, 8, 8, 8, 8, 8, 8, 8, 8, 8, 8, 8, 8, 8, 8, 8, 8, 8, 8, 8, 8, 8, 8, 8, 8, 8, 8, 8, 8, 8, 8, 8, 8, 8, 8, 8, 8, 8, 8, 8, 8, 8, 8, 8, 8, 8, 8, 8, 8, 8, 8, 8, 8, 8, 8, 8, 8, 8, 8, 8, 8, 8, 8, 8, 8, 8, 8, 8, 8, 8, 8, 8, 8, 8, 8, 8, 8, 8, 8, 8, 8, 8, 8, 8, 8, 8, 8, 8, 8, 8, 8, 8]) (wi .u8 (shrI .u64 v_x79 8))).bind fun (v_y86 : Int) =>
     some (wi .i64 ((wi .i64 (0 + 8)) + (wi .i64 v_y86)))
    else
     (getS (ByteArray.mk #[0, 1, 2, 2, 3, 3, 3, 3, 4, 4, 4, 4, 4, 4, 4, 4, 5, 5, 5, 5, 5, 5, 5, 5, 5, 5, 5, 5, 5, 5, 5, 5, 6, 6, 6, 6, 6, 6, 6, 6, 6, 6, 6, 6, 6, 6, 6, 6, 6, 6, 6, 6, 6, 6, 6, 6, 6, 6, 6, 6, 6, 6, 6, 6, 7, 7, 7, 7, 7, 7, 7, 7, 7, 7, 7, 7, 7, 7, 7, 7, 7, 7, 7, 7, 7, 7, 7, 7, 7, 7, 7, 7, 7, 7, 7, 7, 7, 7, 7, 7, 7, 7, 7, 7, 7, 7, 7, 7, 7, 7, 7, 7, 7, 7, 7, 7, 7, 7, 7, 7, 7, 7, 7, 7, 7, 7, 7, 7, 8, 8, 8, 8, 8, 8, 8, 8, 8, 8, 8, 8, 8, 8, 8, 8, 8, 8, 8, 8, 8, 8, 8, 8, 8, 8, 8, 8, 8, 8, 8, 8, 8, 8, 8, 8, 8, 8, 8, 8, 8, 8, 8, 8, 8, 8, 8, 8, 8, 8, 8, 8, 8, 8, 8, 8, 8, 8, 8, 8, 8, 8, 8, 8, 8, 8, 8, 8, 8, 8, 8, 8, 8, 8, 8, 8, 8, 8, 8, 8, 8, 8, 8, 8, 8, 8, 8, 8, 8, 8, 8, 8, 8, 8, 8, 8, 8, 8, 8, 8, 8, 8, 8, 8, 8, 8, 8, 8, 8, 8, 8, 8, 8, 8, 8, 8, 8, 8, 8, 8, 8, 8, 8, 8, 8, 8, 8, 8]) (wi .u8 v_x79)).bind fun (v_y87 : Int) =>
     some (wi .i64 (0 + (wi .i64 v_y87)))
theorem G_math_bits_Len64_ok (n : Nat) (v_x79 : Int) (r : Int) (h : G_math_bits_Len64 n v_x79 = some r) : Ret Try.prog 185 [(eI .u64) v_x79] ((eI .i64) r) := by
  refine ret_run (n := 25) (fn := Try.f185) (c := bodyOf Try.f185) (by kernel_rfl) (by kernel_rfl) (by kernel_rfl) (by kernel_rfl) ?_
  have hF : KC 25 (FinR Try.prog Try.f185 ((eI .i64) r)) := FinR.kc' (by kernel_rfl)
  unfold G_math_bits_Len64 at h
  by_cases h76 : v_x79 ≥ 4294967296
  · rw [if_pos h76] at h
    by_cases h80 : (shrI .u64 v_x79 32) ≥ 65536
    · rw [if_pos h80] at h
      by_cases h84 : (shrI .u64 (shrI .u64 v_x79 32) 16) ≥ 256
      · rw [if_pos h84] at h
        obtain ⟨v_y80, h86, h⟩ := bind_some h
        obtain rfl := Option.some.inj h
        exact pend_sound TTok mix 26 (hs := [.t true, .t true, .t true, .l (.d (.v (.int .u8 v_y80)))]) (by kernel_rfl) (by kernel_rfl) (by kernel_rfl) (.cons (dt h76) (.cons (show (0 : Int) ≤ 32 by decide) (.cons (dt h80) (.cons (show (0 : Int) ≤ 16 by decide) (.cons (dt h84) (.cons (show (0 : Int) ≤ 8 by decide) (.cons (getS_ob h86) .nil)))))))
      · rw [if_neg h84] at h
        obtain ⟨v_y81, h87, h⟩ := bind_some h
        obtain rfl := Option.some.inj h
        exact pend_sound TTok mix 24 (hs := [.t true, .t true, .t false, .l (.d (.v (.int .u8 v_y81)))]) (by kernel_rfl) (by kernel_rfl) (by kernel_rfl) (.cons (dt h76) (.cons (show (0 : Int) ≤ 32 by decide) (.cons (dt h80) (.cons (show (0 : Int) ≤ 16 by decide) (.cons (df h84) (.cons (getS_ob h87) .nil))))))
    · rw [if_neg h80] at h
      by_cases h90 : (shrI .u64 v_x79 32) ≥ 256
      · rw [if_pos h90] at h
        obtain ⟨v_y82, h92, h⟩ := bind_some h
        obtain rfl := Option.some.inj h
        exact pend_sound TTok mix 24 (hs := [.t true, .t false, .t true, .l (.d (.v (.int .u8 v_y82)))]) (by kernel_rfl) (by kernel_rfl) (by kernel_rfl) (.cons (dt h76) (.cons (show (0 : Int) ≤ 32 by decide) (.cons (df h80) (.cons (dt h90) (.cons (show (0 : Int) ≤ 8 by decide) (.cons (getS_ob h92) .nil))))))
      · rw [if_neg h90] at h
        obtain ⟨v_y83, h93, h⟩ := bind_some h
        obtain rfl := Option.some.inj h
        exact pend_sound TTok mix 22 (hs := [.t true, .t false, .t false, .l (.d (.v (.int .u8 v_y83)))]) (by kernel_rfl) (by kernel_rfl) (by kernel_rfl) (.cons (dt h76) (.cons (show (0 : Int) ≤ 32 by decide) (.cons (df h80) (.cons (df h90) (.cons (getS_ob h93) .nil)))))
  · rw [if_neg h76] at h
    by_cases h96 : v_x79 ≥ 65536
    · rw [if_pos h96] at h
      by_cases h100 : (shrI .u64 v_x79 16) ≥ 256
      · rw [if_pos h100] at h
        obtain ⟨v_y84, h102, h⟩ := bind_some h
        obtain rfl := Option.some.inj h
        exact pend_sound TTok mix 24 (hs := [.t false, .t true, .t true, .l (.d (.v (.int .u8 v_y84)))]) (by kernel_rfl) (by kernel_rfl) (by kernel_rfl) (.cons (df h76) (.cons (dt h96) (.cons (show (0 : Int) ≤ 16 by decide) (.cons (dt h100) (.cons (show (0 : Int) ≤ 8 by decide) (.cons (getS_ob h102) .nil))))))
      · rw [if_neg h100] at h
        obtain ⟨v_y85, h103, h⟩ := bind_some h
        obtain rfl := Option.some.inj h
        exact pend_sound TTok mix 22 (hs := [.t false, .t true, .t false, .l (.d (.v (.int .u8 v_y85)))]) (by kernel_rfl) (by kernel_rfl) (by kernel_rfl) (.cons (df h76) (.cons (dt h96) (.cons (show (0 : Int) ≤ 16 by decide) (.cons (df h100) (.cons (getS_ob h103) .nil)))))
    · rw [if_neg h96] at h
      by_cases h106 : v_x79 ≥ 256
      · rw [if_pos h106] at h
        obtain ⟨v_y86, h108, h⟩ := bind_some h
        obtain rfl := Option.some.inj h
        exact pend_sound TTok mix 22 (hs := [.t false, .t false, .t true, .l (.d (.v (.int .u8 v_y86)))]) (by kernel_rfl) (by kernel_rfl) (by kernel_rfl) (.cons (df h76) (.cons (df h96) (.cons (dt h106) (.cons (show (0 : Int) ≤ 8 by decide) (.cons (getS_ob h108) .nil)))))
      · rw [if_neg h106] at h
        obtain ⟨v_y87, h109, h⟩ := bind_some h
        obtain rfl := Option.some.inj h
        exact pend_sound TTok mix 20 (hs := [.t false, .t false, .t false, .l (.d (.v (.int .u8 v_y87)))]) (by kernel_rfl) (by kernel_rfl) (by kernel_rfl) (.cons (df h76) (.cons (df h96) (.cons (df h106) (.cons (getS_ob h109) .nil))))
/- math/bits.Len -/
def G_math_bits_Len (n : Nat) (v_x78 : Int) : Option (Int) :=
  (G_math_bits_Len64 n v_x78).bind fun (v_r88 : (Int)) =>
  some v_r88
theorem G_math_bits_Len_ok (n : Nat) (v_x78 : Int) (r : Int) (h : G_math_bits_Len n v_x78 = some r) : Ret Try.prog 121 [(eI .u64) v_x78] ((eI .i64) r) := by
  refine ret_run (n := 8) (fn := Try.f121) (c := bodyOf Try.f121) (by kernel_rfl) (by kernel_rfl) (by kernel_rfl) (by kernel_rfl) ?_
  have hF : KC 8 (FinR Try.prog Try.f121 ((eI .i64) r)) := FinR.kc' (by kernel_rfl)
  unfold G_math_bits_Len at h
  obtain ⟨v_r88, h110, h⟩ := bind_some h
  obtain rfl := Option.some.inj h
  exact pend_sound TTok mix 8 (hs := [.c, .r ((eI .i64) v_r88)]) (by kernel_rfl) (by kernel_rfl) (by kernel_rfl) (.cons (G_math_bits_Len64_ok n v_x78 _ h110) .nil)
inductive G_slices_insertionSortCmpFunc_ringref5_Proc_h_L1_R where
  | x0 (v_w123 : (List S_ringref5_Proc))
def G_slices_insertionSortCmpFunc_ringref5_Proc_h_L1_ex : G_slices_insertionSortCmpFunc_ringref5_Proc_h_L1_R → Ex
  | .x0 _ => .exit 2
def G_slices_insertionSortCmpFunc_ringref5_Proc_h_L1_st (v_a102 : Int) (v_b103 : Int) (v_cmp104 : (S_ringref5_Proc → S_ringref5_Proc → Option (Int))) (v_i105 : Int) (v_cmp104_g : FuncId) (v_cmp104_c : (List PV)) : G_slices_insertionSortCmpFunc_ringref5_Proc_h_L1_R → PS
  | .x0 v_w123 => ⟨[.srf 1, .d (.v (.int .i64 v_a102)), .d (.v (.int .i64 v_b103)), .d (.clo v_cmp104_g v_cmp104_c), dd, dd, dd, dd, .d (.v (.int .i64 v_i105)), dd, dd, dd, dd, dd, dd, dd, dd, dd, dd, dd, dd, dd, dd, dd, dd, dd, dd, dd, dd, dd, dd, dd, dd, dd, dd, dd, dd, dd, dd, dd, dd, dd, dd, dd, dd, dd, dd, dd, dd, dd, dd, dd, dd], [.gh 0 (.srf 1), .row 180 5 (v_w123.map eS_ringref5_Proc)]⟩
def G_slices_insertionSortCmpFunc_ringref5_Proc_h_L1_hd (v_a102 : Int) (v_b103 : Int) (v_cmp104 : (S_ringref5_Proc → S_ringref5_Proc → Option (Int))) (v_i105 : Int) (v_cmp104_g : FuncId) (v_cmp104_c : (List PV)) (v_j107 : Int) (v_w108 : (List S_ringref5_Proc)) : PS := ⟨[.srf 1, .d (.v (.int .i64 v_a102)), .d (.v (.int .i64 v_b103)), .d (.clo v_cmp104_g v_cmp104_c), dd, dd, dd, dd, .d (.v (.int .i64 v_i105)), .d (.v (.int .i64 v_j107)), dd, dd, dd, dd, dd, dd, dd, dd, dd, dd, dd, dd, dd, dd, dd, dd, dd, dd, dd, dd, dd, dd, dd, dd, dd, dd, dd, dd, dd, dd, dd, dd, dd, dd, dd, dd, dd, dd, dd, dd, dd, dd, dd], [.gh 0 (.srf 1), .row 180 5 (v_w108.map eS_ringref5_Proc)]⟩
def G_slices_insertionSortCmpFunc_ringref5_Proc_h_L1 (n : Nat) (v_a102 : Int) (v_b103 : Int) (v_cmp104 : (S_ringref5_Proc → S_ringref5_Proc → Option (Int))) (v_i105 : Int) : Nat → Int → (List S_ringref5_Proc) → Option G_slices_insertionSortCmpFunc_ringref5_Proc_h_L1_R
  | 0, _, _ => none
  | k + 1, v_j107, v_w108 =>
    if v_j107 > v_a102 then
     if 0 ≤ v_j107 ∧ (v_j107).toNat < v_w108.length then
      (v_w108[(v_j107).toNat]?).bind fun (v_y112 : S_ringref5_Proc) =>
      if 0 ≤ (wi .i64 (v_j107 - 1)) ∧ ((wi .i64 (v_j107 - 1))).toNat < v_w108.length then
       (v_w108[((wi .i64 (v_j107 - 1))).toNat]?).bind fun (v_y113 : S_ringref5_Proc) =>
       (v_cmp104 v_y112 v_y113).bind fun (v_r114 : (Int)) =>
       if v_r114 < 0 then
        if 0 ≤ (wi .i64 (v_j107 - 1)) ∧ ((wi .i64 (v_j107 - 1))).toNat < v_w108.length then
         (v_w108[((wi .i64 (v_j107 - 1))).toNat]?).bind fun (v_y119 : S_ringref5_Proc) =>
         if 0 ≤ v_j107 ∧ (v_j107).toNat < v_w108.length then
          (v_w108[(v_j107).toNat]?).bind fun (v_y120 : S_ringref5_Proc) =>
          if 0 ≤ v_j107 ∧ (v_j107).toNat < v_w108.length then
           (v_w108[(v_j107).toNat]?).bind fun (v_y121 : S_ringref5_Proc) =>
           if 0 ≤ (wi .i64 (v_j107 - 1)) ∧ ((wi .i64 (v_j107 - 1))).toNat < (v_w108.set (v_j107).toNat v_y119).length then
            ((v_w108.set (v_j107).toNat v_y119)[((wi .i64 (v_j107 - 1))).toNat]?).bind fun (v_y122 : S_ringref5_Proc) =>
            G_slices_insertionSortCmpFunc_ringref5_Proc_h_L1 n v_a102 v_b103 v_cmp104 v_i105 k (wi .i64 (v_j107 - 1)) ((v_w108.set (v_j107).toNat v_y119).set ((wi .i64 (v_j107 - 1))).toNat v_y120)
           else none
          else none
         else none
        else none
       else
        some (.x0 v_w108)
      else none
     else none
    else
     some (.x0 v_w108)
theorem G_slices_insertionSortCmpFunc_ringref5_Proc_h_L1_ok {Fi : Ex → PS → Prop} (hF : KC 53 Fi) (ks : List Fr) (n : Nat) (v_a102 : Int) (v_b103 : Int) (v_cmp104 : (S_ringref5_Proc → S_ringref5_Proc → Option (Int))) (v_i105 : Int) (v_cmp104_g : FuncId) (v_cmp104_c : (List PV)) (v_cmp104_h : ∀ (x0 : S_ringref5_Proc) (x1 : S_ringref5_Proc) (r : Int), v_cmp104 x0 x1 = some r → Ret Try.prog v_cmp104_g ([eS_ringref5_Proc x0, eS_ringref5_Proc x1] ++ v_cmp104_c) ((eI .i64) r)) : ∀ (k : Nat) (v_j107 : Int) (v_w108 : (List S_ringref5_Proc)) (o : G_slices_insertionSortCmpFunc_ringref5_Proc_h_L1_R), G_slices_insertionSortCmpFunc_ringref5_Proc_h_L1 n v_a102 v_b103 v_cmp104 v_i105 k v_j107 v_w108 = some o → RunE Try.prog 53 Fi ks (G_slices_insertionSortCmpFunc_ringref5_Proc_h_L1_ex o) (G_slices_insertionSortCmpFunc_ringref5_Proc_h_L1_st v_a102 v_b103 v_cmp104 v_i105 v_cmp104_g v_cmp104_c o) → RunE Try.prog 53 Fi (.l k (cP (cB (cR (cB (cL (cR (cP (cB (cR (bodyOf Try.f219)))))))))) :: ks) .normal (G_slices_insertionSortCmpFunc_ringref5_Proc_h_L1_hd v_a102 v_b103 v_cmp104 v_i105 v_cmp104_g v_cmp104_c v_j107 v_w108)
  | 0, v_j107, v_w108, o, h, q => by rw [G_slices_insertionSortCmpFunc_ringref5_Proc_h_L1] at h; cases h
  | k + 1, v_j107, v_w108, o, h, q => by
    rw [G_slices_insertionSortCmpFunc_ringref5_Proc_h_L1] at h
    by_cases h120 : v_j107 > v_a102
    · rw [if_pos h120] at h
      by_cases h121 : 0 ≤ v_j107 ∧ (v_j107).toNat < v_w108.length
      · rw [if_pos h121] at h
        obtain ⟨v_y112, h122, h⟩ := bind_some h
        by_cases h123 : 0 ≤ (wi .i64 (v_j107 - 1)) ∧ ((wi .i64 (v_j107 - 1))).toNat < v_w108.length
        · rw [if_pos h123] at h
          obtain ⟨v_y113, h124, h⟩ := bind_some h
          obtain ⟨v_r114, h125, h⟩ := bind_some h
          by_cases h126 : v_r114 < 0
          · rw [if_pos h126] at h
            by_cases h135 : 0 ≤ (wi .i64 (v_j107 - 1)) ∧ ((wi .i64 (v_j107 - 1))).toNat < v_w108.length
            · rw [if_pos h135] at h
              obtain ⟨v_y119, h136, h⟩ := bind_some h
              by_cases h137 : 0 ≤ v_j107 ∧ (v_j107).toNat < v_w108.length
              · rw [if_pos h137] at h
                obtain ⟨v_y120, h138, h⟩ := bind_some h
                by_cases h139 : 0 ≤ v_j107 ∧ (v_j107).toNat < v_w108.length
                · rw [if_pos h139] at h
                  obtain ⟨v_y121, h140, h⟩ := bind_some h
                  by_cases h141 : 0 ≤ (wi .i64 (v_j107 - 1)) ∧ ((wi .i64 (v_j107 - 1))).toNat < (v_w108.set (v_j107).toNat v_y119).length
                  · rw [if_pos h141] at h
                    obtain ⟨v_y122, h142, h⟩ := bind_some h
                    exact pkk_sound TTok mix hF 11 (hs := [.t true, .c, .c, .c, .c, .y (eS_ringref5_Proc v_y112), .c, .c, .c, .c, .c, .y (eS_ringref5_Proc v_y113), .c, .r ((eI .i64) v_r114), .c, .t true, .y (eS_ringref5_Proc v_y119), .y (eS_ringref5_Proc v_y120), .w ((v_w108.set (v_j107).toNat v_y119).map eS_ringref5_Proc), .y (eS_ringref5_Proc v_y121), .w (((v_w108.set (v_j107).toNat v_y119).set ((wi .i64 (v_j107 - 1))).toNat v_y120).map eS_ringref5_Proc), .y (eS_ringref5_Proc v_y122)]) (ts := []) (s := [0, 1]) (l := [0, 1, 2, 3, 8, 9]) (by kernel_rfl) (by kernel_rfl) (.cons (dt h120) (.cons (idx_ob (f := eS_ringref5_Proc) h121) (.cons (get_ob (f := eS_ringref5_Proc) h122) (.cons (idx_ob (f := eS_ringref5_Proc) h123) (.cons (get_ob (f := eS_ringref5_Proc) h124) (.cons (v_cmp104_h v_y112 v_y113 _ h125) (.cons (dt h126) (.cons (idx_ob (f := eS_ringref5_Proc) h135) (.cons (get_ob (f := eS_ringref5_Proc) h136) (.cons (idx_ob (f := eS_ringref5_Proc) h137) (.cons (get_ob (f := eS_ringref5_Proc) h138) (.cons (idx_ob (f := eS_ringref5_Proc) h139) (.cons (get_ob (f := eS_ringref5_Proc) h140) (.cons (Eq.refl (pcells (.agg [.v (.int .i64 v_y119.fId), .v (.int .i64 v_y119.fUp), .v (.int .i64 v_y119.fGroup), .v (.int .i64 v_y119.fStatus), .v (.bool v_y119.fEnded)]))) (.cons (set_ob (f := eS_ringref5_Proc) (l := v_w108) (k := (v_j107).toNat) (z := v_y119) (p := .agg [.v (.int .i64 v_y119.fId), .v (.int .i64 v_y119.fUp), .v (.int .i64 v_y119.fGroup), .v (.int .i64 v_y119.fStatus), .v (.bool v_y119.fEnded)]) rfl) (.cons (idx_ob (f := eS_ringref5_Proc) h141) (.cons (get_ob (f := eS_ringref5_Proc) h142) (.cons (Eq.refl (pcells (.agg [.v (.int .i64 v_y120.fId), .v (.int .i64 v_y120.fUp), .v (.int .i64 v_y120.fGroup), .v (.int .i64 v_y120.fStatus), .v (.bool v_y120.fEnded)]))) (.cons (set_ob (f := eS_ringref5_Proc) (l := (v_w108.set (v_j107).toNat v_y119)) (k := ((wi .i64 (v_j107 - 1))).toNat) (z := v_y120) (p := .agg [.v (.int .i64 v_y120.fId), .v (.int .i64 v_y120.fUp), .v (.int .i64 v_y120.fGroup), .v (.int .i64 v_y120.fStatus), .v (.bool v_y120.fEnded)]) rfl) .nil))))))))))))))))))) (G_slices_insertionSortCmpFunc_ringref5_Proc_h_L1_ok hF ks n v_a102 v_b103 v_cmp104 v_i105 v_cmp104_g v_cmp104_c v_cmp104_h k (wi .i64 (v_j107 - 1)) ((v_w108.set (v_j107).toNat v_y119).set ((wi .i64 (v_j107 - 1))).toNat v_y120) _ h q)
                  · rw [if_neg h141] at h; cases h
                · rw [if_neg h139] at h; cases h
              · rw [if_neg h137] at h; cases h
            · rw [if_neg h135] at h; cases h
          · rw [if_neg h126] at h
            cases h
            exact pkk_sound TTok mix hF 8 (hs := [.t true, .c, .c, .c, .c, .y (eS_ringref5_Proc v_y112), .c, .c, .c, .c, .c, .y (eS_ringref5_Proc v_y113), .c, .r ((eI .i64) v_r114), .c, .t false]) (ts := []) (s := [0, 1]) (l := [0, 1, 2, 3, 8]) (by kernel_rfl) (by kernel_rfl) (.cons (dt h120) (.cons (idx_ob (f := eS_ringref5_Proc) h121) (.cons (get_ob (f := eS_ringref5_Proc) h122) (.cons (idx_ob (f := eS_ringref5_Proc) h123) (.cons (get_ob (f := eS_ringref5_Proc) h124) (.cons (v_cmp104_h v_y112 v_y113 _ h125) (.cons (df h126) .nil))))))) q
        · rw [if_neg h123] at h; cases h
      · rw [if_neg h121] at h; cases h
    · rw [if_neg h120] at h
      cases h
      exact pkk_sound TTok mix hF 8 (hs := [.t false, .c, .c, .c, .c, .c, .c, .c, .c, .c, .c, .c, .c]) (ts := []) (s := [0, 1]) (l := [0, 1, 2, 3, 8]) (by kernel_rfl) (by kernel_rfl) (.cons (df h120) .nil) q
inductive G_slices_insertionSortCmpFunc_ringref5_Proc_h_L2_R where
  | x0 (v_w127 : (List S_ringref5_Proc))
def G_slices_insertionSortCmpFunc_ringref5_Proc_h_L2_ex : G_slices_insertionSortCmpFunc_ringref5_Proc_h_L2_R → Ex
  | .x0 _ => .exit 0
def G_slices_insertionSortCmpFunc_ringref5_Proc_h_L2_st (v_a102 : Int) (v_b103 : Int) (v_cmp104 : (S_ringref5_Proc → S_ringref5_Proc → Option (Int))) (v_cmp104_g : FuncId) (v_cmp104_c : (List PV)) : G_slices_insertionSortCmpFunc_ringref5_Proc_h_L2_R → PS
  | .x0 v_w127 => ⟨[dd, dd, dd, dd, dd, dd, dd, dd, dd, dd, dd, dd, dd, dd, dd, dd, dd, dd, dd, dd, dd, dd, dd, dd, dd, dd, dd, dd, dd, dd, dd, dd, dd, dd, dd, dd, dd, dd, dd, dd, dd, dd, dd, dd, dd, dd, dd, dd, dd, dd, dd, dd, dd], [.gh 0 (.srf 1), .row 180 5 (v_w127.map eS_ringref5_Proc)]⟩
def G_slices_insertionSortCmpFunc_ringref5_Proc_h_L2_hd (v_a102 : Int) (v_b103 : Int) (v_cmp104 : (S_ringref5_Proc → S_ringref5_Proc → Option (Int))) (v_cmp104_g : FuncId) (v_cmp104_c : (List PV)) (v_i105 : Int) (v_w106 : (List S_ringref5_Proc)) : PS := ⟨[.srf 1, .d (.v (.int .i64 v_a102)), .d (.v (.int .i64 v_b103)), .d (.clo v_cmp104_g v_cmp104_c), dd, dd, dd, dd, .d (.v (.int .i64 v_i105)), dd, dd, dd, dd, dd, dd, dd, dd, dd, dd, dd, dd, dd, dd, dd, dd, dd, dd, dd, dd, dd, dd, dd, dd, dd, dd, dd, dd, dd, dd, dd, dd, dd, dd, dd, dd, dd, dd, dd, dd, dd, dd, dd, dd], [.gh 0 (.srf 1), .row 180 5 (v_w106.map eS_ringref5_Proc)]⟩
def G_slices_insertionSortCmpFunc_ringref5_Proc_h_L2 (n : Nat) (v_a102 : Int) (v_b103 : Int) (v_cmp104 : (S_ringref5_Proc → S_ringref5_Proc → Option (Int))) : Nat → Int → (List S_ringref5_Proc) → Option G_slices_insertionSortCmpFunc_ringref5_Proc_h_L2_R
  | 0, _, _ => none
  | k + 1, v_i105, v_w106 =>
    if v_i105 < v_b103 then
     (G_slices_insertionSortCmpFunc_ringref5_Proc_h_L1 n v_a102 v_b103 v_cmp104 v_i105 n v_i105 v_w106).bind fun v_o125 => match v_o125 with
     | .x0 v_z126 =>
       G_slices_insertionSortCmpFunc_ringref5_Proc_h_L2 n v_a102 v_b103 v_cmp104 k (wi .i64 (v_i105 + 1)) v_z126
    else
     some (.x0 v_w106)
theorem G_slices_insertionSortCmpFunc_ringref5_Proc_h_L2_ok {Fi : Ex → PS → Prop} (hF : KC 53 Fi) (ks : List Fr) (n : Nat) (v_a102 : Int) (v_b103 : Int) (v_cmp104 : (S_ringref5_Proc → S_ringref5_Proc → Option (Int))) (v_cmp104_g : FuncId) (v_cmp104_c : (List PV)) (v_cmp104_h : ∀ (x0 : S_ringref5_Proc) (x1 : S_ringref5_Proc) (r : Int), v_cmp104 x0 x1 = some r → Ret Try.prog v_cmp104_g ([eS_ringref5_Proc x0, eS_ringref5_Proc x1] ++ v_cmp104_c) ((eI .i64) r)) : ∀ (k : Nat) (v_i105 : Int) (v_w106 : (List S_ringref5_Proc)) (o : G_slices_insertionSortCmpFunc_ringref5_Proc_h_L2_R), G_slices_insertionSortCmpFunc_ringref5_Proc_h_L2 n v_a102 v_b103 v_cmp104 k v_i105 v_w106 = some o → RunE Try.prog 53 Fi ks (G_slices_insertionSortCmpFunc_ringref5_Proc_h_L2_ex o) (G_slices_insertionSortCmpFunc_ringref5_Proc_h_L2_st v_a102 v_b103 v_cmp104 v_cmp104_g v_cmp104_c o) → RunE Try.prog 53 Fi (.l k (cP (cB (cR (bodyOf Try.f219)))) :: ks) .normal (G_slices_insertionSortCmpFunc_ringref5_Proc_h_L2_hd v_a102 v_b103 v_cmp104 v_cmp104_g v_cmp104_c v_i105 v_w106)
  | 0, v_i105, v_w106, o, h, q => by rw [G_slices_insertionSortCmpFunc_ringref5_Proc_h_L2] at h; cases h
  | k + 1, v_i105, v_w106, o, h, q => by
    rw [G_slices_insertionSortCmpFunc_ringref5_Proc_h_L2] at h
    by_cases h113 : v_i105 < v_b103
    · rw [if_pos h113] at h
      obtain ⟨v_o125, h143, h⟩ := bind_some h
      refine pkk_sound TTok mix hF 12 (hs := [.t true, .n n]) (ts := []) (s := [0, 1]) (l := [0, 1, 2, 3, 8, 9]) (by kernel_rfl) (by kernel_rfl) (.cons (dt h113) .nil) (G_slices_insertionSortCmpFunc_ringref5_Proc_h_L1_ok hF (.b 2 :: .b 1 :: .s (cR (cR (cP (cB (cR (bodyOf Try.f219)))))) :: .l k (cP (cB (cR (bodyOf Try.f219)))) :: ks) n v_a102 v_b103 v_cmp104 v_i105 v_cmp104_g v_cmp104_c v_cmp104_h n v_i105 v_w106 _ h143 ?_)
      cases v_o125 with
      | x0 v_z126 =>
        try dsimp only at h
        exact pkk_sound TTok mix hF 3 (hs := []) (ts := []) (s := [0, 1]) (l := [0, 1, 2, 3, 8]) (by kernel_rfl) (by kernel_rfl) .nil (G_slices_insertionSortCmpFunc_ringref5_Proc_h_L2_ok hF ks n v_a102 v_b103 v_cmp104 v_cmp104_g v_cmp104_c v_cmp104_h k (wi .i64 (v_i105 + 1)) v_z126 _ h q)
    · rw [if_neg h113] at h
      cases h
      exact pkk_sound TTok mix hF 8 (hs := [.t false]) (ts := []) (s := [0, 1]) (l := []) (by kernel_rfl) (by kernel_rfl) (.cons (df h113) .nil) q
/- slices.insertionSortCmpFunc[ringhall/ringref5.Proc] -/
def G_slices_insertionSortCmpFunc_ringref5_Proc_h (n : Nat) (v_data101 : (List S_ringref5_Proc)) (v_a102 : Int) (v_b103 : Int) (v_cmp104 : (S_ringref5_Proc → S_ringref5_Proc → Option (Int))) : Option ((List S_ringref5_Proc)) :=
  (G_slices_insertionSortCmpFunc_ringref5_Proc_h_L2 n v_a102 v_b103 v_cmp104 n (wi .i64 (v_a102 + 1)) v_data101).bind fun v_o128 => match v_o128 with
  | .x0 v_z129 =>
    some v_z129
theorem G_slices_insertionSortCmpFunc_ringref5_Proc_h_ok (n : Nat) (v_data101 : (List S_ringref5_Proc)) (v_a102 : Int) (v_b103 : Int) (v_cmp104 : (S_ringref5_Proc → S_ringref5_Proc → Option (Int))) (v_cmp104_g : FuncId) (v_cmp104_c : List PV) (v_cmp104_h : ∀ (x0 : S_ringref5_Proc) (x1 : S_ringref5_Proc) (r : Int), v_cmp104 x0 x1 = some r → Ret Try.prog v_cmp104_g ([eS_ringref5_Proc x0, eS_ringref5_Proc x1] ++ v_cmp104_c) ((eI .i64) r)) (r : (List S_ringref5_Proc)) (h : G_slices_insertionSortCmpFunc_ringref5_Proc_h n v_data101 v_a102 v_b103 v_cmp104 = some r) : RetH Try.prog 219 [.srf 0, .d ((eI .i64) v_a102), .d ((eI .i64) v_b103), .d ((.clo v_cmp104_g v_cmp104_c))] [.row 180 5 (v_data101.map eS_ringref5_Proc)] (.tup []) [.row 180 5 (r.map eS_ringref5_Proc)] := by
  refine retH_run (n := 53) (fn := Try.f219) (c := bodyOf Try.f219) (by kernel_rfl) (by kernel_rfl) (by kernel_rfl) (by kernel_rfl) ?_
  have hF : KC 53 (FinH Try.prog Try.f219 [.row 180 5 (v_data101.map eS_ringref5_Proc)] (.tup []) [.row 180 5 (r.map eS_ringref5_Proc)]) := FinH.kc' (by kernel_rfl)
  unfold G_slices_insertionSortCmpFunc_ringref5_Proc_h at h
  obtain ⟨v_o128, h144, h⟩ := bind_some h
  refine pkk_sound TTok mix hF 4 (hs := [.n n]) (ts := []) (s := [1, 0]) (l := [0, 1, 2, 3, 8]) (by kernel_rfl) (by kernel_rfl) .nil (G_slices_insertionSortCmpFunc_ringref5_Proc_h_L2_ok hF (.b 0 :: []) n v_a102 v_b103 v_cmp104 v_cmp104_g v_cmp104_c v_cmp104_h n (wi .i64 (v_a102 + 1)) v_data101 _ h144 ?_)
  cases v_o128 with
  | x0 v_z129 =>
    try dsimp only at h
    obtain rfl := Option.some.inj h
    exact pendH_sound TTok mix 1 (hs := []) [1] (by kernel_rfl) (by kernel_rfl) (by kernel_rfl) .nil
inductive G_slices_siftDownCmpFunc_ringref5_Proc_h_C1_R where
  | x0 (v_x179 : Bool) (v_w180 : (List S_ringref5_Proc))
def G_slices_siftDownCmpFunc_ringref5_Proc_h_C1_ex : G_slices_siftDownCmpFunc_ringref5_Proc_h_C1_R → Ex
  | .x0 _ _ => .normal
def G_slices_siftDownCmpFunc_ringref5_Proc_h_C1_st (v_hi140 : Int) (v_first141 : Int) (v_cmp142 : (S_ringref5_Proc → S_ringref5_Proc → Option (Int))) (v_root143 : Int) (v_w144 : (List S_ringref5_Proc)) (v_cmp142_g : FuncId) (v_cmp142_c : (List PV)) : G_slices_siftDownCmpFunc_ringref5_Proc_h_C1_R → PS
  | .x0 v_x179 v_w180 => ⟨[.srf 1, dd, .d (.v (.int .i64 v_hi140)), .d (.v (.int .i64 v_first141)), .d (.clo v_cmp142_g v_cmp142_c), dd, dd, dd, dd, dd, .d (.v (.int .i64 v_root143)), .d (.v (.int .i64 (wi .i64 ((wi .i64 (2 * v_root143)) + 1)))), dd, dd, dd, dd, dd, dd, dd, dd, dd, dd, dd, dd, dd, dd, dd, dd, dd, dd, dd, dd, dd, dd, dd, dd, dd, dd, dd, dd, .d (.v (.bool v_x179)), dd, dd, dd, dd, dd, dd, dd, dd, dd, dd, dd, dd, dd, dd, dd, dd, dd, dd, dd, dd, dd, dd, dd, dd, dd, dd, dd, dd, dd, dd, dd, dd, dd, dd, dd, dd, dd, dd, dd, dd, dd], [.gh 0 (.srf 1), .row 180 5 (v_w180.map eS_ringref5_Proc)]⟩
def G_slices_siftDownCmpFunc_ringref5_Proc_h_C1_hd (v_hi140 : Int) (v_first141 : Int) (v_cmp142 : (S_ringref5_Proc → S_ringref5_Proc → Option (Int))) (v_root143 : Int) (v_w144 : (List S_ringref5_Proc)) (v_cmp142_g : FuncId) (v_cmp142_c : (List PV))  : PS := ⟨[.srf 1, dd, .d (.v (.int .i64 v_hi140)), .d (.v (.int .i64 v_first141)), .d (.clo v_cmp142_g v_cmp142_c), dd, dd, dd, dd, dd, .d (.v (.int .i64 v_root143)), .d (.v (.int .i64 (wi .i64 ((wi .i64 (2 * v_root143)) + 1)))), dd, dd, dd, dd, dd, dd, dd, dd, dd, dd, dd, dd, dd, dd, dd, dd, dd, dd, dd, dd, dd, dd, dd, dd, dd, dd, dd, dd, dd, dd, dd, dd, dd, dd, dd, dd, dd, dd, dd, dd, dd, dd, dd, dd, dd, dd, dd, dd, dd, dd, dd, dd, dd, dd, dd, dd, dd, dd, dd, dd, dd, dd, dd, dd, dd, dd, dd, dd, dd, dd], [.gh 0 (.srf 1), .row 180 5 (v_w144.map eS_ringref5_Proc)]⟩
def G_slices_siftDownCmpFunc_ringref5_Proc_h_C1 (n : Nat) (v_hi140 : Int) (v_first141 : Int) (v_cmp142 : (S_ringref5_Proc → S_ringref5_Proc → Option (Int))) (v_root143 : Int) (v_w144 : (List S_ringref5_Proc)) : Option G_slices_siftDownCmpFunc_ringref5_Proc_h_C1_R :=
  if (wi .i64 ((wi .i64 ((wi .i64 (2 * v_root143)) + 1)) + 1)) < v_hi140 then
   if 0 ≤ (wi .i64 (v_first141 + (wi .i64 ((wi .i64 (2 * v_root143)) + 1)))) ∧ ((wi .i64 (v_first141 + (wi .i64 ((wi .i64 (2 * v_root143)) + 1))))).toNat < v_w144.length then
    (v_w144[((wi .i64 (v_first141 + (wi .i64 ((wi .i64 (2 * v_root143)) + 1))))).toNat]?).bind fun (v_y176 : S_ringref5_Proc) =>
    if 0 ≤ (wi .i64 ((wi .i64 (v_first141 + (wi .i64 ((wi .i64 (2 * v_root143)) + 1)))) + 1)) ∧ ((wi .i64 ((wi .i64 (v_first141 + (wi .i64 ((wi .i64 (2 * v_root143)) + 1)))) + 1))).toNat < v_w144.length then
     (v_w144[((wi .i64 ((wi .i64 (v_first141 + (wi .i64 ((wi .i64 (2 * v_root143)) + 1)))) + 1))).toNat]?).bind fun (v_y177 : S_ringref5_Proc) =>
     (v_cmp142 v_y176 v_y177).bind fun (v_r178 : (Int)) =>
     some (.x0 (decide (v_r178 < 0)) v_w144)
    else none
   else none
  else
   some (.x0 false v_w144)
theorem G_slices_siftDownCmpFunc_ringref5_Proc_h_C1_ok {Fi : Ex → PS → Prop} (hF : KC 82 Fi) (ks : List Fr) (n : Nat) (v_hi140 : Int) (v_first141 : Int) (v_cmp142 : (S_ringref5_Proc → S_ringref5_Proc → Option (Int))) (v_root143 : Int) (v_w144 : (List S_ringref5_Proc)) (v_cmp142_g : FuncId) (v_cmp142_c : (List PV)) (v_cmp142_h : ∀ (x0 : S_ringref5_Proc) (x1 : S_ringref5_Proc) (r : Int), v_cmp142 x0 x1 = some r → Ret Try.prog v_cmp142_g ([eS_ringref5_Proc x0, eS_ringref5_Proc x1] ++ v_cmp142_c) ((eI .i64) r)) (o : G_slices_siftDownCmpFunc_ringref5_Proc_h_C1_R) (h : G_slices_siftDownCmpFunc_ringref5_Proc_h_C1 n v_hi140 v_first141 v_cmp142 v_root143 v_w144 = some o) (q : RunE Try.prog 82 Fi ks (G_slices_siftDownCmpFunc_ringref5_Proc_h_C1_ex o) (G_slices_siftDownCmpFunc_ringref5_Proc_h_C1_st v_hi140 v_first141 v_cmp142 v_root143 v_w144 v_cmp142_g v_cmp142_c o)) : RunE Try.prog 82 Fi (.s (cL (cL (cR (cR (cB (cP (cB (cR (bodyOf Try.f231))))))))) :: ks) .normal (G_slices_siftDownCmpFunc_ringref5_Proc_h_C1_hd v_hi140 v_first141 v_cmp142 v_root143 v_w144 v_cmp142_g v_cmp142_c) := by
  unfold G_slices_siftDownCmpFunc_ringref5_Proc_h_C1 at h
  by_cases h189 : (wi .i64 ((wi .i64 ((wi .i64 (2 * v_root143)) + 1)) + 1)) < v_hi140
  · rw [if_pos h189] at h
    by_cases h190 : 0 ≤ (wi .i64 (v_first141 + (wi .i64 ((wi .i64 (2 * v_root143)) + 1)))) ∧ ((wi .i64 (v_first141 + (wi .i64 ((wi .i64 (2 * v_root143)) + 1))))).toNat < v_w144.length
    · rw [if_pos h190] at h
      obtain ⟨v_y176, h191, h⟩ := bind_some h
      by_cases h192 : 0 ≤ (wi .i64 ((wi .i64 (v_first141 + (wi .i64 ((wi .i64 (2 * v_root143)) + 1)))) + 1)) ∧ ((wi .i64 ((wi .i64 (v_first141 + (wi .i64 ((wi .i64 (2 * v_root143)) + 1)))) + 1))).toNat < v_w144.length
      · rw [if_pos h192] at h
        obtain ⟨v_y177, h193, h⟩ := bind_some h
        obtain ⟨v_r178, h194, h⟩ := bind_some h
        cases h
        exact pkk_sound TTok mix hF 1 (hs := [.t true, .c, .c, .c, .c, .c, .c, .y (eS_ringref5_Proc v_y176), .c, .c, .c, .c, .c, .c, .c, .y (eS_ringref5_Proc v_y177), .c, .r ((eI .i64) v_r178), .c]) (ts := []) (s := [0, 1]) (l := [0, 2, 3, 4, 10, 11, 40]) (by kernel_rfl) (by kernel_rfl) (.cons (dt h189) (.cons (idx_ob (f := eS_ringref5_Proc) h190) (.cons (get_ob (f := eS_ringref5_Proc) h191) (.cons (idx_ob (f := eS_ringref5_Proc) h192) (.cons (get_ob (f := eS_ringref5_Proc) h193) (.cons (v_cmp142_h v_y176 v_y177 _ h194) .nil)))))) q
      · rw [if_neg h192] at h; cases h
    · rw [if_neg h190] at h; cases h
  · rw [if_neg h189] at h
    cases h
    exact pkk_sound TTok mix hF 1 (hs := [.t false, .c, .c, .c, .c, .c, .c, .c, .c, .c, .c, .c, .c, .c, .c, .c]) (ts := []) (s := [0, 1]) (l := [0, 2, 3, 4, 10, 11, 40]) (by kernel_rfl) (by kernel_rfl) (.cons (df h189) .nil) q
inductive G_slices_siftDownCmpFunc_ringref5_Proc_h_C2_R where
  | x0 (v_child186 : Int) (v_w187 : (List S_ringref5_Proc))
def G_slices_siftDownCmpFunc_ringref5_Proc_h_C2_ex : G_slices_siftDownCmpFunc_ringref5_Proc_h_C2_R → Ex
  | .x0 _ _ => .normal
def G_slices_siftDownCmpFunc_ringref5_Proc_h_C2_st (v_hi140 : Int) (v_first141 : Int) (v_cmp142 : (S_ringref5_Proc → S_ringref5_Proc → Option (Int))) (v_root143 : Int) (v_z184 : Bool) (v_z185 : (List S_ringref5_Proc)) (v_cmp142_g : FuncId) (v_cmp142_c : (List PV)) : G_slices_siftDownCmpFunc_ringref5_Proc_h_C2_R → PS
  | .x0 v_child186 v_w187 => ⟨[.srf 1, dd, .d (.v (.int .i64 v_hi140)), .d (.v (.int .i64 v_first141)), .d (.clo v_cmp142_g v_cmp142_c), dd, dd, dd, dd, dd, .d (.v (.int .i64 v_root143)), .d (.v (.int .i64 v_child186)), dd, dd, dd, dd, dd, dd, dd, dd, dd, dd, dd, dd, dd, dd, dd, dd, dd, dd, dd, dd, dd, dd, dd, dd, dd, dd, dd, dd, dd, dd, dd, dd, dd, dd, dd, dd, dd, dd, dd, dd, dd, dd, dd, dd, dd, dd, dd, dd, dd, dd, dd, dd, dd, dd, dd, dd, dd, dd, dd, dd, dd, dd, dd, dd, dd, dd, dd, dd, dd, dd], [.gh 0 (.srf 1), .row 180 5 (v_w187.map eS_ringref5_Proc)]⟩
def G_slices_siftDownCmpFunc_ringref5_Proc_h_C2_hd (v_hi140 : Int) (v_first141 : Int) (v_cmp142 : (S_ringref5_Proc → S_ringref5_Proc → Option (Int))) (v_root143 : Int) (v_z184 : Bool) (v_z185 : (List S_ringref5_Proc)) (v_cmp142_g : FuncId) (v_cmp142_c : (List PV))  : PS := ⟨[.srf 1, dd, .d (.v (.int .i64 v_hi140)), .d (.v (.int .i64 v_first141)), .d (.clo v_cmp142_g v_cmp142_c), dd, dd, dd, dd, dd, .d (.v (.int .i64 v_root143)), .d (.v (.int .i64 (wi .i64 ((wi .i64 (2 * v_root143)) + 1)))), dd, dd, dd, dd, dd, dd, dd, dd, dd, dd, dd, dd, dd, dd, dd, dd, dd, dd, dd, dd, dd, dd, dd, dd, dd, dd, dd, dd, .d (.v (.bool v_z184)), dd, dd, dd, dd, dd, dd, dd, dd, dd, dd, dd, dd, dd, dd, dd, dd, dd, dd, dd, dd, dd, dd, dd, dd, dd, dd, dd, dd, dd, dd, dd, dd, dd, dd, dd, dd, dd, dd, dd, dd, dd], [.gh 0 (.srf 1), .row 180 5 (v_z185.map eS_ringref5_Proc)]⟩
def G_slices_siftDownCmpFunc_ringref5_Proc_h_C2 (n : Nat) (v_hi140 : Int) (v_first141 : Int) (v_cmp142 : (S_ringref5_Proc → S_ringref5_Proc → Option (Int))) (v_root143 : Int) (v_z184 : Bool) (v_z185 : (List S_ringref5_Proc)) : Option G_slices_siftDownCmpFunc_ringref5_Proc_h_C2_R :=
  if v_z184 = true then
   some (.x0 (wi .i64 ((wi .i64 ((wi .i64 (2 * v_root143)) + 1)) + 1)) v_z185)
  else
   some (.x0 (wi .i64 ((wi .i64 (2 * v_root143)) + 1)) v_z185)
theorem G_slices_siftDownCmpFunc_ringref5_Proc_h_C2_ok {Fi : Ex → PS → Prop} (hF : KC 82 Fi) (ks : List Fr) (n : Nat) (v_hi140 : Int) (v_first141 : Int) (v_cmp142 : (S_ringref5_Proc → S_ringref5_Proc → Option (Int))) (v_root143 : Int) (v_z184 : Bool) (v_z185 : (List S_ringref5_Proc)) (v_cmp142_g : FuncId) (v_cmp142_c : (List PV)) (v_cmp142_h : ∀ (x0 : S_ringref5_Proc) (x1 : S_ringref5_Proc) (r : Int), v_cmp142 x0 x1 = some r → Ret Try.prog v_cmp142_g ([eS_ringref5_Proc x0, eS_ringref5_Proc x1] ++ v_cmp142_c) ((eI .i64) r)) (o : G_slices_siftDownCmpFunc_ringref5_Proc_h_C2_R) (h : G_slices_siftDownCmpFunc_ringref5_Proc_h_C2 n v_hi140 v_first141 v_cmp142 v_root143 v_z184 v_z185 = some o) (q : RunE Try.prog 82 Fi ks (G_slices_siftDownCmpFunc_ringref5_Proc_h_C2_ex o) (G_slices_siftDownCmpFunc_ringref5_Proc_h_C2_st v_hi140 v_first141 v_cmp142 v_root143 v_z184 v_z185 v_cmp142_g v_cmp142_c o)) : RunE Try.prog 82 Fi (.s (cR (cL (cR (cR (cB (cP (cB (cR (bodyOf Try.f231))))))))) :: ks) .normal (G_slices_siftDownCmpFunc_ringref5_Proc_h_C2_hd v_hi140 v_first141 v_cmp142 v_root143 v_z184 v_z185 v_cmp142_g v_cmp142_c) := by
  unfold G_slices_siftDownCmpFunc_ringref5_Proc_h_C2 at h
  by_cases h197 : v_z184 = true
  · rw [if_pos h197] at h
    cases h
    exact pkk_sound TTok mix hF 2 (hs := [.t true]) (ts := []) (s := [0, 1]) (l := [0, 2, 3, 4, 10, 11]) (by kernel_rfl) (by kernel_rfl) (.cons h197 .nil) q
  · rw [if_neg h197] at h
    cases h
    exact pkk_sound TTok mix hF 2 (hs := [.t false]) (ts := []) (s := [0, 1]) (l := [0, 2, 3, 4, 10, 11]) (by kernel_rfl) (by kernel_rfl) (.cons (vf h197) .nil) q
inductive G_slices_siftDownCmpFunc_ringref5_Proc_h_L3_R where
  | x0 (v_w172 : (List S_ringref5_Proc))
  | x1 (v_w196 : (List S_ringref5_Proc))
def G_slices_siftDownCmpFunc_ringref5_Proc_h_L3_ex : G_slices_siftDownCmpFunc_ringref5_Proc_h_L3_R → Ex
  | .x0 _ => .exit 0
  | .x1 _ => .ret
def G_slices_siftDownCmpFunc_ringref5_Proc_h_L3_st (v_hi140 : Int) (v_first141 : Int) (v_cmp142 : (S_ringref5_Proc → S_ringref5_Proc → Option (Int))) (v_cmp142_g : FuncId) (v_cmp142_c : (List PV)) : G_slices_siftDownCmpFunc_ringref5_Proc_h_L3_R → PS
  | .x0 v_w172 => ⟨[dd, dd, dd, dd, dd, dd, dd, dd, dd, dd, dd, dd, dd, dd, dd, dd, dd, dd, dd, dd, dd, dd, dd, dd, dd, dd, dd, dd, dd, dd, dd, dd, dd, dd, dd, dd, dd, dd, dd, dd, dd, dd, dd, dd, dd, dd, dd, dd, dd, dd, dd, dd, dd, dd, dd, dd, dd, dd, dd, dd, dd, dd, dd, dd, dd, dd, dd, dd, dd, dd, dd, dd, dd, dd, dd, dd, dd, dd, dd, dd, dd, dd], [.gh 0 (.srf 1), .row 180 5 (v_w172.map eS_ringref5_Proc)]⟩
  | .x1 v_w196 => ⟨[dd, dd, dd, dd, dd, dd, dd, dd, dd, dd, dd, dd, dd, dd, dd, dd, dd, dd, dd, dd, dd, dd, dd, dd, dd, dd, dd, dd, dd, dd, dd, dd, dd, dd, dd, dd, dd, dd, dd, dd, dd, dd, dd, dd, dd, dd, dd, dd, dd, dd, dd, dd, dd, dd, dd, dd, dd, dd, dd, dd, dd, dd, dd, dd, dd, dd, dd, dd, dd, dd, dd, dd, dd, dd, dd, dd, dd, dd, dd, dd, dd, dd], [.gh 0 (.srf 1), .row 180 5 (v_w196.map eS_ringref5_Proc)]⟩
def G_slices_siftDownCmpFunc_ringref5_Proc_h_L3_hd (v_hi140 : Int) (v_first141 : Int) (v_cmp142 : (S_ringref5_Proc → S_ringref5_Proc → Option (Int))) (v_cmp142_g : FuncId) (v_cmp142_c : (List PV)) (v_root143 : Int) (v_w144 : (List S_ringref5_Proc)) : PS := ⟨[.srf 1, dd, .d (.v (.int .i64 v_hi140)), .d (.v (.int .i64 v_first141)), .d (.clo v_cmp142_g v_cmp142_c), dd, dd, dd, dd, dd, .d (.v (.int .i64 v_root143)), dd, dd, dd, dd, dd, dd, dd, dd, dd, dd, dd, dd, dd, dd, dd, dd, dd, dd, dd, dd, dd, dd, dd, dd, dd, dd, dd, dd, dd, dd, dd, dd, dd, dd, dd, dd, dd, dd, dd, dd, dd, dd, dd, dd, dd, dd, dd, dd, dd, dd, dd, dd, dd, dd, dd, dd, dd, dd, dd, dd, dd, dd, dd, dd, dd, dd, dd, dd, dd, dd, dd], [.gh 0 (.srf 1), .row 180 5 (v_w144.map eS_ringref5_Proc)]⟩
def G_slices_siftDownCmpFunc_ringref5_Proc_h_L3 (n : Nat) (v_hi140 : Int) (v_first141 : Int) (v_cmp142 : (S_ringref5_Proc → S_ringref5_Proc → Option (Int))) : Nat → Int → (List S_ringref5_Proc) → Option G_slices_siftDownCmpFunc_ringref5_Proc_h_L3_R
  | 0, _, _ => none
  | k + 1, v_root143, v_w144 =>
    if (wi .i64 ((wi .i64 (2 * v_root143)) + 1)) ≥ v_hi140 then
     some (.x0 v_w144)
    else
     (G_slices_siftDownCmpFunc_ringref5_Proc_h_C1 n v_hi140 v_first141 v_cmp142 v_root143 v_w144).bind fun v_o183 => match v_o183 with
     | .x0 v_z184 v_z185 =>
       (G_slices_siftDownCmpFunc_ringref5_Proc_h_C2 n v_hi140 v_first141 v_cmp142 v_root143 v_z184 v_z185).bind fun v_o190 => match v_o190 with
       | .x0 v_z191 v_z192 =>
         if 0 ≤ (wi .i64 (v_first141 + v_root143)) ∧ ((wi .i64 (v_first141 + v_root143))).toNat < v_z192.length then
          (v_z192[((wi .i64 (v_first141 + v_root143))).toNat]?).bind fun (v_y193 : S_ringref5_Proc) =>
          if 0 ≤ (wi .i64 (v_first141 + v_z191)) ∧ ((wi .i64 (v_first141 + v_z191))).toNat < v_z192.length then
           (v_z192[((wi .i64 (v_first141 + v_z191))).toNat]?).bind fun (v_y194 : S_ringref5_Proc) =>
           (v_cmp142 v_y193 v_y194).bind fun (v_r195 : (Int)) =>
           if v_r195 < 0 then
            if 0 ≤ (wi .i64 (v_first141 + v_z191)) ∧ ((wi .i64 (v_first141 + v_z191))).toNat < v_z192.length then
             (v_z192[((wi .i64 (v_first141 + v_z191))).toNat]?).bind fun (v_y197 : S_ringref5_Proc) =>
             if 0 ≤ (wi .i64 (v_first141 + v_root143)) ∧ ((wi .i64 (v_first141 + v_root143))).toNat < v_z192.length then
              (v_z192[((wi .i64 (v_first141 + v_root143))).toNat]?).bind fun (v_y198 : S_ringref5_Proc) =>
              if 0 ≤ (wi .i64 (v_first141 + v_root143)) ∧ ((wi .i64 (v_first141 + v_root143))).toNat < v_z192.length then
               (v_z192[((wi .i64 (v_first141 + v_root143))).toNat]?).bind fun (v_y199 : S_ringref5_Proc) =>
               if 0 ≤ (wi .i64 (v_first141 + v_z191)) ∧ ((wi .i64 (v_first141 + v_z191))).toNat < (v_z192.set ((wi .i64 (v_first141 + v_root143))).toNat v_y197).length then
                ((v_z192.set ((wi .i64 (v_first141 + v_root143))).toNat v_y197)[((wi .i64 (v_first141 + v_z191))).toNat]?).bind fun (v_y200 : S_ringref5_Proc) =>
                G_slices_siftDownCmpFunc_ringref5_Proc_h_L3 n v_hi140 v_first141 v_cmp142 k v_z191 ((v_z192.set ((wi .i64 (v_first141 + v_root143))).toNat v_y197).set ((wi .i64 (v_first141 + v_z191))).toNat v_y198)
               else none
              else none
             else none
            else none
           else
            some (.x1 v_z192)
          else none
         else none
theorem G_slices_siftDownCmpFunc_ringref5_Proc_h_L3_ok {Fi : Ex → PS → Prop} (hF : KC 82 Fi) (ks : List Fr) (n : Nat) (v_hi140 : Int) (v_first141 : Int) (v_cmp142 : (S_ringref5_Proc → S_ringref5_Proc → Option (Int))) (v_cmp142_g : FuncId) (v_cmp142_c : (List PV)) (v_cmp142_h : ∀ (x0 : S_ringref5_Proc) (x1 : S_ringref5_Proc) (r : Int), v_cmp142 x0 x1 = some r → Ret Try.prog v_cmp142_g ([eS_ringref5_Proc x0, eS_ringref5_Proc x1] ++ v_cmp142_c) ((eI .i64) r)) : ∀ (k : Nat) (v_root143 : Int) (v_w144 : (List S_ringref5_Proc)) (o : G_slices_siftDownCmpFunc_ringref5_Proc_h_L3_R), G_slices_siftDownCmpFunc_ringref5_Proc_h_L3 n v_hi140 v_first141 v_cmp142 k v_root143 v_w144 = some o → RunE Try.prog 82 Fi ks (G_slices_siftDownCmpFunc_ringref5_Proc_h_L3_ex o) (G_slices_siftDownCmpFunc_ringref5_Proc_h_L3_st v_hi140 v_first141 v_cmp142 v_cmp142_g v_cmp142_c o) → RunE Try.prog 82 Fi (.l k (cP (cB (cR (bodyOf Try.f231)))) :: ks) .normal (G_slices_siftDownCmpFunc_ringref5_Proc_h_L3_hd v_hi140 v_first141 v_cmp142 v_cmp142_g v_cmp142_c v_root143 v_w144)
  | 0, v_root143, v_w144, o, h, q => by rw [G_slices_siftDownCmpFunc_ringref5_Proc_h_L3] at h; cases h
  | k + 1, v_root143, v_w144, o, h, q => by
    rw [G_slices_siftDownCmpFunc_ringref5_Proc_h_L3] at h
    by_cases h182 : (wi .i64 ((wi .i64 (2 * v_root143)) + 1)) ≥ v_hi140
    · rw [if_pos h182] at h
      cases h
      exact pkk_sound TTok mix hF 12 (hs := [.t true]) (ts := []) (s := [0, 1]) (l := []) (by kernel_rfl) (by kernel_rfl) (.cons (dt h182) .nil) q
    · rw [if_neg h182] at h
      obtain ⟨v_o183, h195, h⟩ := bind_some h
      refine pkk_sound TTok mix hF 11 (hs := [.t false]) (ts := []) (s := [0, 1]) (l := [0, 2, 3, 4, 10, 11]) (by kernel_rfl) (by kernel_rfl) (.cons (df h182) .nil) (G_slices_siftDownCmpFunc_ringref5_Proc_h_C1_ok hF (.s (cR (cL (cR (cR (cB (cP (cB (cR (bodyOf Try.f231))))))))) :: .s (cR (cR (cR (cB (cP (cB (cR (bodyOf Try.f231)))))))) :: .b 1 :: .l k (cP (cB (cR (bodyOf Try.f231)))) :: ks) n v_hi140 v_first141 v_cmp142 v_root143 v_w144 v_cmp142_g v_cmp142_c v_cmp142_h _ h195 ?_)
      cases v_o183 with
      | x0 v_z184 v_z185 =>
        try dsimp only at h
        obtain ⟨v_o190, h198, h⟩ := bind_some h
        refine pkk_sound TTok mix hF 0 (hs := []) (ts := []) (s := [0, 1]) (l := [0, 2, 3, 4, 10, 11, 40]) (by kernel_rfl) (by kernel_rfl) .nil (G_slices_siftDownCmpFunc_ringref5_Proc_h_C2_ok hF (.s (cR (cR (cR (cB (cP (cB (cR (bodyOf Try.f231)))))))) :: .b 1 :: .l k (cP (cB (cR (bodyOf Try.f231)))) :: ks) n v_hi140 v_first141 v_cmp142 v_root143 v_z184 v_z185 v_cmp142_g v_cmp142_c v_cmp142_h _ h198 ?_)
        cases v_o190 with
        | x0 v_z191 v_z192 =>
          try dsimp only at h
          by_cases h199 : 0 ≤ (wi .i64 (v_first141 + v_root143)) ∧ ((wi .i64 (v_first141 + v_root143))).toNat < v_z192.length
          · rw [if_pos h199] at h
            obtain ⟨v_y193, h200, h⟩ := bind_some h
            by_cases h201 : 0 ≤ (wi .i64 (v_first141 + v_z191)) ∧ ((wi .i64 (v_first141 + v_z191))).toNat < v_z192.length
            · rw [if_pos h201] at h
              obtain ⟨v_y194, h202, h⟩ := bind_some h
              obtain ⟨v_r195, h203, h⟩ := bind_some h
              by_cases h204 : v_r195 < 0
              · rw [if_pos h204] at h
                by_cases h205 : 0 ≤ (wi .i64 (v_first141 + v_z191)) ∧ ((wi .i64 (v_first141 + v_z191))).toNat < v_z192.length
                · rw [if_pos h205] at h
                  obtain ⟨v_y197, h206, h⟩ := bind_some h
                  by_cases h207 : 0 ≤ (wi .i64 (v_first141 + v_root143)) ∧ ((wi .i64 (v_first141 + v_root143))).toNat < v_z192.length
                  · rw [if_pos h207] at h
                    obtain ⟨v_y198, h208, h⟩ := bind_some h
                    by_cases h209 : 0 ≤ (wi .i64 (v_first141 + v_root143)) ∧ ((wi .i64 (v_first141 + v_root143))).toNat < v_z192.length
                    · rw [if_pos h209] at h
                      obtain ⟨v_y199, h210, h⟩ := bind_some h
                      by_cases h211 : 0 ≤ (wi .i64 (v_first141 + v_z191)) ∧ ((wi .i64 (v_first141 + v_z191))).toNat < (v_z192.set ((wi .i64 (v_first141 + v_root143))).toNat v_y197).length
                      · rw [if_pos h211] at h
                        obtain ⟨v_y200, h212, h⟩ := bind_some h
                        exact pkk_sound TTok mix hF 9 (hs := [.y (eS_ringref5_Proc v_y193), .y (eS_ringref5_Proc v_y194), .r ((eI .i64) v_r195), .t false, .y (eS_ringref5_Proc v_y197), .y (eS_ringref5_Proc v_y198), .w ((v_z192.set ((wi .i64 (v_first141 + v_root143))).toNat v_y197).map eS_ringref5_Proc), .y (eS_ringref5_Proc v_y199), .w (((v_z192.set ((wi .i64 (v_first141 + v_root143))).toNat v_y197).set ((wi .i64 (v_first141 + v_z191))).toNat v_y198).map eS_ringref5_Proc), .y (eS_ringref5_Proc v_y200)]) (ts := []) (s := [0, 1]) (l := [0, 2, 3, 4, 10]) (by kernel_rfl) (by kernel_rfl) (.cons (idx_ob (f := eS_ringref5_Proc) h199) (.cons (get_ob (f := eS_ringref5_Proc) h200) (.cons (idx_ob (f := eS_ringref5_Proc) h201) (.cons (get_ob (f := eS_ringref5_Proc) h202) (.cons (v_cmp142_h v_y193 v_y194 _ h203) (.cons (bnf (dt h204)) (.cons (idx_ob (f := eS_ringref5_Proc) h205) (.cons (get_ob (f := eS_ringref5_Proc) h206) (.cons (idx_ob (f := eS_ringref5_Proc) h207) (.cons (get_ob (f := eS_ringref5_Proc) h208) (.cons (idx_ob (f := eS_ringref5_Proc) h209) (.cons (get_ob (f := eS_ringref5_Proc) h210) (.cons (Eq.refl (pcells (.agg [.v (.int .i64 v_y197.fId), .v (.int .i64 v_y197.fUp), .v (.int .i64 v_y197.fGroup), .v (.int .i64 v_y197.fStatus), .v (.bool v_y197.fEnded)]))) (.cons (set_ob (f := eS_ringref5_Proc) (l := v_z192) (k := ((wi .i64 (v_first141 + v_root143))).toNat) (z := v_y197) (p := .agg [.v (.int .i64 v_y197.fId), .v (.int .i64 v_y197.fUp), .v (.int .i64 v_y197.fGroup), .v (.int .i64 v_y197.fStatus), .v (.bool v_y197.fEnded)]) rfl) (.cons (idx_ob (f := eS_ringref5_Proc) h211) (.cons (get_ob (f := eS_ringref5_Proc) h212) (.cons (Eq.refl (pcells (.agg [.v (.int .i64 v_y198.fId), .v (.int .i64 v_y198.fUp), .v (.int .i64 v_y198.fGroup), .v (.int .i64 v_y198.fStatus), .v (.bool v_y198.fEnded)]))) (.cons (set_ob (f := eS_ringref5_Proc) (l := (v_z192.set ((wi .i64 (v_first141 + v_root143))).toNat v_y197)) (k := ((wi .i64 (v_first141 + v_z191))).toNat) (z := v_y198) (p := .agg [.v (.int .i64 v_y198.fId), .v (.int .i64 v_y198.fUp), .v (.int .i64 v_y198.fGroup), .v (.int .i64 v_y198.fStatus), .v (.bool v_y198.fEnded)]) rfl) .nil)))))))))))))))))) (G_slices_siftDownCmpFunc_ringref5_Proc_h_L3_ok hF ks n v_hi140 v_first141 v_cmp142 v_cmp142_g v_cmp142_c v_cmp142_h k v_z191 ((v_z192.set ((wi .i64 (v_first141 + v_root143))).toNat v_y197).set ((wi .i64 (v_first141 + v_z191))).toNat v_y198) _ h q)
                      · rw [if_neg h211] at h; cases h
                    · rw [if_neg h209] at h; cases h
                  · rw [if_neg h207] at h; cases h
                · rw [if_neg h205] at h; cases h
              · rw [if_neg h204] at h
                cases h
                exact pkk_sound TTok mix hF 8 (hs := [.y (eS_ringref5_Proc v_y193), .y (eS_ringref5_Proc v_y194), .r ((eI .i64) v_r195), .t true]) (ts := []) (s := [0, 1]) (l := []) (by kernel_rfl) (by kernel_rfl) (.cons (idx_ob (f := eS_ringref5_Proc) h199) (.cons (get_ob (f := eS_ringref5_Proc) h200) (.cons (idx_ob (f := eS_ringref5_Proc) h201) (.cons (get_ob (f := eS_ringref5_Proc) h202) (.cons (v_cmp142_h v_y193 v_y194 _ h203) (.cons (bnt (df h204)) .nil)))))) q
            · rw [if_neg h201] at h; cases h
          · rw [if_neg h199] at h; cases h
/- slices.siftDownCmpFunc[ringhall/ringref5.Proc] -/
def G_slices_siftDownCmpFunc_ringref5_Proc_h (n : Nat) (v_data138 : (List S_ringref5_Proc)) (v_lo139 : Int) (v_hi140 : Int) (v_first141 : Int) (v_cmp142 : (S_ringref5_Proc → S_ringref5_Proc → Option (Int))) : Option ((List S_ringref5_Proc)) :=
  (G_slices_siftDownCmpFunc_ringref5_Proc_h_L3 n v_hi140 v_first141 v_cmp142 n v_lo139 v_data138).bind fun v_o201 => match v_o201 with
  | .x0 v_z202 =>
    some v_z202
  | .x1 v_z203 =>
    some v_z203
theorem G_slices_siftDownCmpFunc_ringref5_Proc_h_ok (n : Nat) (v_data138 : (List S_ringref5_Proc)) (v_lo139 : Int) (v_hi140 : Int) (v_first141 : Int) (v_cmp142 : (S_ringref5_Proc → S_ringref5_Proc → Option (Int))) (v_cmp142_g : FuncId) (v_cmp142_c : List PV) (v_cmp142_h : ∀ (x0 : S_ringref5_Proc) (x1 : S_ringref5_Proc) (r : Int), v_cmp142 x0 x1 = some r → Ret Try.prog v_cmp142_g ([eS_ringref5_Proc x0, eS_ringref5_Proc x1] ++ v_cmp142_c) ((eI .i64) r)) (r : (List S_ringref5_Proc)) (h : G_slices_siftDownCmpFunc_ringref5_Proc_h n v_data138 v_lo139 v_hi140 v_first141 v_cmp142 = some r) : RetH Try.prog 231 [.srf 0, .d ((eI .i64) v_lo139), .d ((eI .i64) v_hi140), .d ((eI .i64) v_first141), .d ((.clo v_cmp142_g v_cmp142_c))] [.row 180 5 (v_data138.map eS_ringref5_Proc)] (.tup []) [.row 180 5 (r.map eS_ringref5_Proc)] := by
  refine retH_run (n := 82) (fn := Try.f231) (c := bodyOf Try.f231) (by kernel_rfl) (by kernel_rfl) (by kernel_rfl) (by kernel_rfl) ?_
  have hF : KC 82 (FinH Try.prog Try.f231 [.row 180 5 (v_data138.map eS_ringref5_Proc)] (.tup []) [.row 180 5 (r.map eS_ringref5_Proc)]) := FinH.kc' (by kernel_rfl)
  unfold G_slices_siftDownCmpFunc_ringref5_Proc_h at h
  obtain ⟨v_o201, h213, h⟩ := bind_some h
  refine pkk_sound TTok mix hF 4 (hs := [.n n]) (ts := []) (s := [1, 0]) (l := [0, 2, 3, 4, 10]) (by kernel_rfl) (by kernel_rfl) .nil (G_slices_siftDownCmpFunc_ringref5_Proc_h_L3_ok hF (.b 0 :: []) n v_hi140 v_first141 v_cmp142 v_cmp142_g v_cmp142_c v_cmp142_h n v_lo139 v_data138 _ h213 ?_)
  cases v_o201 with
  | x0 v_z202 =>
    try dsimp only at h
    obtain rfl := Option.some.inj h
    exact pendH_sound TTok mix 1 (hs := []) [1] (by kernel_rfl) (by kernel_rfl) (by kernel_rfl) .nil
  | x1 v_z203 =>
    try dsimp only at h
    obtain rfl := Option.some.inj h
    exact pendH_sound TTok mix 1 (hs := []) [1] (by kernel_rfl) (by kernel_rfl) (by kernel_rfl) .nil
inductive G_slices_heapSortCmpFunc_ringref5_Proc_h_L1_R where
  | x0 (v_w206 : (List S_ringref5_Proc))
def G_slices_heapSortCmpFunc_ringref5_Proc_h_L1_ex : G_slices_heapSortCmpFunc_ringref5_Proc_h_L1_R → Ex
  | .x0 _ => .exit 0
def G_slices_heapSortCmpFunc_ringref5_Proc_h_L1_st (v_cmp135 : (S_ringref5_Proc → S_ringref5_Proc → Option (Int))) (v_a133 : Int) (v_b134 : Int) (v_cmp135_g : FuncId) (v_cmp135_c : (List PV)) : G_slices_heapSortCmpFunc_ringref5_Proc_h_L1_R → PS
  | .x0 v_w206 => ⟨[.srf 1, dd, dd, .d (.clo v_cmp135_g v_cmp135_c), dd, dd, dd, dd, .d (.v (.int .i64 v_a133)), .d (.v (.int .i64 0)), .d (.v (.int .i64 (wi .i64 (v_b134 - v_a133)))), dd, dd, dd, dd, dd, dd, dd, dd, dd, dd, dd, dd, dd, dd, dd, dd, dd, dd, dd, dd, dd, dd, dd, dd, dd, dd, dd, dd, dd, dd, dd, dd, dd, dd, dd, dd, dd, dd, dd, dd, dd, dd, dd, dd, dd, dd, dd, dd, dd], [.gh 0 (.srf 1), .row 180 5 (v_w206.map eS_ringref5_Proc)]⟩
def G_slices_heapSortCmpFunc_ringref5_Proc_h_L1_hd (v_cmp135 : (S_ringref5_Proc → S_ringref5_Proc → Option (Int))) (v_a133 : Int) (v_b134 : Int) (v_cmp135_g : FuncId) (v_cmp135_c : (List PV)) (v_i136 : Int) (v_w137 : (List S_ringref5_Proc)) : PS := ⟨[.srf 1, dd, dd, .d (.clo v_cmp135_g v_cmp135_c), dd, dd, dd, dd, .d (.v (.int .i64 v_a133)), .d (.v (.int .i64 0)), .d (.v (.int .i64 (wi .i64 (v_b134 - v_a133)))), .d (.v (.int .i64 v_i136)), dd, dd, dd, dd, dd, dd, dd, dd, dd, dd, dd, dd, dd, dd, dd, dd, dd, dd, dd, dd, dd, dd, dd, dd, dd, dd, dd, dd, dd, dd, dd, dd, dd, dd, dd, dd, dd, dd, dd, dd, dd, dd, dd, dd, dd, dd, dd, dd], [.gh 0 (.srf 1), .row 180 5 (v_w137.map eS_ringref5_Proc)]⟩
def G_slices_heapSortCmpFunc_ringref5_Proc_h_L1 (n : Nat) (v_cmp135 : (S_ringref5_Proc → S_ringref5_Proc → Option (Int))) (v_a133 : Int) (v_b134 : Int) : Nat → Int → (List S_ringref5_Proc) → Option G_slices_heapSortCmpFunc_ringref5_Proc_h_L1_R
  | 0, _, _ => none
  | k + 1, v_i136, v_w137 =>
    if v_i136 ≥ 0 then
     (G_slices_siftDownCmpFunc_ringref5_Proc_h n v_w137 v_i136 (wi .i64 (v_b134 - v_a133)) v_a133 v_cmp135).bind fun (v_r205 : ((List S_ringref5_Proc))) =>
     G_slices_heapSortCmpFunc_ringref5_Proc_h_L1 n v_cmp135 v_a133 v_b134 k (wi .i64 (v_i136 - 1)) v_r205
    else
     some (.x0 v_w137)
theorem G_slices_heapSortCmpFunc_ringref5_Proc_h_L1_ok {Fi : Ex → PS → Prop} (hF : KC 60 Fi) (ks : List Fr) (n : Nat) (v_cmp135 : (S_ringref5_Proc → S_ringref5_Proc → Option (Int))) (v_a133 : Int) (v_b134 : Int) (v_cmp135_g : FuncId) (v_cmp135_c : (List PV)) (v_cmp135_h : ∀ (x0 : S_ringref5_Proc) (x1 : S_ringref5_Proc) (r : Int), v_cmp135 x0 x1 = some r → Ret Try.prog v_cmp135_g ([eS_ringref5_Proc x0, eS_ringref5_Proc x1] ++ v_cmp135_c) ((eI .i64) r)) : ∀ (k : Nat) (v_i136 : Int) (v_w137 : (List S_ringref5_Proc)) (o : G_slices_heapSortCmpFunc_ringref5_Proc_h_L1_R), G_slices_heapSortCmpFunc_ringref5_Proc_h_L1 n v_cmp135 v_a133 v_b134 k v_i136 v_w137 = some o → RunE Try.prog 60 Fi ks (G_slices_heapSortCmpFunc_ringref5_Proc_h_L1_ex o) (G_slices_heapSortCmpFunc_ringref5_Proc_h_L1_st v_cmp135 v_a133 v_b134 v_cmp135_g v_cmp135_c o) → RunE Try.prog 60 Fi (.l k (cP (cB (cR (cL (cR (cR (cR (bodyOf Try.f220)))))))) :: ks) .normal (G_slices_heapSortCmpFunc_ringref5_Proc_h_L1_hd v_cmp135 v_a133 v_b134 v_cmp135_g v_cmp135_c v_i136 v_w137)
  | 0, v_i136, v_w137, o, h, q => by rw [G_slices_heapSortCmpFunc_ringref5_Proc_h_L1] at h; cases h
  | k + 1, v_i136, v_w137, o, h, q => by
    rw [G_slices_heapSortCmpFunc_ringref5_Proc_h_L1] at h
    by_cases h150 : v_i136 ≥ 0
    · rw [if_pos h150] at h
      obtain ⟨v_r205, h215, h⟩ := bind_some h
      exact pkk_sound TTok mix hF 11 (hs := [.t true, .h [1] [] [.row 180 5 (v_r205.map eS_ringref5_Proc)] (.tup [])]) (ts := []) (s := [0, 1]) (l := [0, 3, 8, 9, 10, 11]) (by kernel_rfl) (by kernel_rfl) (.cons (dt h150) (.cons (G_slices_siftDownCmpFunc_ringref5_Proc_h_ok n v_w137 v_i136 (wi .i64 (v_b134 - v_a133)) v_a133 v_cmp135 v_cmp135_g v_cmp135_c v_cmp135_h _ h215) .nil)) (G_slices_heapSortCmpFunc_ringref5_Proc_h_L1_ok hF ks n v_cmp135 v_a133 v_b134 v_cmp135_g v_cmp135_c v_cmp135_h k (wi .i64 (v_i136 - 1)) v_r205 _ h q)
    · rw [if_neg h150] at h
      cases h
      exact pkk_sound TTok mix hF 8 (hs := [.t false]) (ts := []) (s := [0, 1]) (l := [0, 3, 8, 9, 10]) (by kernel_rfl) (by kernel_rfl) (.cons (df h150) .nil) q
inductive G_slices_heapSortCmpFunc_ringref5_Proc_h_L2_R where
  | x0 (v_w221 : (List S_ringref5_Proc))
def G_slices_heapSortCmpFunc_ringref5_Proc_h_L2_ex : G_slices_heapSortCmpFunc_ringref5_Proc_h_L2_R → Ex
  | .x0 _ => .exit 2
def G_slices_heapSortCmpFunc_ringref5_Proc_h_L2_st (v_cmp135 : (S_ringref5_Proc → S_ringref5_Proc → Option (Int))) (v_a133 : Int) (v_cmp135_g : FuncId) (v_cmp135_c : (List PV)) : G_slices_heapSortCmpFunc_ringref5_Proc_h_L2_R → PS
  | .x0 v_w221 => ⟨[dd, dd, dd, dd, dd, dd, dd, dd, dd, dd, dd, dd, dd, dd, dd, dd, dd, dd, dd, dd, dd, dd, dd, dd, dd, dd, dd, dd, dd, dd, dd, dd, dd, dd, dd, dd, dd, dd, dd, dd, dd, dd, dd, dd, dd, dd, dd, dd, dd, dd, dd, dd, dd, dd, dd, dd, dd, dd, dd, dd], [.gh 0 (.srf 1), .row 180 5 (v_w221.map eS_ringref5_Proc)]⟩
def G_slices_heapSortCmpFunc_ringref5_Proc_h_L2_hd (v_cmp135 : (S_ringref5_Proc → S_ringref5_Proc → Option (Int))) (v_a133 : Int) (v_cmp135_g : FuncId) (v_cmp135_c : (List PV)) (v_i209 : Int) (v_w210 : (List S_ringref5_Proc)) : PS := ⟨[.srf 1, dd, dd, .d (.clo v_cmp135_g v_cmp135_c), dd, dd, dd, dd, .d (.v (.int .i64 v_a133)), .d (.v (.int .i64 0)), dd, dd, .d (.v (.int .i64 v_i209)), dd, dd, dd, dd, dd, dd, dd, dd, dd, dd, dd, dd, dd, dd, dd, dd, dd, dd, dd, dd, dd, dd, dd, dd, dd, dd, dd, dd, dd, dd, dd, dd, dd, dd, dd, dd, dd, dd, dd, dd, dd, dd, dd, dd, dd, dd, dd], [.gh 0 (.srf 1), .row 180 5 (v_w210.map eS_ringref5_Proc)]⟩
def G_slices_heapSortCmpFunc_ringref5_Proc_h_L2 (n : Nat) (v_cmp135 : (S_ringref5_Proc → S_ringref5_Proc → Option (Int))) (v_a133 : Int) : Nat → Int → (List S_ringref5_Proc) → Option G_slices_heapSortCmpFunc_ringref5_Proc_h_L2_R
  | 0, _, _ => none
  | k + 1, v_i209, v_w210 =>
    if v_i209 ≥ 0 then
     if 0 ≤ (wi .i64 (v_a133 + v_i209)) ∧ ((wi .i64 (v_a133 + v_i209))).toNat < v_w210.length then
      (v_w210[((wi .i64 (v_a133 + v_i209))).toNat]?).bind fun (v_y216 : S_ringref5_Proc) =>
      if 0 ≤ v_a133 ∧ (v_a133).toNat < v_w210.length then
       (v_w210[(v_a133).toNat]?).bind fun (v_y217 : S_ringref5_Proc) =>
       if 0 ≤ v_a133 ∧ (v_a133).toNat < v_w210.length then
        (v_w210[(v_a133).toNat]?).bind fun (v_y218 : S_ringref5_Proc) =>
        if 0 ≤ (wi .i64 (v_a133 + v_i209)) ∧ ((wi .i64 (v_a133 + v_i209))).toNat < (v_w210.set (v_a133).toNat v_y216).length then
         ((v_w210.set (v_a133).toNat v_y216)[((wi .i64 (v_a133 + v_i209))).toNat]?).bind fun (v_y219 : S_ringref5_Proc) =>
         (G_slices_siftDownCmpFunc_ringref5_Proc_h n ((v_w210.set (v_a133).toNat v_y216).set ((wi .i64 (v_a133 + v_i209))).toNat v_y217) 0 v_i209 v_a133 v_cmp135).bind fun (v_r220 : ((List S_ringref5_Proc))) =>
         G_slices_heapSortCmpFunc_ringref5_Proc_h_L2 n v_cmp135 v_a133 k (wi .i64 (v_i209 - 1)) v_r220
        else none
       else none
      else none
     else none
    else
     some (.x0 v_w210)
theorem G_slices_heapSortCmpFunc_ringref5_Proc_h_L2_ok {Fi : Ex → PS → Prop} (hF : KC 60 Fi) (ks : List Fr) (n : Nat) (v_cmp135 : (S_ringref5_Proc → S_ringref5_Proc → Option (Int))) (v_a133 : Int) (v_cmp135_g : FuncId) (v_cmp135_c : (List PV)) (v_cmp135_h : ∀ (x0 : S_ringref5_Proc) (x1 : S_ringref5_Proc) (r : Int), v_cmp135 x0 x1 = some r → Ret Try.prog v_cmp135_g ([eS_ringref5_Proc x0, eS_ringref5_Proc x1] ++ v_cmp135_c) ((eI .i64) r)) : ∀ (k : Nat) (v_i209 : Int) (v_w210 : (List S_ringref5_Proc)) (o : G_slices_heapSortCmpFunc_ringref5_Proc_h_L2_R), G_slices_heapSortCmpFunc_ringref5_Proc_h_L2 n v_cmp135 v_a133 k v_i209 v_w210 = some o → RunE Try.prog 60 Fi ks (G_slices_heapSortCmpFunc_ringref5_Proc_h_L2_ex o) (G_slices_heapSortCmpFunc_ringref5_Proc_h_L2_st v_cmp135 v_a133 v_cmp135_g v_cmp135_c o) → RunE Try.prog 60 Fi (.l k (cP (cB (cR (cR (cR (cR (cR (bodyOf Try.f220)))))))) :: ks) .normal (G_slices_heapSortCmpFunc_ringref5_Proc_h_L2_hd v_cmp135 v_a133 v_cmp135_g v_cmp135_c v_i209 v_w210)
  | 0, v_i209, v_w210, o, h, q => by rw [G_slices_heapSortCmpFunc_ringref5_Proc_h_L2] at h; cases h
  | k + 1, v_i209, v_w210, o, h, q => by
    rw [G_slices_heapSortCmpFunc_ringref5_Proc_h_L2] at h
    by_cases h217 : v_i209 ≥ 0
    · rw [if_pos h217] at h
      by_cases h227 : 0 ≤ (wi .i64 (v_a133 + v_i209)) ∧ ((wi .i64 (v_a133 + v_i209))).toNat < v_w210.length
      · rw [if_pos h227] at h
        obtain ⟨v_y216, h228, h⟩ := bind_some h
        by_cases h229 : 0 ≤ v_a133 ∧ (v_a133).toNat < v_w210.length
        · rw [if_pos h229] at h
          obtain ⟨v_y217, h230, h⟩ := bind_some h
          by_cases h231 : 0 ≤ v_a133 ∧ (v_a133).toNat < v_w210.length
          · rw [if_pos h231] at h
            obtain ⟨v_y218, h232, h⟩ := bind_some h
            by_cases h233 : 0 ≤ (wi .i64 (v_a133 + v_i209)) ∧ ((wi .i64 (v_a133 + v_i209))).toNat < (v_w210.set (v_a133).toNat v_y216).length
            · rw [if_pos h233] at h
              obtain ⟨v_y219, h234, h⟩ := bind_some h
              obtain ⟨v_r220, h235, h⟩ := bind_some h
              exact pkk_sound TTok mix hF 13 (hs := [.t true, .y (eS_ringref5_Proc v_y216), .y (eS_ringref5_Proc v_y217), .w ((v_w210.set (v_a133).toNat v_y216).map eS_ringref5_Proc), .y (eS_ringref5_Proc v_y218), .w (((v_w210.set (v_a133).toNat v_y216).set ((wi .i64 (v_a133 + v_i209))).toNat v_y217).map eS_ringref5_Proc), .y (eS_ringref5_Proc v_y219), .h [1] [] [.row 180 5 (v_r220.map eS_ringref5_Proc)] (.tup [])]) (ts := []) (s := [0, 1]) (l := [0, 3, 8, 9, 12]) (by kernel_rfl) (by kernel_rfl) (.cons (dt h217) (.cons (idx_ob (f := eS_ringref5_Proc) h227) (.cons (get_ob (f := eS_ringref5_Proc) h228) (.cons (idx_ob (f := eS_ringref5_Proc) h229) (.cons (get_ob (f := eS_ringref5_Proc) h230) (.cons (idx_ob (f := eS_ringref5_Proc) h231) (.cons (get_ob (f := eS_ringref5_Proc) h232) (.cons (Eq.refl (pcells (.agg [.v (.int .i64 v_y216.fId), .v (.int .i64 v_y216.fUp), .v (.int .i64 v_y216.fGroup), .v (.int .i64 v_y216.fStatus), .v (.bool v_y216.fEnded)]))) (.cons (set_ob (f := eS_ringref5_Proc) (l := v_w210) (k := (v_a133).toNat) (z := v_y216) (p := .agg [.v (.int .i64 v_y216.fId), .v (.int .i64 v_y216.fUp), .v (.int .i64 v_y216.fGroup), .v (.int .i64 v_y216.fStatus), .v (.bool v_y216.fEnded)]) rfl) (.cons (idx_ob (f := eS_ringref5_Proc) h233) (.cons (get_ob (f := eS_ringref5_Proc) h234) (.cons (Eq.refl (pcells (.agg [.v (.int .i64 v_y217.fId), .v (.int .i64 v_y217.fUp), .v (.int .i64 v_y217.fGroup), .v (.int .i64 v_y217.fStatus), .v (.bool v_y217.fEnded)]))) (.cons (set_ob (f := eS_ringref5_Proc) (l := (v_w210.set (v_a133).toNat v_y216)) (k := ((wi .i64 (v_a133 + v_i209))).toNat) (z := v_y217) (p := .agg [.v (.int .i64 v_y217.fId), .v (.int .i64 v_y217.fUp), .v (.int .i64 v_y217.fGroup), .v (.int .i64 v_y217.fStatus), .v (.bool v_y217.fEnded)]) rfl) (.cons (G_slices_siftDownCmpFunc_ringref5_Proc_h_ok n ((v_w210.set (v_a133).toNat v_y216).set ((wi .i64 (v_a133 + v_i209))).toNat v_y217) 0 v_i209 v_a133 v_cmp135 v_cmp135_g v_cmp135_c v_cmp135_h _ h235) .nil)))))))))))))) (G_slices_heapSortCmpFunc_ringref5_Proc_h_L2_ok hF ks n v_cmp135 v_a133 v_cmp135_g v_cmp135_c v_cmp135_h k (wi .i64 (v_i209 - 1)) v_r220 _ h q)
            · rw [if_neg h233] at h; cases h
          · rw [if_neg h231] at h; cases h
        · rw [if_neg h229] at h; cases h
      · rw [if_neg h227] at h; cases h
    · rw [if_neg h217] at h
      cases h
      exact pkk_sound TTok mix hF 8 (hs := [.t false]) (ts := []) (s := [0, 1]) (l := []) (by kernel_rfl) (by kernel_rfl) (.cons (df h217) .nil) q
/- slices.heapSortCmpFunc[ringhall/ringref5.Proc] -/
def G_slices_heapSortCmpFunc_ringref5_Proc_h (n : Nat) (v_data132 : (List S_ringref5_Proc)) (v_a133 : Int) (v_b134 : Int) (v_cmp135 : (S_ringref5_Proc → S_ringref5_Proc → Option (Int))) : Option ((List S_ringref5_Proc)) :=
  (G_slices_heapSortCmpFunc_ringref5_Proc_h_L1 n v_cmp135 v_a133 v_b134 n (quoI .i64 (wi .i64 ((wi .i64 (v_b134 - v_a133)) - 1)) 2) v_data132).bind fun v_o207 => match v_o207 with
  | .x0 v_z208 =>
    (G_slices_heapSortCmpFunc_ringref5_Proc_h_L2 n v_cmp135 v_a133 n (wi .i64 ((wi .i64 (v_b134 - v_a133)) - 1)) v_z208).bind fun v_o222 => match v_o222 with
    | .x0 v_z223 =>
      some v_z223
theorem G_slices_heapSortCmpFunc_ringref5_Proc_h_ok (n : Nat) (v_data132 : (List S_ringref5_Proc)) (v_a133 : Int) (v_b134 : Int) (v_cmp135 : (S_ringref5_Proc → S_ringref5_Proc → Option (Int))) (v_cmp135_g : FuncId) (v_cmp135_c : List PV) (v_cmp135_h : ∀ (x0 : S_ringref5_Proc) (x1 : S_ringref5_Proc) (r : Int), v_cmp135 x0 x1 = some r → Ret Try.prog v_cmp135_g ([eS_ringref5_Proc x0, eS_ringref5_Proc x1] ++ v_cmp135_c) ((eI .i64) r)) (r : (List S_ringref5_Proc)) (h : G_slices_heapSortCmpFunc_ringref5_Proc_h n v_data132 v_a133 v_b134 v_cmp135 = some r) : RetH Try.prog 220 [.srf 0, .d ((eI .i64) v_a133), .d ((eI .i64) v_b134), .d ((.clo v_cmp135_g v_cmp135_c))] [.row 180 5 (v_data132.map eS_ringref5_Proc)] (.tup []) [.row 180 5 (r.map eS_ringref5_Proc)] := by
  refine retH_run (n := 60) (fn := Try.f220) (c := bodyOf Try.f220) (by kernel_rfl) (by kernel_rfl) (by kernel_rfl) (by kernel_rfl) ?_
  have hF : KC 60 (FinH Try.prog Try.f220 [.row 180 5 (v_data132.map eS_ringref5_Proc)] (.tup []) [.row 180 5 (r.map eS_ringref5_Proc)]) := FinH.kc' (by kernel_rfl)
  unfold G_slices_heapSortCmpFunc_ringref5_Proc_h at h
  obtain ⟨v_o207, h216, h⟩ := bind_some h
  refine pkk_sound TTok mix hF 11 (hs := [.n n]) (ts := []) (s := [1, 0]) (l := [0, 3, 8, 9, 10, 11]) (by kernel_rfl) (by kernel_rfl) (.cons (show (2 : Int) ≠ 0 by decide) .nil) (G_slices_heapSortCmpFunc_ringref5_Proc_h_L1_ok hF (.b 0 :: .s (cR (cR (cR (cR (bodyOf Try.f220))))) :: []) n v_cmp135 v_a133 v_b134 v_cmp135_g v_cmp135_c v_cmp135_h n (quoI .i64 (wi .i64 ((wi .i64 (v_b134 - v_a133)) - 1)) 2) v_data132 _ h216 ?_)
  cases v_o207 with
  | x0 v_z208 =>
    try dsimp only at h
    obtain ⟨v_o222, h236, h⟩ := bind_some h
    refine pkk_sound TTok mix hF 5 (hs := [.n n]) (ts := []) (s := [0, 1]) (l := [0, 3, 8, 9, 12]) (by kernel_rfl) (by kernel_rfl) .nil (G_slices_heapSortCmpFunc_ringref5_Proc_h_L2_ok hF (.b 2 :: []) n v_cmp135 v_a133 v_cmp135_g v_cmp135_c v_cmp135_h n (wi .i64 ((wi .i64 (v_b134 - v_a133)) - 1)) v_z208 _ h236 ?_)
    cases v_o222 with
    | x0 v_z223 =>
      try dsimp only at h
      obtain rfl := Option.some.inj h
      exact pendH_sound TTok mix 1 (hs := []) [1] (by kernel_rfl) (by kernel_rfl) (by kernel_rfl) .nil
/- slices.nextPowerOfTwo -/
def G_slices_nextPowerOfTwo (n : Nat) (v_length230 : Int) : Option (Int) :=
  (G_math_bits_Len n (wi .u64 v_length230)).bind fun (v_r231 : (Int)) =>
  if 0 ≤ v_r231 then
   some (shlI .u64 1 v_r231)
  else none
theorem G_slices_nextPowerOfTwo_ok (n : Nat) (v_length230 : Int) (r : Int) (h : G_slices_nextPowerOfTwo n v_length230 = some r) : Ret Try.prog 208 [(eI .i64) v_length230] ((eI .u64) r) := by
  refine ret_run (n := 7) (fn := Try.f208) (c := bodyOf Try.f208) (by kernel_rfl) (by kernel_rfl) (by kernel_rfl) (by kernel_rfl) ?_
  have hF : KC 7 (FinR Try.prog Try.f208 ((eI .u64) r)) := FinR.kc' (by kernel_rfl)
  unfold G_slices_nextPowerOfTwo at h
  obtain ⟨v_r231, h242, h⟩ := bind_some h
  by_cases h243 : 0 ≤ v_r231
  · rw [if_pos h243] at h
    obtain rfl := Option.some.inj h
    exact pend_sound TTok mix 5 (hs := [.r ((eI .i64) v_r231)]) (by kernel_rfl) (by kernel_rfl) (by kernel_rfl) (.cons (G_math_bits_Len_ok n (wi .u64 v_length230) _ h242) (.cons h243 .nil))
  · rw [if_neg h243] at h; cases h
/- (*slices.xorshift).Next -/
def G_slices_xorshift_Next_h (n : Nat) (v_r235 : Int) : Option (Int × Int) :=
  some ((bits .xor .u64 (bits .xor .u64 (bits .xor .u64 v_r235 (shlI .u64 v_r235 13)) (shrI .u64 (bits .xor .u64 v_r235 (shlI .u64 v_r235 13)) 7)) (shlI .u64 (bits .xor .u64 (bits .xor .u64 v_r235 (shlI .u64 v_r235 13)) (shrI .u64 (bits .xor .u64 v_r235 (shlI .u64 v_r235 13)) 7)) 17)), (bits .xor .u64 (bits .xor .u64 (bits .xor .u64 v_r235 (shlI .u64 v_r235 13)) (shrI .u64 (bits .xor .u64 v_r235 (shlI .u64 v_r235 13)) 7)) (shlI .u64 (bits .xor .u64 (bits .xor .u64 v_r235 (shlI .u64 v_r235 13)) (shrI .u64 (bits .xor .u64 v_r235 (shlI .u64 v_r235 13)) 7)) 17)))
theorem G_slices_xorshift_Next_h_ok (n : Nat) (v_r235 : Int) (r : Int × Int) (h : G_slices_xorshift_Next_h n v_r235 = some r) : RetH Try.prog 209 [.ref 0 0] [.box [.d (.v (.int .u64 v_r235))]] (.d ((eI .u64) r.1)) [.box [.d (.v (.int .u64 r.2))]] := by
  refine retH_run (n := 33) (fn := Try.f209) (c := bodyOf Try.f209) (by kernel_rfl) (by kernel_rfl) (by kernel_rfl) (by kernel_rfl) ?_
  have hF : KC 33 (FinH Try.prog Try.f209 [.box [.d (.v (.int .u64 v_r235))]] (.d ((eI .u64) r.1)) [.box [.d (.v (.int .u64 r.2))]]) := FinH.kc' (by kernel_rfl)
  unfold G_slices_xorshift_Next_h at h
  obtain rfl := Option.some.inj h
  exact pendH_sound TTok mix 11 (hs := [.c, .c, .c, .c, .c, .c, .c, .c, .c, .c]) [0] (by kernel_rfl) (by kernel_rfl) (by kernel_rfl) (.cons (show (0 : Int) ≤ 13 by decide) (.cons (show 0 + 1 ≤ 1 by decide) (.cons (show (0 : Int) ≤ 7 by decide) (.cons (show 0 + 1 ≤ 1 by decide) (.cons (show (0 : Int) ≤ 17 by decide) (.cons (show 0 + 1 ≤ 1 by decide) .nil))))))
inductive G_slices_breakPatternsCmpFunc_ringref5_Proc_h_L1_R where
  | x0 (v_w271 : (List S_ringref5_Proc))
def G_slices_breakPatternsCmpFunc_ringref5_Proc_h_L1_ex : G_slices_breakPatternsCmpFunc_ringref5_Proc_h_L1_R → Ex
  | .x0 _ => .exit 0
def G_slices_breakPatternsCmpFunc_ringref5_Proc_h_L1_st (v_a227 : Int) (v_b228 : Int) (v_r232 : (Int)) : G_slices_breakPatternsCmpFunc_ringref5_Proc_h_L1_R → PS
  | .x0 v_w271 => ⟨[dd, dd, dd, dd, dd, dd, dd, dd, dd, dd, dd, dd, dd, dd, dd, dd, dd, dd, dd, dd, dd, dd, dd, dd, dd, dd, dd, dd, dd, dd, dd, dd, dd, dd, dd, dd, dd, dd, dd, dd, dd, dd, dd, dd, dd, dd, dd, dd, dd, dd, dd, dd, dd, dd, dd, dd, dd, dd, dd, dd, dd, dd, dd, dd, dd, dd, dd], [.gh 0 (.srf 1), .row 180 5 (v_w271.map eS_ringref5_Proc)]⟩
def G_slices_breakPatternsCmpFunc_ringref5_Proc_h_L1_hd (v_a227 : Int) (v_b228 : Int) (v_r232 : (Int)) (v_idx250 : Int) (v_w251 : (List S_ringref5_Proc)) (v_b252 : Int) : PS := ⟨[.srf 1, .d (.v (.int .i64 v_a227)), dd, dd, dd, dd, dd, dd, .d (.v (.int .i64 (wi .i64 (v_b228 - v_a227)))), .ref 2 0, .d (.v (.int .u64 v_r232)), .d (.v (.int .i64 v_idx250)), dd, dd, dd, dd, dd, dd, dd, dd, dd, dd, dd, dd, dd, dd, dd, dd, dd, dd, dd, dd, dd, dd, dd, dd, dd, dd, dd, dd, dd, dd, dd, dd, dd, dd, dd, dd, dd, dd, dd, dd, dd, dd, dd, dd, dd, dd, dd, dd, dd, dd, dd, dd, dd, dd, dd], [.gh 0 (.srf 1), .row 180 5 (v_w251.map eS_ringref5_Proc), .box [.d (.v (.int .u64 v_b252))]]⟩
def G_slices_breakPatternsCmpFunc_ringref5_Proc_h_L1 (n : Nat) (v_a227 : Int) (v_b228 : Int) (v_r232 : (Int)) : Nat → Int → (List S_ringref5_Proc) → Int → Option G_slices_breakPatternsCmpFunc_ringref5_Proc_h_L1_R
  | 0, _, _, _ => none
  | k + 1, v_idx250, v_w251, v_b252 =>
    if v_idx250 ≤ (wi .i64 ((wi .i64 (v_a227 + (wi .i64 ((quoI .i64 (wi .i64 (v_b228 - v_a227)) 4) * 2)))) + 1)) then
     (G_slices_xorshift_Next_h n v_b252).bind fun (v_r262 : (Int × Int)) =>
     if (wi .i64 (bits .and .u64 v_r262.1 (wi .u64 (v_r232 - 1)))) ≥ (wi .i64 (v_b228 - v_a227)) then
      if 0 ≤ (wi .i64 (v_a227 + (wi .i64 ((wi .i64 (bits .and .u64 v_r262.1 (wi .u64 (v_r232 - 1)))) - (wi .i64 (v_b228 - v_a227)))))) ∧ ((wi .i64 (v_a227 + (wi .i64 ((wi .i64 (bits .and .u64 v_r262.1 (wi .u64 (v_r232 - 1)))) - (wi .i64 (v_b228 - v_a227))))))).toNat < v_w251.length then
       (v_w251[((wi .i64 (v_a227 + (wi .i64 ((wi .i64 (bits .and .u64 v_r262.1 (wi .u64 (v_r232 - 1)))) - (wi .i64 (v_b228 - v_a227))))))).toNat]?).bind fun (v_y263 : S_ringref5_Proc) =>
       if 0 ≤ v_idx250 ∧ (v_idx250).toNat < v_w251.length then
        (v_w251[(v_idx250).toNat]?).bind fun (v_y264 : S_ringref5_Proc) =>
        if 0 ≤ v_idx250 ∧ (v_idx250).toNat < v_w251.length then
         (v_w251[(v_idx250).toNat]?).bind fun (v_y265 : S_ringref5_Proc) =>
         if 0 ≤ (wi .i64 (v_a227 + (wi .i64 ((wi .i64 (bits .and .u64 v_r262.1 (wi .u64 (v_r232 - 1)))) - (wi .i64 (v_b228 - v_a227)))))) ∧ ((wi .i64 (v_a227 + (wi .i64 ((wi .i64 (bits .and .u64 v_r262.1 (wi .u64 (v_r232 - 1)))) - (wi .i64 (v_b228 - v_a227))))))).toNat < (v_w251.set (v_idx250).toNat v_y263).length then
          ((v_w251.set (v_idx250).toNat v_y263)[((wi .i64 (v_a227 + (wi .i64 ((wi .i64 (bits .and .u64 v_r262.1 (wi .u64 (v_r232 - 1)))) - (wi .i64 (v_b228 - v_a227))))))).toNat]?).bind fun (v_y266 : S_ringref5_Proc) =>
          G_slices_breakPatternsCmpFunc_ringref5_Proc_h_L1 n v_a227 v_b228 v_r232 k (wi .i64 (v_idx250 + 1)) ((v_w251.set (v_idx250).toNat v_y263).set ((wi .i64 (v_a227 + (wi .i64 ((wi .i64 (bits .and .u64 v_r262.1 (wi .u64 (v_r232 - 1)))) - (wi .i64 (v_b228 - v_a227))))))).toNat v_y264) v_r262.2
         else none
        else none
       else none
      else none
     else
      if 0 ≤ (wi .i64 (v_a227 + (wi .i64 (bits .and .u64 v_r262.1 (wi .u64 (v_r232 - 1)))))) ∧ ((wi .i64 (v_a227 + (wi .i64 (bits .and .u64 v_r262.1 (wi .u64 (v_r232 - 1))))))).toNat < v_w251.length then
       (v_w251[((wi .i64 (v_a227 + (wi .i64 (bits .and .u64 v_r262.1 (wi .u64 (v_r232 - 1))))))).toNat]?).bind fun (v_y267 : S_ringref5_Proc) =>
       if 0 ≤ v_idx250 ∧ (v_idx250).toNat < v_w251.length then
        (v_w251[(v_idx250).toNat]?).bind fun (v_y268 : S_ringref5_Proc) =>
        if 0 ≤ v_idx250 ∧ (v_idx250).toNat < v_w251.length then
         (v_w251[(v_idx250).toNat]?).bind fun (v_y269 : S_ringref5_Proc) =>
         if 0 ≤ (wi .i64 (v_a227 + (wi .i64 (bits .and .u64 v_r262.1 (wi .u64 (v_r232 - 1)))))) ∧ ((wi .i64 (v_a227 + (wi .i64 (bits .and .u64 v_r262.1 (wi .u64 (v_r232 - 1))))))).toNat < (v_w251.set (v_idx250).toNat v_y267).length then
          ((v_w251.set (v_idx250).toNat v_y267)[((wi .i64 (v_a227 + (wi .i64 (bits .and .u64 v_r262.1 (wi .u64 (v_r232 - 1))))))).toNat]?).bind fun (v_y270 : S_ringref5_Proc) =>
          G_slices_breakPatternsCmpFunc_ringref5_Proc_h_L1 n v_a227 v_b228 v_r232 k (wi .i64 (v_idx250 + 1)) ((v_w251.set (v_idx250).toNat v_y267).set ((wi .i64 (v_a227 + (wi .i64 (bits .and .u64 v_r262.1 (wi .u64 (v_r232 - 1))))))).toNat v_y268) v_r262.2
         else none
        else none
       else none
      else none
    else
     some (.x0 v_w251)
theorem G_slices_breakPatternsCmpFunc_ringref5_Proc_h_L1_ok {Fi : Ex → PS → Prop} (hF : KC 67 Fi) (ks : List Fr) (n : Nat) (v_a227 : Int) (v_b228 : Int) (v_r232 : (Int))  : ∀ (k : Nat) (v_idx250 : Int) (v_w251 : (List S_ringref5_Proc)) (v_b252 : Int) (o : G_slices_breakPatternsCmpFunc_ringref5_Proc_h_L1_R), G_slices_breakPatternsCmpFunc_ringref5_Proc_h_L1 n v_a227 v_b228 v_r232 k v_idx250 v_w251 v_b252 = some o → RunE Try.prog 67 Fi ks (G_slices_breakPatternsCmpFunc_ringref5_Proc_h_L1_ex o) (G_slices_breakPatternsCmpFunc_ringref5_Proc_h_L1_st v_a227 v_b228 v_r232 o) → RunE Try.prog 67 Fi (.l k (cP (cB (cR (cR (cR (cT (cR (cR (bodyOf Try.f221))))))))) :: ks) .normal (G_slices_breakPatternsCmpFunc_ringref5_Proc_h_L1_hd v_a227 v_b228 v_r232 v_idx250 v_w251 v_b252)
  | 0, v_idx250, v_w251, v_b252, o, h, q => by rw [G_slices_breakPatternsCmpFunc_ringref5_Proc_h_L1] at h; cases h
  | k + 1, v_idx250, v_w251, v_b252, o, h, q => by
    rw [G_slices_breakPatternsCmpFunc_ringref5_Proc_h_L1] at h
    by_cases h282 : v_idx250 ≤ (wi .i64 ((wi .i64 (v_a227 + (wi .i64 ((quoI .i64 (wi .i64 (v_b228 - v_a227)) 4) * 2)))) + 1))
    · rw [if_pos h282] at h
      obtain ⟨v_r262, h302, h⟩ := bind_some h
      by_cases h304 : (wi .i64 (bits .and .u64 v_r262.1 (wi .u64 (v_r232 - 1)))) ≥ (wi .i64 (v_b228 - v_a227))
      · rw [if_pos h304] at h
        by_cases h305 : 0 ≤ (wi .i64 (v_a227 + (wi .i64 ((wi .i64 (bits .and .u64 v_r262.1 (wi .u64 (v_r232 - 1)))) - (wi .i64 (v_b228 - v_a227)))))) ∧ ((wi .i64 (v_a227 + (wi .i64 ((wi .i64 (bits .and .u64 v_r262.1 (wi .u64 (v_r232 - 1)))) - (wi .i64 (v_b228 - v_a227))))))).toNat < v_w251.length
        · rw [if_pos h305] at h
          obtain ⟨v_y263, h306, h⟩ := bind_some h
          by_cases h307 : 0 ≤ v_idx250 ∧ (v_idx250).toNat < v_w251.length
          · rw [if_pos h307] at h
            obtain ⟨v_y264, h308, h⟩ := bind_some h
            by_cases h309 : 0 ≤ v_idx250 ∧ (v_idx250).toNat < v_w251.length
            · rw [if_pos h309] at h
              obtain ⟨v_y265, h310, h⟩ := bind_some h
              by_cases h311 : 0 ≤ (wi .i64 (v_a227 + (wi .i64 ((wi .i64 (bits .and .u64 v_r262.1 (wi .u64 (v_r232 - 1)))) - (wi .i64 (v_b228 - v_a227)))))) ∧ ((wi .i64 (v_a227 + (wi .i64 ((wi .i64 (bits .and .u64 v_r262.1 (wi .u64 (v_r232 - 1)))) - (wi .i64 (v_b228 - v_a227))))))).toNat < (v_w251.set (v_idx250).toNat v_y263).length
              · rw [if_pos h311] at h
                obtain ⟨v_y266, h312, h⟩ := bind_some h
                exact pkk_sound TTok mix hF 18 (hs := [.t true, .h [2] [] [.box [.d (.v (.int .u64 v_r262.2))]] (.d (.v (.int .u64 v_r262.1))), .t true, .y (eS_ringref5_Proc v_y263), .y (eS_ringref5_Proc v_y264), .w ((v_w251.set (v_idx250).toNat v_y263).map eS_ringref5_Proc), .y (eS_ringref5_Proc v_y265), .w (((v_w251.set (v_idx250).toNat v_y263).set ((wi .i64 (v_a227 + (wi .i64 ((wi .i64 (bits .and .u64 v_r262.1 (wi .u64 (v_r232 - 1)))) - (wi .i64 (v_b228 - v_a227))))))).toNat v_y264).map eS_ringref5_Proc), .y (eS_ringref5_Proc v_y266)]) (ts := []) (s := [0, 1, 2]) (l := [0, 1, 8, 9, 10, 11]) (by kernel_rfl) (by kernel_rfl) (.cons (show (4 : Int) ≠ 0 by decide) (.cons (dt h282) (.cons (G_slices_xorshift_Next_h_ok n v_b252 _ h302) (.cons (dt h304) (.cons (idx_ob (f := eS_ringref5_Proc) h305) (.cons (get_ob (f := eS_ringref5_Proc) h306) (.cons (idx_ob (f := eS_ringref5_Proc) h307) (.cons (get_ob (f := eS_ringref5_Proc) h308) (.cons (idx_ob (f := eS_ringref5_Proc) h309) (.cons (get_ob (f := eS_ringref5_Proc) h310) (.cons (Eq.refl (pcells (.agg [.v (.int .i64 v_y263.fId), .v (.int .i64 v_y263.fUp), .v (.int .i64 v_y263.fGroup), .v (.int .i64 v_y263.fStatus), .v (.bool v_y263.fEnded)]))) (.cons (set_ob (f := eS_ringref5_Proc) (l := v_w251) (k := (v_idx250).toNat) (z := v_y263) (p := .agg [.v (.int .i64 v_y263.fId), .v (.int .i64 v_y263.fUp), .v (.int .i64 v_y263.fGroup), .v (.int .i64 v_y263.fStatus), .v (.bool v_y263.fEnded)]) rfl) (.cons (idx_ob (f := eS_ringref5_Proc) h311) (.cons (get_ob (f := eS_ringref5_Proc) h312) (.cons (Eq.refl (pcells (.agg [.v (.int .i64 v_y264.fId), .v (.int .i64 v_y264.fUp), .v (.int .i64 v_y264.fGroup), .v (.int .i64 v_y264.fStatus), .v (.bool v_y264.fEnded)]))) (.cons (set_ob (f := eS_ringref5_Proc) (l := (v_w251.set (v_idx250).toNat v_y263)) (k := ((wi .i64 (v_a227 + (wi .i64 ((wi .i64 (bits .and .u64 v_r262.1 (wi .u64 (v_r232 - 1)))) - (wi .i64 (v_b228 - v_a227))))))).toNat) (z := v_y264) (p := .agg [.v (.int .i64 v_y264.fId), .v (.int .i64 v_y264.fUp), .v (.int .i64 v_y264.fGroup), .v (.int .i64 v_y264.fStatus), .v (.bool v_y264.fEnded)]) rfl) .nil)))))))))))))))) (G_slices_breakPatternsCmpFunc_ringref5_Proc_h_L1_ok hF ks n v_a227 v_b228 v_r232 k (wi .i64 (v_idx250 + 1)) ((v_w251.set (v_idx250).toNat v_y263).set ((wi .i64 (v_a227 + (wi .i64 ((wi .i64 (bits .and .u64 v_r262.1 (wi .u64 (v_r232 - 1)))) - (wi .i64 (v_b228 - v_a227))))))).toNat v_y264) v_r262.2 _ h q)
              · rw [if_neg h311] at h; cases h
            · rw [if_neg h309] at h; cases h
          · rw [if_neg h307] at h; cases h
        · rw [if_neg h305] at h; cases h
      · rw [if_neg h304] at h
        by_cases h313 : 0 ≤ (wi .i64 (v_a227 + (wi .i64 (bits .and .u64 v_r262.1 (wi .u64 (v_r232 - 1)))))) ∧ ((wi .i64 (v_a227 + (wi .i64 (bits .and .u64 v_r262.1 (wi .u64 (v_r232 - 1))))))).toNat < v_w251.length
        · rw [if_pos h313] at h
          obtain ⟨v_y267, h314, h⟩ := bind_some h
          by_cases h315 : 0 ≤ v_idx250 ∧ (v_idx250).toNat < v_w251.length
          · rw [if_pos h315] at h
            obtain ⟨v_y268, h316, h⟩ := bind_some h
            by_cases h317 : 0 ≤ v_idx250 ∧ (v_idx250).toNat < v_w251.length
            · rw [if_pos h317] at h
              obtain ⟨v_y269, h318, h⟩ := bind_some h
              by_cases h319 : 0 ≤ (wi .i64 (v_a227 + (wi .i64 (bits .and .u64 v_r262.1 (wi .u64 (v_r232 - 1)))))) ∧ ((wi .i64 (v_a227 + (wi .i64 (bits .and .u64 v_r262.1 (wi .u64 (v_r232 - 1))))))).toNat < (v_w251.set (v_idx250).toNat v_y267).length
              · rw [if_pos h319] at h
                obtain ⟨v_y270, h320, h⟩ := bind_some h
                exact pkk_sound TTok mix hF 18 (hs := [.t true, .h [2] [] [.box [.d (.v (.int .u64 v_r262.2))]] (.d (.v (.int .u64 v_r262.1))), .t false, .y (eS_ringref5_Proc v_y267), .y (eS_ringref5_Proc v_y268), .w ((v_w251.set (v_idx250).toNat v_y267).map eS_ringref5_Proc), .y (eS_ringref5_Proc v_y269), .w (((v_w251.set (v_idx250).toNat v_y267).set ((wi .i64 (v_a227 + (wi .i64 (bits .and .u64 v_r262.1 (wi .u64 (v_r232 - 1))))))).toNat v_y268).map eS_ringref5_Proc), .y (eS_ringref5_Proc v_y270)]) (ts := []) (s := [0, 1, 2]) (l := [0, 1, 8, 9, 10, 11]) (by kernel_rfl) (by kernel_rfl) (.cons (show (4 : Int) ≠ 0 by decide) (.cons (dt h282) (.cons (G_slices_xorshift_Next_h_ok n v_b252 _ h302) (.cons (df h304) (.cons (idx_ob (f := eS_ringref5_Proc) h313) (.cons (get_ob (f := eS_ringref5_Proc) h314) (.cons (idx_ob (f := eS_ringref5_Proc) h315) (.cons (get_ob (f := eS_ringref5_Proc) h316) (.cons (idx_ob (f := eS_ringref5_Proc) h317) (.cons (get_ob (f := eS_ringref5_Proc) h318) (.cons (Eq.refl (pcells (.agg [.v (.int .i64 v_y267.fId), .v (.int .i64 v_y267.fUp), .v (.int .i64 v_y267.fGroup), .v (.int .i64 v_y267.fStatus), .v (.bool v_y267.fEnded)]))) (.cons (set_ob (f := eS_ringref5_Proc) (l := v_w251) (k := (v_idx250).toNat) (z := v_y267) (p := .agg [.v (.int .i64 v_y267.fId), .v (.int .i64 v_y267.fUp), .v (.int .i64 v_y267.fGroup), .v (.int .i64 v_y267.fStatus), .v (.bool v_y267.fEnded)]) rfl) (.cons (idx_ob (f := eS_ringref5_Proc) h319) (.cons (get_ob (f := eS_ringref5_Proc) h320) (.cons (Eq.refl (pcells (.agg [.v (.int .i64 v_y268.fId), .v (.int .i64 v_y268.fUp), .v (.int .i64 v_y268.fGroup), .v (.int .i64 v_y268.fStatus), .v (.bool v_y268.fEnded)]))) (.cons (set_ob (f := eS_ringref5_Proc) (l := (v_w251.set (v_idx250).toNat v_y267)) (k := ((wi .i64 (v_a227 + (wi .i64 (bits .and .u64 v_r262.1 (wi .u64 (v_r232 - 1))))))).toNat) (z := v_y268) (p := .agg [.v (.int .i64 v_y268.fId), .v (.int .i64 v_y268.fUp), .v (.int .i64 v_y268.fGroup), .v (.int .i64 v_y268.fStatus), .v (.bool v_y268.fEnded)]) rfl) .nil)))))))))))))))) (G_slices_breakPatternsCmpFunc_ringref5_Proc_h_L1_ok hF ks n v_a227 v_b228 v_r232 k (wi .i64 (v_idx250 + 1)) ((v_w251.set (v_idx250).toNat v_y267).set ((wi .i64 (v_a227 + (wi .i64 (bits .and .u64 v_r262.1 (wi .u64 (v_r232 - 1))))))).toNat v_y268) v_r262.2 _ h q)
              · rw [if_neg h319] at h; cases h
            · rw [if_neg h317] at h; cases h
          · rw [if_neg h315] at h; cases h
        · rw [if_neg h313] at h; cases h
    · rw [if_neg h282] at h
      cases h
      exact pkk_sound TTok mix hF 8 (hs := [.t false]) (ts := []) (s := [0, 1]) (l := []) (by kernel_rfl) (by kernel_rfl) (.cons (show (4 : Int) ≠ 0 by decide) (.cons (df h282) .nil)) q
/- slices.breakPatternsCmpFunc[ringhall/ringref5.Proc] -/
def G_slices_breakPatternsCmpFunc_ringref5_Proc_h (n : Nat) (v_data226 : (List S_ringref5_Proc)) (v_a227 : Int) (v_b228 : Int) (v_cmp229 : (S_ringref5_Proc → S_ringref5_Proc → Option (Int))) : Option ((List S_ringref5_Proc)) :=
  if (wi .i64 (v_b228 - v_a227)) ≥ 8 then
   (G_slices_nextPowerOfTwo n (wi .i64 (v_b228 - v_a227))).bind fun (v_r232 : (Int)) =>
   (G_slices_breakPatternsCmpFunc_ringref5_Proc_h_L1 n v_a227 v_b228 v_r232 n (wi .i64 ((wi .i64 (v_a227 + (wi .i64 ((quoI .i64 (wi .i64 (v_b228 - v_a227)) 4) * 2)))) - 1)) v_data226 (wi .u64 (wi .i64 (v_b228 - v_a227)))).bind fun v_o272 => match v_o272 with
   | .x0 v_z273 =>
     some v_z273
  else
   some v_data226
theorem G_slices_breakPatternsCmpFunc_ringref5_Proc_h_ok (n : Nat) (v_data226 : (List S_ringref5_Proc)) (v_a227 : Int) (v_b228 : Int) (v_cmp229 : (S_ringref5_Proc → S_ringref5_Proc → Option (Int))) (v_cmp229_g : FuncId) (v_cmp229_c : List PV) (v_cmp229_h : ∀ (x0 : S_ringref5_Proc) (x1 : S_ringref5_Proc) (r : Int), v_cmp229 x0 x1 = some r → Ret Try.prog v_cmp229_g ([eS_ringref5_Proc x0, eS_ringref5_Proc x1] ++ v_cmp229_c) ((eI .i64) r)) (r : (List S_ringref5_Proc)) (h : G_slices_breakPatternsCmpFunc_ringref5_Proc_h n v_data226 v_a227 v_b228 v_cmp229 = some r) : RetH Try.prog 221 [.srf 0, .d ((eI .i64) v_a227), .d ((eI .i64) v_b228), .d ((.clo v_cmp229_g v_cmp229_c))] [.row 180 5 (v_data226.map eS_ringref5_Proc)] (.tup []) [.row 180 5 (r.map eS_ringref5_Proc)] := by
  refine retH_run (n := 67) (fn := Try.f221) (c := bodyOf Try.f221) (by kernel_rfl) (by kernel_rfl) (by kernel_rfl) (by kernel_rfl) ?_
  have hF : KC 67 (FinH Try.prog Try.f221 [.row 180 5 (v_data226.map eS_ringref5_Proc)] (.tup []) [.row 180 5 (r.map eS_ringref5_Proc)]) := FinH.kc' (by kernel_rfl)
  unfold G_slices_breakPatternsCmpFunc_ringref5_Proc_h at h
  by_cases h241 : (wi .i64 (v_b228 - v_a227)) ≥ 8
  · rw [if_pos h241] at h
    obtain ⟨v_r232, h244, h⟩ := bind_some h
    obtain ⟨v_o272, h321, h⟩ := bind_some h
    refine pkk_sound TTok mix hF 13 (hs := [.t true, .c, .r ((eI .u64) v_r232), .n n]) (ts := []) (s := [1, 0, 26]) (l := [0, 1, 8, 9, 10, 11]) (by kernel_rfl) (by kernel_rfl) (.cons (dt h241) (.cons (show 0 + 1 ≤ 1 by decide) (.cons (G_slices_nextPowerOfTwo_ok n (wi .i64 (v_b228 - v_a227)) _ h244) (.cons (show (4 : Int) ≠ 0 by decide) .nil)))) (G_slices_breakPatternsCmpFunc_ringref5_Proc_h_L1_ok hF (.b 0 :: []) n v_a227 v_b228 v_r232 n (wi .i64 ((wi .i64 (v_a227 + (wi .i64 ((quoI .i64 (wi .i64 (v_b228 - v_a227)) 4) * 2)))) - 1)) v_data226 (wi .u64 (wi .i64 (v_b228 - v_a227))) _ h321 ?_)
    cases v_o272 with
    | x0 v_z273 =>
      try dsimp only at h
      obtain rfl := Option.some.inj h
      exact pendH_sound TTok mix 1 (hs := []) [1] (by kernel_rfl) (by kernel_rfl) (by kernel_rfl) .nil
  · rw [if_neg h241] at h
    obtain rfl := Option.some.inj h
    exact pendH_sound TTok mix 6 (hs := [.t false]) [0] (by kernel_rfl) (by kernel_rfl) (by kernel_rfl) (.cons (df h241) .nil)
/- slices.order2CmpFunc[ringhall/ringref5.Proc] -/
def G_slices_order2CmpFunc_ringref5_Proc_h (n : Nat) (v_data297 : (List S_ringref5_Proc)) (v_a298 : Int) (v_b299 : Int) (v_swaps300 : Int) (v_cmp301 : (S_ringref5_Proc → S_ringref5_Proc → Option (Int))) : Option (Int × Int × Int) :=
  (getI v_data297 v_b299).bind fun (v_y302 : S_ringref5_Proc) =>
  (getI v_data297 v_a298).bind fun (v_y303 : S_ringref5_Proc) =>
  (v_cmp301 v_y302 v_y303).bind fun (v_r304 : (Int)) =>
  if v_r304 < 0 then
   some (v_b299, v_a298, (wi .i64 (v_swaps300 + 1)))
  else
   some (v_a298, v_b299, v_swaps300)
theorem G_slices_order2CmpFunc_ringref5_Proc_h_ok (n : Nat) (v_data297 : (List S_ringref5_Proc)) (v_a298 : Int) (v_b299 : Int) (v_swaps300 : Int) (v_cmp301 : (S_ringref5_Proc → S_ringref5_Proc → Option (Int))) (v_cmp301_g : FuncId) (v_cmp301_c : List PV) (v_cmp301_h : ∀ (x0 : S_ringref5_Proc) (x1 : S_ringref5_Proc) (r : Int), v_cmp301 x0 x1 = some r → Ret Try.prog v_cmp301_g ([eS_ringref5_Proc x0, eS_ringref5_Proc x1] ++ v_cmp301_c) ((eI .i64) r)) (r : Int × Int × Int) (h : G_slices_order2CmpFunc_ringref5_Proc_h n v_data297 v_a298 v_b299 v_swaps300 v_cmp301 = some r) : RetH Try.prog 234 [.d ((eL eS_ringref5_Proc) v_data297), .d ((eI .i64) v_a298), .d ((eI .i64) v_b299), .ref 0 0, .d ((.clo v_cmp301_g v_cmp301_c))] [.box [.d (.v (.int .i64 v_swaps300))]] (.tup [.d ((eI .i64) r.1), .d ((eI .i64) r.2.1)]) [.box [.d (.v (.int .i64 r.2.2))]] := by
  refine retH_run (n := 32) (fn := Try.f234) (c := bodyOf Try.f234) (by kernel_rfl) (by kernel_rfl) (by kernel_rfl) (by kernel_rfl) ?_
  have hF : KC 32 (FinH Try.prog Try.f234 [.box [.d (.v (.int .i64 v_swaps300))]] (.tup [.d ((eI .i64) r.1), .d ((eI .i64) r.2.1)]) [.box [.d (.v (.int .i64 r.2.2))]]) := FinH.kc' (by kernel_rfl)
  unfold G_slices_order2CmpFunc_ringref5_Proc_h at h
  obtain ⟨v_y302, h331, h⟩ := bind_some h
  obtain ⟨v_y303, h332, h⟩ := bind_some h
  obtain ⟨v_r304, h333, h⟩ := bind_some h
  by_cases h335 : v_r304 < 0
  · rw [if_pos h335] at h
    obtain rfl := Option.some.inj h
    exact pendH_sound TTok mix 12 (hs := [.y (eS_ringref5_Proc v_y302), .y (eS_ringref5_Proc v_y303), .r ((eI .i64) v_r304), .t true, .c, .c]) [0] (by kernel_rfl) (by kernel_rfl) (by kernel_rfl) (.cons (getI_ob (f := eS_ringref5_Proc) h331) (.cons (getI_ob (f := eS_ringref5_Proc) h332) (.cons (v_cmp301_h v_y302 v_y303 _ h333) (.cons (dt h335) (.cons (show 0 + 1 ≤ 1 by decide) .nil)))))
  · rw [if_neg h335] at h
    obtain rfl := Option.some.inj h
    exact pendH_sound TTok mix 10 (hs := [.y (eS_ringref5_Proc v_y302), .y (eS_ringref5_Proc v_y303), .r ((eI .i64) v_r304), .t false]) [0] (by kernel_rfl) (by kernel_rfl) (by kernel_rfl) (.cons (getI_ob (f := eS_ringref5_Proc) h331) (.cons (getI_ob (f := eS_ringref5_Proc) h332) (.cons (v_cmp301_h v_y302 v_y303 _ h333) (.cons (df h335) .nil))))
/- slices.medianCmpFunc[ringhall/ringref5.Proc] -/
def G_slices_medianCmpFunc_ringref5_Proc_h (n : Nat) (v_data291 : (List S_ringref5_Proc)) (v_a292 : Int) (v_b293 : Int) (v_c294 : Int) (v_swaps295 : Int) (v_cmp296 : (S_ringref5_Proc → S_ringref5_Proc → Option (Int))) : Option (Int × Int) :=
  (G_slices_order2CmpFunc_ringref5_Proc_h n v_data291 v_a292 v_b293 v_swaps295 v_cmp296).bind fun (v_r305 : (Int × Int × Int)) =>
  (G_slices_order2CmpFunc_ringref5_Proc_h n v_data291 v_r305.2.1 v_c294 v_r305.2.2 v_cmp296).bind fun (v_r306 : (Int × Int × Int)) =>
  (G_slices_order2CmpFunc_ringref5_Proc_h n v_data291 v_r305.1 v_r306.1 v_r306.2.2 v_cmp296).bind fun (v_r307 : (Int × Int × Int)) =>
  some (v_r307.2.1, v_r307.2.2)
theorem G_slices_medianCmpFunc_ringref5_Proc_h_ok (n : Nat) (v_data291 : (List S_ringref5_Proc)) (v_a292 : Int) (v_b293 : Int) (v_c294 : Int) (v_swaps295 : Int) (v_cmp296 : (S_ringref5_Proc → S_ringref5_Proc → Option (Int))) (v_cmp296_g : FuncId) (v_cmp296_c : List PV) (v_cmp296_h : ∀ (x0 : S_ringref5_Proc) (x1 : S_ringref5_Proc) (r : Int), v_cmp296 x0 x1 = some r → Ret Try.prog v_cmp296_g ([eS_ringref5_Proc x0, eS_ringref5_Proc x1] ++ v_cmp296_c) ((eI .i64) r)) (r : Int × Int) (h : G_slices_medianCmpFunc_ringref5_Proc_h n v_data291 v_a292 v_b293 v_c294 v_swaps295 v_cmp296 = some r) : RetH Try.prog 233 [.d ((eL eS_ringref5_Proc) v_data291), .d ((eI .i64) v_a292), .d ((eI .i64) v_b293), .d ((eI .i64) v_c294), .ref 0 0, .d ((.clo v_cmp296_g v_cmp296_c))] [.box [.d (.v (.int .i64 v_swaps295))]] (.d ((eI .i64) r.1)) [.box [.d (.v (.int .i64 r.2))]] := by
  refine retH_run (n := 41) (fn := Try.f233) (c := bodyOf Try.f233) (by kernel_rfl) (by kernel_rfl) (by kernel_rfl) (by kernel_rfl) ?_
  have hF : KC 41 (FinH Try.prog Try.f233 [.box [.d (.v (.int .i64 v_swaps295))]] (.d ((eI .i64) r.1)) [.box [.d (.v (.int .i64 r.2))]]) := FinH.kc' (by kernel_rfl)
  unfold G_slices_medianCmpFunc_ringref5_Proc_h at h
  obtain ⟨v_r305, h336, h⟩ := bind_some h
  obtain ⟨v_r306, h337, h⟩ := bind_some h
  obtain ⟨v_r307, h338, h⟩ := bind_some h
  obtain rfl := Option.some.inj h
  exact pendH_sound TTok mix 11 (hs := [.h [0] [] [.box [.d (.v (.int .i64 v_r305.2.2))]] (.tup [.d (.v (.int .i64 v_r305.1)), .d (.v (.int .i64 v_r305.2.1))]), .h [0] [] [.box [.d (.v (.int .i64 v_r306.2.2))]] (.tup [.d (.v (.int .i64 v_r306.1)), .d (.v (.int .i64 v_r306.2.1))]), .h [0] [] [.box [.d (.v (.int .i64 v_r307.2.2))]] (.tup [.d (.v (.int .i64 v_r307.1)), .d (.v (.int .i64 v_r307.2.1))])]) [0] (by kernel_rfl) (by kernel_rfl) (by kernel_rfl) (.cons (G_slices_order2CmpFunc_ringref5_Proc_h_ok n v_data291 v_a292 v_b293 v_swaps295 v_cmp296 v_cmp296_g v_cmp296_c v_cmp296_h _ h336) (.cons (G_slices_order2CmpFunc_ringref5_Proc_h_ok n v_data291 v_r305.2.1 v_c294 v_r305.2.2 v_cmp296 v_cmp296_g v_cmp296_c v_cmp296_h _ h337) (.cons (G_slices_order2CmpFunc_ringref5_Proc_h_ok n v_data291 v_r305.1 v_r306.1 v_r306.2.2 v_cmp296 v_cmp296_g v_cmp296_c v_cmp296_h _ h338) .nil)))
/- slices.medianAdjacentCmpFunc[ringhall/ringref5.Proc] -/
def G_slices_medianAdjacentCmpFunc_ringref5_Proc_h (n : Nat) (v_data287 : (List S_ringref5_Proc)) (v_a288 : Int) (v_swaps289 : Int) (v_cmp290 : (S_ringref5_Proc → S_ringref5_Proc → Option (Int))) : Option (Int × Int) :=
  (G_slices_medianCmpFunc_ringref5_Proc_h n v_data287 (wi .i64 (v_a288 - 1)) v_a288 (wi .i64 (v_a288 + 1)) v_swaps289 v_cmp290).bind fun (v_r308 : (Int × Int)) =>
  some (v_r308.1, v_r308.2)
theorem G_slices_medianAdjacentCmpFunc_ringref5_Proc_h_ok (n : Nat) (v_data287 : (List S_ringref5_Proc)) (v_a288 : Int) (v_swaps289 : Int) (v_cmp290 : (S_ringref5_Proc → S_ringref5_Proc → Option (Int))) (v_cmp290_g : FuncId) (v_cmp290_c : List PV) (v_cmp290_h : ∀ (x0 : S_ringref5_Proc) (x1 : S_ringref5_Proc) (r : Int), v_cmp290 x0 x1 = some r → Ret Try.prog v_cmp290_g ([eS_ringref5_Proc x0, eS_ringref5_Proc x1] ++ v_cmp290_c) ((eI .i64) r)) (r : Int × Int) (h : G_slices_medianAdjacentCmpFunc_ringref5_Proc_h n v_data287 v_a288 v_swaps289 v_cmp290 = some r) : RetH Try.prog 232 [.d ((eL eS_ringref5_Proc) v_data287), .d ((eI .i64) v_a288), .ref 0 0, .d ((.clo v_cmp290_g v_cmp290_c))] [.box [.d (.v (.int .i64 v_swaps289))]] (.d ((eI .i64) r.1)) [.box [.d (.v (.int .i64 r.2))]] := by
  refine retH_run (n := 18) (fn := Try.f232) (c := bodyOf Try.f232) (by kernel_rfl) (by kernel_rfl) (by kernel_rfl) (by kernel_rfl) ?_
  have hF : KC 18 (FinH Try.prog Try.f232 [.box [.d (.v (.int .i64 v_swaps289))]] (.d ((eI .i64) r.1)) [.box [.d (.v (.int .i64 r.2))]]) := FinH.kc' (by kernel_rfl)
  unfold G_slices_medianAdjacentCmpFunc_ringref5_Proc_h at h
  obtain ⟨v_r308, h339, h⟩ := bind_some h
  obtain rfl := Option.some.inj h
  exact pendH_sound TTok mix 5 (hs := [.h [0] [] [.box [.d (.v (.int .i64 v_r308.2))]] (.d (.v (.int .i64 v_r308.1)))]) [0] (by kernel_rfl) (by kernel_rfl) (by kernel_rfl) (.cons (G_slices_medianCmpFunc_ringref5_Proc_h_ok n v_data287 (wi .i64 (v_a288 - 1)) v_a288 (wi .i64 (v_a288 + 1)) v_swaps289 v_cmp290 v_cmp290_g v_cmp290_c v_cmp290_h _ h339) .nil)
inductive G_slices_choosePivotCmpFunc_ringref5_Proc_C1_R where
  | x0 (v_j324 : Int) (v_b325 : Int)
  | x1 (v_j329 : Int)
def G_slices_choosePivotCmpFunc_ringref5_Proc_C1_ex : G_slices_choosePivotCmpFunc_ringref5_Proc_C1_R → Ex
  | .x0 _ _ => .normal
  | .x1 _ => .normal
def G_slices_choosePivotCmpFunc_ringref5_Proc_C1_st (v_data283 : (List S_ringref5_Proc)) (v_cmp286 : (S_ringref5_Proc → S_ringref5_Proc → Option (Int))) (v_b285 : Int) (v_a284 : Int) (v_cmp286_g : FuncId) (v_cmp286_c : (List PV)) : G_slices_choosePivotCmpFunc_ringref5_Proc_C1_R → PS
  | .x0 v_j324 v_b325 => ⟨[dd, dd, dd, dd, dd, dd, dd, dd, dd, dd, dd, .ref 0 0, dd, .d (.v (.int .i64 v_j324)), dd, dd, dd, dd, dd, dd, dd, dd, dd, dd, dd, dd, dd, dd, dd, dd, dd, dd, dd, dd, dd, dd, dd, dd, dd, dd, dd, dd, dd, dd, dd, dd, dd, dd, dd, dd, dd, dd, dd, dd, dd, dd, dd, dd, dd, dd, dd, dd, dd], [.box [.d (.v (.int .i64 v_b325))]]⟩
  | .x1 v_j329 => ⟨[dd, dd, dd, dd, dd, dd, dd, dd, dd, dd, dd, .ref 0 0, dd, .d (.v (.int .i64 v_j329)), dd, dd, dd, dd, dd, dd, dd, dd, dd, dd, dd, dd, dd, dd, dd, dd, dd, dd, dd, dd, dd, dd, dd, dd, dd, dd, dd, dd, dd, dd, dd, dd, dd, dd, dd, dd, dd, dd, dd, dd, dd, dd, dd, dd, dd, dd, dd, dd, dd], [.box [.d (.v (.int .i64 0))]]⟩
def G_slices_choosePivotCmpFunc_ringref5_Proc_C1_hd (v_data283 : (List S_ringref5_Proc)) (v_cmp286 : (S_ringref5_Proc → S_ringref5_Proc → Option (Int))) (v_b285 : Int) (v_a284 : Int) (v_cmp286_g : FuncId) (v_cmp286_c : (List PV))  : PS := ⟨[.d (.sl (v_data283.map eS_ringref5_Proc)), dd, dd, .d (.clo v_cmp286_g v_cmp286_c), dd, dd, dd, dd, dd, dd, .d (.v (.int .i64 (wi .i64 (v_b285 - v_a284)))), .ref 0 0, .d (.v (.int .i64 (wi .i64 (v_a284 + (wi .i64 ((quoI .i64 (wi .i64 (v_b285 - v_a284)) 4) * 1)))))), .d (.v (.int .i64 (wi .i64 (v_a284 + (wi .i64 ((quoI .i64 (wi .i64 (v_b285 - v_a284)) 4) * 2)))))), .d (.v (.int .i64 (wi .i64 (v_a284 + (wi .i64 ((quoI .i64 (wi .i64 (v_b285 - v_a284)) 4) * 3)))))), dd, dd, dd, dd, dd, dd, dd, dd, dd, dd, dd, dd, dd, dd, dd, dd, dd, dd, dd, .d (.v (.bool (decide ((wi .i64 (v_b285 - v_a284)) ≥ 8)))), dd, dd, dd, dd, dd, dd, dd, dd, dd, dd, dd, dd, dd, dd, dd, dd, dd, dd, dd, dd, dd, dd, dd, dd, dd, dd, dd, dd], [.box [.d (.v (.int .i64 0))]]⟩
def G_slices_choosePivotCmpFunc_ringref5_Proc_C1 (n : Nat) (v_data283 : (List S_ringref5_Proc)) (v_cmp286 : (S_ringref5_Proc → S_ringref5_Proc → Option (Int))) (v_b285 : Int) (v_a284 : Int) : Option G_slices_choosePivotCmpFunc_ringref5_Proc_C1_R :=
  if (wi .i64 (v_b285 - v_a284)) ≥ 8 then
   if (wi .i64 (v_b285 - v_a284)) ≥ 50 then
    (G_slices_medianAdjacentCmpFunc_ringref5_Proc_h n v_data283 (wi .i64 (v_a284 + (wi .i64 ((quoI .i64 (wi .i64 (v_b285 - v_a284)) 4) * 1)))) 0 v_cmp286).bind fun (v_r320 : (Int × Int)) =>
    (G_slices_medianAdjacentCmpFunc_ringref5_Proc_h n v_data283 (wi .i64 (v_a284 + (wi .i64 ((quoI .i64 (wi .i64 (v_b285 - v_a284)) 4) * 2)))) v_r320.2 v_cmp286).bind fun (v_r321 : (Int × Int)) =>
    (G_slices_medianAdjacentCmpFunc_ringref5_Proc_h n v_data283 (wi .i64 (v_a284 + (wi .i64 ((quoI .i64 (wi .i64 (v_b285 - v_a284)) 4) * 3)))) v_r321.2 v_cmp286).bind fun (v_r322 : (Int × Int)) =>
    (G_slices_medianCmpFunc_ringref5_Proc_h n v_data283 v_r320.1 v_r321.1 v_r322.1 v_r322.2 v_cmp286).bind fun (v_r323 : (Int × Int)) =>
    some (.x0 v_r323.1 v_r323.2)
   else
    (G_slices_medianCmpFunc_ringref5_Proc_h n v_data283 (wi .i64 (v_a284 + (wi .i64 ((quoI .i64 (wi .i64 (v_b285 - v_a284)) 4) * 1)))) (wi .i64 (v_a284 + (wi .i64 ((quoI .i64 (wi .i64 (v_b285 - v_a284)) 4) * 2)))) (wi .i64 (v_a284 + (wi .i64 ((quoI .i64 (wi .i64 (v_b285 - v_a284)) 4) * 3)))) 0 v_cmp286).bind fun (v_r326 : (Int × Int)) =>
    some (.x0 v_r326.1 v_r326.2)
  else
   some (.x1 (wi .i64 (v_a284 + (wi .i64 ((quoI .i64 (wi .i64 (v_b285 - v_a284)) 4) * 2)))))
theorem G_slices_choosePivotCmpFunc_ringref5_Proc_C1_ok {Fi : Ex → PS → Prop} (hF : KC 63 Fi) (ks : List Fr) (n : Nat) (v_data283 : (List S_ringref5_Proc)) (v_cmp286 : (S_ringref5_Proc → S_ringref5_Proc → Option (Int))) (v_b285 : Int) (v_a284 : Int) (v_cmp286_g : FuncId) (v_cmp286_c : (List PV)) (v_cmp286_h : ∀ (x0 : S_ringref5_Proc) (x1 : S_ringref5_Proc) (r : Int), v_cmp286 x0 x1 = some r → Ret Try.prog v_cmp286_g ([eS_ringref5_Proc x0, eS_ringref5_Proc x1] ++ v_cmp286_c) ((eI .i64) r)) (o : G_slices_choosePivotCmpFunc_ringref5_Proc_C1_R) (h : G_slices_choosePivotCmpFunc_ringref5_Proc_C1 n v_data283 v_cmp286 v_b285 v_a284 = some o) (q : RunE Try.prog 63 Fi ks (G_slices_choosePivotCmpFunc_ringref5_Proc_C1_ex o) (G_slices_choosePivotCmpFunc_ringref5_Proc_C1_st v_data283 v_cmp286 v_b285 v_a284 v_cmp286_g v_cmp286_c o)) : RunE Try.prog 63 Fi (.s (cR (cL (cR (cR (cR (cR (cR (cR (bodyOf Try.f222))))))))) :: ks) .normal (G_slices_choosePivotCmpFunc_ringref5_Proc_C1_hd v_data283 v_cmp286 v_b285 v_a284 v_cmp286_g v_cmp286_c) := by
  unfold G_slices_choosePivotCmpFunc_ringref5_Proc_C1 at h
  by_cases h349 : (wi .i64 (v_b285 - v_a284)) ≥ 8
  · rw [if_pos h349] at h
    by_cases h354 : (wi .i64 (v_b285 - v_a284)) ≥ 50
    · rw [if_pos h354] at h
      obtain ⟨v_r320, h355, h⟩ := bind_some h
      obtain ⟨v_r321, h356, h⟩ := bind_some h
      obtain ⟨v_r322, h357, h⟩ := bind_some h
      obtain ⟨v_r323, h358, h⟩ := bind_some h
      cases h
      exact pkk_sound TTok mix hF 11 (hs := [.t true, .t true, .h [0] [] [.box [.d (.v (.int .i64 v_r320.2))]] (.d (.v (.int .i64 v_r320.1))), .h [0] [] [.box [.d (.v (.int .i64 v_r321.2))]] (.d (.v (.int .i64 v_r321.1))), .h [0] [] [.box [.d (.v (.int .i64 v_r322.2))]] (.d (.v (.int .i64 v_r322.1))), .h [0] [] [.box [.d (.v (.int .i64 v_r323.2))]] (.d (.v (.int .i64 v_r323.1)))]) (ts := []) (s := [0]) (l := [11, 13]) (by kernel_rfl) (by kernel_rfl) (.cons (dt h349) (.cons (dt h354) (.cons (G_slices_medianAdjacentCmpFunc_ringref5_Proc_h_ok n v_data283 (wi .i64 (v_a284 + (wi .i64 ((quoI .i64 (wi .i64 (v_b285 - v_a284)) 4) * 1)))) 0 v_cmp286 v_cmp286_g v_cmp286_c v_cmp286_h _ h355) (.cons (G_slices_medianAdjacentCmpFunc_ringref5_Proc_h_ok n v_data283 (wi .i64 (v_a284 + (wi .i64 ((quoI .i64 (wi .i64 (v_b285 - v_a284)) 4) * 2)))) v_r320.2 v_cmp286 v_cmp286_g v_cmp286_c v_cmp286_h _ h356) (.cons (G_slices_medianAdjacentCmpFunc_ringref5_Proc_h_ok n v_data283 (wi .i64 (v_a284 + (wi .i64 ((quoI .i64 (wi .i64 (v_b285 - v_a284)) 4) * 3)))) v_r321.2 v_cmp286 v_cmp286_g v_cmp286_c v_cmp286_h _ h357) (.cons (G_slices_medianCmpFunc_ringref5_Proc_h_ok n v_data283 v_r320.1 v_r321.1 v_r322.1 v_r322.2 v_cmp286 v_cmp286_g v_cmp286_c v_cmp286_h _ h358) .nil)))))) q
    · rw [if_neg h354] at h
      obtain ⟨v_r326, h359, h⟩ := bind_some h
      cases h
      exact pkk_sound TTok mix hF 7 (hs := [.t true, .t false, .h [0] [] [.box [.d (.v (.int .i64 v_r326.2))]] (.d (.v (.int .i64 v_r326.1)))]) (ts := []) (s := [0]) (l := [11, 13]) (by kernel_rfl) (by kernel_rfl) (.cons (dt h349) (.cons (df h354) (.cons (G_slices_medianCmpFunc_ringref5_Proc_h_ok n v_data283 (wi .i64 (v_a284 + (wi .i64 ((quoI .i64 (wi .i64 (v_b285 - v_a284)) 4) * 1)))) (wi .i64 (v_a284 + (wi .i64 ((quoI .i64 (wi .i64 (v_b285 - v_a284)) 4) * 2)))) (wi .i64 (v_a284 + (wi .i64 ((quoI .i64 (wi .i64 (v_b285 - v_a284)) 4) * 3)))) 0 v_cmp286 v_cmp286_g v_cmp286_c v_cmp286_h _ h359) .nil))) q
  · rw [if_neg h349] at h
    cases h
    exact pkk_sound TTok mix hF 2 (hs := [.t false]) (ts := []) (s := [0]) (l := [11, 13]) (by kernel_rfl) (by kernel_rfl) (.cons (df h349) .nil) q
/- slices.choosePivotCmpFunc[ringhall/ringref5.Proc] -/
def G_slices_choosePivotCmpFunc_ringref5_Proc (n : Nat) (v_data283 : (List S_ringref5_Proc)) (v_a284 : Int) (v_b285 : Int) (v_cmp286 : (S_ringref5_Proc → S_ringref5_Proc → Option (Int))) : Option (Int × Int) :=
  (G_slices_choosePivotCmpFunc_ringref5_Proc_C1 n v_data283 v_cmp286 v_b285 v_a284).bind fun v_o330 => match v_o330 with
  | .x0 v_z331 v_z332 =>
    if v_z332 = 0 then
     some (v_z331, 1)
    else
     if v_z332 = 12 then
      some (v_z331, 2)
     else
      some (v_z331, 0)
  | .x1 v_z333 =>
    some (v_z333, 1)
theorem G_slices_choosePivotCmpFunc_ringref5_Proc_ok (n : Nat) (v_data283 : (List S_ringref5_Proc)) (v_a284 : Int) (v_b285 : Int) (v_cmp286 : (S_ringref5_Proc → S_ringref5_Proc → Option (Int))) (v_cmp286_g : FuncId) (v_cmp286_c : List PV) (v_cmp286_h : ∀ (x0 : S_ringref5_Proc) (x1 : S_ringref5_Proc) (r : Int), v_cmp286 x0 x1 = some r → Ret Try.prog v_cmp286_g ([eS_ringref5_Proc x0, eS_ringref5_Proc x1] ++ v_cmp286_c) ((eI .i64) r)) (r : Int × Int) (h : G_slices_choosePivotCmpFunc_ringref5_Proc n v_data283 v_a284 v_b285 v_cmp286 = some r) : Ret Try.prog 222 [(eL eS_ringref5_Proc) v_data283, (eI .i64) v_a284, (eI .i64) v_b285, (.clo v_cmp286_g v_cmp286_c)] (.tup [(eI .i64) r.1, (eI .i64) r.2]) := by
  refine ret_run (n := 63) (fn := Try.f222) (c := bodyOf Try.f222) (by kernel_rfl) (by kernel_rfl) (by kernel_rfl) (by kernel_rfl) ?_
  have hF : KC 63 (FinR Try.prog Try.f222 (.tup [(eI .i64) r.1, (eI .i64) r.2])) := FinR.kc' (by kernel_rfl)
  unfold G_slices_choosePivotCmpFunc_ringref5_Proc at h
  obtain ⟨v_o330, h360, h⟩ := bind_some h
  refine pkk_sound TTok mix hF 15 (hs := []) (ts := []) (s := [18]) (l := [0, 3, 10, 11, 12, 13, 14, 34]) (by kernel_rfl) (by kernel_rfl) (.cons (show (4 : Int) ≠ 0 by decide) (.cons (show (4 : Int) ≠ 0 by decide) (.cons (show (4 : Int) ≠ 0 by decide) .nil))) (G_slices_choosePivotCmpFunc_ringref5_Proc_C1_ok hF (.s (cR (cR (cR (cR (cR (cR (cR (bodyOf Try.f222)))))))) :: []) n v_data283 v_cmp286 v_b285 v_a284 v_cmp286_g v_cmp286_c v_cmp286_h _ h360 ?_)
  cases v_o330 with
  | x0 v_z331 v_z332 =>
    try dsimp only at h
    by_cases h363 : v_z332 = 0
    · rw [if_pos h363] at h
      obtain rfl := Option.some.inj h
      exact pend_sound TTok mix 10 (hs := [.c, .t true]) (by kernel_rfl) (by kernel_rfl) (by kernel_rfl) (.cons (bt h363) .nil)
    · rw [if_neg h363] at h
      by_cases h365 : v_z332 = 12
      · rw [if_pos h365] at h
        obtain rfl := Option.some.inj h
        exact pend_sound TTok mix 13 (hs := [.c, .t false, .t true]) (by kernel_rfl) (by kernel_rfl) (by kernel_rfl) (.cons (bf h363) (.cons (bt h365) .nil))
      · rw [if_neg h365] at h
        obtain rfl := Option.some.inj h
        exact pend_sound TTok mix 13 (hs := [.c, .t false, .t false]) (by kernel_rfl) (by kernel_rfl) (by kernel_rfl) (.cons (bf h363) (.cons (bf h365) .nil))
  | x1 v_z333 =>
    try dsimp only at h
    obtain rfl := Option.some.inj h
    exact pend_sound TTok mix 10 (hs := [.c, .c]) (by kernel_rfl) (by kernel_rfl) (by kernel_rfl) .nil
inductive G_slices_reverseRangeCmpFunc_ringref5_Proc_h_L1_R where
  | x0 (v_w350 : (List S_ringref5_Proc))
def G_slices_reverseRangeCmpFunc_ringref5_Proc_h_L1_ex : G_slices_reverseRangeCmpFunc_ringref5_Proc_h_L1_R → Ex
  | .x0 _ => .exit 0
def G_slices_reverseRangeCmpFunc_ringref5_Proc_h_L1_st  : G_slices_reverseRangeCmpFunc_ringref5_Proc_h_L1_R → PS
  | .x0 v_w350 => ⟨[dd, dd, dd, dd, dd, dd, dd, dd, dd, dd, dd, dd, dd, dd, dd, dd, dd, dd, dd, dd, dd, dd, dd, dd, dd, dd, dd, dd, dd, dd, dd, dd, dd, dd], [.gh 0 (.srf 1), .row 180 5 (v_w350.map eS_ringref5_Proc)]⟩
def G_slices_reverseRangeCmpFunc_ringref5_Proc_h_L1_hd  (v_i339 : Int) (v_j340 : Int) (v_w341 : (List S_ringref5_Proc)) : PS := ⟨[.srf 1, dd, dd, dd, dd, dd, dd, dd, .d (.v (.int .i64 v_i339)), .d (.v (.int .i64 v_j340)), dd, dd, dd, dd, dd, dd, dd, dd, dd, dd, dd, dd, dd, dd, dd, dd, dd, dd, dd, dd, dd, dd, dd, dd], [.gh 0 (.srf 1), .row 180 5 (v_w341.map eS_ringref5_Proc)]⟩
def G_slices_reverseRangeCmpFunc_ringref5_Proc_h_L1 (n : Nat)  : Nat → Int → Int → (List S_ringref5_Proc) → Option G_slices_reverseRangeCmpFunc_ringref5_Proc_h_L1_R
  | 0, _, _, _ => none
  | k + 1, v_i339, v_j340, v_w341 =>
    if v_i339 < v_j340 then
     if 0 ≤ v_j340 ∧ (v_j340).toNat < v_w341.length then
      (v_w341[(v_j340).toNat]?).bind fun (v_y346 : S_ringref5_Proc) =>
      if 0 ≤ v_i339 ∧ (v_i339).toNat < v_w341.length then
       (v_w341[(v_i339).toNat]?).bind fun (v_y347 : S_ringref5_Proc) =>
       if 0 ≤ v_i339 ∧ (v_i339).toNat < v_w341.length then
        (v_w341[(v_i339).toNat]?).bind fun (v_y348 : S_ringref5_Proc) =>
        if 0 ≤ v_j340 ∧ (v_j340).toNat < (v_w341.set (v_i339).toNat v_y346).length then
         ((v_w341.set (v_i339).toNat v_y346)[(v_j340).toNat]?).bind fun (v_y349 : S_ringref5_Proc) =>
         G_slices_reverseRangeCmpFunc_ringref5_Proc_h_L1 n  k (wi .i64 (v_i339 + 1)) (wi .i64 (v_j340 - 1)) ((v_w341.set (v_i339).toNat v_y346).set (v_j340).toNat v_y347)
        else none
       else none
      else none
     else none
    else
     some (.x0 v_w341)
theorem G_slices_reverseRangeCmpFunc_ringref5_Proc_h_L1_ok {Fi : Ex → PS → Prop} (hF : KC 34 Fi) (ks : List Fr) (n : Nat)   : ∀ (k : Nat) (v_i339 : Int) (v_j340 : Int) (v_w341 : (List S_ringref5_Proc)) (o : G_slices_reverseRangeCmpFunc_ringref5_Proc_h_L1_R), G_slices_reverseRangeCmpFunc_ringref5_Proc_h_L1 n  k v_i339 v_j340 v_w341 = some o → RunE Try.prog 34 Fi ks (G_slices_reverseRangeCmpFunc_ringref5_Proc_h_L1_ex o) (G_slices_reverseRangeCmpFunc_ringref5_Proc_h_L1_st  o) → RunE Try.prog 34 Fi (.l k (cP (cB (cR (cR (bodyOf Try.f223))))) :: ks) .normal (G_slices_reverseRangeCmpFunc_ringref5_Proc_h_L1_hd  v_i339 v_j340 v_w341)
  | 0, v_i339, v_j340, v_w341, o, h, q => by rw [G_slices_reverseRangeCmpFunc_ringref5_Proc_h_L1] at h; cases h
  | k + 1, v_i339, v_j340, v_w341, o, h, q => by
    rw [G_slices_reverseRangeCmpFunc_ringref5_Proc_h_L1] at h
    by_cases h368 : v_i339 < v_j340
    · rw [if_pos h368] at h
      by_cases h377 : 0 ≤ v_j340 ∧ (v_j340).toNat < v_w341.length
      · rw [if_pos h377] at h
        obtain ⟨v_y346, h378, h⟩ := bind_some h
        by_cases h379 : 0 ≤ v_i339 ∧ (v_i339).toNat < v_w341.length
        · rw [if_pos h379] at h
          obtain ⟨v_y347, h380, h⟩ := bind_some h
          by_cases h381 : 0 ≤ v_i339 ∧ (v_i339).toNat < v_w341.length
          · rw [if_pos h381] at h
            obtain ⟨v_y348, h382, h⟩ := bind_some h
            by_cases h383 : 0 ≤ v_j340 ∧ (v_j340).toNat < (v_w341.set (v_i339).toNat v_y346).length
            · rw [if_pos h383] at h
              obtain ⟨v_y349, h384, h⟩ := bind_some h
              exact pkk_sound TTok mix hF 13 (hs := [.t true, .y (eS_ringref5_Proc v_y346), .y (eS_ringref5_Proc v_y347), .w ((v_w341.set (v_i339).toNat v_y346).map eS_ringref5_Proc), .y (eS_ringref5_Proc v_y348), .w (((v_w341.set (v_i339).toNat v_y346).set (v_j340).toNat v_y347).map eS_ringref5_Proc), .y (eS_ringref5_Proc v_y349)]) (ts := []) (s := [0, 1]) (l := [0, 8, 9]) (by kernel_rfl) (by kernel_rfl) (.cons (dt h368) (.cons (idx_ob (f := eS_ringref5_Proc) h377) (.cons (get_ob (f := eS_ringref5_Proc) h378) (.cons (idx_ob (f := eS_ringref5_Proc) h379) (.cons (get_ob (f := eS_ringref5_Proc) h380) (.cons (idx_ob (f := eS_ringref5_Proc) h381) (.cons (get_ob (f := eS_ringref5_Proc) h382) (.cons (Eq.refl (pcells (.agg [.v (.int .i64 v_y346.fId), .v (.int .i64 v_y346.fUp), .v (.int .i64 v_y346.fGroup), .v (.int .i64 v_y346.fStatus), .v (.bool v_y346.fEnded)]))) (.cons (set_ob (f := eS_ringref5_Proc) (l := v_w341) (k := (v_i339).toNat) (z := v_y346) (p := .agg [.v (.int .i64 v_y346.fId), .v (.int .i64 v_y346.fUp), .v (.int .i64 v_y346.fGroup), .v (.int .i64 v_y346.fStatus), .v (.bool v_y346.fEnded)]) rfl) (.cons (idx_ob (f := eS_ringref5_Proc) h383) (.cons (get_ob (f := eS_ringref5_Proc) h384) (.cons (Eq.refl (pcells (.agg [.v (.int .i64 v_y347.fId), .v (.int .i64 v_y347.fUp), .v (.int .i64 v_y347.fGroup), .v (.int .i64 v_y347.fStatus), .v (.bool v_y347.fEnded)]))) (.cons (set_ob (f := eS_ringref5_Proc) (l := (v_w341.set (v_i339).toNat v_y346)) (k := (v_j340).toNat) (z := v_y347) (p := .agg [.v (.int .i64 v_y347.fId), .v (.int .i64 v_y347.fUp), .v (.int .i64 v_y347.fGroup), .v (.int .i64 v_y347.fStatus), .v (.bool v_y347.fEnded)]) rfl) .nil))))))))))))) (G_slices_reverseRangeCmpFunc_ringref5_Proc_h_L1_ok hF ks n  k (wi .i64 (v_i339 + 1)) (wi .i64 (v_j340 - 1)) ((v_w341.set (v_i339).toNat v_y346).set (v_j340).toNat v_y347) _ h q)
            · rw [if_neg h383] at h; cases h
          · rw [if_neg h381] at h; cases h
        · rw [if_neg h379] at h; cases h
      · rw [if_neg h377] at h; cases h
    · rw [if_neg h368] at h
      cases h
      exact pkk_sound TTok mix hF 8 (hs := [.t false]) (ts := []) (s := [0, 1]) (l := []) (by kernel_rfl) (by kernel_rfl) (.cons (df h368) .nil) q
/- slices.reverseRangeCmpFunc[ringhall/ringref5.Proc] -/
def G_slices_reverseRangeCmpFunc_ringref5_Proc_h (n : Nat) (v_data335 : (List S_ringref5_Proc)) (v_a336 : Int) (v_b337 : Int) (v_cmp338 : (S_ringref5_Proc → S_ringref5_Proc → Option (Int))) : Option ((List S_ringref5_Proc)) :=
  (G_slices_reverseRangeCmpFunc_ringref5_Proc_h_L1 n  n v_a336 (wi .i64 (v_b337 - 1)) v_data335).bind fun v_o351 => match v_o351 with
  | .x0 v_z352 =>
    some v_z352
theorem G_slices_reverseRangeCmpFunc_ringref5_Proc_h_ok (n : Nat) (v_data335 : (List S_ringref5_Proc)) (v_a336 : Int) (v_b337 : Int) (v_cmp338 : (S_ringref5_Proc → S_ringref5_Proc → Option (Int))) (v_cmp338_g : FuncId) (v_cmp338_c : List PV) (v_cmp338_h : ∀ (x0 : S_ringref5_Proc) (x1 : S_ringref5_Proc) (r : Int), v_cmp338 x0 x1 = some r → Ret Try.prog v_cmp338_g ([eS_ringref5_Proc x0, eS_ringref5_Proc x1] ++ v_cmp338_c) ((eI .i64) r)) (r : (List S_ringref5_Proc)) (h : G_slices_reverseRangeCmpFunc_ringref5_Proc_h n v_data335 v_a336 v_b337 v_cmp338 = some r) : RetH Try.prog 223 [.srf 0, .d ((eI .i64) v_a336), .d ((eI .i64) v_b337), .d ((.clo v_cmp338_g v_cmp338_c))] [.row 180 5 (v_data335.map eS_ringref5_Proc)] (.tup []) [.row 180 5 (r.map eS_ringref5_Proc)] := by
  refine retH_run (n := 34) (fn := Try.f223) (c := bodyOf Try.f223) (by kernel_rfl) (by kernel_rfl) (by kernel_rfl) (by kernel_rfl) ?_
  have hF : KC 34 (FinH Try.prog Try.f223 [.row 180 5 (v_data335.map eS_ringref5_Proc)] (.tup []) [.row 180 5 (r.map eS_ringref5_Proc)]) := FinH.kc' (by kernel_rfl)
  unfold G_slices_reverseRangeCmpFunc_ringref5_Proc_h at h
  obtain ⟨v_o351, h385, h⟩ := bind_some h
  refine pkk_sound TTok mix hF 6 (hs := [.n n]) (ts := []) (s := [1, 0]) (l := [0, 8, 9]) (by kernel_rfl) (by kernel_rfl) .nil (G_slices_reverseRangeCmpFunc_ringref5_Proc_h_L1_ok hF (.b 0 :: []) n  n v_a336 (wi .i64 (v_b337 - 1)) v_data335 _ h385 ?_)
  cases v_o351 with
  | x0 v_z352 =>
    try dsimp only at h
    obtain rfl := Option.some.inj h
    exact pendH_sound TTok mix 1 (hs := []) [1] (by kernel_rfl) (by kernel_rfl) (by kernel_rfl) .nil
inductive G_slices_partialInsertionSortCmpFunc_ringref5_Proc_h_L1_R where
  | x0 (v_i380 : Int) (v_w381 : (List S_ringref5_Proc))
def G_slices_partialInsertionSortCmpFunc_ringref5_Proc_h_L1_ex : G_slices_partialInsertionSortCmpFunc_ringref5_Proc_h_L1_R → Ex
  | .x0 _ _ => .exit 2
def G_slices_partialInsertionSortCmpFunc_ringref5_Proc_h_L1_st (v_a366 : Int) (v_b367 : Int) (v_cmp368 : (S_ringref5_Proc → S_ringref5_Proc → Option (Int))) (v_j370 : Int) (v_cmp368_g : FuncId) (v_cmp368_c : (List PV)) : G_slices_partialInsertionSortCmpFunc_ringref5_Proc_h_L1_R → PS
  | .x0 v_i380 v_w381 => ⟨[.srf 1, .d (.v (.int .i64 v_a366)), .d (.v (.int .i64 v_b367)), .d (.clo v_cmp368_g v_cmp368_c), dd, dd, dd, dd, dd, .d (.v (.int .i64 v_i380)), .d (.v (.int .i64 v_j370)), dd, dd, dd, dd, dd, dd, dd, dd, dd, dd, dd, dd, dd, dd, dd, dd, dd, dd, dd, dd, dd, dd, dd, dd, dd, dd, dd, dd, dd, dd, dd, dd, dd, dd, dd, dd, dd, dd, dd, dd, dd, dd, dd, dd, dd, dd, dd, dd, dd, dd, dd, dd, dd, dd, dd, dd, dd, dd, dd, dd, dd, dd, dd, dd, dd, dd, dd, dd, dd, dd, dd, dd, dd, dd, dd, dd, dd, dd, dd, dd, dd, dd, dd, dd, dd, dd, dd, dd, dd, dd, dd, dd, dd, dd, dd, dd, dd, dd, dd, dd, dd, dd, dd, dd, dd, dd, dd, dd, dd, dd, dd, dd, dd, dd, dd, dd, dd, dd, dd, dd, dd, dd, dd, dd, dd, dd, dd, dd, dd, dd], [.gh 0 (.srf 1), .row 180 5 (v_w381.map eS_ringref5_Proc)]⟩
def G_slices_partialInsertionSortCmpFunc_ringref5_Proc_h_L1_hd (v_a366 : Int) (v_b367 : Int) (v_cmp368 : (S_ringref5_Proc → S_ringref5_Proc → Option (Int))) (v_j370 : Int) (v_cmp368_g : FuncId) (v_cmp368_c : (List PV)) (v_i372 : Int) (v_w373 : (List S_ringref5_Proc)) : PS := ⟨[.srf 1, .d (.v (.int .i64 v_a366)), .d (.v (.int .i64 v_b367)), .d (.clo v_cmp368_g v_cmp368_c), dd, dd, dd, dd, dd, .d (.v (.int .i64 v_i372)), .d (.v (.int .i64 v_j370)), dd, dd, dd, dd, dd, dd, dd, dd, dd, dd, dd, dd, dd, dd, dd, dd, dd, dd, dd, dd, dd, dd, dd, dd, dd, dd, dd, dd, dd, dd, dd, dd, dd, dd, dd, dd, dd, dd, dd, dd, dd, dd, dd, dd, dd, dd, dd, dd, dd, dd, dd, dd, dd, dd, dd, dd, dd, dd, dd, dd, dd, dd, dd, dd, dd, dd, dd, dd, dd, dd, dd, dd, dd, dd, dd, dd, dd, dd, dd, dd, dd, dd, dd, dd, dd, dd, dd, dd, dd, dd, dd, dd, dd, dd, dd, dd, dd, dd, dd, dd, dd, dd, dd, dd, dd, dd, dd, dd, dd, dd, dd, dd, dd, dd, dd, dd, dd, dd, dd, dd, dd, dd, dd, dd, dd, dd, dd, dd, dd, dd], [.gh 0 (.srf 1), .row 180 5 (v_w373.map eS_ringref5_Proc)]⟩
def G_slices_partialInsertionSortCmpFunc_ringref5_Proc_h_L1 (n : Nat) (v_a366 : Int) (v_b367 : Int) (v_cmp368 : (S_ringref5_Proc → S_ringref5_Proc → Option (Int))) (v_j370 : Int) : Nat → Int → (List S_ringref5_Proc) → Option G_slices_partialInsertionSortCmpFunc_ringref5_Proc_h_L1_R
  | 0, _, _ => none
  | k + 1, v_i372, v_w373 =>
    if v_i372 < v_b367 then
     if 0 ≤ v_i372 ∧ (v_i372).toNat < v_w373.length then
      (v_w373[(v_i372).toNat]?).bind fun (v_y377 : S_ringref5_Proc) =>
      if 0 ≤ (wi .i64 (v_i372 - 1)) ∧ ((wi .i64 (v_i372 - 1))).toNat < v_w373.length then
       (v_w373[((wi .i64 (v_i372 - 1))).toNat]?).bind fun (v_y378 : S_ringref5_Proc) =>
       (v_cmp368 v_y377 v_y378).bind fun (v_r379 : (Int)) =>
       if v_r379 < 0 then
        some (.x0 v_i372 v_w373)
       else
        G_slices_partialInsertionSortCmpFunc_ringref5_Proc_h_L1 n v_a366 v_b367 v_cmp368 v_j370 k (wi .i64 (v_i372 + 1)) v_w373
      else none
     else none
    else
     some (.x0 v_i372 v_w373)
theorem G_slices_partialInsertionSortCmpFunc_ringref5_Proc_h_L1_ok {Fi : Ex → PS → Prop} (hF : KC 141 Fi) (ks : List Fr) (n : Nat) (v_a366 : Int) (v_b367 : Int) (v_cmp368 : (S_ringref5_Proc → S_ringref5_Proc → Option (Int))) (v_j370 : Int) (v_cmp368_g : FuncId) (v_cmp368_c : (List PV)) (v_cmp368_h : ∀ (x0 : S_ringref5_Proc) (x1 : S_ringref5_Proc) (r : Int), v_cmp368 x0 x1 = some r → Ret Try.prog v_cmp368_g ([eS_ringref5_Proc x0, eS_ringref5_Proc x1] ++ v_cmp368_c) ((eI .i64) r)) : ∀ (k : Nat) (v_i372 : Int) (v_w373 : (List S_ringref5_Proc)) (o : G_slices_partialInsertionSortCmpFunc_ringref5_Proc_h_L1_R), G_slices_partialInsertionSortCmpFunc_ringref5_Proc_h_L1 n v_a366 v_b367 v_cmp368 v_j370 k v_i372 v_w373 = some o → RunE Try.prog 141 Fi ks (G_slices_partialInsertionSortCmpFunc_ringref5_Proc_h_L1_ex o) (G_slices_partialInsertionSortCmpFunc_ringref5_Proc_h_L1_st v_a366 v_b367 v_cmp368 v_j370 v_cmp368_g v_cmp368_c o) → RunE Try.prog 141 Fi (.l k (cP (cB (cL (cB (cL (cR (cP (cB (cR (cL (cR (cR (bodyOf Try.f224))))))))))))) :: ks) .normal (G_slices_partialInsertionSortCmpFunc_ringref5_Proc_h_L1_hd v_a366 v_b367 v_cmp368 v_j370 v_cmp368_g v_cmp368_c v_i372 v_w373)
  | 0, v_i372, v_w373, o, h, q => by rw [G_slices_partialInsertionSortCmpFunc_ringref5_Proc_h_L1] at h; cases h
  | k + 1, v_i372, v_w373, o, h, q => by
    rw [G_slices_partialInsertionSortCmpFunc_ringref5_Proc_h_L1] at h
    by_cases h400 : v_i372 < v_b367
    · rw [if_pos h400] at h
      by_cases h401 : 0 ≤ v_i372 ∧ (v_i372).toNat < v_w373.length
      · rw [if_pos h401] at h
        obtain ⟨v_y377, h402, h⟩ := bind_some h
        by_cases h403 : 0 ≤ (wi .i64 (v_i372 - 1)) ∧ ((wi .i64 (v_i372 - 1))).toNat < v_w373.length
        · rw [if_pos h403] at h
          obtain ⟨v_y378, h404, h⟩ := bind_some h
          obtain ⟨v_r379, h405, h⟩ := bind_some h
          by_cases h406 : v_r379 < 0
          · rw [if_pos h406] at h
            cases h
            exact pkk_sound TTok mix hF 8 (hs := [.t true, .c, .c, .c, .c, .y (eS_ringref5_Proc v_y377), .c, .c, .c, .c, .c, .y (eS_ringref5_Proc v_y378), .c, .r ((eI .i64) v_r379), .c, .c, .t false]) (ts := []) (s := [0, 1]) (l := [0, 1, 2, 3, 9, 10]) (by kernel_rfl) (by kernel_rfl) (.cons (dt h400) (.cons (idx_ob (f := eS_ringref5_Proc) h401) (.cons (get_ob (f := eS_ringref5_Proc) h402) (.cons (idx_ob (f := eS_ringref5_Proc) h403) (.cons (get_ob (f := eS_ringref5_Proc) h404) (.cons (v_cmp368_h v_y377 v_y378 _ h405) (.cons (bnf (dt h406)) .nil))))))) q
          · rw [if_neg h406] at h
            exact pkk_sound TTok mix hF 9 (hs := [.t true, .c, .c, .c, .c, .y (eS_ringref5_Proc v_y377), .c, .c, .c, .c, .c, .y (eS_ringref5_Proc v_y378), .c, .r ((eI .i64) v_r379), .c, .c, .t true]) (ts := []) (s := [0, 1]) (l := [0, 1, 2, 3, 9, 10]) (by kernel_rfl) (by kernel_rfl) (.cons (dt h400) (.cons (idx_ob (f := eS_ringref5_Proc) h401) (.cons (get_ob (f := eS_ringref5_Proc) h402) (.cons (idx_ob (f := eS_ringref5_Proc) h403) (.cons (get_ob (f := eS_ringref5_Proc) h404) (.cons (v_cmp368_h v_y377 v_y378 _ h405) (.cons (bnt (df h406)) .nil))))))) (G_slices_partialInsertionSortCmpFunc_ringref5_Proc_h_L1_ok hF ks n v_a366 v_b367 v_cmp368 v_j370 v_cmp368_g v_cmp368_c v_cmp368_h k (wi .i64 (v_i372 + 1)) v_w373 _ h q)
        · rw [if_neg h403] at h; cases h
      · rw [if_neg h401] at h; cases h
    · rw [if_neg h400] at h
      cases h
      exact pkk_sound TTok mix hF 8 (hs := [.t false, .c, .c, .c, .c, .c, .c, .c, .c, .c, .c, .c, .c, .c]) (ts := []) (s := [0, 1]) (l := [0, 1, 2, 3, 9, 10]) (by kernel_rfl) (by kernel_rfl) (.cons (df h400) .nil) q
inductive G_slices_partialInsertionSortCmpFunc_ringref5_Proc_h_L2_R where
  | x0 (v_w407 : (List S_ringref5_Proc))
def G_slices_partialInsertionSortCmpFunc_ringref5_Proc_h_L2_ex : G_slices_partialInsertionSortCmpFunc_ringref5_Proc_h_L2_R → Ex
  | .x0 _ => .exit 4
def G_slices_partialInsertionSortCmpFunc_ringref5_Proc_h_L2_st (v_a366 : Int) (v_b367 : Int) (v_cmp368 : (S_ringref5_Proc → S_ringref5_Proc → Option (Int))) (v_z385 : Int) (v_j370 : Int) (v_cmp368_g : FuncId) (v_cmp368_c : (List PV)) : G_slices_partialInsertionSortCmpFunc_ringref5_Proc_h_L2_R → PS
  | .x0 v_w407 => ⟨[.srf 1, .d (.v (.int .i64 v_a366)), .d (.v (.int .i64 v_b367)), .d (.clo v_cmp368_g v_cmp368_c), dd, dd, dd, dd, dd, .d (.v (.int .i64 v_z385)), .d (.v (.int .i64 v_j370)), dd, dd, dd, dd, dd, dd, dd, dd, dd, dd, dd, dd, dd, dd, dd, dd, dd, dd, dd, dd, dd, dd, dd, dd, dd, dd, dd, dd, dd, dd, dd, dd, dd, dd, dd, dd, dd, dd, dd, dd, dd, dd, dd, dd, dd, dd, dd, dd, dd, dd, dd, dd, dd, dd, dd, dd, dd, dd, dd, dd, dd, dd, dd, dd, dd, dd, dd, dd, dd, dd, dd, dd, dd, dd, dd, dd, dd, dd, dd, dd, dd, dd, dd, dd, dd, dd, dd, dd, dd, dd, dd, dd, dd, dd, dd, dd, dd, dd, dd, dd, dd, dd, dd, dd, dd, dd, dd, dd, dd, dd, dd, dd, dd, dd, dd, dd, dd, dd, dd, dd, dd, dd, dd, dd, dd, dd, dd, dd, dd, dd], [.gh 0 (.srf 1), .row 180 5 (v_w407.map eS_ringref5_Proc)]⟩
def G_slices_partialInsertionSortCmpFunc_ringref5_Proc_h_L2_hd (v_a366 : Int) (v_b367 : Int) (v_cmp368 : (S_ringref5_Proc → S_ringref5_Proc → Option (Int))) (v_z385 : Int) (v_j370 : Int) (v_cmp368_g : FuncId) (v_cmp368_c : (List PV)) (v_j395 : Int) (v_w396 : (List S_ringref5_Proc)) : PS := ⟨[.srf 1, .d (.v (.int .i64 v_a366)), .d (.v (.int .i64 v_b367)), .d (.clo v_cmp368_g v_cmp368_c), dd, dd, dd, dd, dd, .d (.v (.int .i64 v_z385)), .d (.v (.int .i64 v_j370)), .d (.v (.int .i64 v_j395)), dd, dd, dd, dd, dd, dd, dd, dd, dd, dd, dd, dd, dd, dd, dd, dd, dd, dd, dd, dd, dd, dd, dd, dd, dd, dd, dd, dd, dd, dd, dd, dd, dd, dd, dd, dd, dd, dd, dd, dd, dd, dd, dd, dd, dd, dd, dd, dd, dd, dd, dd, dd, dd, dd, dd, dd, dd, dd, dd, dd, dd, dd, dd, dd, dd, dd, dd, dd, dd, dd, dd, dd, dd, dd, dd, dd, dd, dd, dd, dd, dd, dd, dd, dd, dd, dd, dd, dd, dd, dd, dd, dd, dd, dd, dd, dd, dd, dd, dd, dd, dd, dd, dd, dd, dd, dd, dd, dd, dd, dd, dd, dd, dd, dd, dd, dd, dd, dd, dd, dd, dd, dd, dd, dd, dd, dd, dd, dd, dd], [.gh 0 (.srf 1), .row 180 5 (v_w396.map eS_ringref5_Proc)]⟩
def G_slices_partialInsertionSortCmpFunc_ringref5_Proc_h_L2 (n : Nat) (v_a366 : Int) (v_b367 : Int) (v_cmp368 : (S_ringref5_Proc → S_ringref5_Proc → Option (Int))) (v_z385 : Int) (v_j370 : Int) : Nat → Int → (List S_ringref5_Proc) → Option G_slices_partialInsertionSortCmpFunc_ringref5_Proc_h_L2_R
  | 0, _, _ => none
  | k + 1, v_j395, v_w396 =>
    if v_j395 ≥ 1 then
     if 0 ≤ v_j395 ∧ (v_j395).toNat < v_w396.length then
      (v_w396[(v_j395).toNat]?).bind fun (v_y404 : S_ringref5_Proc) =>
      if 0 ≤ (wi .i64 (v_j395 - 1)) ∧ ((wi .i64 (v_j395 - 1))).toNat < v_w396.length then
       (v_w396[((wi .i64 (v_j395 - 1))).toNat]?).bind fun (v_y405 : S_ringref5_Proc) =>
       (v_cmp368 v_y404 v_y405).bind fun (v_r406 : (Int)) =>
       if v_r406 < 0 then
        if 0 ≤ (wi .i64 (v_j395 - 1)) ∧ ((wi .i64 (v_j395 - 1))).toNat < v_w396.length then
         (v_w396[((wi .i64 (v_j395 - 1))).toNat]?).bind fun (v_y408 : S_ringref5_Proc) =>
         if 0 ≤ v_j395 ∧ (v_j395).toNat < v_w396.length then
          (v_w396[(v_j395).toNat]?).bind fun (v_y409 : S_ringref5_Proc) =>
          if 0 ≤ v_j395 ∧ (v_j395).toNat < v_w396.length then
           (v_w396[(v_j395).toNat]?).bind fun (v_y410 : S_ringref5_Proc) =>
           if 0 ≤ (wi .i64 (v_j395 - 1)) ∧ ((wi .i64 (v_j395 - 1))).toNat < (v_w396.set (v_j395).toNat v_y408).length then
            ((v_w396.set (v_j395).toNat v_y408)[((wi .i64 (v_j395 - 1))).toNat]?).bind fun (v_y411 : S_ringref5_Proc) =>
            G_slices_partialInsertionSortCmpFunc_ringref5_Proc_h_L2 n v_a366 v_b367 v_cmp368 v_z385 v_j370 k (wi .i64 (v_j395 - 1)) ((v_w396.set (v_j395).toNat v_y408).set ((wi .i64 (v_j395 - 1))).toNat v_y409)
           else none
          else none
         else none
        else none
       else
        some (.x0 v_w396)
      else none
     else none
    else
     some (.x0 v_w396)
theorem G_slices_partialInsertionSortCmpFunc_ringref5_Proc_h_L2_ok {Fi : Ex → PS → Prop} (hF : KC 141 Fi) (ks : List Fr) (n : Nat) (v_a366 : Int) (v_b367 : Int) (v_cmp368 : (S_ringref5_Proc → S_ringref5_Proc → Option (Int))) (v_z385 : Int) (v_j370 : Int) (v_cmp368_g : FuncId) (v_cmp368_c : (List PV)) (v_cmp368_h : ∀ (x0 : S_ringref5_Proc) (x1 : S_ringref5_Proc) (r : Int), v_cmp368 x0 x1 = some r → Ret Try.prog v_cmp368_g ([eS_ringref5_Proc x0, eS_ringref5_Proc x1] ++ v_cmp368_c) ((eI .i64) r)) : ∀ (k : Nat) (v_j395 : Int) (v_w396 : (List S_ringref5_Proc)) (o : G_slices_partialInsertionSortCmpFunc_ringref5_Proc_h_L2_R), G_slices_partialInsertionSortCmpFunc_ringref5_Proc_h_L2 n v_a366 v_b367 v_cmp368 v_z385 v_j370 k v_j395 v_w396 = some o → RunE Try.prog 141 Fi ks (G_slices_partialInsertionSortCmpFunc_ringref5_Proc_h_L2_ex o) (G_slices_partialInsertionSortCmpFunc_ringref5_Proc_h_L2_st v_a366 v_b367 v_cmp368 v_z385 v_j370 v_cmp368_g v_cmp368_c o) → RunE Try.prog 141 Fi (.l k (cP (cB (cR (cT (cR (cL (cR (cR (cR (cR (cB (cL (cR (cP (cB (cR (cL (cR (cR (bodyOf Try.f224)))))))))))))))))))) :: ks) .normal (G_slices_partialInsertionSortCmpFunc_ringref5_Proc_h_L2_hd v_a366 v_b367 v_cmp368 v_z385 v_j370 v_cmp368_g v_cmp368_c v_j395 v_w396)
  | 0, v_j395, v_w396, o, h, q => by rw [G_slices_partialInsertionSortCmpFunc_ringref5_Proc_h_L2] at h; cases h
  | k + 1, v_j395, v_w396, o, h, q => by
    rw [G_slices_partialInsertionSortCmpFunc_ringref5_Proc_h_L2] at h
    by_cases h419 : v_j395 ≥ 1
    · rw [if_pos h419] at h
      by_cases h434 : 0 ≤ v_j395 ∧ (v_j395).toNat < v_w396.length
      · rw [if_pos h434] at h
        obtain ⟨v_y404, h435, h⟩ := bind_some h
        by_cases h436 : 0 ≤ (wi .i64 (v_j395 - 1)) ∧ ((wi .i64 (v_j395 - 1))).toNat < v_w396.length
        · rw [if_pos h436] at h
          obtain ⟨v_y405, h437, h⟩ := bind_some h
          obtain ⟨v_r406, h438, h⟩ := bind_some h
          by_cases h439 : v_r406 < 0
          · rw [if_pos h439] at h
            by_cases h440 : 0 ≤ (wi .i64 (v_j395 - 1)) ∧ ((wi .i64 (v_j395 - 1))).toNat < v_w396.length
            · rw [if_pos h440] at h
              obtain ⟨v_y408, h441, h⟩ := bind_some h
              by_cases h442 : 0 ≤ v_j395 ∧ (v_j395).toNat < v_w396.length
              · rw [if_pos h442] at h
                obtain ⟨v_y409, h443, h⟩ := bind_some h
                by_cases h444 : 0 ≤ v_j395 ∧ (v_j395).toNat < v_w396.length
                · rw [if_pos h444] at h
                  obtain ⟨v_y410, h445, h⟩ := bind_some h
                  by_cases h446 : 0 ≤ (wi .i64 (v_j395 - 1)) ∧ ((wi .i64 (v_j395 - 1))).toNat < (v_w396.set (v_j395).toNat v_y408).length
                  · rw [if_pos h446] at h
                    obtain ⟨v_y411, h447, h⟩ := bind_some h
                    exact pkk_sound TTok mix hF 16 (hs := [.t true, .y (eS_ringref5_Proc v_y404), .y (eS_ringref5_Proc v_y405), .r ((eI .i64) v_r406), .t false, .y (eS_ringref5_Proc v_y408), .y (eS_ringref5_Proc v_y409), .w ((v_w396.set (v_j395).toNat v_y408).map eS_ringref5_Proc), .y (eS_ringref5_Proc v_y410), .w (((v_w396.set (v_j395).toNat v_y408).set ((wi .i64 (v_j395 - 1))).toNat v_y409).map eS_ringref5_Proc), .y (eS_ringref5_Proc v_y411)]) (ts := []) (s := [0, 1]) (l := [0, 1, 2, 3, 9, 10, 11]) (by kernel_rfl) (by kernel_rfl) (.cons (dt h419) (.cons (idx_ob (f := eS_ringref5_Proc) h434) (.cons (get_ob (f := eS_ringref5_Proc) h435) (.cons (idx_ob (f := eS_ringref5_Proc) h436) (.cons (get_ob (f := eS_ringref5_Proc) h437) (.cons (v_cmp368_h v_y404 v_y405 _ h438) (.cons (bnf (dt h439)) (.cons (idx_ob (f := eS_ringref5_Proc) h440) (.cons (get_ob (f := eS_ringref5_Proc) h441) (.cons (idx_ob (f := eS_ringref5_Proc) h442) (.cons (get_ob (f := eS_ringref5_Proc) h443) (.cons (idx_ob (f := eS_ringref5_Proc) h444) (.cons (get_ob (f := eS_ringref5_Proc) h445) (.cons (Eq.refl (pcells (.agg [.v (.int .i64 v_y408.fId), .v (.int .i64 v_y408.fUp), .v (.int .i64 v_y408.fGroup), .v (.int .i64 v_y408.fStatus), .v (.bool v_y408.fEnded)]))) (.cons (set_ob (f := eS_ringref5_Proc) (l := v_w396) (k := (v_j395).toNat) (z := v_y408) (p := .agg [.v (.int .i64 v_y408.fId), .v (.int .i64 v_y408.fUp), .v (.int .i64 v_y408.fGroup), .v (.int .i64 v_y408.fStatus), .v (.bool v_y408.fEnded)]) rfl) (.cons (idx_ob (f := eS_ringref5_Proc) h446) (.cons (get_ob (f := eS_ringref5_Proc) h447) (.cons (Eq.refl (pcells (.agg [.v (.int .i64 v_y409.fId), .v (.int .i64 v_y409.fUp), .v (.int .i64 v_y409.fGroup), .v (.int .i64 v_y409.fStatus), .v (.bool v_y409.fEnded)]))) (.cons (set_ob (f := eS_ringref5_Proc) (l := (v_w396.set (v_j395).toNat v_y408)) (k := ((wi .i64 (v_j395 - 1))).toNat) (z := v_y409) (p := .agg [.v (.int .i64 v_y409.fId), .v (.int .i64 v_y409.fUp), .v (.int .i64 v_y409.fGroup), .v (.int .i64 v_y409.fStatus), .v (.bool v_y409.fEnded)]) rfl) .nil))))))))))))))))))) (G_slices_partialInsertionSortCmpFunc_ringref5_Proc_h_L2_ok hF ks n v_a366 v_b367 v_cmp368 v_z385 v_j370 v_cmp368_g v_cmp368_c v_cmp368_h k (wi .i64 (v_j395 - 1)) ((v_w396.set (v_j395).toNat v_y408).set ((wi .i64 (v_j395 - 1))).toNat v_y409) _ h q)
                  · rw [if_neg h446] at h; cases h
                · rw [if_neg h444] at h; cases h
              · rw [if_neg h442] at h; cases h
            · rw [if_neg h440] at h; cases h
          · rw [if_neg h439] at h
            cases h
            exact pkk_sound TTok mix hF 17 (hs := [.t true, .y (eS_ringref5_Proc v_y404), .y (eS_ringref5_Proc v_y405), .r ((eI .i64) v_r406), .t true]) (ts := []) (s := [0, 1]) (l := [0, 1, 2, 3, 9, 10]) (by kernel_rfl) (by kernel_rfl) (.cons (dt h419) (.cons (idx_ob (f := eS_ringref5_Proc) h434) (.cons (get_ob (f := eS_ringref5_Proc) h435) (.cons (idx_ob (f := eS_ringref5_Proc) h436) (.cons (get_ob (f := eS_ringref5_Proc) h437) (.cons (v_cmp368_h v_y404 v_y405 _ h438) (.cons (bnt (df h439)) .nil))))))) q
        · rw [if_neg h436] at h; cases h
      · rw [if_neg h434] at h; cases h
    · rw [if_neg h419] at h
      cases h
      exact pkk_sound TTok mix hF 8 (hs := [.t false]) (ts := []) (s := [0, 1]) (l := [0, 1, 2, 3, 9, 10]) (by kernel_rfl) (by kernel_rfl) (.cons (df h419) .nil) q
inductive G_slices_partialInsertionSortCmpFunc_ringref5_Proc_h_L3_R where
  | x0 (v_w427 : (List S_ringref5_Proc))
def G_slices_partialInsertionSortCmpFunc_ringref5_Proc_h_L3_ex : G_slices_partialInsertionSortCmpFunc_ringref5_Proc_h_L3_R → Ex
  | .x0 _ => .exit 6
def G_slices_partialInsertionSortCmpFunc_ringref5_Proc_h_L3_st (v_a366 : Int) (v_b367 : Int) (v_cmp368 : (S_ringref5_Proc → S_ringref5_Proc → Option (Int))) (v_z385 : Int) (v_j370 : Int) (v_cmp368_g : FuncId) (v_cmp368_c : (List PV)) : G_slices_partialInsertionSortCmpFunc_ringref5_Proc_h_L3_R → PS
  | .x0 v_w427 => ⟨[.srf 1, .d (.v (.int .i64 v_a366)), .d (.v (.int .i64 v_b367)), .d (.clo v_cmp368_g v_cmp368_c), dd, dd, dd, dd, dd, .d (.v (.int .i64 v_z385)), .d (.v (.int .i64 v_j370)), dd, dd, dd, dd, dd, dd, dd, dd, dd, dd, dd, dd, dd, dd, dd, dd, dd, dd, dd, dd, dd, dd, dd, dd, dd, dd, dd, dd, dd, dd, dd, dd, dd, dd, dd, dd, dd, dd, dd, dd, dd, dd, dd, dd, dd, dd, dd, dd, dd, dd, dd, dd, dd, dd, dd, dd, dd, dd, dd, dd, dd, dd, dd, dd, dd, dd, dd, dd, dd, dd, dd, dd, dd, dd, dd, dd, dd, dd, dd, dd, dd, dd, dd, dd, dd, dd, dd, dd, dd, dd, dd, dd, dd, dd, dd, dd, dd, dd, dd, dd, dd, dd, dd, dd, dd, dd, dd, dd, dd, dd, dd, dd, dd, dd, dd, dd, dd, dd, dd, dd, dd, dd, dd, dd, dd, dd, dd, dd, dd, dd], [.gh 0 (.srf 1), .row 180 5 (v_w427.map eS_ringref5_Proc)]⟩
def G_slices_partialInsertionSortCmpFunc_ringref5_Proc_h_L3_hd (v_a366 : Int) (v_b367 : Int) (v_cmp368 : (S_ringref5_Proc → S_ringref5_Proc → Option (Int))) (v_z385 : Int) (v_j370 : Int) (v_cmp368_g : FuncId) (v_cmp368_c : (List PV)) (v_j415 : Int) (v_w416 : (List S_ringref5_Proc)) : PS := ⟨[.srf 1, .d (.v (.int .i64 v_a366)), .d (.v (.int .i64 v_b367)), .d (.clo v_cmp368_g v_cmp368_c), dd, dd, dd, dd, dd, .d (.v (.int .i64 v_z385)), .d (.v (.int .i64 v_j370)), dd, .d (.v (.int .i64 v_j415)), dd, dd, dd, dd, dd, dd, dd, dd, dd, dd, dd, dd, dd, dd, dd, dd, dd, dd, dd, dd, dd, dd, dd, dd, dd, dd, dd, dd, dd, dd, dd, dd, dd, dd, dd, dd, dd, dd, dd, dd, dd, dd, dd, dd, dd, dd, dd, dd, dd, dd, dd, dd, dd, dd, dd, dd, dd, dd, dd, dd, dd, dd, dd, dd, dd, dd, dd, dd, dd, dd, dd, dd, dd, dd, dd, dd, dd, dd, dd, dd, dd, dd, dd, dd, dd, dd, dd, dd, dd, dd, dd, dd, dd, dd, dd, dd, dd, dd, dd, dd, dd, dd, dd, dd, dd, dd, dd, dd, dd, dd, dd, dd, dd, dd, dd, dd, dd, dd, dd, dd, dd, dd, dd, dd, dd, dd, dd, dd], [.gh 0 (.srf 1), .row 180 5 (v_w416.map eS_ringref5_Proc)]⟩
def G_slices_partialInsertionSortCmpFunc_ringref5_Proc_h_L3 (n : Nat) (v_a366 : Int) (v_b367 : Int) (v_cmp368 : (S_ringref5_Proc → S_ringref5_Proc → Option (Int))) (v_z385 : Int) (v_j370 : Int) : Nat → Int → (List S_ringref5_Proc) → Option G_slices_partialInsertionSortCmpFunc_ringref5_Proc_h_L3_R
  | 0, _, _ => none
  | k + 1, v_j415, v_w416 =>
    if v_j415 < v_b367 then
     if 0 ≤ v_j415 ∧ (v_j415).toNat < v_w416.length then
      (v_w416[(v_j415).toNat]?).bind fun (v_y424 : S_ringref5_Proc) =>
      if 0 ≤ (wi .i64 (v_j415 - 1)) ∧ ((wi .i64 (v_j415 - 1))).toNat < v_w416.length then
       (v_w416[((wi .i64 (v_j415 - 1))).toNat]?).bind fun (v_y425 : S_ringref5_Proc) =>
       (v_cmp368 v_y424 v_y425).bind fun (v_r426 : (Int)) =>
       if v_r426 < 0 then
        if 0 ≤ (wi .i64 (v_j415 - 1)) ∧ ((wi .i64 (v_j415 - 1))).toNat < v_w416.length then
         (v_w416[((wi .i64 (v_j415 - 1))).toNat]?).bind fun (v_y428 : S_ringref5_Proc) =>
         if 0 ≤ v_j415 ∧ (v_j415).toNat < v_w416.length then
          (v_w416[(v_j415).toNat]?).bind fun (v_y429 : S_ringref5_Proc) =>
          if 0 ≤ v_j415 ∧ (v_j415).toNat < v_w416.length then
           (v_w416[(v_j415).toNat]?).bind fun (v_y430 : S_ringref5_Proc) =>
           if 0 ≤ (wi .i64 (v_j415 - 1)) ∧ ((wi .i64 (v_j415 - 1))).toNat < (v_w416.set (v_j415).toNat v_y428).length then
            ((v_w416.set (v_j415).toNat v_y428)[((wi .i64 (v_j415 - 1))).toNat]?).bind fun (v_y431 : S_ringref5_Proc) =>
            G_slices_partialInsertionSortCmpFunc_ringref5_Proc_h_L3 n v_a366 v_b367 v_cmp368 v_z385 v_j370 k (wi .i64 (v_j415 + 1)) ((v_w416.set (v_j415).toNat v_y428).set ((wi .i64 (v_j415 - 1))).toNat v_y429)
           else none
          else none
         else none
        else none
       else
        some (.x0 v_w416)
      else none
     else none
    else
     some (.x0 v_w416)
theorem G_slices_partialInsertionSortCmpFunc_ringref5_Proc_h_L3_ok {Fi : Ex → PS → Prop} (hF : KC 141 Fi) (ks : List Fr) (n : Nat) (v_a366 : Int) (v_b367 : Int) (v_cmp368 : (S_ringref5_Proc → S_ringref5_Proc → Option (Int))) (v_z385 : Int) (v_j370 : Int) (v_cmp368_g : FuncId) (v_cmp368_c : (List PV)) (v_cmp368_h : ∀ (x0 : S_ringref5_Proc) (x1 : S_ringref5_Proc) (r : Int), v_cmp368 x0 x1 = some r → Ret Try.prog v_cmp368_g ([eS_ringref5_Proc x0, eS_ringref5_Proc x1] ++ v_cmp368_c) ((eI .i64) r)) : ∀ (k : Nat) (v_j415 : Int) (v_w416 : (List S_ringref5_Proc)) (o : G_slices_partialInsertionSortCmpFunc_ringref5_Proc_h_L3_R), G_slices_partialInsertionSortCmpFunc_ringref5_Proc_h_L3 n v_a366 v_b367 v_cmp368 v_z385 v_j370 k v_j415 v_w416 = some o → RunE Try.prog 141 Fi ks (G_slices_partialInsertionSortCmpFunc_ringref5_Proc_h_L3_ex o) (G_slices_partialInsertionSortCmpFunc_ringref5_Proc_h_L3_st v_a366 v_b367 v_cmp368 v_z385 v_j370 v_cmp368_g v_cmp368_c o) → RunE Try.prog 141 Fi (.l k (cP (cB (cR (cT (cR (cR (cR (cR (cR (cR (cB (cL (cR (cP (cB (cR (cL (cR (cR (bodyOf Try.f224)))))))))))))))))))) :: ks) .normal (G_slices_partialInsertionSortCmpFunc_ringref5_Proc_h_L3_hd v_a366 v_b367 v_cmp368 v_z385 v_j370 v_cmp368_g v_cmp368_c v_j415 v_w416)
  | 0, v_j415, v_w416, o, h, q => by rw [G_slices_partialInsertionSortCmpFunc_ringref5_Proc_h_L3] at h; cases h
  | k + 1, v_j415, v_w416, o, h, q => by
    rw [G_slices_partialInsertionSortCmpFunc_ringref5_Proc_h_L3] at h
    by_cases h450 : v_j415 < v_b367
    · rw [if_pos h450] at h
      by_cases h465 : 0 ≤ v_j415 ∧ (v_j415).toNat < v_w416.length
      · rw [if_pos h465] at h
        obtain ⟨v_y424, h466, h⟩ := bind_some h
        by_cases h467 : 0 ≤ (wi .i64 (v_j415 - 1)) ∧ ((wi .i64 (v_j415 - 1))).toNat < v_w416.length
        · rw [if_pos h467] at h
          obtain ⟨v_y425, h468, h⟩ := bind_some h
          obtain ⟨v_r426, h469, h⟩ := bind_some h
          by_cases h470 : v_r426 < 0
          · rw [if_pos h470] at h
            by_cases h471 : 0 ≤ (wi .i64 (v_j415 - 1)) ∧ ((wi .i64 (v_j415 - 1))).toNat < v_w416.length
            · rw [if_pos h471] at h
              obtain ⟨v_y428, h472, h⟩ := bind_some h
              by_cases h473 : 0 ≤ v_j415 ∧ (v_j415).toNat < v_w416.length
              · rw [if_pos h473] at h
                obtain ⟨v_y429, h474, h⟩ := bind_some h
                by_cases h475 : 0 ≤ v_j415 ∧ (v_j415).toNat < v_w416.length
                · rw [if_pos h475] at h
                  obtain ⟨v_y430, h476, h⟩ := bind_some h
                  by_cases h477 : 0 ≤ (wi .i64 (v_j415 - 1)) ∧ ((wi .i64 (v_j415 - 1))).toNat < (v_w416.set (v_j415).toNat v_y428).length
                  · rw [if_pos h477] at h
                    obtain ⟨v_y431, h478, h⟩ := bind_some h
                    exact pkk_sound TTok mix hF 16 (hs := [.t true, .y (eS_ringref5_Proc v_y424), .y (eS_ringref5_Proc v_y425), .r ((eI .i64) v_r426), .t false, .y (eS_ringref5_Proc v_y428), .y (eS_ringref5_Proc v_y429), .w ((v_w416.set (v_j415).toNat v_y428).map eS_ringref5_Proc), .y (eS_ringref5_Proc v_y430), .w (((v_w416.set (v_j415).toNat v_y428).set ((wi .i64 (v_j415 - 1))).toNat v_y429).map eS_ringref5_Proc), .y (eS_ringref5_Proc v_y431)]) (ts := []) (s := [0, 1]) (l := [0, 1, 2, 3, 9, 10, 12]) (by kernel_rfl) (by kernel_rfl) (.cons (dt h450) (.cons (idx_ob (f := eS_ringref5_Proc) h465) (.cons (get_ob (f := eS_ringref5_Proc) h466) (.cons (idx_ob (f := eS_ringref5_Proc) h467) (.cons (get_ob (f := eS_ringref5_Proc) h468) (.cons (v_cmp368_h v_y424 v_y425 _ h469) (.cons (bnf (dt h470)) (.cons (idx_ob (f := eS_ringref5_Proc) h471) (.cons (get_ob (f := eS_ringref5_Proc) h472) (.cons (idx_ob (f := eS_ringref5_Proc) h473) (.cons (get_ob (f := eS_ringref5_Proc) h474) (.cons (idx_ob (f := eS_ringref5_Proc) h475) (.cons (get_ob (f := eS_ringref5_Proc) h476) (.cons (Eq.refl (pcells (.agg [.v (.int .i64 v_y428.fId), .v (.int .i64 v_y428.fUp), .v (.int .i64 v_y428.fGroup), .v (.int .i64 v_y428.fStatus), .v (.bool v_y428.fEnded)]))) (.cons (set_ob (f := eS_ringref5_Proc) (l := v_w416) (k := (v_j415).toNat) (z := v_y428) (p := .agg [.v (.int .i64 v_y428.fId), .v (.int .i64 v_y428.fUp), .v (.int .i64 v_y428.fGroup), .v (.int .i64 v_y428.fStatus), .v (.bool v_y428.fEnded)]) rfl) (.cons (idx_ob (f := eS_ringref5_Proc) h477) (.cons (get_ob (f := eS_ringref5_Proc) h478) (.cons (Eq.refl (pcells (.agg [.v (.int .i64 v_y429.fId), .v (.int .i64 v_y429.fUp), .v (.int .i64 v_y429.fGroup), .v (.int .i64 v_y429.fStatus), .v (.bool v_y429.fEnded)]))) (.cons (set_ob (f := eS_ringref5_Proc) (l := (v_w416.set (v_j415).toNat v_y428)) (k := ((wi .i64 (v_j415 - 1))).toNat) (z := v_y429) (p := .agg [.v (.int .i64 v_y429.fId), .v (.int .i64 v_y429.fUp), .v (.int .i64 v_y429.fGroup), .v (.int .i64 v_y429.fStatus), .v (.bool v_y429.fEnded)]) rfl) .nil))))))))))))))))))) (G_slices_partialInsertionSortCmpFunc_ringref5_Proc_h_L3_ok hF ks n v_a366 v_b367 v_cmp368 v_z385 v_j370 v_cmp368_g v_cmp368_c v_cmp368_h k (wi .i64 (v_j415 + 1)) ((v_w416.set (v_j415).toNat v_y428).set ((wi .i64 (v_j415 - 1))).toNat v_y429) _ h q)
                  · rw [if_neg h477] at h; cases h
                · rw [if_neg h475] at h; cases h
              · rw [if_neg h473] at h; cases h
            · rw [if_neg h471] at h; cases h
          · rw [if_neg h470] at h
            cases h
            exact pkk_sound TTok mix hF 17 (hs := [.t true, .y (eS_ringref5_Proc v_y424), .y (eS_ringref5_Proc v_y425), .r ((eI .i64) v_r426), .t true]) (ts := []) (s := [0, 1]) (l := [0, 1, 2, 3, 9, 10]) (by kernel_rfl) (by kernel_rfl) (.cons (dt h450) (.cons (idx_ob (f := eS_ringref5_Proc) h465) (.cons (get_ob (f := eS_ringref5_Proc) h466) (.cons (idx_ob (f := eS_ringref5_Proc) h467) (.cons (get_ob (f := eS_ringref5_Proc) h468) (.cons (v_cmp368_h v_y424 v_y425 _ h469) (.cons (bnt (df h470)) .nil))))))) q
        · rw [if_neg h467] at h; cases h
      · rw [if_neg h465] at h; cases h
    · rw [if_neg h450] at h
      cases h
      exact pkk_sound TTok mix hF 8 (hs := [.t false]) (ts := []) (s := [0, 1]) (l := [0, 1, 2, 3, 9, 10]) (by kernel_rfl) (by kernel_rfl) (.cons (df h450) .nil) q
inductive G_slices_partialInsertionSortCmpFunc_ringref5_Proc_h_L4_R where
  | x0 (v_w447 : (List S_ringref5_Proc))
def G_slices_partialInsertionSortCmpFunc_ringref5_Proc_h_L4_ex : G_slices_partialInsertionSortCmpFunc_ringref5_Proc_h_L4_R → Ex
  | .x0 _ => .exit 6
def G_slices_partialInsertionSortCmpFunc_ringref5_Proc_h_L4_st (v_a366 : Int) (v_b367 : Int) (v_cmp368 : (S_ringref5_Proc → S_ringref5_Proc → Option (Int))) (v_z385 : Int) (v_j370 : Int) (v_cmp368_g : FuncId) (v_cmp368_c : (List PV)) : G_slices_partialInsertionSortCmpFunc_ringref5_Proc_h_L4_R → PS
  | .x0 v_w447 => ⟨[.srf 1, .d (.v (.int .i64 v_a366)), .d (.v (.int .i64 v_b367)), .d (.clo v_cmp368_g v_cmp368_c), dd, dd, dd, dd, dd, .d (.v (.int .i64 v_z385)), .d (.v (.int .i64 v_j370)), dd, dd, dd, dd, dd, dd, dd, dd, dd, dd, dd, dd, dd, dd, dd, dd, dd, dd, dd, dd, dd, dd, dd, dd, dd, dd, dd, dd, dd, dd, dd, dd, dd, dd, dd, dd, dd, dd, dd, dd, dd, dd, dd, dd, dd, dd, dd, dd, dd, dd, dd, dd, dd, dd, dd, dd, dd, dd, dd, dd, dd, dd, dd, dd, dd, dd, dd, dd, dd, dd, dd, dd, dd, dd, dd, dd, dd, dd, dd, dd, dd, dd, dd, dd, dd, dd, dd, dd, dd, dd, dd, dd, dd, dd, dd, dd, dd, dd, dd, dd, dd, dd, dd, dd, dd, dd, dd, dd, dd, dd, dd, dd, dd, dd, dd, dd, dd, dd, dd, dd, dd, dd, dd, dd, dd, dd, dd, dd, dd, dd], [.gh 0 (.srf 1), .row 180 5 (v_w447.map eS_ringref5_Proc)]⟩
def G_slices_partialInsertionSortCmpFunc_ringref5_Proc_h_L4_hd (v_a366 : Int) (v_b367 : Int) (v_cmp368 : (S_ringref5_Proc → S_ringref5_Proc → Option (Int))) (v_z385 : Int) (v_j370 : Int) (v_cmp368_g : FuncId) (v_cmp368_c : (List PV)) (v_j435 : Int) (v_w436 : (List S_ringref5_Proc)) : PS := ⟨[.srf 1, .d (.v (.int .i64 v_a366)), .d (.v (.int .i64 v_b367)), .d (.clo v_cmp368_g v_cmp368_c), dd, dd, dd, dd, dd, .d (.v (.int .i64 v_z385)), .d (.v (.int .i64 v_j370)), dd, .d (.v (.int .i64 v_j435)), dd, dd, dd, dd, dd, dd, dd, dd, dd, dd, dd, dd, dd, dd, dd, dd, dd, dd, dd, dd, dd, dd, dd, dd, dd, dd, dd, dd, dd, dd, dd, dd, dd, dd, dd, dd, dd, dd, dd, dd, dd, dd, dd, dd, dd, dd, dd, dd, dd, dd, dd, dd, dd, dd, dd, dd, dd, dd, dd, dd, dd, dd, dd, dd, dd, dd, dd, dd, dd, dd, dd, dd, dd, dd, dd, dd, dd, dd, dd, dd, dd, dd, dd, dd, dd, dd, dd, dd, dd, dd, dd, dd, dd, dd, dd, dd, dd, dd, dd, dd, dd, dd, dd, dd, dd, dd, dd, dd, dd, dd, dd, dd, dd, dd, dd, dd, dd, dd, dd, dd, dd, dd, dd, dd, dd, dd, dd, dd], [.gh 0 (.srf 1), .row 180 5 (v_w436.map eS_ringref5_Proc)]⟩
def G_slices_partialInsertionSortCmpFunc_ringref5_Proc_h_L4 (n : Nat) (v_a366 : Int) (v_b367 : Int) (v_cmp368 : (S_ringref5_Proc → S_ringref5_Proc → Option (Int))) (v_z385 : Int) (v_j370 : Int) : Nat → Int → (List S_ringref5_Proc) → Option G_slices_partialInsertionSortCmpFunc_ringref5_Proc_h_L4_R
  | 0, _, _ => none
  | k + 1, v_j435, v_w436 =>
    if v_j435 < v_b367 then
     if 0 ≤ v_j435 ∧ (v_j435).toNat < v_w436.length then
      (v_w436[(v_j435).toNat]?).bind fun (v_y444 : S_ringref5_Proc) =>
      if 0 ≤ (wi .i64 (v_j435 - 1)) ∧ ((wi .i64 (v_j435 - 1))).toNat < v_w436.length then
       (v_w436[((wi .i64 (v_j435 - 1))).toNat]?).bind fun (v_y445 : S_ringref5_Proc) =>
       (v_cmp368 v_y444 v_y445).bind fun (v_r446 : (Int)) =>
       if v_r446 < 0 then
        if 0 ≤ (wi .i64 (v_j435 - 1)) ∧ ((wi .i64 (v_j435 - 1))).toNat < v_w436.length then
         (v_w436[((wi .i64 (v_j435 - 1))).toNat]?).bind fun (v_y448 : S_ringref5_Proc) =>
         if 0 ≤ v_j435 ∧ (v_j435).toNat < v_w436.length then
          (v_w436[(v_j435).toNat]?).bind fun (v_y449 : S_ringref5_Proc) =>
          if 0 ≤ v_j435 ∧ (v_j435).toNat < v_w436.length then
           (v_w436[(v_j435).toNat]?).bind fun (v_y450 : S_ringref5_Proc) =>
           if 0 ≤ (wi .i64 (v_j435 - 1)) ∧ ((wi .i64 (v_j435 - 1))).toNat < (v_w436.set (v_j435).toNat v_y448).length then
            ((v_w436.set (v_j435).toNat v_y448)[((wi .i64 (v_j435 - 1))).toNat]?).bind fun (v_y451 : S_ringref5_Proc) =>
            G_slices_partialInsertionSortCmpFunc_ringref5_Proc_h_L4 n v_a366 v_b367 v_cmp368 v_z385 v_j370 k (wi .i64 (v_j435 + 1)) ((v_w436.set (v_j435).toNat v_y448).set ((wi .i64 (v_j435 - 1))).toNat v_y449)
           else none
          else none
         else none
        else none
       else
        some (.x0 v_w436)
      else none
     else none
    else
     some (.x0 v_w436)
theorem G_slices_partialInsertionSortCmpFunc_ringref5_Proc_h_L4_ok {Fi : Ex → PS → Prop} (hF : KC 141 Fi) (ks : List Fr) (n : Nat) (v_a366 : Int) (v_b367 : Int) (v_cmp368 : (S_ringref5_Proc → S_ringref5_Proc → Option (Int))) (v_z385 : Int) (v_j370 : Int) (v_cmp368_g : FuncId) (v_cmp368_c : (List PV)) (v_cmp368_h : ∀ (x0 : S_ringref5_Proc) (x1 : S_ringref5_Proc) (r : Int), v_cmp368 x0 x1 = some r → Ret Try.prog v_cmp368_g ([eS_ringref5_Proc x0, eS_ringref5_Proc x1] ++ v_cmp368_c) ((eI .i64) r)) : ∀ (k : Nat) (v_j435 : Int) (v_w436 : (List S_ringref5_Proc)) (o : G_slices_partialInsertionSortCmpFunc_ringref5_Proc_h_L4_R), G_slices_partialInsertionSortCmpFunc_ringref5_Proc_h_L4 n v_a366 v_b367 v_cmp368 v_z385 v_j370 k v_j435 v_w436 = some o → RunE Try.prog 141 Fi ks (G_slices_partialInsertionSortCmpFunc_ringref5_Proc_h_L4_ex o) (G_slices_partialInsertionSortCmpFunc_ringref5_Proc_h_L4_st v_a366 v_b367 v_cmp368 v_z385 v_j370 v_cmp368_g v_cmp368_c o) → RunE Try.prog 141 Fi (.l k (cP (cB (cR (cT (cR (cR (cR (cR (cR (cR (cB (cL (cR (cP (cB (cR (cL (cR (cR (bodyOf Try.f224)))))))))))))))))))) :: ks) .normal (G_slices_partialInsertionSortCmpFunc_ringref5_Proc_h_L4_hd v_a366 v_b367 v_cmp368 v_z385 v_j370 v_cmp368_g v_cmp368_c v_j435 v_w436)
  | 0, v_j435, v_w436, o, h, q => by rw [G_slices_partialInsertionSortCmpFunc_ringref5_Proc_h_L4] at h; cases h
  | k + 1, v_j435, v_w436, o, h, q => by
    rw [G_slices_partialInsertionSortCmpFunc_ringref5_Proc_h_L4] at h
    by_cases h481 : v_j435 < v_b367
    · rw [if_pos h481] at h
      by_cases h496 : 0 ≤ v_j435 ∧ (v_j435).toNat < v_w436.length
      · rw [if_pos h496] at h
        obtain ⟨v_y444, h497, h⟩ := bind_some h
        by_cases h498 : 0 ≤ (wi .i64 (v_j435 - 1)) ∧ ((wi .i64 (v_j435 - 1))).toNat < v_w436.length
        · rw [if_pos h498] at h
          obtain ⟨v_y445, h499, h⟩ := bind_some h
          obtain ⟨v_r446, h500, h⟩ := bind_some h
          by_cases h501 : v_r446 < 0
          · rw [if_pos h501] at h
            by_cases h502 : 0 ≤ (wi .i64 (v_j435 - 1)) ∧ ((wi .i64 (v_j435 - 1))).toNat < v_w436.length
            · rw [if_pos h502] at h
              obtain ⟨v_y448, h503, h⟩ := bind_some h
              by_cases h504 : 0 ≤ v_j435 ∧ (v_j435).toNat < v_w436.length
              · rw [if_pos h504] at h
                obtain ⟨v_y449, h505, h⟩ := bind_some h
                by_cases h506 : 0 ≤ v_j435 ∧ (v_j435).toNat < v_w436.length
                · rw [if_pos h506] at h
                  obtain ⟨v_y450, h507, h⟩ := bind_some h
                  by_cases h508 : 0 ≤ (wi .i64 (v_j435 - 1)) ∧ ((wi .i64 (v_j435 - 1))).toNat < (v_w436.set (v_j435).toNat v_y448).length
                  · rw [if_pos h508] at h
                    obtain ⟨v_y451, h509, h⟩ := bind_some h
                    exact pkk_sound TTok mix hF 16 (hs := [.t true, .y (eS_ringref5_Proc v_y444), .y (eS_ringref5_Proc v_y445), .r ((eI .i64) v_r446), .t false, .y (eS_ringref5_Proc v_y448), .y (eS_ringref5_Proc v_y449), .w ((v_w436.set (v_j435).toNat v_y448).map eS_ringref5_Proc), .y (eS_ringref5_Proc v_y450), .w (((v_w436.set (v_j435).toNat v_y448).set ((wi .i64 (v_j435 - 1))).toNat v_y449).map eS_ringref5_Proc), .y (eS_ringref5_Proc v_y451)]) (ts := []) (s := [0, 1]) (l := [0, 1, 2, 3, 9, 10, 12]) (by kernel_rfl) (by kernel_rfl) (.cons (dt h481) (.cons (idx_ob (f := eS_ringref5_Proc) h496) (.cons (get_ob (f := eS_ringref5_Proc) h497) (.cons (idx_ob (f := eS_ringref5_Proc) h498) (.cons (get_ob (f := eS_ringref5_Proc) h499) (.cons (v_cmp368_h v_y444 v_y445 _ h500) (.cons (bnf (dt h501)) (.cons (idx_ob (f := eS_ringref5_Proc) h502) (.cons (get_ob (f := eS_ringref5_Proc) h503) (.cons (idx_ob (f := eS_ringref5_Proc) h504) (.cons (get_ob (f := eS_ringref5_Proc) h505) (.cons (idx_ob (f := eS_ringref5_Proc) h506) (.cons (get_ob (f := eS_ringref5_Proc) h507) (.cons (Eq.refl (pcells (.agg [.v (.int .i64 v_y448.fId), .v (.int .i64 v_y448.fUp), .v (.int .i64 v_y448.fGroup), .v (.int .i64 v_y448.fStatus), .v (.bool v_y448.fEnded)]))) (.cons (set_ob (f := eS_ringref5_Proc) (l := v_w436) (k := (v_j435).toNat) (z := v_y448) (p := .agg [.v (.int .i64 v_y448.fId), .v (.int .i64 v_y448.fUp), .v (.int .i64 v_y448.fGroup), .v (.int .i64 v_y448.fStatus), .v (.bool v_y448.fEnded)]) rfl) (.cons (idx_ob (f := eS_ringref5_Proc) h508) (.cons (get_ob (f := eS_ringref5_Proc) h509) (.cons (Eq.refl (pcells (.agg [.v (.int .i64 v_y449.fId), .v (.int .i64 v_y449.fUp), .v (.int .i64 v_y449.fGroup), .v (.int .i64 v_y449.fStatus), .v (.bool v_y449.fEnded)]))) (.cons (set_ob (f := eS_ringref5_Proc) (l := (v_w436.set (v_j435).toNat v_y448)) (k := ((wi .i64 (v_j435 - 1))).toNat) (z := v_y449) (p := .agg [.v (.int .i64 v_y449.fId), .v (.int .i64 v_y449.fUp), .v (.int .i64 v_y449.fGroup), .v (.int .i64 v_y449.fStatus), .v (.bool v_y449.fEnded)]) rfl) .nil))))))))))))))))))) (G_slices_partialInsertionSortCmpFunc_ringref5_Proc_h_L4_ok hF ks n v_a366 v_b367 v_cmp368 v_z385 v_j370 v_cmp368_g v_cmp368_c v_cmp368_h k (wi .i64 (v_j435 + 1)) ((v_w436.set (v_j435).toNat v_y448).set ((wi .i64 (v_j435 - 1))).toNat v_y449) _ h q)
                  · rw [if_neg h508] at h; cases h
                · rw [if_neg h506] at h; cases h
              · rw [if_neg h504] at h; cases h
            · rw [if_neg h502] at h; cases h
          · rw [if_neg h501] at h
            cases h
            exact pkk_sound TTok mix hF 17 (hs := [.t true, .y (eS_ringref5_Proc v_y444), .y (eS_ringref5_Proc v_y445), .r ((eI .i64) v_r446), .t true]) (ts := []) (s := [0, 1]) (l := [0, 1, 2, 3, 9, 10]) (by kernel_rfl) (by kernel_rfl) (.cons (dt h481) (.cons (idx_ob (f := eS_ringref5_Proc) h496) (.cons (get_ob (f := eS_ringref5_Proc) h497) (.cons (idx_ob (f := eS_ringref5_Proc) h498) (.cons (get_ob (f := eS_ringref5_Proc) h499) (.cons (v_cmp368_h v_y444 v_y445 _ h500) (.cons (bnt (df h501)) .nil))))))) q
        · rw [if_neg h498] at h; cases h
      · rw [if_neg h496] at h; cases h
    · rw [if_neg h481] at h
      cases h
      exact pkk_sound TTok mix hF 8 (hs := [.t false]) (ts := []) (s := [0, 1]) (l := [0, 1, 2, 3, 9, 10]) (by kernel_rfl) (by kernel_rfl) (.cons (df h481) .nil) q
inductive G_slices_partialInsertionSortCmpFunc_ringref5_Proc_h_L5_R where
  | x0 (v_x387 : Bool) (v_w388 : (List S_ringref5_Proc))
  | x1 (v_w455 : (List S_ringref5_Proc))
def G_slices_partialInsertionSortCmpFunc_ringref5_Proc_h_L5_ex : G_slices_partialInsertionSortCmpFunc_ringref5_Proc_h_L5_R → Ex
  | .x0 _ _ => .ret
  | .x1 _ => .exit 0
def G_slices_partialInsertionSortCmpFunc_ringref5_Proc_h_L5_st (v_a366 : Int) (v_b367 : Int) (v_cmp368 : (S_ringref5_Proc → S_ringref5_Proc → Option (Int))) (v_cmp368_g : FuncId) (v_cmp368_c : (List PV)) : G_slices_partialInsertionSortCmpFunc_ringref5_Proc_h_L5_R → PS
  | .x0 v_x387 v_w388 => ⟨[dd, dd, dd, dd, dd, dd, dd, dd, .d (.v (.bool v_x387)), dd, dd, dd, dd, dd, dd, dd, dd, dd, dd, dd, dd, dd, dd, dd, dd, dd, dd, dd, dd, dd, dd, dd, dd, dd, dd, dd, dd, dd, dd, dd, dd, dd, dd, dd, dd, dd, dd, dd, dd, dd, dd, dd, dd, dd, dd, dd, dd, dd, dd, dd, dd, dd, dd, dd, dd, dd, dd, dd, dd, dd, dd, dd, dd, dd, dd, dd, dd, dd, dd, dd, dd, dd, dd, dd, dd, dd, dd, dd, dd, dd, dd, dd, dd, dd, dd, dd, dd, dd, dd, dd, dd, dd, dd, dd, dd, dd, dd, dd, dd, dd, dd, dd, dd, dd, dd, dd, dd, dd, dd, dd, dd, dd, dd, dd, dd, dd, dd, dd, dd, dd, dd, dd, dd, dd, dd, dd, dd, dd, dd, dd, dd], [.gh 0 (.srf 1), .row 180 5 (v_w388.map eS_ringref5_Proc)]⟩
  | .x1 v_w455 => ⟨[dd, dd, dd, dd, dd, dd, dd, dd, dd, dd, dd, dd, dd, dd, dd, dd, dd, dd, dd, dd, dd, dd, dd, dd, dd, dd, dd, dd, dd, dd, dd, dd, dd, dd, dd, dd, dd, dd, dd, dd, dd, dd, dd, dd, dd, dd, dd, dd, dd, dd, dd, dd, dd, dd, dd, dd, dd, dd, dd, dd, dd, dd, dd, dd, dd, dd, dd, dd, dd, dd, dd, dd, dd, dd, dd, dd, dd, dd, dd, dd, dd, dd, dd, dd, dd, dd, dd, dd, dd, dd, dd, dd, dd, dd, dd, dd, dd, dd, dd, dd, dd, dd, dd, dd, dd, dd, dd, dd, dd, dd, dd, dd, dd, dd, dd, dd, dd, dd, dd, dd, dd, dd, dd, dd, dd, dd, dd, dd, dd, dd, dd, dd, dd, dd, dd, dd, dd, dd, dd, dd, dd], [.gh 0 (.srf 1), .row 180 5 (v_w455.map eS_ringref5_Proc)]⟩
def G_slices_partialInsertionSortCmpFunc_ringref5_Proc_h_L5_hd (v_a366 : Int) (v_b367 : Int) (v_cmp368 : (S_ringref5_Proc → S_ringref5_Proc → Option (Int))) (v_cmp368_g : FuncId) (v_cmp368_c : (List PV)) (v_i369 : Int) (v_j370 : Int) (v_w371 : (List S_ringref5_Proc)) : PS := ⟨[.srf 1, .d (.v (.int .i64 v_a366)), .d (.v (.int .i64 v_b367)), .d (.clo v_cmp368_g v_cmp368_c), dd, dd, dd, dd, dd, .d (.v (.int .i64 v_i369)), .d (.v (.int .i64 v_j370)), dd, dd, dd, dd, dd, dd, dd, dd, dd, dd, dd, dd, dd, dd, dd, dd, dd, dd, dd, dd, dd, dd, dd, dd, dd, dd, dd, dd, dd, dd, dd, dd, dd, dd, dd, dd, dd, dd, dd, dd, dd, dd, dd, dd, dd, dd, dd, dd, dd, dd, dd, dd, dd, dd, dd, dd, dd, dd, dd, dd, dd, dd, dd, dd, dd, dd, dd, dd, dd, dd, dd, dd, dd, dd, dd, dd, dd, dd, dd, dd, dd, dd, dd, dd, dd, dd, dd, dd, dd, dd, dd, dd, dd, dd, dd, dd, dd, dd, dd, dd, dd, dd, dd, dd, dd, dd, dd, dd, dd, dd, dd, dd, dd, dd, dd, dd, dd, dd, dd, dd, dd, dd, dd, dd, dd, dd, dd, dd, dd, dd], [.gh 0 (.srf 1), .row 180 5 (v_w371.map eS_ringref5_Proc)]⟩
def G_slices_partialInsertionSortCmpFunc_ringref5_Proc_h_L5 (n : Nat) (v_a366 : Int) (v_b367 : Int) (v_cmp368 : (S_ringref5_Proc → S_ringref5_Proc → Option (Int))) : Nat → Int → Int → (List S_ringref5_Proc) → Option G_slices_partialInsertionSortCmpFunc_ringref5_Proc_h_L5_R
  | 0, _, _, _ => none
  | k + 1, v_i369, v_j370, v_w371 =>
    if v_j370 < 5 then
     (G_slices_partialInsertionSortCmpFunc_ringref5_Proc_h_L1 n v_a366 v_b367 v_cmp368 v_j370 n v_i369 v_w371).bind fun v_o384 => match v_o384 with
     | .x0 v_z385 v_z386 =>
       if v_z385 = v_b367 then
        some (.x0 true v_z386)
       else
        if (wi .i64 (v_b367 - v_a366)) < 50 then
         some (.x0 false v_z386)
        else
         if 0 ≤ (wi .i64 (v_z385 - 1)) ∧ ((wi .i64 (v_z385 - 1))).toNat < v_z386.length then
          (v_z386[((wi .i64 (v_z385 - 1))).toNat]?).bind fun (v_y391 : S_ringref5_Proc) =>
          if 0 ≤ v_z385 ∧ (v_z385).toNat < v_z386.length then
           (v_z386[(v_z385).toNat]?).bind fun (v_y392 : S_ringref5_Proc) =>
           if 0 ≤ v_z385 ∧ (v_z385).toNat < v_z386.length then
            (v_z386[(v_z385).toNat]?).bind fun (v_y393 : S_ringref5_Proc) =>
            if 0 ≤ (wi .i64 (v_z385 - 1)) ∧ ((wi .i64 (v_z385 - 1))).toNat < (v_z386.set (v_z385).toNat v_y391).length then
             ((v_z386.set (v_z385).toNat v_y391)[((wi .i64 (v_z385 - 1))).toNat]?).bind fun (v_y394 : S_ringref5_Proc) =>
             if (wi .i64 (v_z385 - v_a366)) ≥ 2 then
              (G_slices_partialInsertionSortCmpFunc_ringref5_Proc_h_L2 n v_a366 v_b367 v_cmp368 v_z385 v_j370 n (wi .i64 (v_z385 - 1)) ((v_z386.set (v_z385).toNat v_y391).set ((wi .i64 (v_z385 - 1))).toNat v_y392)).bind fun v_o413 => match v_o413 with
              | .x0 v_z414 =>
                if (wi .i64 (v_b367 - v_z385)) ≥ 2 then
                 (G_slices_partialInsertionSortCmpFunc_ringref5_Proc_h_L3 n v_a366 v_b367 v_cmp368 v_z385 v_j370 n (wi .i64 (v_z385 + 1)) v_z414).bind fun v_o433 => match v_o433 with
                 | .x0 v_z434 =>
                   G_slices_partialInsertionSortCmpFunc_ringref5_Proc_h_L5 n v_a366 v_b367 v_cmp368 k v_z385 (wi .i64 (v_j370 + 1)) v_z434
                else
                 G_slices_partialInsertionSortCmpFunc_ringref5_Proc_h_L5 n v_a366 v_b367 v_cmp368 k v_z385 (wi .i64 (v_j370 + 1)) v_z414
             else
              if (wi .i64 (v_b367 - v_z385)) ≥ 2 then
               (G_slices_partialInsertionSortCmpFunc_ringref5_Proc_h_L4 n v_a366 v_b367 v_cmp368 v_z385 v_j370 n (wi .i64 (v_z385 + 1)) ((v_z386.set (v_z385).toNat v_y391).set ((wi .i64 (v_z385 - 1))).toNat v_y392)).bind fun v_o453 => match v_o453 with
               | .x0 v_z454 =>
                 G_slices_partialInsertionSortCmpFunc_ringref5_Proc_h_L5 n v_a366 v_b367 v_cmp368 k v_z385 (wi .i64 (v_j370 + 1)) v_z454
              else
               G_slices_partialInsertionSortCmpFunc_ringref5_Proc_h_L5 n v_a366 v_b367 v_cmp368 k v_z385 (wi .i64 (v_j370 + 1)) ((v_z386.set (v_z385).toNat v_y391).set ((wi .i64 (v_z385 - 1))).toNat v_y392)
            else none
           else none
          else none
         else none
    else
     some (.x1 v_w371)
theorem G_slices_partialInsertionSortCmpFunc_ringref5_Proc_h_L5_ok {Fi : Ex → PS → Prop} (hF : KC 141 Fi) (ks : List Fr) (n : Nat) (v_a366 : Int) (v_b367 : Int) (v_cmp368 : (S_ringref5_Proc → S_ringref5_Proc → Option (Int))) (v_cmp368_g : FuncId) (v_cmp368_c : (List PV)) (v_cmp368_h : ∀ (x0 : S_ringref5_Proc) (x1 : S_ringref5_Proc) (r : Int), v_cmp368 x0 x1 = some r → Ret Try.prog v_cmp368_g ([eS_ringref5_Proc x0, eS_ringref5_Proc x1] ++ v_cmp368_c) ((eI .i64) r)) : ∀ (k : Nat) (v_i369 : Int) (v_j370 : Int) (v_w371 : (List S_ringref5_Proc)) (o : G_slices_partialInsertionSortCmpFunc_ringref5_Proc_h_L5_R), G_slices_partialInsertionSortCmpFunc_ringref5_Proc_h_L5 n v_a366 v_b367 v_cmp368 k v_i369 v_j370 v_w371 = some o → RunE Try.prog 141 Fi ks (G_slices_partialInsertionSortCmpFunc_ringref5_Proc_h_L5_ex o) (G_slices_partialInsertionSortCmpFunc_ringref5_Proc_h_L5_st v_a366 v_b367 v_cmp368 v_cmp368_g v_cmp368_c o) → RunE Try.prog 141 Fi (.l k (cP (cB (cR (cL (cR (cR (bodyOf Try.f224))))))) :: ks) .normal (G_slices_partialInsertionSortCmpFunc_ringref5_Proc_h_L5_hd v_a366 v_b367 v_cmp368 v_cmp368_g v_cmp368_c v_i369 v_j370 v_w371)
  | 0, v_i369, v_j370, v_w371, o, h, q => by rw [G_slices_partialInsertionSortCmpFunc_ringref5_Proc_h_L5] at h; cases h
  | k + 1, v_i369, v_j370, v_w371, o, h, q => by
    rw [G_slices_partialInsertionSortCmpFunc_ringref5_Proc_h_L5] at h
    by_cases h393 : v_j370 < 5
    · rw [if_pos h393] at h
      obtain ⟨v_o384, h407, h⟩ := bind_some h
      refine pkk_sound TTok mix hF 11 (hs := [.t true, .n n]) (ts := []) (s := [0, 1]) (l := [0, 1, 2, 3, 9, 10]) (by kernel_rfl) (by kernel_rfl) (.cons (dt h393) .nil) (G_slices_partialInsertionSortCmpFunc_ringref5_Proc_h_L1_ok hF (.b 2 :: .s (cR (cB (cL (cR (cP (cB (cR (cL (cR (cR (bodyOf Try.f224))))))))))) :: .b 1 :: .s (cR (cR (cP (cB (cR (cL (cR (cR (bodyOf Try.f224))))))))) :: .l k (cP (cB (cR (cL (cR (cR (bodyOf Try.f224))))))) :: ks) n v_a366 v_b367 v_cmp368 v_j370 v_cmp368_g v_cmp368_c v_cmp368_h n v_i369 v_w371 _ h407 ?_)
      cases v_o384 with
      | x0 v_z385 v_z386 =>
        try dsimp only at h
        by_cases h408 : v_z385 = v_b367
        · rw [if_pos h408] at h
          cases h
          exact pkk_sound TTok mix hF 12 (hs := [.t true]) (ts := []) (s := [0, 1]) (l := [8]) (by kernel_rfl) (by kernel_rfl) (.cons (bt h408) .nil) q
        · rw [if_neg h408] at h
          by_cases h409 : (wi .i64 (v_b367 - v_a366)) < 50
          · rw [if_pos h409] at h
            cases h
            exact pkk_sound TTok mix hF 17 (hs := [.t false, .t true]) (ts := []) (s := [0, 1]) (l := [8]) (by kernel_rfl) (by kernel_rfl) (.cons (bf h408) (.cons (dt h409) .nil)) q
          · rw [if_neg h409] at h
            by_cases h410 : 0 ≤ (wi .i64 (v_z385 - 1)) ∧ ((wi .i64 (v_z385 - 1))).toNat < v_z386.length
            · rw [if_pos h410] at h
              obtain ⟨v_y391, h411, h⟩ := bind_some h
              by_cases h412 : 0 ≤ v_z385 ∧ (v_z385).toNat < v_z386.length
              · rw [if_pos h412] at h
                obtain ⟨v_y392, h413, h⟩ := bind_some h
                by_cases h414 : 0 ≤ v_z385 ∧ (v_z385).toNat < v_z386.length
                · rw [if_pos h414] at h
                  obtain ⟨v_y393, h415, h⟩ := bind_some h
                  by_cases h416 : 0 ≤ (wi .i64 (v_z385 - 1)) ∧ ((wi .i64 (v_z385 - 1))).toNat < (v_z386.set (v_z385).toNat v_y391).length
                  · rw [if_pos h416] at h
                    obtain ⟨v_y394, h417, h⟩ := bind_some h
                    by_cases h418 : (wi .i64 (v_z385 - v_a366)) ≥ 2
                    · rw [if_pos h418] at h
                      obtain ⟨v_o413, h448, h⟩ := bind_some h
                      refine pkk_sound TTok mix hF 21 (hs := [.t false, .t false, .y (eS_ringref5_Proc v_y391), .y (eS_ringref5_Proc v_y392), .w ((v_z386.set (v_z385).toNat v_y391).map eS_ringref5_Proc), .y (eS_ringref5_Proc v_y393), .w (((v_z386.set (v_z385).toNat v_y391).set ((wi .i64 (v_z385 - 1))).toNat v_y392).map eS_ringref5_Proc), .y (eS_ringref5_Proc v_y394), .t true, .n n]) (ts := []) (s := [0, 1]) (l := [0, 1, 2, 3, 9, 10, 11]) (by kernel_rfl) (by kernel_rfl) (.cons (bf h408) (.cons (df h409) (.cons (idx_ob (f := eS_ringref5_Proc) h410) (.cons (get_ob (f := eS_ringref5_Proc) h411) (.cons (idx_ob (f := eS_ringref5_Proc) h412) (.cons (get_ob (f := eS_ringref5_Proc) h413) (.cons (idx_ob (f := eS_ringref5_Proc) h414) (.cons (get_ob (f := eS_ringref5_Proc) h415) (.cons (Eq.refl (pcells (.agg [.v (.int .i64 v_y391.fId), .v (.int .i64 v_y391.fUp), .v (.int .i64 v_y391.fGroup), .v (.int .i64 v_y391.fStatus), .v (.bool v_y391.fEnded)]))) (.cons (set_ob (f := eS_ringref5_Proc) (l := v_z386) (k := (v_z385).toNat) (z := v_y391) (p := .agg [.v (.int .i64 v_y391.fId), .v (.int .i64 v_y391.fUp), .v (.int .i64 v_y391.fGroup), .v (.int .i64 v_y391.fStatus), .v (.bool v_y391.fEnded)]) rfl) (.cons (idx_ob (f := eS_ringref5_Proc) h416) (.cons (get_ob (f := eS_ringref5_Proc) h417) (.cons (Eq.refl (pcells (.agg [.v (.int .i64 v_y392.fId), .v (.int .i64 v_y392.fUp), .v (.int .i64 v_y392.fGroup), .v (.int .i64 v_y392.fStatus), .v (.bool v_y392.fEnded)]))) (.cons (set_ob (f := eS_ringref5_Proc) (l := (v_z386.set (v_z385).toNat v_y391)) (k := ((wi .i64 (v_z385 - 1))).toNat) (z := v_y392) (p := .agg [.v (.int .i64 v_y392.fId), .v (.int .i64 v_y392.fUp), .v (.int .i64 v_y392.fGroup), .v (.int .i64 v_y392.fStatus), .v (.bool v_y392.fEnded)]) rfl) (.cons (dt h418) .nil))))))))))))))) (G_slices_partialInsertionSortCmpFunc_ringref5_Proc_h_L2_ok hF (.b 4 :: .s (cR (cR (cR (cR (cR (cB (cL (cR (cP (cB (cR (cL (cR (cR (bodyOf Try.f224))))))))))))))) :: .b 1 :: .s (cR (cR (cP (cB (cR (cL (cR (cR (bodyOf Try.f224))))))))) :: .l k (cP (cB (cR (cL (cR (cR (bodyOf Try.f224))))))) :: ks) n v_a366 v_b367 v_cmp368 v_z385 v_j370 v_cmp368_g v_cmp368_c v_cmp368_h n (wi .i64 (v_z385 - 1)) ((v_z386.set (v_z385).toNat v_y391).set ((wi .i64 (v_z385 - 1))).toNat v_y392) _ h448 ?_)
                      cases v_o413 with
                      | x0 v_z414 =>
                        try dsimp only at h
                        by_cases h449 : (wi .i64 (v_b367 - v_z385)) ≥ 2
                        · rw [if_pos h449] at h
                          obtain ⟨v_o433, h479, h⟩ := bind_some h
                          refine pkk_sound TTok mix hF 8 (hs := [.t true, .n n]) (ts := []) (s := [0, 1]) (l := [0, 1, 2, 3, 9, 10, 12]) (by kernel_rfl) (by kernel_rfl) (.cons (dt h449) .nil) (G_slices_partialInsertionSortCmpFunc_ringref5_Proc_h_L3_ok hF (.b 6 :: .b 1 :: .s (cR (cR (cP (cB (cR (cL (cR (cR (bodyOf Try.f224))))))))) :: .l k (cP (cB (cR (cL (cR (cR (bodyOf Try.f224))))))) :: ks) n v_a366 v_b367 v_cmp368 v_z385 v_j370 v_cmp368_g v_cmp368_c v_cmp368_h n (wi .i64 (v_z385 + 1)) v_z414 _ h479 ?_)
                          cases v_o433 with
                          | x0 v_z434 =>
                            try dsimp only at h
                            exact pkk_sound TTok mix hF 3 (hs := []) (ts := []) (s := [0, 1]) (l := [0, 1, 2, 3, 9, 10]) (by kernel_rfl) (by kernel_rfl) .nil (G_slices_partialInsertionSortCmpFunc_ringref5_Proc_h_L5_ok hF ks n v_a366 v_b367 v_cmp368 v_cmp368_g v_cmp368_c v_cmp368_h k v_z385 (wi .i64 (v_j370 + 1)) v_z434 _ h q)
                        · rw [if_neg h449] at h
                          exact pkk_sound TTok mix hF 7 (hs := [.t false]) (ts := []) (s := [0, 1]) (l := [0, 1, 2, 3, 9, 10]) (by kernel_rfl) (by kernel_rfl) (.cons (df h449) .nil) (G_slices_partialInsertionSortCmpFunc_ringref5_Proc_h_L5_ok hF ks n v_a366 v_b367 v_cmp368 v_cmp368_g v_cmp368_c v_cmp368_h k v_z385 (wi .i64 (v_j370 + 1)) v_z414 _ h q)
                    · rw [if_neg h418] at h
                      by_cases h480 : (wi .i64 (v_b367 - v_z385)) ≥ 2
                      · rw [if_pos h480] at h
                        obtain ⟨v_o453, h510, h⟩ := bind_some h
                        refine pkk_sound TTok mix hF 25 (hs := [.t false, .t false, .y (eS_ringref5_Proc v_y391), .y (eS_ringref5_Proc v_y392), .w ((v_z386.set (v_z385).toNat v_y391).map eS_ringref5_Proc), .y (eS_ringref5_Proc v_y393), .w (((v_z386.set (v_z385).toNat v_y391).set ((wi .i64 (v_z385 - 1))).toNat v_y392).map eS_ringref5_Proc), .y (eS_ringref5_Proc v_y394), .t false, .t true, .n n]) (ts := []) (s := [0, 1]) (l := [0, 1, 2, 3, 9, 10, 12]) (by kernel_rfl) (by kernel_rfl) (.cons (bf h408) (.cons (df h409) (.cons (idx_ob (f := eS_ringref5_Proc) h410) (.cons (get_ob (f := eS_ringref5_Proc) h411) (.cons (idx_ob (f := eS_ringref5_Proc) h412) (.cons (get_ob (f := eS_ringref5_Proc) h413) (.cons (idx_ob (f := eS_ringref5_Proc) h414) (.cons (get_ob (f := eS_ringref5_Proc) h415) (.cons (Eq.refl (pcells (.agg [.v (.int .i64 v_y391.fId), .v (.int .i64 v_y391.fUp), .v (.int .i64 v_y391.fGroup), .v (.int .i64 v_y391.fStatus), .v (.bool v_y391.fEnded)]))) (.cons (set_ob (f := eS_ringref5_Proc) (l := v_z386) (k := (v_z385).toNat) (z := v_y391) (p := .agg [.v (.int .i64 v_y391.fId), .v (.int .i64 v_y391.fUp), .v (.int .i64 v_y391.fGroup), .v (.int .i64 v_y391.fStatus), .v (.bool v_y391.fEnded)]) rfl) (.cons (idx_ob (f := eS_ringref5_Proc) h416) (.cons (get_ob (f := eS_ringref5_Proc) h417) (.cons (Eq.refl (pcells (.agg [.v (.int .i64 v_y392.fId), .v (.int .i64 v_y392.fUp), .v (.int .i64 v_y392.fGroup), .v (.int .i64 v_y392.fStatus), .v (.bool v_y392.fEnded)]))) (.cons (set_ob (f := eS_ringref5_Proc) (l := (v_z386.set (v_z385).toNat v_y391)) (k := ((wi .i64 (v_z385 - 1))).toNat) (z := v_y392) (p := .agg [.v (.int .i64 v_y392.fId), .v (.int .i64 v_y392.fUp), .v (.int .i64 v_y392.fGroup), .v (.int .i64 v_y392.fStatus), .v (.bool v_y392.fEnded)]) rfl) (.cons (df h418) (.cons (dt h480) .nil)))))))))))))))) (G_slices_partialInsertionSortCmpFunc_ringref5_Proc_h_L4_ok hF (.b 6 :: .b 1 :: .s (cR (cR (cP (cB (cR (cL (cR (cR (bodyOf Try.f224))))))))) :: .l k (cP (cB (cR (cL (cR (cR (bodyOf Try.f224))))))) :: ks) n v_a366 v_b367 v_cmp368 v_z385 v_j370 v_cmp368_g v_cmp368_c v_cmp368_h n (wi .i64 (v_z385 + 1)) ((v_z386.set (v_z385).toNat v_y391).set ((wi .i64 (v_z385 - 1))).toNat v_y392) _ h510 ?_)
                        cases v_o453 with
                        | x0 v_z454 =>
                          try dsimp only at h
                          exact pkk_sound TTok mix hF 3 (hs := []) (ts := []) (s := [0, 1]) (l := [0, 1, 2, 3, 9, 10]) (by kernel_rfl) (by kernel_rfl) .nil (G_slices_partialInsertionSortCmpFunc_ringref5_Proc_h_L5_ok hF ks n v_a366 v_b367 v_cmp368 v_cmp368_g v_cmp368_c v_cmp368_h k v_z385 (wi .i64 (v_j370 + 1)) v_z454 _ h q)
                      · rw [if_neg h480] at h
                        exact pkk_sound TTok mix hF 24 (hs := [.t false, .t false, .y (eS_ringref5_Proc v_y391), .y (eS_ringref5_Proc v_y392), .w ((v_z386.set (v_z385).toNat v_y391).map eS_ringref5_Proc), .y (eS_ringref5_Proc v_y393), .w (((v_z386.set (v_z385).toNat v_y391).set ((wi .i64 (v_z385 - 1))).toNat v_y392).map eS_ringref5_Proc), .y (eS_ringref5_Proc v_y394), .t false, .t false]) (ts := []) (s := [0, 1]) (l := [0, 1, 2, 3, 9, 10]) (by kernel_rfl) (by kernel_rfl) (.cons (bf h408) (.cons (df h409) (.cons (idx_ob (f := eS_ringref5_Proc) h410) (.cons (get_ob (f := eS_ringref5_Proc) h411) (.cons (idx_ob (f := eS_ringref5_Proc) h412) (.cons (get_ob (f := eS_ringref5_Proc) h413) (.cons (idx_ob (f := eS_ringref5_Proc) h414) (.cons (get_ob (f := eS_ringref5_Proc) h415) (.cons (Eq.refl (pcells (.agg [.v (.int .i64 v_y391.fId), .v (.int .i64 v_y391.fUp), .v (.int .i64 v_y391.fGroup), .v (.int .i64 v_y391.fStatus), .v (.bool v_y391.fEnded)]))) (.cons (set_ob (f := eS_ringref5_Proc) (l := v_z386) (k := (v_z385).toNat) (z := v_y391) (p := .agg [.v (.int .i64 v_y391.fId), .v (.int .i64 v_y391.fUp), .v (.int .i64 v_y391.fGroup), .v (.int .i64 v_y391.fStatus), .v (.bool v_y391.fEnded)]) rfl) (.cons (idx_ob (f := eS_ringref5_Proc) h416) (.cons (get_ob (f := eS_ringref5_Proc) h417) (.cons (Eq.refl (pcells (.agg [.v (.int .i64 v_y392.fId), .v (.int .i64 v_y392.fUp), .v (.int .i64 v_y392.fGroup), .v (.int .i64 v_y392.fStatus), .v (.bool v_y392.fEnded)]))) (.cons (set_ob (f := eS_ringref5_Proc) (l := (v_z386.set (v_z385).toNat v_y391)) (k := ((wi .i64 (v_z385 - 1))).toNat) (z := v_y392) (p := .agg [.v (.int .i64 v_y392.fId), .v (.int .i64 v_y392.fUp), .v (.int .i64 v_y392.fGroup), .v (.int .i64 v_y392.fStatus), .v (.bool v_y392.fEnded)]) rfl) (.cons (df h418) (.cons (df h480) .nil)))))))))))))))) (G_slices_partialInsertionSortCmpFunc_ringref5_Proc_h_L5_ok hF ks n v_a366 v_b367 v_cmp368 v_cmp368_g v_cmp368_c v_cmp368_h k v_z385 (wi .i64 (v_j370 + 1)) ((v_z386.set (v_z385).toNat v_y391).set ((wi .i64 (v_z385 - 1))).toNat v_y392) _ h q)
                  · rw [if_neg h416] at h; cases h
                · rw [if_neg h414] at h; cases h
              · rw [if_neg h412] at h; cases h
            · rw [if_neg h410] at h; cases h
    · rw [if_neg h393] at h
      cases h
      exact pkk_sound TTok mix hF 8 (hs := [.t false]) (ts := []) (s := [0, 1]) (l := []) (by kernel_rfl) (by kernel_rfl) (.cons (df h393) .nil) q
/- slices.partialInsertionSortCmpFunc[ringhall/ringref5.Proc] -/
def G_slices_partialInsertionSortCmpFunc_ringref5_Proc_h (n : Nat) (v_data365 : (List S_ringref5_Proc)) (v_a366 : Int) (v_b367 : Int) (v_cmp368 : (S_ringref5_Proc → S_ringref5_Proc → Option (Int))) : Option (Bool × (List S_ringref5_Proc)) :=
  (G_slices_partialInsertionSortCmpFunc_ringref5_Proc_h_L5 n v_a366 v_b367 v_cmp368 n (wi .i64 (v_a366 + 1)) 0 v_data365).bind fun v_o456 => match v_o456 with
  | .x0 v_z457 v_z458 =>
    some (v_z457, v_z458)
  | .x1 v_z459 =>
    some (false, v_z459)
theorem G_slices_partialInsertionSortCmpFunc_ringref5_Proc_h_ok (n : Nat) (v_data365 : (List S_ringref5_Proc)) (v_a366 : Int) (v_b367 : Int) (v_cmp368 : (S_ringref5_Proc → S_ringref5_Proc → Option (Int))) (v_cmp368_g : FuncId) (v_cmp368_c : List PV) (v_cmp368_h : ∀ (x0 : S_ringref5_Proc) (x1 : S_ringref5_Proc) (r : Int), v_cmp368 x0 x1 = some r → Ret Try.prog v_cmp368_g ([eS_ringref5_Proc x0, eS_ringref5_Proc x1] ++ v_cmp368_c) ((eI .i64) r)) (r : Bool × (List S_ringref5_Proc)) (h : G_slices_partialInsertionSortCmpFunc_ringref5_Proc_h n v_data365 v_a366 v_b367 v_cmp368 = some r) : RetH Try.prog 224 [.srf 0, .d ((eI .i64) v_a366), .d ((eI .i64) v_b367), .d ((.clo v_cmp368_g v_cmp368_c))] [.row 180 5 (v_data365.map eS_ringref5_Proc)] (.d (eB r.1)) [.row 180 5 (r.2.map eS_ringref5_Proc)] := by
  refine retH_run (n := 141) (fn := Try.f224) (c := bodyOf Try.f224) (by kernel_rfl) (by kernel_rfl) (by kernel_rfl) (by kernel_rfl) ?_
  have hF : KC 141 (FinH Try.prog Try.f224 [.row 180 5 (v_data365.map eS_ringref5_Proc)] (.d (eB r.1)) [.row 180 5 (r.2.map eS_ringref5_Proc)]) := FinH.kc' (by kernel_rfl)
  unfold G_slices_partialInsertionSortCmpFunc_ringref5_Proc_h at h
  obtain ⟨v_o456, h511, h⟩ := bind_some h
  refine pkk_sound TTok mix hF 9 (hs := [.n n]) (ts := []) (s := [1, 0]) (l := [0, 1, 2, 3, 9, 10]) (by kernel_rfl) (by kernel_rfl) .nil (G_slices_partialInsertionSortCmpFunc_ringref5_Proc_h_L5_ok hF (.b 0 :: .s (cR (cR (cR (bodyOf Try.f224)))) :: []) n v_a366 v_b367 v_cmp368 v_cmp368_g v_cmp368_c v_cmp368_h n (wi .i64 (v_a366 + 1)) 0 v_data365 _ h511 ?_)
  cases v_o456 with
  | x0 v_z457 v_z458 =>
    try dsimp only at h
    obtain rfl := Option.some.inj h
    exact pendH_sound TTok mix 2 (hs := []) [1] (by kernel_rfl) (by kernel_rfl) (by kernel_rfl) .nil
  | x1 v_z459 =>
    try dsimp only at h
    obtain rfl := Option.some.inj h
    exact pendH_sound TTok mix 4 (hs := []) [1] (by kernel_rfl) (by kernel_rfl) (by kernel_rfl) .nil
inductive G_slices_partitionEqualCmpFunc_ringref5_Proc_h_L1_R where
  | x0 (v_i501 : Int) (v_w502 : (List S_ringref5_Proc))
def G_slices_partitionEqualCmpFunc_ringref5_Proc_h_L1_ex : G_slices_partitionEqualCmpFunc_ringref5_Proc_h_L1_R → Ex
  | .x0 _ _ => .exit 2
def G_slices_partitionEqualCmpFunc_ringref5_Proc_h_L1_st (v_a482 : Int) (v_cmp485 : (S_ringref5_Proc → S_ringref5_Proc → Option (Int))) (v_j491 : Int) (v_cmp485_g : FuncId) (v_cmp485_c : (List PV)) : G_slices_partitionEqualCmpFunc_ringref5_Proc_h_L1_R → PS
  | .x0 v_i501 v_w502 => ⟨[.srf 1, .d (.v (.int .i64 v_a482)), dd, dd, .d (.clo v_cmp485_g v_cmp485_c), dd, dd, dd, dd, dd, dd, .d (.v (.int .i64 v_i501)), .d (.v (.int .i64 v_j491)), dd, dd, dd, dd, dd, dd, dd, dd, dd, dd, dd, dd, dd, dd, dd, dd, dd, dd, dd, dd, dd, dd, dd, dd, dd, dd, dd, dd, dd, dd, dd, dd, dd, dd, dd, dd, dd, dd, dd, dd, dd, dd, dd, dd, dd, dd, dd, dd, dd, dd, dd, dd, dd, dd, dd, dd, dd, dd, dd, dd, dd, dd, dd, dd, dd, dd, dd, dd, dd, dd, dd, dd, dd, dd, dd, dd, dd], [.gh 0 (.srf 1), .row 180 5 (v_w502.map eS_ringref5_Proc)]⟩
def G_slices_partitionEqualCmpFunc_ringref5_Proc_h_L1_hd (v_a482 : Int) (v_cmp485 : (S_ringref5_Proc → S_ringref5_Proc → Option (Int))) (v_j491 : Int) (v_cmp485_g : FuncId) (v_cmp485_c : (List PV)) (v_i493 : Int) (v_w494 : (List S_ringref5_Proc)) : PS := ⟨[.srf 1, .d (.v (.int .i64 v_a482)), dd, dd, .d (.clo v_cmp485_g v_cmp485_c), dd, dd, dd, dd, dd, dd, .d (.v (.int .i64 v_i493)), .d (.v (.int .i64 v_j491)), dd, dd, dd, dd, dd, dd, dd, dd, dd, dd, dd, dd, dd, dd, dd, dd, dd, dd, dd, dd, dd, dd, dd, dd, dd, dd, dd, dd, dd, dd, dd, dd, dd, dd, dd, dd, dd, dd, dd, dd, dd, dd, dd, dd, dd, dd, dd, dd, dd, dd, dd, dd, dd, dd, dd, dd, dd, dd, dd, dd, dd, dd, dd, dd, dd, dd, dd, dd, dd, dd, dd, dd, dd, dd, dd, dd, dd], [.gh 0 (.srf 1), .row 180 5 (v_w494.map eS_ringref5_Proc)]⟩
def G_slices_partitionEqualCmpFunc_ringref5_Proc_h_L1 (n : Nat) (v_a482 : Int) (v_cmp485 : (S_ringref5_Proc → S_ringref5_Proc → Option (Int))) (v_j491 : Int) : Nat → Int → (List S_ringref5_Proc) → Option G_slices_partitionEqualCmpFunc_ringref5_Proc_h_L1_R
  | 0, _, _ => none
  | k + 1, v_i493, v_w494 =>
    if v_i493 ≤ v_j491 then
     if 0 ≤ v_a482 ∧ (v_a482).toNat < v_w494.length then
      (v_w494[(v_a482).toNat]?).bind fun (v_y498 : S_ringref5_Proc) =>
      if 0 ≤ v_i493 ∧ (v_i493).toNat < v_w494.length then
       (v_w494[(v_i493).toNat]?).bind fun (v_y499 : S_ringref5_Proc) =>
       (v_cmp485 v_y498 v_y499).bind fun (v_r500 : (Int)) =>
       if v_r500 < 0 then
        some (.x0 v_i493 v_w494)
       else
        G_slices_partitionEqualCmpFunc_ringref5_Proc_h_L1 n v_a482 v_cmp485 v_j491 k (wi .i64 (v_i493 + 1)) v_w494
      else none
     else none
    else
     some (.x0 v_i493 v_w494)
theorem G_slices_partitionEqualCmpFunc_ringref5_Proc_h_L1_ok {Fi : Ex → PS → Prop} (hF : KC 90 Fi) (ks : List Fr) (n : Nat) (v_a482 : Int) (v_cmp485 : (S_ringref5_Proc → S_ringref5_Proc → Option (Int))) (v_j491 : Int) (v_cmp485_g : FuncId) (v_cmp485_c : (List PV)) (v_cmp485_h : ∀ (x0 : S_ringref5_Proc) (x1 : S_ringref5_Proc) (r : Int), v_cmp485 x0 x1 = some r → Ret Try.prog v_cmp485_g ([eS_ringref5_Proc x0, eS_ringref5_Proc x1] ++ v_cmp485_c) ((eI .i64) r)) : ∀ (k : Nat) (v_i493 : Int) (v_w494 : (List S_ringref5_Proc)) (o : G_slices_partitionEqualCmpFunc_ringref5_Proc_h_L1_R), G_slices_partitionEqualCmpFunc_ringref5_Proc_h_L1 n v_a482 v_cmp485 v_j491 k v_i493 v_w494 = some o → RunE Try.prog 90 Fi ks (G_slices_partitionEqualCmpFunc_ringref5_Proc_h_L1_ex o) (G_slices_partitionEqualCmpFunc_ringref5_Proc_h_L1_st v_a482 v_cmp485 v_j491 v_cmp485_g v_cmp485_c o) → RunE Try.prog 90 Fi (.l k (cP (cB (cL (cB (cP (cB (cL (cR (cR (cR (bodyOf Try.f225))))))))))) :: ks) .normal (G_slices_partitionEqualCmpFunc_ringref5_Proc_h_L1_hd v_a482 v_cmp485 v_j491 v_cmp485_g v_cmp485_c v_i493 v_w494)
  | 0, v_i493, v_w494, o, h, q => by rw [G_slices_partitionEqualCmpFunc_ringref5_Proc_h_L1] at h; cases h
  | k + 1, v_i493, v_w494, o, h, q => by
    rw [G_slices_partitionEqualCmpFunc_ringref5_Proc_h_L1] at h
    by_cases h546 : v_i493 ≤ v_j491
    · rw [if_pos h546] at h
      by_cases h547 : 0 ≤ v_a482 ∧ (v_a482).toNat < v_w494.length
      · rw [if_pos h547] at h
        obtain ⟨v_y498, h548, h⟩ := bind_some h
        by_cases h549 : 0 ≤ v_i493 ∧ (v_i493).toNat < v_w494.length
        · rw [if_pos h549] at h
          obtain ⟨v_y499, h550, h⟩ := bind_some h
          obtain ⟨v_r500, h551, h⟩ := bind_some h
          by_cases h552 : v_r500 < 0
          · rw [if_pos h552] at h
            cases h
            exact pkk_sound TTok mix hF 8 (hs := [.t true, .c, .c, .c, .c, .y (eS_ringref5_Proc v_y498), .c, .c, .c, .c, .y (eS_ringref5_Proc v_y499), .c, .r ((eI .i64) v_r500), .c, .c, .t false]) (ts := []) (s := [0, 1]) (l := [0, 1, 4, 11, 12]) (by kernel_rfl) (by kernel_rfl) (.cons (dt h546) (.cons (idx_ob (f := eS_ringref5_Proc) h547) (.cons (get_ob (f := eS_ringref5_Proc) h548) (.cons (idx_ob (f := eS_ringref5_Proc) h549) (.cons (get_ob (f := eS_ringref5_Proc) h550) (.cons (v_cmp485_h v_y498 v_y499 _ h551) (.cons (bnf (dt h552)) .nil))))))) q
          · rw [if_neg h552] at h
            exact pkk_sound TTok mix hF 9 (hs := [.t true, .c, .c, .c, .c, .y (eS_ringref5_Proc v_y498), .c, .c, .c, .c, .y (eS_ringref5_Proc v_y499), .c, .r ((eI .i64) v_r500), .c, .c, .t true]) (ts := []) (s := [0, 1]) (l := [0, 1, 4, 11, 12]) (by kernel_rfl) (by kernel_rfl) (.cons (dt h546) (.cons (idx_ob (f := eS_ringref5_Proc) h547) (.cons (get_ob (f := eS_ringref5_Proc) h548) (.cons (idx_ob (f := eS_ringref5_Proc) h549) (.cons (get_ob (f := eS_ringref5_Proc) h550) (.cons (v_cmp485_h v_y498 v_y499 _ h551) (.cons (bnt (df h552)) .nil))))))) (G_slices_partitionEqualCmpFunc_ringref5_Proc_h_L1_ok hF ks n v_a482 v_cmp485 v_j491 v_cmp485_g v_cmp485_c v_cmp485_h k (wi .i64 (v_i493 + 1)) v_w494 _ h q)
        · rw [if_neg h549] at h; cases h
      · rw [if_neg h547] at h; cases h
    · rw [if_neg h546] at h
      cases h
      exact pkk_sound TTok mix hF 8 (hs := [.t false, .c, .c, .c, .c, .c, .c, .c, .c, .c, .c, .c, .c]) (ts := []) (s := [0, 1]) (l := [0, 1, 4, 11, 12]) (by kernel_rfl) (by kernel_rfl) (.cons (df h546) .nil) q
inductive G_slices_partitionEqualCmpFunc_ringref5_Proc_h_L2_R where
  | x0 (v_j516 : Int) (v_w517 : (List S_ringref5_Proc))
def G_slices_partitionEqualCmpFunc_ringref5_Proc_h_L2_ex : G_slices_partitionEqualCmpFunc_ringref5_Proc_h_L2_R → Ex
  | .x0 _ _ => .exit 4
def G_slices_partitionEqualCmpFunc_ringref5_Proc_h_L2_st (v_a482 : Int) (v_cmp485 : (S_ringref5_Proc → S_ringref5_Proc → Option (Int))) (v_z506 : Int) (v_cmp485_g : FuncId) (v_cmp485_c : (List PV)) : G_slices_partitionEqualCmpFunc_ringref5_Proc_h_L2_R → PS
  | .x0 v_j516 v_w517 => ⟨[.srf 1, .d (.v (.int .i64 v_a482)), dd, dd, .d (.clo v_cmp485_g v_cmp485_c), dd, dd, dd, dd, dd, dd, .d (.v (.int .i64 v_z506)), .d (.v (.int .i64 v_j516)), dd, dd, dd, dd, dd, dd, dd, dd, dd, dd, dd, dd, dd, dd, dd, dd, dd, dd, dd, dd, dd, dd, dd, dd, dd, dd, dd, dd, dd, dd, dd, dd, dd, dd, dd, dd, dd, dd, dd, dd, dd, dd, dd, dd, dd, dd, dd, dd, dd, dd, dd, dd, dd, dd, dd, dd, dd, dd, dd, dd, dd, dd, dd, dd, dd, dd, dd, dd, dd, dd, dd, dd, dd, dd, dd, dd, dd], [.gh 0 (.srf 1), .row 180 5 (v_w517.map eS_ringref5_Proc)]⟩
def G_slices_partitionEqualCmpFunc_ringref5_Proc_h_L2_hd (v_a482 : Int) (v_cmp485 : (S_ringref5_Proc → S_ringref5_Proc → Option (Int))) (v_z506 : Int) (v_cmp485_g : FuncId) (v_cmp485_c : (List PV)) (v_j508 : Int) (v_w509 : (List S_ringref5_Proc)) : PS := ⟨[.srf 1, .d (.v (.int .i64 v_a482)), dd, dd, .d (.clo v_cmp485_g v_cmp485_c), dd, dd, dd, dd, dd, dd, .d (.v (.int .i64 v_z506)), .d (.v (.int .i64 v_j508)), dd, dd, dd, dd, dd, dd, dd, dd, dd, dd, dd, dd, dd, dd, dd, dd, dd, dd, dd, dd, dd, dd, dd, dd, dd, dd, dd, dd, dd, dd, dd, dd, dd, dd, dd, dd, dd, dd, dd, dd, dd, dd, dd, dd, dd, dd, dd, dd, dd, dd, dd, dd, dd, dd, dd, dd, dd, dd, dd, dd, dd, dd, dd, dd, dd, dd, dd, dd, dd, dd, dd, dd, dd, dd, dd, dd, dd], [.gh 0 (.srf 1), .row 180 5 (v_w509.map eS_ringref5_Proc)]⟩
def G_slices_partitionEqualCmpFunc_ringref5_Proc_h_L2 (n : Nat) (v_a482 : Int) (v_cmp485 : (S_ringref5_Proc → S_ringref5_Proc → Option (Int))) (v_z506 : Int) : Nat → Int → (List S_ringref5_Proc) → Option G_slices_partitionEqualCmpFunc_ringref5_Proc_h_L2_R
  | 0, _, _ => none
  | k + 1, v_j508, v_w509 =>
    if v_z506 ≤ v_j508 then
     if 0 ≤ v_a482 ∧ (v_a482).toNat < v_w509.length then
      (v_w509[(v_a482).toNat]?).bind fun (v_y513 : S_ringref5_Proc) =>
      if 0 ≤ v_j508 ∧ (v_j508).toNat < v_w509.length then
       (v_w509[(v_j508).toNat]?).bind fun (v_y514 : S_ringref5_Proc) =>
       (v_cmp485 v_y513 v_y514).bind fun (v_r515 : (Int)) =>
       if v_r515 < 0 then
        G_slices_partitionEqualCmpFunc_ringref5_Proc_h_L2 n v_a482 v_cmp485 v_z506 k (wi .i64 (v_j508 - 1)) v_w509
       else
        some (.x0 v_j508 v_w509)
      else none
     else none
    else
     some (.x0 v_j508 v_w509)
theorem G_slices_partitionEqualCmpFunc_ringref5_Proc_h_L2_ok {Fi : Ex → PS → Prop} (hF : KC 90 Fi) (ks : List Fr) (n : Nat) (v_a482 : Int) (v_cmp485 : (S_ringref5_Proc → S_ringref5_Proc → Option (Int))) (v_z506 : Int) (v_cmp485_g : FuncId) (v_cmp485_c : (List PV)) (v_cmp485_h : ∀ (x0 : S_ringref5_Proc) (x1 : S_ringref5_Proc) (r : Int), v_cmp485 x0 x1 = some r → Ret Try.prog v_cmp485_g ([eS_ringref5_Proc x0, eS_ringref5_Proc x1] ++ v_cmp485_c) ((eI .i64) r)) : ∀ (k : Nat) (v_j508 : Int) (v_w509 : (List S_ringref5_Proc)) (o : G_slices_partitionEqualCmpFunc_ringref5_Proc_h_L2_R), G_slices_partitionEqualCmpFunc_ringref5_Proc_h_L2 n v_a482 v_cmp485 v_z506 k v_j508 v_w509 = some o → RunE Try.prog 90 Fi ks (G_slices_partitionEqualCmpFunc_ringref5_Proc_h_L2_ex o) (G_slices_partitionEqualCmpFunc_ringref5_Proc_h_L2_st v_a482 v_cmp485 v_z506 v_cmp485_g v_cmp485_c o) → RunE Try.prog 90 Fi (.l k (cP (cB (cL (cR (cB (cP (cB (cL (cR (cR (cR (bodyOf Try.f225)))))))))))) :: ks) .normal (G_slices_partitionEqualCmpFunc_ringref5_Proc_h_L2_hd v_a482 v_cmp485 v_z506 v_cmp485_g v_cmp485_c v_j508 v_w509)
  | 0, v_j508, v_w509, o, h, q => by rw [G_slices_partitionEqualCmpFunc_ringref5_Proc_h_L2] at h; cases h
  | k + 1, v_j508, v_w509, o, h, q => by
    rw [G_slices_partitionEqualCmpFunc_ringref5_Proc_h_L2] at h
    by_cases h560 : v_z506 ≤ v_j508
    · rw [if_pos h560] at h
      by_cases h561 : 0 ≤ v_a482 ∧ (v_a482).toNat < v_w509.length
      · rw [if_pos h561] at h
        obtain ⟨v_y513, h562, h⟩ := bind_some h
        by_cases h563 : 0 ≤ v_j508 ∧ (v_j508).toNat < v_w509.length
        · rw [if_pos h563] at h
          obtain ⟨v_y514, h564, h⟩ := bind_some h
          obtain ⟨v_r515, h565, h⟩ := bind_some h
          by_cases h566 : v_r515 < 0
          · rw [if_pos h566] at h
            exact pkk_sound TTok mix hF 9 (hs := [.t true, .c, .c, .c, .c, .y (eS_ringref5_Proc v_y513), .c, .c, .c, .c, .y (eS_ringref5_Proc v_y514), .c, .r ((eI .i64) v_r515), .c, .t true]) (ts := []) (s := [0, 1]) (l := [0, 1, 4, 11, 12]) (by kernel_rfl) (by kernel_rfl) (.cons (dt h560) (.cons (idx_ob (f := eS_ringref5_Proc) h561) (.cons (get_ob (f := eS_ringref5_Proc) h562) (.cons (idx_ob (f := eS_ringref5_Proc) h563) (.cons (get_ob (f := eS_ringref5_Proc) h564) (.cons (v_cmp485_h v_y513 v_y514 _ h565) (.cons (dt h566) .nil))))))) (G_slices_partitionEqualCmpFunc_ringref5_Proc_h_L2_ok hF ks n v_a482 v_cmp485 v_z506 v_cmp485_g v_cmp485_c v_cmp485_h k (wi .i64 (v_j508 - 1)) v_w509 _ h q)
          · rw [if_neg h566] at h
            cases h
            exact pkk_sound TTok mix hF 8 (hs := [.t true, .c, .c, .c, .c, .y (eS_ringref5_Proc v_y513), .c, .c, .c, .c, .y (eS_ringref5_Proc v_y514), .c, .r ((eI .i64) v_r515), .c, .t false]) (ts := []) (s := [0, 1]) (l := [0, 1, 4, 11, 12]) (by kernel_rfl) (by kernel_rfl) (.cons (dt h560) (.cons (idx_ob (f := eS_ringref5_Proc) h561) (.cons (get_ob (f := eS_ringref5_Proc) h562) (.cons (idx_ob (f := eS_ringref5_Proc) h563) (.cons (get_ob (f := eS_ringref5_Proc) h564) (.cons (v_cmp485_h v_y513 v_y514 _ h565) (.cons (df h566) .nil))))))) q
        · rw [if_neg h563] at h; cases h
      · rw [if_neg h561] at h; cases h
    · rw [if_neg h560] at h
      cases h
      exact pkk_sound TTok mix hF 8 (hs := [.t false, .c, .c, .c, .c, .c, .c, .c, .c, .c, .c, .c]) (ts := []) (s := [0, 1]) (l := [0, 1, 4, 11, 12]) (by kernel_rfl) (by kernel_rfl) (.cons (df h560) .nil) q
inductive G_slices_partitionEqualCmpFunc_ringref5_Proc_h_L3_R where
  | x0 (v_i523 : Int) (v_w524 : (List S_ringref5_Proc))
def G_slices_partitionEqualCmpFunc_ringref5_Proc_h_L3_ex : G_slices_partitionEqualCmpFunc_ringref5_Proc_h_L3_R → Ex
  | .x0 _ _ => .exit 0
def G_slices_partitionEqualCmpFunc_ringref5_Proc_h_L3_st (v_a482 : Int) (v_cmp485 : (S_ringref5_Proc → S_ringref5_Proc → Option (Int))) (v_cmp485_g : FuncId) (v_cmp485_c : (List PV)) : G_slices_partitionEqualCmpFunc_ringref5_Proc_h_L3_R → PS
  | .x0 v_i523 v_w524 => ⟨[dd, dd, dd, dd, dd, dd, dd, dd, dd, dd, dd, .d (.v (.int .i64 v_i523)), dd, dd, dd, dd, dd, dd, dd, dd, dd, dd, dd, dd, dd, dd, dd, dd, dd, dd, dd, dd, dd, dd, dd, dd, dd, dd, dd, dd, dd, dd, dd, dd, dd, dd, dd, dd, dd, dd, dd, dd, dd, dd, dd, dd, dd, dd, dd, dd, dd, dd, dd, dd, dd, dd, dd, dd, dd, dd, dd, dd, dd, dd, dd, dd, dd, dd, dd, dd, dd, dd, dd, dd, dd, dd, dd, dd, dd, dd], [.gh 0 (.srf 1), .row 180 5 (v_w524.map eS_ringref5_Proc)]⟩
def G_slices_partitionEqualCmpFunc_ringref5_Proc_h_L3_hd (v_a482 : Int) (v_cmp485 : (S_ringref5_Proc → S_ringref5_Proc → Option (Int))) (v_cmp485_g : FuncId) (v_cmp485_c : (List PV)) (v_i490 : Int) (v_j491 : Int) (v_w492 : (List S_ringref5_Proc)) : PS := ⟨[.srf 1, .d (.v (.int .i64 v_a482)), dd, dd, .d (.clo v_cmp485_g v_cmp485_c), dd, dd, dd, dd, dd, dd, .d (.v (.int .i64 v_i490)), .d (.v (.int .i64 v_j491)), dd, dd, dd, dd, dd, dd, dd, dd, dd, dd, dd, dd, dd, dd, dd, dd, dd, dd, dd, dd, dd, dd, dd, dd, dd, dd, dd, dd, dd, dd, dd, dd, dd, dd, dd, dd, dd, dd, dd, dd, dd, dd, dd, dd, dd, dd, dd, dd, dd, dd, dd, dd, dd, dd, dd, dd, dd, dd, dd, dd, dd, dd, dd, dd, dd, dd, dd, dd, dd, dd, dd, dd, dd, dd, dd, dd, dd], [.gh 0 (.srf 1), .row 180 5 (v_w492.map eS_ringref5_Proc)]⟩
def G_slices_partitionEqualCmpFunc_ringref5_Proc_h_L3 (n : Nat) (v_a482 : Int) (v_cmp485 : (S_ringref5_Proc → S_ringref5_Proc → Option (Int))) : Nat → Int → Int → (List S_ringref5_Proc) → Option G_slices_partitionEqualCmpFunc_ringref5_Proc_h_L3_R
  | 0, _, _, _ => none
  | k + 1, v_i490, v_j491, v_w492 =>
    (G_slices_partitionEqualCmpFunc_ringref5_Proc_h_L1 n v_a482 v_cmp485 v_j491 n v_i490 v_w492).bind fun v_o505 => match v_o505 with
    | .x0 v_z506 v_z507 =>
      (G_slices_partitionEqualCmpFunc_ringref5_Proc_h_L2 n v_a482 v_cmp485 v_z506 n v_j491 v_z507).bind fun v_o520 => match v_o520 with
      | .x0 v_z521 v_z522 =>
        if v_z506 > v_z521 then
         some (.x0 v_z506 v_z522)
        else
         if 0 ≤ v_z521 ∧ (v_z521).toNat < v_z522.length then
          (v_z522[(v_z521).toNat]?).bind fun (v_y525 : S_ringref5_Proc) =>
          if 0 ≤ v_z506 ∧ (v_z506).toNat < v_z522.length then
           (v_z522[(v_z506).toNat]?).bind fun (v_y526 : S_ringref5_Proc) =>
           if 0 ≤ v_z506 ∧ (v_z506).toNat < v_z522.length then
            (v_z522[(v_z506).toNat]?).bind fun (v_y527 : S_ringref5_Proc) =>
            if 0 ≤ v_z521 ∧ (v_z521).toNat < (v_z522.set (v_z506).toNat v_y525).length then
             ((v_z522.set (v_z506).toNat v_y525)[(v_z521).toNat]?).bind fun (v_y528 : S_ringref5_Proc) =>
             G_slices_partitionEqualCmpFunc_ringref5_Proc_h_L3 n v_a482 v_cmp485 k (wi .i64 (v_z506 + 1)) (wi .i64 (v_z521 - 1)) ((v_z522.set (v_z506).toNat v_y525).set (v_z521).toNat v_y526)
            else none
           else none
          else none
         else none
theorem G_slices_partitionEqualCmpFunc_ringref5_Proc_h_L3_ok {Fi : Ex → PS → Prop} (hF : KC 90 Fi) (ks : List Fr) (n : Nat) (v_a482 : Int) (v_cmp485 : (S_ringref5_Proc → S_ringref5_Proc → Option (Int))) (v_cmp485_g : FuncId) (v_cmp485_c : (List PV)) (v_cmp485_h : ∀ (x0 : S_ringref5_Proc) (x1 : S_ringref5_Proc) (r : Int), v_cmp485 x0 x1 = some r → Ret Try.prog v_cmp485_g ([eS_ringref5_Proc x0, eS_ringref5_Proc x1] ++ v_cmp485_c) ((eI .i64) r)) : ∀ (k : Nat) (v_i490 : Int) (v_j491 : Int) (v_w492 : (List S_ringref5_Proc)) (o : G_slices_partitionEqualCmpFunc_ringref5_Proc_h_L3_R), G_slices_partitionEqualCmpFunc_ringref5_Proc_h_L3 n v_a482 v_cmp485 k v_i490 v_j491 v_w492 = some o → RunE Try.prog 90 Fi ks (G_slices_partitionEqualCmpFunc_ringref5_Proc_h_L3_ex o) (G_slices_partitionEqualCmpFunc_ringref5_Proc_h_L3_st v_a482 v_cmp485 v_cmp485_g v_cmp485_c o) → RunE Try.prog 90 Fi (.l k (cP (cB (cL (cR (cR (cR (bodyOf Try.f225))))))) :: ks) .normal (G_slices_partitionEqualCmpFunc_ringref5_Proc_h_L3_hd v_a482 v_cmp485 v_cmp485_g v_cmp485_c v_i490 v_j491 v_w492)
  | 0, v_i490, v_j491, v_w492, o, h, q => by rw [G_slices_partitionEqualCmpFunc_ringref5_Proc_h_L3] at h; cases h
  | k + 1, v_i490, v_j491, v_w492, o, h, q => by
    rw [G_slices_partitionEqualCmpFunc_ringref5_Proc_h_L3] at h
    obtain ⟨v_o505, h553, h⟩ := bind_some h
    refine pkk_sound TTok mix hF 5 (hs := [.n n]) (ts := []) (s := [0, 1]) (l := [0, 1, 4, 11, 12]) (by kernel_rfl) (by kernel_rfl) .nil (G_slices_partitionEqualCmpFunc_ringref5_Proc_h_L1_ok hF (.b 2 :: .s (cR (cB (cP (cB (cL (cR (cR (cR (bodyOf Try.f225))))))))) :: .b 1 :: .l k (cP (cB (cL (cR (cR (cR (bodyOf Try.f225))))))) :: ks) n v_a482 v_cmp485 v_j491 v_cmp485_g v_cmp485_c v_cmp485_h n v_i490 v_w492 _ h553 ?_)
    cases v_o505 with
    | x0 v_z506 v_z507 =>
      try dsimp only at h
      obtain ⟨v_o520, h567, h⟩ := bind_some h
      refine pkk_sound TTok mix hF 4 (hs := [.n n]) (ts := []) (s := [0, 1]) (l := [0, 1, 4, 11, 12]) (by kernel_rfl) (by kernel_rfl) .nil (G_slices_partitionEqualCmpFunc_ringref5_Proc_h_L2_ok hF (.b 4 :: .s (cR (cR (cB (cP (cB (cL (cR (cR (cR (bodyOf Try.f225)))))))))) :: .b 1 :: .l k (cP (cB (cL (cR (cR (cR (bodyOf Try.f225))))))) :: ks) n v_a482 v_cmp485 v_z506 v_cmp485_g v_cmp485_c v_cmp485_h n v_j491 v_z507 _ h567 ?_)
      cases v_o520 with
      | x0 v_z521 v_z522 =>
        try dsimp only at h
        by_cases h568 : v_z506 > v_z521
        · rw [if_pos h568] at h
          cases h
          exact pkk_sound TTok mix hF 9 (hs := [.t true]) (ts := []) (s := [0, 1]) (l := [11]) (by kernel_rfl) (by kernel_rfl) (.cons (dt h568) .nil) q
        · rw [if_neg h568] at h
          by_cases h569 : 0 ≤ v_z521 ∧ (v_z521).toNat < v_z522.length
          · rw [if_pos h569] at h
            obtain ⟨v_y525, h570, h⟩ := bind_some h
            by_cases h571 : 0 ≤ v_z506 ∧ (v_z506).toNat < v_z522.length
            · rw [if_pos h571] at h
              obtain ⟨v_y526, h572, h⟩ := bind_some h
              by_cases h573 : 0 ≤ v_z506 ∧ (v_z506).toNat < v_z522.length
              · rw [if_pos h573] at h
                obtain ⟨v_y527, h574, h⟩ := bind_some h
                by_cases h575 : 0 ≤ v_z521 ∧ (v_z521).toNat < (v_z522.set (v_z506).toNat v_y525).length
                · rw [if_pos h575] at h
                  obtain ⟨v_y528, h576, h⟩ := bind_some h
                  exact pkk_sound TTok mix hF 12 (hs := [.t false, .y (eS_ringref5_Proc v_y525), .y (eS_ringref5_Proc v_y526), .w ((v_z522.set (v_z506).toNat v_y525).map eS_ringref5_Proc), .y (eS_ringref5_Proc v_y527), .w (((v_z522.set (v_z506).toNat v_y525).set (v_z521).toNat v_y526).map eS_ringref5_Proc), .y (eS_ringref5_Proc v_y528)]) (ts := []) (s := [0, 1]) (l := [0, 1, 4, 11, 12]) (by kernel_rfl) (by kernel_rfl) (.cons (df h568) (.cons (idx_ob (f := eS_ringref5_Proc) h569) (.cons (get_ob (f := eS_ringref5_Proc) h570) (.cons (idx_ob (f := eS_ringref5_Proc) h571) (.cons (get_ob (f := eS_ringref5_Proc) h572) (.cons (idx_ob (f := eS_ringref5_Proc) h573) (.cons (get_ob (f := eS_ringref5_Proc) h574) (.cons (Eq.refl (pcells (.agg [.v (.int .i64 v_y525.fId), .v (.int .i64 v_y525.fUp), .v (.int .i64 v_y525.fGroup), .v (.int .i64 v_y525.fStatus), .v (.bool v_y525.fEnded)]))) (.cons (set_ob (f := eS_ringref5_Proc) (l := v_z522) (k := (v_z506).toNat) (z := v_y525) (p := .agg [.v (.int .i64 v_y525.fId), .v (.int .i64 v_y525.fUp), .v (.int .i64 v_y525.fGroup), .v (.int .i64 v_y525.fStatus), .v (.bool v_y525.fEnded)]) rfl) (.cons (idx_ob (f := eS_ringref5_Proc) h575) (.cons (get_ob (f := eS_ringref5_Proc) h576) (.cons (Eq.refl (pcells (.agg [.v (.int .i64 v_y526.fId), .v (.int .i64 v_y526.fUp), .v (.int .i64 v_y526.fGroup), .v (.int .i64 v_y526.fStatus), .v (.bool v_y526.fEnded)]))) (.cons (set_ob (f := eS_ringref5_Proc) (l := (v_z522.set (v_z506).toNat v_y525)) (k := (v_z521).toNat) (z := v_y526) (p := .agg [.v (.int .i64 v_y526.fId), .v (.int .i64 v_y526.fUp), .v (.int .i64 v_y526.fGroup), .v (.int .i64 v_y526.fStatus), .v (.bool v_y526.fEnded)]) rfl) .nil))))))))))))) (G_slices_partitionEqualCmpFunc_ringref5_Proc_h_L3_ok hF ks n v_a482 v_cmp485 v_cmp485_g v_cmp485_c v_cmp485_h k (wi .i64 (v_z506 + 1)) (wi .i64 (v_z521 - 1)) ((v_z522.set (v_z506).toNat v_y525).set (v_z521).toNat v_y526) _ h q)
                · rw [if_neg h575] at h; cases h
              · rw [if_neg h573] at h; cases h
            · rw [if_neg h571] at h; cases h
          · rw [if_neg h569] at h; cases h
/- slices.partitionEqualCmpFunc[ringhall/ringref5.Proc] -/
def G_slices_partitionEqualCmpFunc_ringref5_Proc_h (n : Nat) (v_data481 : (List S_ringref5_Proc)) (v_a482 : Int) (v_b483 : Int) (v_pivot484 : Int) (v_cmp485 : (S_ringref5_Proc → S_ringref5_Proc → Option (Int))) : Option (Int × (List S_ringref5_Proc)) :=
  if 0 ≤ v_pivot484 ∧ (v_pivot484).toNat < v_data481.length then
   (v_data481[(v_pivot484).toNat]?).bind fun (v_y486 : S_ringref5_Proc) =>
   if 0 ≤ v_a482 ∧ (v_a482).toNat < v_data481.length then
    (v_data481[(v_a482).toNat]?).bind fun (v_y487 : S_ringref5_Proc) =>
    if 0 ≤ v_a482 ∧ (v_a482).toNat < v_data481.length then
     (v_data481[(v_a482).toNat]?).bind fun (v_y488 : S_ringref5_Proc) =>
     if 0 ≤ v_pivot484 ∧ (v_pivot484).toNat < (v_data481.set (v_a482).toNat v_y486).length then
      ((v_data481.set (v_a482).toNat v_y486)[(v_pivot484).toNat]?).bind fun (v_y489 : S_ringref5_Proc) =>
      (G_slices_partitionEqualCmpFunc_ringref5_Proc_h_L3 n v_a482 v_cmp485 n (wi .i64 (v_a482 + 1)) (wi .i64 (v_b483 - 1)) ((v_data481.set (v_a482).toNat v_y486).set (v_pivot484).toNat v_y487)).bind fun v_o529 => match v_o529 with
      | .x0 v_z530 v_z531 =>
        some (v_z530, v_z531)
     else none
    else none
   else none
  else none
theorem G_slices_partitionEqualCmpFunc_ringref5_Proc_h_ok (n : Nat) (v_data481 : (List S_ringref5_Proc)) (v_a482 : Int) (v_b483 : Int) (v_pivot484 : Int) (v_cmp485 : (S_ringref5_Proc → S_ringref5_Proc → Option (Int))) (v_cmp485_g : FuncId) (v_cmp485_c : List PV) (v_cmp485_h : ∀ (x0 : S_ringref5_Proc) (x1 : S_ringref5_Proc) (r : Int), v_cmp485 x0 x1 = some r → Ret Try.prog v_cmp485_g ([eS_ringref5_Proc x0, eS_ringref5_Proc x1] ++ v_cmp485_c) ((eI .i64) r)) (r : Int × (List S_ringref5_Proc)) (h : G_slices_partitionEqualCmpFunc_ringref5_Proc_h n v_data481 v_a482 v_b483 v_pivot484 v_cmp485 = some r) : RetH Try.prog 225 [.srf 0, .d ((eI .i64) v_a482), .d ((eI .i64) v_b483), .d ((eI .i64) v_pivot484), .d ((.clo v_cmp485_g v_cmp485_c))] [.row 180 5 (v_data481.map eS_ringref5_Proc)] (.d ((eI .i64) r.1)) [.row 180 5 (r.2.map eS_ringref5_Proc)] := by
  refine retH_run (n := 90) (fn := Try.f225) (c := bodyOf Try.f225) (by kernel_rfl) (by kernel_rfl) (by kernel_rfl) (by kernel_rfl) ?_
  have hF : KC 90 (FinH Try.prog Try.f225 [.row 180 5 (v_data481.map eS_ringref5_Proc)] (.d ((eI .i64) r.1)) [.row 180 5 (r.2.map eS_ringref5_Proc)]) := FinH.kc' (by kernel_rfl)
  unfold G_slices_partitionEqualCmpFunc_ringref5_Proc_h at h
  by_cases h532 : 0 ≤ v_pivot484 ∧ (v_pivot484).toNat < v_data481.length
  · rw [if_pos h532] at h
    obtain ⟨v_y486, h533, h⟩ := bind_some h
    by_cases h534 : 0 ≤ v_a482 ∧ (v_a482).toNat < v_data481.length
    · rw [if_pos h534] at h
      obtain ⟨v_y487, h535, h⟩ := bind_some h
      by_cases h536 : 0 ≤ v_a482 ∧ (v_a482).toNat < v_data481.length
      · rw [if_pos h536] at h
        obtain ⟨v_y488, h537, h⟩ := bind_some h
        by_cases h538 : 0 ≤ v_pivot484 ∧ (v_pivot484).toNat < (v_data481.set (v_a482).toNat v_y486).length
        · rw [if_pos h538] at h
          obtain ⟨v_y489, h539, h⟩ := bind_some h
          obtain ⟨v_o529, h577, h⟩ := bind_some h
          refine pkk_sound TTok mix hF 9 (hs := [.y (eS_ringref5_Proc v_y486), .y (eS_ringref5_Proc v_y487), .w ((v_data481.set (v_a482).toNat v_y486).map eS_ringref5_Proc), .y (eS_ringref5_Proc v_y488), .w (((v_data481.set (v_a482).toNat v_y486).set (v_pivot484).toNat v_y487).map eS_ringref5_Proc), .y (eS_ringref5_Proc v_y489), .n n]) (ts := []) (s := [1, 0]) (l := [0, 1, 4, 11, 12]) (by kernel_rfl) (by kernel_rfl) (.cons (idx_ob (f := eS_ringref5_Proc) h532) (.cons (get_ob (f := eS_ringref5_Proc) h533) (.cons (idx_ob (f := eS_ringref5_Proc) h534) (.cons (get_ob (f := eS_ringref5_Proc) h535) (.cons (idx_ob (f := eS_ringref5_Proc) h536) (.cons (get_ob (f := eS_ringref5_Proc) h537) (.cons (Eq.refl (pcells (.agg [.v (.int .i64 v_y486.fId), .v (.int .i64 v_y486.fUp), .v (.int .i64 v_y486.fGroup), .v (.int .i64 v_y486.fStatus), .v (.bool v_y486.fEnded)]))) (.cons (set_ob (f := eS_ringref5_Proc) (l := v_data481) (k := (v_a482).toNat) (z := v_y486) (p := .agg [.v (.int .i64 v_y486.fId), .v (.int .i64 v_y486.fUp), .v (.int .i64 v_y486.fGroup), .v (.int .i64 v_y486.fStatus), .v (.bool v_y486.fEnded)]) rfl) (.cons (idx_ob (f := eS_ringref5_Proc) h538) (.cons (get_ob (f := eS_ringref5_Proc) h539) (.cons (Eq.refl (pcells (.agg [.v (.int .i64 v_y487.fId), .v (.int .i64 v_y487.fUp), .v (.int .i64 v_y487.fGroup), .v (.int .i64 v_y487.fStatus), .v (.bool v_y487.fEnded)]))) (.cons (set_ob (f := eS_ringref5_Proc) (l := (v_data481.set (v_a482).toNat v_y486)) (k := (v_pivot484).toNat) (z := v_y487) (p := .agg [.v (.int .i64 v_y487.fId), .v (.int .i64 v_y487.fUp), .v (.int .i64 v_y487.fGroup), .v (.int .i64 v_y487.fStatus), .v (.bool v_y487.fEnded)]) rfl) .nil)))))))))))) (G_slices_partitionEqualCmpFunc_ringref5_Proc_h_L3_ok hF (.b 0 :: .s (cR (cR (cR (cR (bodyOf Try.f225))))) :: []) n v_a482 v_cmp485 v_cmp485_g v_cmp485_c v_cmp485_h n (wi .i64 (v_a482 + 1)) (wi .i64 (v_b483 - 1)) ((v_data481.set (v_a482).toNat v_y486).set (v_pivot484).toNat v_y487) _ h577 ?_)
          cases v_o529 with
          | x0 v_z530 v_z531 =>
            try dsimp only at h
            obtain rfl := Option.some.inj h
            exact pendH_sound TTok mix 4 (hs := []) [1] (by kernel_rfl) (by kernel_rfl) (by kernel_rfl) .nil
        · rw [if_neg h538] at h; cases h
      · rw [if_neg h536] at h; cases h
    · rw [if_neg h534] at h; cases h
  · rw [if_neg h532] at h; cases h
inductive G_slices_partitionCmpFunc_ringref5_Proc_h_L1_R where
  | x0 (v_i551 : Int) (v_w552 : (List S_ringref5_Proc))
def G_slices_partitionCmpFunc_ringref5_Proc_h_L1_ex : G_slices_partitionCmpFunc_ringref5_Proc_h_L1_R → Ex
  | .x0 _ _ => .exit 0
def G_slices_partitionCmpFunc_ringref5_Proc_h_L1_st (v_a535 : Int) (v_cmp538 : (S_ringref5_Proc → S_ringref5_Proc → Option (Int))) (v_b536 : Int) (v_cmp538_g : FuncId) (v_cmp538_c : (List PV)) : G_slices_partitionCmpFunc_ringref5_Proc_h_L1_R → PS
  | .x0 v_i551 v_w552 => ⟨[.srf 1, .d (.v (.int .i64 v_a535)), dd, dd, .d (.clo v_cmp538_g v_cmp538_c), dd, dd, dd, dd, dd, dd, dd, .d (.v (.int .i64 v_i551)), .d (.v (.int .i64 (wi .i64 (v_b536 - 1)))), dd, dd, dd, dd, dd, dd, dd, dd, dd, dd, dd, dd, dd, dd, dd, dd, dd, dd, dd, dd, dd, dd, dd, dd, dd, dd, dd, dd, dd, dd, dd, dd, dd, dd, dd, dd, dd, dd, dd, dd, dd, dd, dd, dd, dd, dd, dd, dd, dd, dd, dd, dd, dd, dd, dd, dd, dd, dd, dd, dd, dd, dd, dd, dd, dd, dd, dd, dd, dd, dd, dd, dd, dd, dd, dd, dd, dd, dd, dd, dd, dd, dd, dd, dd, dd, dd, dd, dd, dd, dd, dd, dd, dd, dd, dd, dd, dd, dd, dd, dd, dd, dd, dd, dd, dd, dd, dd, dd, dd, dd, dd, dd, dd, dd, dd, dd, dd, dd, dd, dd, dd, dd, dd, dd, dd, dd, dd, dd, dd, dd, dd, dd, dd, dd, dd, dd, dd, dd, dd, dd, dd, dd, dd, dd, dd, dd, dd, dd, dd, dd, dd, dd, dd, dd, dd, dd, dd, dd, dd, dd, dd, dd, dd, dd], [.gh 0 (.srf 1), .row 180 5 (v_w552.map eS_ringref5_Proc)]⟩
def G_slices_partitionCmpFunc_ringref5_Proc_h_L1_hd (v_a535 : Int) (v_cmp538 : (S_ringref5_Proc → S_ringref5_Proc → Option (Int))) (v_b536 : Int) (v_cmp538_g : FuncId) (v_cmp538_c : (List PV)) (v_i543 : Int) (v_w544 : (List S_ringref5_Proc)) : PS := ⟨[.srf 1, .d (.v (.int .i64 v_a535)), dd, dd, .d (.clo v_cmp538_g v_cmp538_c), dd, dd, dd, dd, dd, dd, dd, .d (.v (.int .i64 v_i543)), .d (.v (.int .i64 (wi .i64 (v_b536 - 1)))), dd, dd, dd, dd, dd, dd, dd, dd, dd, dd, dd, dd, dd, dd, dd, dd, dd, dd, dd, dd, dd, dd, dd, dd, dd, dd, dd, dd, dd, dd, dd, dd, dd, dd, dd, dd, dd, dd, dd, dd, dd, dd, dd, dd, dd, dd, dd, dd, dd, dd, dd, dd, dd, dd, dd, dd, dd, dd, dd, dd, dd, dd, dd, dd, dd, dd, dd, dd, dd, dd, dd, dd, dd, dd, dd, dd, dd, dd, dd, dd, dd, dd, dd, dd, dd, dd, dd, dd, dd, dd, dd, dd, dd, dd, dd, dd, dd, dd, dd, dd, dd, dd, dd, dd, dd, dd, dd, dd, dd, dd, dd, dd, dd, dd, dd, dd, dd, dd, dd, dd, dd, dd, dd, dd, dd, dd, dd, dd, dd, dd, dd, dd, dd, dd, dd, dd, dd, dd, dd, dd, dd, dd, dd, dd, dd, dd, dd, dd, dd, dd, dd, dd, dd, dd, dd, dd, dd, dd, dd, dd, dd, dd, dd, dd], [.gh 0 (.srf 1), .row 180 5 (v_w544.map eS_ringref5_Proc)]⟩
def G_slices_partitionCmpFunc_ringref5_Proc_h_L1 (n : Nat) (v_a535 : Int) (v_cmp538 : (S_ringref5_Proc → S_ringref5_Proc → Option (Int))) (v_b536 : Int) : Nat → Int → (List S_ringref5_Proc) → Option G_slices_partitionCmpFunc_ringref5_Proc_h_L1_R
  | 0, _, _ => none
  | k + 1, v_i543, v_w544 =>
    if v_i543 ≤ (wi .i64 (v_b536 - 1)) then
     if 0 ≤ v_i543 ∧ (v_i543).toNat < v_w544.length then
      (v_w544[(v_i543).toNat]?).bind fun (v_y548 : S_ringref5_Proc) =>
      if 0 ≤ v_a535 ∧ (v_a535).toNat < v_w544.length then
       (v_w544[(v_a535).toNat]?).bind fun (v_y549 : S_ringref5_Proc) =>
       (v_cmp538 v_y548 v_y549).bind fun (v_r550 : (Int)) =>
       if v_r550 < 0 then
        G_slices_partitionCmpFunc_ringref5_Proc_h_L1 n v_a535 v_cmp538 v_b536 k (wi .i64 (v_i543 + 1)) v_w544
       else
        some (.x0 v_i543 v_w544)
      else none
     else none
    else
     some (.x0 v_i543 v_w544)
theorem G_slices_partitionCmpFunc_ringref5_Proc_h_L1_ok {Fi : Ex → PS → Prop} (hF : KC 178 Fi) (ks : List Fr) (n : Nat) (v_a535 : Int) (v_cmp538 : (S_ringref5_Proc → S_ringref5_Proc → Option (Int))) (v_b536 : Int) (v_cmp538_g : FuncId) (v_cmp538_c : (List PV)) (v_cmp538_h : ∀ (x0 : S_ringref5_Proc) (x1 : S_ringref5_Proc) (r : Int), v_cmp538 x0 x1 = some r → Ret Try.prog v_cmp538_g ([eS_ringref5_Proc x0, eS_ringref5_Proc x1] ++ v_cmp538_c) ((eI .i64) r)) : ∀ (k : Nat) (v_i543 : Int) (v_w544 : (List S_ringref5_Proc)) (o : G_slices_partitionCmpFunc_ringref5_Proc_h_L1_R), G_slices_partitionCmpFunc_ringref5_Proc_h_L1 n v_a535 v_cmp538 v_b536 k v_i543 v_w544 = some o → RunE Try.prog 178 Fi ks (G_slices_partitionCmpFunc_ringref5_Proc_h_L1_ex o) (G_slices_partitionCmpFunc_ringref5_Proc_h_L1_st v_a535 v_cmp538 v_b536 v_cmp538_g v_cmp538_c o) → RunE Try.prog 178 Fi (.l k (cP (cB (cL (cR (cR (cR (bodyOf Try.f226))))))) :: ks) .normal (G_slices_partitionCmpFunc_ringref5_Proc_h_L1_hd v_a535 v_cmp538 v_b536 v_cmp538_g v_cmp538_c v_i543 v_w544)
  | 0, v_i543, v_w544, o, h, q => by rw [G_slices_partitionCmpFunc_ringref5_Proc_h_L1] at h; cases h
  | k + 1, v_i543, v_w544, o, h, q => by
    rw [G_slices_partitionCmpFunc_ringref5_Proc_h_L1] at h
    by_cases h595 : v_i543 ≤ (wi .i64 (v_b536 - 1))
    · rw [if_pos h595] at h
      by_cases h596 : 0 ≤ v_i543 ∧ (v_i543).toNat < v_w544.length
      · rw [if_pos h596] at h
        obtain ⟨v_y548, h597, h⟩ := bind_some h
        by_cases h598 : 0 ≤ v_a535 ∧ (v_a535).toNat < v_w544.length
        · rw [if_pos h598] at h
          obtain ⟨v_y549, h599, h⟩ := bind_some h
          obtain ⟨v_r550, h600, h⟩ := bind_some h
          by_cases h601 : v_r550 < 0
          · rw [if_pos h601] at h
            exact pkk_sound TTok mix hF 9 (hs := [.t true, .c, .c, .c, .c, .y (eS_ringref5_Proc v_y548), .c, .c, .c, .c, .y (eS_ringref5_Proc v_y549), .c, .r ((eI .i64) v_r550), .c, .t true]) (ts := []) (s := [0, 1]) (l := [0, 1, 4, 12, 13]) (by kernel_rfl) (by kernel_rfl) (.cons (dt h595) (.cons (idx_ob (f := eS_ringref5_Proc) h596) (.cons (get_ob (f := eS_ringref5_Proc) h597) (.cons (idx_ob (f := eS_ringref5_Proc) h598) (.cons (get_ob (f := eS_ringref5_Proc) h599) (.cons (v_cmp538_h v_y548 v_y549 _ h600) (.cons (dt h601) .nil))))))) (G_slices_partitionCmpFunc_ringref5_Proc_h_L1_ok hF ks n v_a535 v_cmp538 v_b536 v_cmp538_g v_cmp538_c v_cmp538_h k (wi .i64 (v_i543 + 1)) v_w544 _ h q)
          · rw [if_neg h601] at h
            cases h
            exact pkk_sound TTok mix hF 8 (hs := [.t true, .c, .c, .c, .c, .y (eS_ringref5_Proc v_y548), .c, .c, .c, .c, .y (eS_ringref5_Proc v_y549), .c, .r ((eI .i64) v_r550), .c, .t false]) (ts := []) (s := [0, 1]) (l := [0, 1, 4, 12, 13]) (by kernel_rfl) (by kernel_rfl) (.cons (dt h595) (.cons (idx_ob (f := eS_ringref5_Proc) h596) (.cons (get_ob (f := eS_ringref5_Proc) h597) (.cons (idx_ob (f := eS_ringref5_Proc) h598) (.cons (get_ob (f := eS_ringref5_Proc) h599) (.cons (v_cmp538_h v_y548 v_y549 _ h600) (.cons (df h601) .nil))))))) q
        · rw [if_neg h598] at h; cases h
      · rw [if_neg h596] at h; cases h
    · rw [if_neg h595] at h
      cases h
      exact pkk_sound TTok mix hF 8 (hs := [.t false, .c, .c, .c, .c, .c, .c, .c, .c, .c, .c, .c]) (ts := []) (s := [0, 1]) (l := [0, 1, 4, 12, 13]) (by kernel_rfl) (by kernel_rfl) (.cons (df h595) .nil) q
inductive G_slices_partitionCmpFunc_ringref5_Proc_h_L2_R where
  | x0 (v_j566 : Int) (v_w567 : (List S_ringref5_Proc))
def G_slices_partitionCmpFunc_ringref5_Proc_h_L2_ex : G_slices_partitionCmpFunc_ringref5_Proc_h_L2_R → Ex
  | .x0 _ _ => .exit 2
def G_slices_partitionCmpFunc_ringref5_Proc_h_L2_st (v_a535 : Int) (v_cmp538 : (S_ringref5_Proc → S_ringref5_Proc → Option (Int))) (v_z556 : Int) (v_cmp538_g : FuncId) (v_cmp538_c : (List PV)) : G_slices_partitionCmpFunc_ringref5_Proc_h_L2_R → PS
  | .x0 v_j566 v_w567 => ⟨[.srf 1, .d (.v (.int .i64 v_a535)), dd, dd, .d (.clo v_cmp538_g v_cmp538_c), dd, dd, dd, dd, dd, dd, dd, .d (.v (.int .i64 v_z556)), .d (.v (.int .i64 v_j566)), dd, dd, dd, dd, dd, dd, dd, dd, dd, dd, dd, dd, dd, dd, dd, dd, dd, dd, dd, dd, dd, dd, dd, dd, dd, dd, dd, dd, dd, dd, dd, dd, dd, dd, dd, dd, dd, dd, dd, dd, dd, dd, dd, dd, dd, dd, dd, dd, dd, dd, dd, dd, dd, dd, dd, dd, dd, dd, dd, dd, dd, dd, dd, dd, dd, dd, dd, dd, dd, dd, dd, dd, dd, dd, dd, dd, dd, dd, dd, dd, dd, dd, dd, dd, dd, dd, dd, dd, dd, dd, dd, dd, dd, dd, dd, dd, dd, dd, dd, dd, dd, dd, dd, dd, dd, dd, dd, dd, dd, dd, dd, dd, dd, dd, dd, dd, dd, dd, dd, dd, dd, dd, dd, dd, dd, dd, dd, dd, dd, dd, dd, dd, dd, dd, dd, dd, dd, dd, dd, dd, dd, dd, dd, dd, dd, dd, dd, dd, dd, dd, dd, dd, dd, dd, dd, dd, dd, dd, dd, dd, dd, dd, dd, dd], [.gh 0 (.srf 1), .row 180 5 (v_w567.map eS_ringref5_Proc)]⟩
def G_slices_partitionCmpFunc_ringref5_Proc_h_L2_hd (v_a535 : Int) (v_cmp538 : (S_ringref5_Proc → S_ringref5_Proc → Option (Int))) (v_z556 : Int) (v_cmp538_g : FuncId) (v_cmp538_c : (List PV)) (v_j558 : Int) (v_w559 : (List S_ringref5_Proc)) : PS := ⟨[.srf 1, .d (.v (.int .i64 v_a535)), dd, dd, .d (.clo v_cmp538_g v_cmp538_c), dd, dd, dd, dd, dd, dd, dd, .d (.v (.int .i64 v_z556)), .d (.v (.int .i64 v_j558)), dd, dd, dd, dd, dd, dd, dd, dd, dd, dd, dd, dd, dd, dd, dd, dd, dd, dd, dd, dd, dd, dd, dd, dd, dd, dd, dd, dd, dd, dd, dd, dd, dd, dd, dd, dd, dd, dd, dd, dd, dd, dd, dd, dd, dd, dd, dd, dd, dd, dd, dd, dd, dd, dd, dd, dd, dd, dd, dd, dd, dd, dd, dd, dd, dd, dd, dd, dd, dd, dd, dd, dd, dd, dd, dd, dd, dd, dd, dd, dd, dd, dd, dd, dd, dd, dd, dd, dd, dd, dd, dd, dd, dd, dd, dd, dd, dd, dd, dd, dd, dd, dd, dd, dd, dd, dd, dd, dd, dd, dd, dd, dd, dd, dd, dd, dd, dd, dd, dd, dd, dd, dd, dd, dd, dd, dd, dd, dd, dd, dd, dd, dd, dd, dd, dd, dd, dd, dd, dd, dd, dd, dd, dd, dd, dd, dd, dd, dd, dd, dd, dd, dd, dd, dd, dd, dd, dd, dd, dd, dd, dd, dd, dd, dd], [.gh 0 (.srf 1), .row 180 5 (v_w559.map eS_ringref5_Proc)]⟩
def G_slices_partitionCmpFunc_ringref5_Proc_h_L2 (n : Nat) (v_a535 : Int) (v_cmp538 : (S_ringref5_Proc → S_ringref5_Proc → Option (Int))) (v_z556 : Int) : Nat → Int → (List S_ringref5_Proc) → Option G_slices_partitionCmpFunc_ringref5_Proc_h_L2_R
  | 0, _, _ => none
  | k + 1, v_j558, v_w559 =>
    if v_z556 ≤ v_j558 then
     if 0 ≤ v_j558 ∧ (v_j558).toNat < v_w559.length then
      (v_w559[(v_j558).toNat]?).bind fun (v_y563 : S_ringref5_Proc) =>
      if 0 ≤ v_a535 ∧ (v_a535).toNat < v_w559.length then
       (v_w559[(v_a535).toNat]?).bind fun (v_y564 : S_ringref5_Proc) =>
       (v_cmp538 v_y563 v_y564).bind fun (v_r565 : (Int)) =>
       if v_r565 < 0 then
        some (.x0 v_j558 v_w559)
       else
        G_slices_partitionCmpFunc_ringref5_Proc_h_L2 n v_a535 v_cmp538 v_z556 k (wi .i64 (v_j558 - 1)) v_w559
      else none
     else none
    else
     some (.x0 v_j558 v_w559)

end Go.Proofs.Ytjjjaakefnnbpaa.pv
