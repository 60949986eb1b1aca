/- What the functions compute, as functions over plain data, with their contracts: written by gen.py. -/
import Derived.Test.YtjjjaakefnnbpaaProg
import Derived.Test.YtjjjaakefnnbpaaQr
import Derived.Test.YtjjjaakefnnbpaaSg
set_option maxRecDepth 100000
set_option linter.all false
namespace Go.Proofs.Ytjjjaakefnnbpaa.pv
open Go.RowKit
def TT : List TI := [
⟨1, 0, .oth, []⟩,
⟨1, 8, .oth, [.nf]⟩,
⟨1, 8, .int .i64, [.i .i64]⟩,
⟨1, 8, .int .i64, [.i .i64]⟩,
⟨1, 1, .bool, [.b]⟩,
⟨1, 1, .int .u8, [.i .u8]⟩,
⟨1, 1, .int .u8, [.i .u8]⟩,
⟨4, 24, .st [(0, 2), (1, 3), (2, 4), (3, 6)], [.i .i64, .i .i64, .b, .i .u8]⟩,
⟨4, 24, .st [(0, 2), (1, 3), (2, 4), (3, 6)], [.i .i64, .i .i64, .b, .i .u8]⟩,
⟨1, 16, .str, [.s]⟩,
⟨1, 16, .str, [.s]⟩,
⟨1, 16, .str, [.s]⟩,
⟨1, 8, .int .u64, [.i .u64]⟩,
⟨2, 24, .st [(0, 9), (1, 12)], [.s, .i .u64]⟩,
⟨2, 24, .st [(0, 9), (1, 12)], [.s, .i .u64]⟩,
⟨1, 8, .ptr 333, [.np]⟩,
⟨1, 8, .ptr 336, [.np]⟩,
⟨1, 8, .ptr 343, [.np]⟩,
⟨1, 8, .st [(0, 17)], [.np]⟩,
⟨1, 8, .st [(0, 17)], [.np]⟩,
⟨1, 16, .oth, [.ni]⟩,
⟨1, 4, .int .i32, [.i .i32]⟩,
⟨1, 24, .sl 3, [.sl]⟩,
⟨6, 64, .st [(0, 3), (1, 3), (2, 22), (3, 3), (4, 3), (5, 3)], [.i .i64, .i .i64, .sl, .i .i64, .i .i64, .i .i64]⟩,
⟨6, 64, .st [(0, 3), (1, 3), (2, 22), (3, 3), (4, 3), (5, 3)], [.i .i64, .i .i64, .sl, .i .i64, .i .i64, .i .i64]⟩,
⟨1, 8, .int .i64, [.i .i64]⟩,
⟨1, 0, .oth, []⟩,
⟨1, 8, .oth, [.nf]⟩,
⟨1, 0, .oth, []⟩,
⟨1, 8, .oth, [.nf]⟩,
⟨1, 8, .oth, [.nf]⟩,
⟨1, 8, .oth, [.nf]⟩,
⟨1, 8, .oth, [.nf]⟩,
⟨1, 8, .oth, [.nf]⟩,
⟨1, 8, .oth, [.nf]⟩,
⟨1, 8, .oth, [.nf]⟩,
⟨1, 8, .oth, [.nf]⟩,
⟨1, 8, .oth, [.nf]⟩,
⟨1, 24, .sl 211, [.sl]⟩,
⟨1, 8, .oth, [.nf]⟩,
⟨1, 0, .oth, []⟩,
⟨1, 8, .oth, [.nf]⟩,
⟨1, 8, .oth, [.nf]⟩,
⟨1, 24, .sl 47, [.sl]⟩,
⟨1, 8, .oth, [.nf]⟩,
⟨1, 8, .oth, [.nf]⟩,
⟨1, 8, .oth, [.nf]⟩,
⟨3, 24, .arr 3 3, [.i .i64, .i .i64, .i .i64]⟩,
⟨1, 8, .oth, [.nf]⟩,
⟨1, 8, .oth, [.nf]⟩,
⟨1, 24, .sl 59, [.sl]⟩,
⟨1, 24, .sl 65, [.sl]⟩,
⟨1, 24, .sl 4, [.sl]⟩,
⟨1, 0, .oth, []⟩,
⟨1, 8, .oth, [.nf]⟩,
⟨1, 0, .oth, []⟩,
⟨1, 8, .oth, [.nf]⟩,
⟨1, 8, .oth, [.nf]⟩,
⟨2, 16, .st [(0, 3), (1, 3)], [.i .i64, .i .i64]⟩,
⟨2, 16, .st [(0, 3), (1, 3)], [.i .i64, .i .i64]⟩,
⟨1, 8, .oth, [.nf]⟩,
⟨1, 8, .oth, [.nf]⟩,
⟨1, 8, .oth, [.nf]⟩,
⟨1, 8, .oth, [.nf]⟩,
⟨3, 24, .st [(0, 3), (1, 3), (2, 4)], [.i .i64, .i .i64, .b]⟩,
⟨3, 24, .st [(0, 3), (1, 3), (2, 4)], [.i .i64, .i .i64, .b]⟩,
⟨1, 8, .oth, [.nf]⟩,
⟨1, 8, .oth, [.nf]⟩,
⟨1, 8, .oth, [.nf]⟩,
⟨1, 8, .oth, [.nf]⟩,
⟨8, 80, .st [(0, 3), (1, 3), (2, 3), (3, 3), (4, 3), (5, 3), (6, 3), (7, 22)], [.i .i64, .i .i64, .i .i64, .i .i64, .i .i64, .i .i64, .i .i64, .sl]⟩,
⟨8, 80, .st [(0, 3), (1, 3), (2, 3), (3, 3), (4, 3), (5, 3), (6, 3), (7, 22)], [.i .i64, .i .i64, .i .i64, .i .i64, .i .i64, .i .i64, .i .i64, .sl]⟩,
⟨1, 24, .sl 71, [.sl]⟩,
⟨1, 24, .sl 83, [.sl]⟩,
⟨1, 8, .oth, [.nf]⟩,
⟨8, 80, .st [(0, 3), (1, 3), (2, 3), (3, 3), (4, 3), (5, 3), (6, 3), (7, 22)], [.i .i64, .i .i64, .i .i64, .i .i64, .i .i64, .i .i64, .i .i64, .sl]⟩,
⟨1, 8, .oth, [.nf]⟩,
⟨1, 0, .oth, []⟩,
⟨1, 8, .oth, [.nf]⟩,
⟨1, 8, .oth, [.nf]⟩,
⟨1, 0, .oth, []⟩,
⟨1, 8, .oth, [.nf]⟩,
⟨2, 24, .st [(0, 9), (1, 3)], [.s, .i .i64]⟩,
⟨2, 24, .st [(0, 9), (1, 3)], [.s, .i .i64]⟩,
⟨1, 8, .oth, [.nf]⟩,
⟨1, 8, .oth, [.nf]⟩,
⟨1, 8, .oth, [.nf]⟩,
⟨16, 128, .arr 16 3, List.replicate 16 (.i .i64)⟩,
⟨18, 144, .st [(0, 3), (1, 3), (2, 87)], List.replicate 18 (.i .i64)⟩,
⟨18, 144, .st [(0, 3), (1, 3), (2, 87)], List.replicate 18 (.i .i64)⟩,
⟨1, 0, .oth, []⟩,
⟨1, 8, .oth, [.nf]⟩,
⟨1, 8, .oth, [.nf]⟩,
⟨1, 8, .oth, [.nf]⟩,
⟨1, 0, .oth, []⟩,
⟨1, 8, .oth, [.nf]⟩,
⟨1, 8, .oth, [.nf]⟩,
⟨1, 8, .oth, [.nf]⟩,
⟨1, 8, .oth, [.nf]⟩,
⟨18, 176, .st [(0, 22), (1, 22), (2, 87)], (List.replicate 2 (.sl) ++ List.replicate 16 (.i .i64))⟩,
⟨18, 176, .st [(0, 22), (1, 22), (2, 87)], (List.replicate 2 (.sl) ++ List.replicate 16 (.i .i64))⟩,
⟨1, 8, .oth, [.nf]⟩,
⟨1, 8, .oth, [.nf]⟩,
⟨1, 8, .oth, [.nf]⟩,
⟨1, 8, .oth, [.nf]⟩,
⟨1, 8, .oth, [.nf]⟩,
⟨1, 24, .sl 229, [.sl]⟩,
⟨1, 24, .sl 5, [.sl]⟩,
⟨1, 8, .oth, [.nf]⟩,
⟨1, 0, .oth, []⟩,
⟨1, 8, .oth, [.nf]⟩,
⟨1, 0, .oth, []⟩,
⟨1, 8, .oth, [.nf]⟩,
⟨1, 0, .oth, []⟩,
⟨1, 8, .oth, [.nf]⟩,
⟨1, 8, .oth, [.nf]⟩,
⟨1, 24, .sl 121, [.sl]⟩,
⟨1, 8, .oth, [.nf]⟩,
⟨1, 8, .oth, [.nf]⟩,
⟨1, 8, .oth, [.nf]⟩,
⟨1, 8, .oth, [.nf]⟩,
⟨2, 16, .arr 2 3, [.i .i64, .i .i64]⟩,
⟨1, 8, .oth, [.nf]⟩,
⟨1, 8, .oth, [.nf]⟩,
⟨1, 8, .oth, [.nf]⟩,
⟨1, 8, .oth, [.nf]⟩,
⟨1, 8, .oth, [.nf]⟩,
⟨1, 0, .oth, []⟩,
⟨1, 8, .oth, [.nf]⟩,
⟨1, 0, .oth, []⟩,
⟨1, 8, .oth, [.nf]⟩,
⟨1, 8, .oth, [.nf]⟩,
⟨1, 8, .oth, [.nf]⟩,
⟨6, 48, .st [(0, 3), (1, 3), (2, 3), (3, 3), (4, 3), (5, 3)], [.i .i64, .i .i64, .i .i64, .i .i64, .i .i64, .i .i64]⟩,
⟨6, 48, .st [(0, 3), (1, 3), (2, 3), (3, 3), (4, 3), (5, 3)], [.i .i64, .i .i64, .i .i64, .i .i64, .i .i64, .i .i64]⟩,
⟨1, 8, .oth, [.nf]⟩,
⟨1, 8, .oth, [.nf]⟩,
⟨1, 8, .oth, [.nf]⟩,
⟨1, 8, .oth, [.nf]⟩,
⟨1, 24, .sl 233, [.sl]⟩,
⟨1, 24, .sl 155, [.sl]⟩,
⟨1, 8, .oth, [.nf]⟩,
⟨1, 8, .oth, [.nf]⟩,
⟨1, 0, .oth, []⟩,
⟨1, 8, .oth, [.nf]⟩,
⟨1, 0, .oth, []⟩,
⟨1, 8, .oth, [.nf]⟩,
⟨1, 8, .oth, [.nf]⟩,
⟨1, 8, .oth, [.nf]⟩,
⟨1, 8, .oth, [.nf]⟩,
⟨1, 8, .oth, [.nf]⟩,
⟨1, 8, .oth, [.nf]⟩,
⟨1, 8, .oth, [.nf]⟩,
⟨1, 8, .oth, [.nf]⟩,
⟨2, 16, .st [(0, 3), (1, 3)], [.i .i64, .i .i64]⟩,
⟨2, 16, .st [(0, 3), (1, 3)], [.i .i64, .i .i64]⟩,
⟨1, 8, .oth, [.nf]⟩,
⟨1, 8, .oth, [.nf]⟩,
⟨1, 8, .oth, [.nf]⟩,
⟨1, 24, .sl 166, [.sl]⟩,
⟨1, 8, .ptr 245, [.np]⟩,
⟨1, 8, .oth, [.nf]⟩,
⟨1, 24, .sl 180, [.sl]⟩,
⟨1, 24, .sl 180, [.sl]⟩,
⟨1, 8, .oth, [.nf]⟩,
⟨3, 24, .st [(0, 3), (1, 3), (2, 3)], [.i .i64, .i .i64, .i .i64]⟩,
⟨3, 24, .st [(0, 3), (1, 3), (2, 3)], [.i .i64, .i .i64, .i .i64]⟩,
⟨1, 8, .oth, [.nf]⟩,
⟨1, 8, .oth, [.nf]⟩,
⟨1, 8, .oth, [.nf]⟩,
⟨1, 0, .oth, []⟩,
⟨1, 8, .oth, [.nf]⟩,
⟨1, 8, .oth, [.nf]⟩,
⟨1, 8, .oth, [.nf]⟩,
⟨1, 0, .oth, []⟩,
⟨1, 8, .oth, [.nf]⟩,
⟨1, 0, .oth, []⟩,
⟨1, 8, .oth, [.nf]⟩,
⟨1, 8, .oth, [.nf]⟩,
⟨5, 40, .st [(0, 3), (1, 3), (2, 3), (3, 3), (4, 4)], [.i .i64, .i .i64, .i .i64, .i .i64, .b]⟩,
⟨5, 40, .st [(0, 3), (1, 3), (2, 3), (3, 3), (4, 4)], [.i .i64, .i .i64, .i .i64, .i .i64, .b]⟩,
⟨1, 8, .oth, [.nf]⟩,
⟨1, 8, .oth, [.nf]⟩,
⟨1, 8, .oth, [.nf]⟩,
⟨1, 8, .oth, [.nf]⟩,
⟨1, 24, .sl 202, [.sl]⟩,
⟨1, 8, .ptr 256, [.np]⟩,
⟨1, 8, .oth, [.nf]⟩,
⟨1, 8, .oth, [.nf]⟩,
⟨5, 40, .st [(0, 3), (1, 3), (2, 3), (3, 4), (4, 3)], [.i .i64, .i .i64, .i .i64, .b, .i .i64]⟩,
⟨5, 40, .st [(0, 3), (1, 3), (2, 3), (3, 4), (4, 3)], [.i .i64, .i .i64, .i .i64, .b, .i .i64]⟩,
⟨1, 24, .sl 190, [.sl]⟩,
⟨1, 0, .oth, []⟩,
⟨1, 8, .oth, [.nf]⟩,
⟨1, 8, .ptr 199, [.np]⟩,
⟨1, 24, .sl 200, [.sl]⟩,
⟨8, 64, .arr 8 3, [.i .i64, .i .i64, .i .i64, .i .i64, .i .i64, .i .i64, .i .i64, .i .i64]⟩,
⟨136, 1088, .arr 17 196, List.replicate 136 (.i .i64)⟩,
⟨137, 1112, .st [(0, 195), (1, 197)], (List.replicate 1 (.sl) ++ List.replicate 136 (.i .i64))⟩,
⟨137, 1112, .st [(0, 195), (1, 197)], (List.replicate 1 (.sl) ++ List.replicate 136 (.i .i64))⟩,
⟨5, 40, .st [(0, 3), (1, 3), (2, 3), (3, 4), (4, 3)], [.i .i64, .i .i64, .i .i64, .b, .i .i64]⟩,
⟨9, 72, .st [(0, 3), (1, 3), (2, 3), (3, 3), (4, 200)], [.i .i64, .i .i64, .i .i64, .i .i64, .i .i64, .i .i64, .i .i64, .b, .i .i64]⟩,
⟨9, 72, .st [(0, 3), (1, 3), (2, 3), (3, 3), (4, 200)], [.i .i64, .i .i64, .i .i64, .i .i64, .i .i64, .i .i64, .i .i64, .b, .i .i64]⟩,
⟨1, 8, .oth, [.nf]⟩,
⟨1, 8, .oth, [.nf]⟩,
⟨1, 8, .oth, [.nf]⟩,
⟨1, 8, .oth, [.nf]⟩,
⟨1, 8, .oth, [.nf]⟩,
⟨1, 8, .oth, [.nf]⟩,
⟨1, 8, .int .u64, [.i .u64]⟩,
⟨3, 24, .st [(0, 3), (1, 3), (2, 3)], [.i .i64, .i .i64, .i .i64]⟩,
⟨3, 24, .st [(0, 3), (1, 3), (2, 3)], [.i .i64, .i .i64, .i .i64]⟩,
⟨1, 0, .oth, []⟩,
⟨1, 8, .oth, [.nf]⟩,
⟨1, 8, .oth, [.nf]⟩,
⟨100, 100, .arr 100 4, List.replicate 100 (.b)⟩,
⟨1, 24, .sl 50, [.sl]⟩,
⟨1, 8, .oth, [.nf]⟩,
⟨6, 6, .arr 6 4, [.b, .b, .b, .b, .b, .b]⟩,
⟨1, 8, .oth, [.nf]⟩,
⟨1, 8, .oth, [.nf]⟩,
⟨1, 8, .oth, [.nf]⟩,
⟨1, 8, .oth, [.nf]⟩,
⟨1, 8, .oth, [.nf]⟩,
⟨1, 8, .oth, [.nf]⟩,
⟨1, 8, .oth, [.nf]⟩,
⟨1, 8, .oth, [.nf]⟩,
⟨1, 8, .oth, [.nf]⟩,
⟨2, 16, .st [(0, 3), (1, 3)], [.i .i64, .i .i64]⟩,
⟨2, 16, .st [(0, 3), (1, 3)], [.i .i64, .i .i64]⟩,
⟨1, 8, .oth, [.nf]⟩,
⟨1, 8, .oth, [.nf]⟩,
⟨1, 8, .oth, [.nf]⟩,
⟨2, 16, .st [(0, 3), (1, 3)], [.i .i64, .i .i64]⟩,
⟨1, 8, .oth, [.nf]⟩,
⟨1, 8, .oth, [.nf]⟩,
⟨1, 8, .oth, [.nf]⟩,
⟨1, 8, .oth, [.nf]⟩,
⟨1, 8, .oth, [.nm]⟩,
⟨1, 0, .oth, []⟩,
⟨1, 8, .oth, [.nf]⟩,
⟨4, 32, .st [(0, 3), (1, 3), (2, 3), (3, 3)], [.i .i64, .i .i64, .i .i64, .i .i64]⟩,
⟨4, 32, .st [(0, 3), (1, 3), (2, 3), (3, 3)], [.i .i64, .i .i64, .i .i64, .i .i64]⟩,
⟨68, 544, .arr 17 242, List.replicate 68 (.i .i64)⟩,
⟨68, 544, .st [(0, 243)], List.replicate 68 (.i .i64)⟩,
⟨68, 544, .st [(0, 243)], List.replicate 68 (.i .i64)⟩,
⟨1, 8, .oth, [.nf]⟩,
⟨1, 8, .oth, [.nf]⟩,
⟨1, 8, .oth, [.nf]⟩,
⟨1, 8, .oth, [.nf]⟩,
⟨1, 8, .oth, [.nf]⟩,
⟨1, 8, .oth, [.nf]⟩,
⟨6, 48, .st [(0, 190), (5, 3)], [.i .i64, .i .i64, .i .i64, .b, .i .i64, .i .i64]⟩,
⟨6, 48, .st [(0, 190), (5, 3)], [.i .i64, .i .i64, .i .i64, .b, .i .i64, .i .i64]⟩,
⟨192, 1536, .arr 32 253, (List.replicate 32 [.i .i64, .i .i64, .i .i64, .b, .i .i64, .i .i64]).flatten⟩,
⟨328, 2624, .st [(0, 254), (192, 197)], [.i .i64, .i .i64, .i .i64, .b, .i .i64, .i .i64, .i .i64, .i .i64, .i .i64, .b, .i .i64, .i .i64, .i .i64, .i .i64, .i .i64, .b, .i .i64, .i .i64, .i .i64, .i .i64, .i .i64, .b, .i .i64, .i .i64, .i .i64, .i .i64, .i .i64, .b, .i .i64, .i .i64, .i .i64, .i .i64, .i .i64, .b, .i .i64, .i .i64, .i .i64, .i .i64, .i .i64, .b, .i .i64, .i .i64, .i .i64, .i .i64, .i .i64, .b, .i .i64, .i .i64, .i .i64, .i .i64, .i .i64, .b, .i .i64, .i .i64, .i .i64, .i .i64, .i .i64, .b, .i .i64, .i .i64, .i .i64, .i .i64, .i .i64, .b, .i .i64, .i .i64, .i .i64, .i .i64, .i .i64, .b, .i .i64, .i .i64, .i .i64, .i .i64, .i .i64, .b, .i .i64, .i .i64, .i .i64, .i .i64, .i .i64, .b, .i .i64, .i .i64, .i .i64, .i .i64, .i .i64, .b, .i .i64, .i .i64, .i .i64, .i .i64, .i .i64, .b, .i .i64, .i .i64, .i .i64, .i .i64, .i .i64, .b, .i .i64, .i .i64, .i .i64, .i .i64, .i .i64, .b, .i .i64, .i .i64, .i .i64, .i .i64, .i .i64, .b, .i .i64, .i .i64, .i .i64, .i .i64, .i .i64, .b, .i .i64, .i .i64, .i .i64, .i .i64, .i .i64, .b, .i .i64, .i .i64, .i .i64, .i .i64, .i .i64, .b, .i .i64, .i .i64, .i .i64, .i .i64, .i .i64, .b, .i .i64, .i .i64, .i .i64, .i .i64, .i .i64, .b, .i .i64, .i .i64, .i .i64, .i .i64, .i .i64, .b, .i .i64, .i .i64, .i .i64, .i .i64, .i .i64, .b, .i .i64, .i .i64, .i .i64, .i .i64, .i .i64, .b, .i .i64, .i .i64, .i .i64, .i .i64, .i .i64, .b, .i .i64, .i .i64, .i .i64, .i .i64, .i .i64, .b, .i .i64, .i .i64, .i .i64, .i .i64, .i .i64, .b, .i .i64, .i .i64, .i .i64, .i .i64, .i .i64, .b, .i .i64, .i .i64, .i .i64, .i .i64, .i .i64, .b, .i .i64, .i .i64, .i .i64, .i .i64, .i .i64, .i .i64, .i .i64, .i .i64, .i .i64, .i .i64, .i .i64, .i .i64, .i .i64, .i .i64, .i .i64, .i .i64, .i .i64, .i .i64, .i .i64, .i .i64, .i .i64, .i .i64, .i .i64, .i .i64, .i .i64, .i .i64, .i .i64, .i .i64, .i .i64, .i .i64, .i .i64, .i .i64, .i .i64, .i .i64, .i .i64, .i .i64, .i .i64, .i .i64, .i .i64, .i .i64, .i .i64, .i .i64, .i .i64, .i .i64, .i .i64, .i .i64, .i .i64, .i .i64, .i .i64, .i .i64, .i .i64, .i .i64, .i .i64, .i .i64, .i .i64, .i .i64, .i .i64, .i .i64, .i .i64, .i .i64, .i .i64, .i .i64, .i .i64, .i .i64, .i .i64, .i .i64, .i .i64, .i .i64, .i .i64, .i .i64, .i .i64, .i .i64, .i .i64, .i .i64, .i .i64, .i .i64, .i .i64, .i .i64, .i .i64, .i .i64, .i .i64, .i .i64, .i .i64, .i .i64, .i .i64, .i .i64, .i .i64, .i .i64, .i .i64, .i .i64, .i .i64, .i .i64, .i .i64, .i .i64, .i .i64, .i .i64, .i .i64, .i .i64, .i .i64, .i .i64, .i .i64, .i .i64, .i .i64, .i .i64, .i .i64, .i .i64, .i .i64, .i .i64, .i .i64, .i .i64, .i .i64, .i .i64, .i .i64, .i .i64, .i .i64, .i .i64, .i .i64, .i .i64, .i .i64, .i .i64, .i .i64, .i .i64, .i .i64, .i .i64, .i .i64, .i .i64, .i .i64, .i .i64, .i .i64, .i .i64, .i .i64, .i .i64, .i .i64, .i .i64, .i .i64, .i .i64, .i .i64, .i .i64]⟩,
⟨328, 2624, .st [(0, 254), (192, 197)], [.i .i64, .i .i64, .i .i64, .b, .i .i64, .i .i64, .i .i64, .i .i64, .i .i64, .b, .i .i64, .i .i64, .i .i64, .i .i64, .i .i64, .b, .i .i64, .i .i64, .i .i64, .i .i64, .i .i64, .b, .i .i64, .i .i64, .i .i64, .i .i64, .i .i64, .b, .i .i64, .i .i64, .i .i64, .i .i64, .i .i64, .b, .i .i64, .i .i64, .i .i64, .i .i64, .i .i64, .b, .i .i64, .i .i64, .i .i64, .i .i64, .i .i64, .b, .i .i64, .i .i64, .i .i64, .i .i64, .i .i64, .b, .i .i64, .i .i64, .i .i64, .i .i64, .i .i64, .b, .i .i64, .i .i64, .i .i64, .i .i64, .i .i64, .b, .i .i64, .i .i64, .i .i64, .i .i64, .i .i64, .b, .i .i64, .i .i64, .i .i64, .i .i64, .i .i64, .b, .i .i64, .i .i64, .i .i64, .i .i64, .i .i64, .b, .i .i64, .i .i64, .i .i64, .i .i64, .i .i64, .b, .i .i64, .i .i64, .i .i64, .i .i64, .i .i64, .b, .i .i64, .i .i64, .i .i64, .i .i64, .i .i64, .b, .i .i64, .i .i64, .i .i64, .i .i64, .i .i64, .b, .i .i64, .i .i64, .i .i64, .i .i64, .i .i64, .b, .i .i64, .i .i64, .i .i64, .i .i64, .i .i64, .b, .i .i64, .i .i64, .i .i64, .i .i64, .i .i64, .b, .i .i64, .i .i64, .i .i64, .i .i64, .i .i64, .b, .i .i64, .i .i64, .i .i64, .i .i64, .i .i64, .b, .i .i64, .i .i64, .i .i64, .i .i64, .i .i64, .b, .i .i64, .i .i64, .i .i64, .i .i64, .i .i64, .b, .i .i64, .i .i64, .i .i64, .i .i64, .i .i64, .b, .i .i64, .i .i64, .i .i64, .i .i64, .i .i64, .b, .i .i64, .i .i64, .i .i64, .i .i64, .i .i64, .b, .i .i64, .i .i64, .i .i64, .i .i64, .i .i64, .b, .i .i64, .i .i64, .i .i64, .i .i64, .i .i64, .b, .i .i64, .i .i64, .i .i64, .i .i64, .i .i64, .b, .i .i64, .i .i64, .i .i64, .i .i64, .i .i64, .b, .i .i64, .i .i64, .i .i64, .i .i64, .i .i64, .i .i64, .i .i64, .i .i64, .i .i64, .i .i64, .i .i64, .i .i64, .i .i64, .i .i64, .i .i64, .i .i64, .i .i64, .i .i64, .i .i64, .i .i64, .i .i64, .i .i64, .i .i64, .i .i64, .i .i64, .i .i64, .i .i64, .i .i64, .i .i64, .i .i64, .i .i64, .i .i64, .i .i64, .i .i64, .i .i64, .i .i64, .i .i64, .i .i64, .i .i64, .i .i64, .i .i64, .i .i64, .i .i64, .i .i64, .i .i64, .i .i64, .i .i64, .i .i64, .i .i64, .i .i64, .i .i64, .i .i64, .i .i64, .i .i64, .i .i64, .i .i64, .i .i64, .i .i64, .i .i64, .i .i64, .i .i64, .i .i64, .i .i64, .i .i64, .i .i64, .i .i64, .i .i64, .i .i64, .i .i64, .i .i64, .i .i64, .i .i64, .i .i64, .i .i64, .i .i64, .i .i64, .i .i64, .i .i64, .i .i64, .i .i64, .i .i64, .i .i64, .i .i64, .i .i64, .i .i64, .i .i64, .i .i64, .i .i64, .i .i64, .i .i64, .i .i64, .i .i64, .i .i64, .i .i64, .i .i64, .i .i64, .i .i64, .i .i64, .i .i64, .i .i64, .i .i64, .i .i64, .i .i64, .i .i64, .i .i64, .i .i64, .i .i64, .i .i64, .i .i64, .i .i64, .i .i64, .i .i64, .i .i64, .i .i64, .i .i64, .i .i64, .i .i64, .i .i64, .i .i64, .i .i64, .i .i64, .i .i64, .i .i64, .i .i64, .i .i64, .i .i64, .i .i64, .i .i64, .i .i64, .i .i64, .i .i64, .i .i64, .i .i64, .i .i64, .i .i64, .i .i64, .i .i64, .i .i64]⟩,
⟨1, 0, .oth, []⟩,
⟨1, 8, .oth, [.nf]⟩,
⟨1, 8, .oth, [.nf]⟩,
⟨1, 8, .oth, [.nf]⟩,
⟨1, 0, .oth, []⟩,
⟨1, 8, .oth, [.nf]⟩,
⟨1, 8, .ptr 200, [.np]⟩,
⟨1, 8, .oth, [.nf]⟩,
⟨1, 8, .oth, [.nf]⟩,
⟨1, 0, .oth, []⟩,
⟨1, 8, .oth, [.nf]⟩,
⟨1, 8, .oth, [.nf]⟩,
⟨1, 8, .oth, [.nf]⟩,
⟨1, 8, .int .i64, [.i .i64]⟩,
⟨1, 0, .oth, []⟩,
⟨1, 8, .oth, [.nf]⟩,
⟨1, 8, .oth, [.nf]⟩,
⟨1, 8, .oth, [.nf]⟩,
⟨1, 8, .oth, [.nf]⟩,
⟨1, 8, .oth, [.nf]⟩,
⟨1, 8, .oth, [.nf]⟩,
⟨1, 4, .int .u32, [.i .u32]⟩,
⟨1, 8, .oth, [.nf]⟩,
⟨1, 8, .int .u64, [.i .u64]⟩,
⟨1, 8, .oth, [.nf]⟩,
⟨1, 8, .oth, [.nf]⟩,
⟨1, 0, .oth, []⟩,
⟨1, 8, .oth, [.nf]⟩,
⟨1, 8, .oth, [.nf]⟩,
⟨1, 8, .ptr 288, [.np]⟩,
⟨2, 32, .st [(0, 286), (1, 107)], [.np, .sl]⟩,
⟨2, 32, .st [(0, 286), (1, 107)], [.np, .sl]⟩,
⟨1, 8, .oth, [.nf]⟩,
⟨1, 16, .oth, [.ni]⟩,
⟨1, 16, .oth, [.ni]⟩,
⟨1, 0, .oth, []⟩,
⟨1, 8, .oth, [.nf]⟩,
⟨1, 8, .oth, [.nf]⟩,
⟨1, 8, .oth, [.nf]⟩,
⟨1, 8, .oth, [.nf]⟩,
⟨1, 8, .oth, [.nf]⟩,
⟨1, 8, .oth, [.nf]⟩,
⟨1, 8, .ptr 253, [.np]⟩,
⟨1, 0, .oth, []⟩,
⟨1, 8, .oth, [.nf]⟩,
⟨1, 8, .oth, [.nf]⟩,
⟨1, 8, .oth, [.nf]⟩,
⟨1, 8, .oth, [.nf]⟩,
⟨1, 8, .oth, [.nf]⟩,
⟨1, 8, .int .u64, [.i .u64]⟩,
⟨1, 8, .oth, [.nf]⟩,
⟨1, 8, .oth, [.nf]⟩,
⟨1, 8, .oth, [.nf]⟩,
⟨1, 8, .ptr 3, [.np]⟩,
⟨1, 8, .oth, [.nf]⟩,
⟨1, 0, .oth, []⟩,
⟨1, 8, .oth, [.nf]⟩,
⟨1, 0, .oth, []⟩,
⟨1, 8, .oth, [.nf]⟩,
⟨1, 8, .ptr 5, [.np]⟩,
⟨1, 8, .oth, [.nf]⟩,
⟨1, 8, .oth, [.nf]⟩,
⟨1, 8, .oth, [.nf]⟩,
⟨1, 8, .oth, [.nf]⟩,
⟨1, 8, .oth, [.nf]⟩,
⟨1, 8, .ptr 306, [.np]⟩,
⟨1, 0, .oth, []⟩,
⟨1, 8, .oth, [.nf]⟩,
⟨1, 8, .oth, [.np]⟩,
⟨1, 8, .oth, [.nf]⟩,
⟨1, 8, .oth, [.nf]⟩,
⟨1, 8, .oth, [.nf]⟩,
⟨1, 8, .oth, [.nf]⟩,
⟨1, 8, .oth, [.nf]⟩,
⟨1, 8, .oth, [.nf]⟩,
⟨4, 40, .st [(0, 17), (1, 17), (2, 17), (3, 9)], [.np, .np, .np, .s]⟩,
⟨4, 40, .st [(0, 17), (1, 17), (2, 17), (3, 9)], [.np, .np, .np, .s]⟩,
⟨0, 0, .arr 0 16, []⟩,
⟨0, 0, .st [(0, 334)], []⟩,
⟨0, 0, .st [(0, 334)], []⟩,
⟨1, 1, .int .u8, [.i .u8]⟩,
⟨1, 1, .int .u8, [.i .u8]⟩,
⟨1, 8, .oth, [.nf]⟩,
⟨1, 4, .int .i32, [.i .i32]⟩,
⟨1, 4, .int .i32, [.i .i32]⟩,
⟨11, 48, .st [(0, 12), (1, 12), (2, 278), (3, 337), (4, 5), (5, 5), (6, 338), (7, 339), (8, 316), (9, 340), (10, 341)], [.i .u64, .i .u64, .i .u32, .i .u8, .i .u8, .i .u8, .i .u8, .nf, .np, .i .i32, .i .i32]⟩,
⟨11, 48, .st [(0, 12), (1, 12), (2, 278), (3, 337), (4, 5), (5, 5), (6, 338), (7, 339), (8, 316), (9, 340), (10, 341)], [.i .u64, .i .u64, .i .u32, .i .u8, .i .u8, .i .u8, .i .u8, .nf, .np, .i .i32, .i .i32]⟩]
theorem TTok : TOk Try.prog TT := by unfold TOk; kernel_rfl
theorem mix : Try.prog.follows .mixedOrders = true := by kernel_rfl
structure S_sig_Set where
  fPending : Int
  fMask : Int
  fHow : (Fin 16 → Int)
def cS_sig_Set (x : S_sig_Set) : List PV := [.v (.int .i64 x.fPending), .v (.int .i64 x.fMask), .v (.int .i64 (x.fHow 0)), .v (.int .i64 (x.fHow 1)), .v (.int .i64 (x.fHow 2)), .v (.int .i64 (x.fHow 3)), .v (.int .i64 (x.fHow 4)), .v (.int .i64 (x.fHow 5)), .v (.int .i64 (x.fHow 6)), .v (.int .i64 (x.fHow 7)), .v (.int .i64 (x.fHow 8)), .v (.int .i64 (x.fHow 9)), .v (.int .i64 (x.fHow 10)), .v (.int .i64 (x.fHow 11)), .v (.int .i64 (x.fHow 12)), .v (.int .i64 (x.fHow 13)), .v (.int .i64 (x.fHow 14)), .v (.int .i64 (x.fHow 15))]
def eS_sig_Set (x : S_sig_Set) : PV := .agg (cS_sig_Set x)
def cA_t87 (x : (Fin 16 → Int)) : List PV := (List.ofFn x).flatMap fun a => [.v (.int .i64 a)]
structure S_ringref5_Signals where
  fWait : (List Int)
  fBack : (List Int)
  fHow : (Fin 16 → Int)
def cS_ringref5_Signals (x : S_ringref5_Signals) : List PV := [.sl (x.fWait.map (eI .i64)), .sl (x.fBack.map (eI .i64)), .v (.int .i64 (x.fHow 0)), .v (.int .i64 (x.fHow 1)), .v (.int .i64 (x.fHow 2)), .v (.int .i64 (x.fHow 3)), .v (.int .i64 (x.fHow 4)), .v (.int .i64 (x.fHow 5)), .v (.int .i64 (x.fHow 6)), .v (.int .i64 (x.fHow 7)), .v (.int .i64 (x.fHow 8)), .v (.int .i64 (x.fHow 9)), .v (.int .i64 (x.fHow 10)), .v (.int .i64 (x.fHow 11)), .v (.int .i64 (x.fHow 12)), .v (.int .i64 (x.fHow 13)), .v (.int .i64 (x.fHow 14)), .v (.int .i64 (x.fHow 15))]
def eS_ringref5_Signals (x : S_ringref5_Signals) : PV := .agg (cS_ringref5_Signals x)
def eqA_16_int (x y : (Fin 16 → Int)) : Bool := (((x 0) == (y 0)) && (((x 1) == (y 1)) && (((x 2) == (y 2)) && (((x 3) == (y 3)) && (((x 4) == (y 4)) && (((x 5) == (y 5)) && (((x 6) == (y 6)) && (((x 7) == (y 7)) && (((x 8) == (y 8)) && (((x 9) == (y 9)) && (((x 10) == (y 10)) && (((x 11) == (y 11)) && (((x 12) == (y 12)) && (((x 13) == (y 13)) && (((x 14) == (y 14)) && (((x 15) == (y 15)) && true))))))))))))))))
theorem eqA_16_int_ok (x y : (Fin 16 → Int)) : EqA Try.prog 87 [((.int .i64 (x 0))), ((.int .i64 (x 1))), ((.int .i64 (x 2))), ((.int .i64 (x 3))), ((.int .i64 (x 4))), ((.int .i64 (x 5))), ((.int .i64 (x 6))), ((.int .i64 (x 7))), ((.int .i64 (x 8))), ((.int .i64 (x 9))), ((.int .i64 (x 10))), ((.int .i64 (x 11))), ((.int .i64 (x 12))), ((.int .i64 (x 13))), ((.int .i64 (x 14))), ((.int .i64 (x 15)))] [((.int .i64 (y 0))), ((.int .i64 (y 1))), ((.int .i64 (y 2))), ((.int .i64 (y 3))), ((.int .i64 (y 4))), ((.int .i64 (y 5))), ((.int .i64 (y 6))), ((.int .i64 (y 7))), ((.int .i64 (y 8))), ((.int .i64 (y 9))), ((.int .i64 (y 10))), ((.int .i64 (y 11))), ((.int .i64 (y 12))), ((.int .i64 (y 13))), ((.int .i64 (y 14))), ((.int .i64 (y 15)))] (eqA_16_int x y) := eqA_of TTok (by kernel_rfl) (by kernel_rfl) (by kernel_rfl)
def eqS_sig_Set (x y : S_sig_Set) : Bool := ((x.fPending == y.fPending) && ((x.fMask == y.fMask) && ((((x.fHow 0) == (y.fHow 0)) && (((x.fHow 1) == (y.fHow 1)) && (((x.fHow 2) == (y.fHow 2)) && (((x.fHow 3) == (y.fHow 3)) && (((x.fHow 4) == (y.fHow 4)) && (((x.fHow 5) == (y.fHow 5)) && (((x.fHow 6) == (y.fHow 6)) && (((x.fHow 7) == (y.fHow 7)) && (((x.fHow 8) == (y.fHow 8)) && (((x.fHow 9) == (y.fHow 9)) && (((x.fHow 10) == (y.fHow 10)) && (((x.fHow 11) == (y.fHow 11)) && (((x.fHow 12) == (y.fHow 12)) && (((x.fHow 13) == (y.fHow 13)) && (((x.fHow 14) == (y.fHow 14)) && (((x.fHow 15) == (y.fHow 15)) && true)))))))))))))))) && true)))
theorem eqS_sig_Set_ok (x y : S_sig_Set) : EqA Try.prog 89 [((.int .i64 x.fPending)), ((.int .i64 x.fMask)), ((.int .i64 (x.fHow 0))), ((.int .i64 (x.fHow 1))), ((.int .i64 (x.fHow 2))), ((.int .i64 (x.fHow 3))), ((.int .i64 (x.fHow 4))), ((.int .i64 (x.fHow 5))), ((.int .i64 (x.fHow 6))), ((.int .i64 (x.fHow 7))), ((.int .i64 (x.fHow 8))), ((.int .i64 (x.fHow 9))), ((.int .i64 (x.fHow 10))), ((.int .i64 (x.fHow 11))), ((.int .i64 (x.fHow 12))), ((.int .i64 (x.fHow 13))), ((.int .i64 (x.fHow 14))), ((.int .i64 (x.fHow 15)))] [((.int .i64 y.fPending)), ((.int .i64 y.fMask)), ((.int .i64 (y.fHow 0))), ((.int .i64 (y.fHow 1))), ((.int .i64 (y.fHow 2))), ((.int .i64 (y.fHow 3))), ((.int .i64 (y.fHow 4))), ((.int .i64 (y.fHow 5))), ((.int .i64 (y.fHow 6))), ((.int .i64 (y.fHow 7))), ((.int .i64 (y.fHow 8))), ((.int .i64 (y.fHow 9))), ((.int .i64 (y.fHow 10))), ((.int .i64 (y.fHow 11))), ((.int .i64 (y.fHow 12))), ((.int .i64 (y.fHow 13))), ((.int .i64 (y.fHow 14))), ((.int .i64 (y.fHow 15)))] (eqS_sig_Set x y) := eqA_of TTok (by kernel_rfl) (by kernel_rfl) (by kernel_rfl)
inductive G_sig_Check_C1_R where
  | x0 (v_x8 : Bool)
def G_sig_Check_C1_ex : G_sig_Check_C1_R → Ex
  | .x0 _ => .normal
def G_sig_Check_C1_st (v_s7 : S_sig_Set) : G_sig_Check_C1_R → PS
  | .x0 v_x8 => ⟨[dd, .ref 0 0, dd, dd, dd, dd, dd, dd, dd, dd, dd, dd, dd, dd, .d (.v (.bool v_x8)), dd, dd, dd, dd, dd, dd, dd, dd, dd, dd, dd, dd, dd, dd, dd, dd, dd, dd, dd, dd, dd, dd, dd, dd, dd, dd, dd, dd], [.box ((cS_sig_Set v_s7).map FV.d)]⟩
def G_sig_Check_C1_hd (v_s7 : S_sig_Set)  : PS := ⟨[dd, .ref 0 0, dd, dd, dd, dd, dd, dd, dd, dd, dd, dd, dd, dd, dd, dd, dd, dd, dd, dd, dd, dd, dd, dd, dd, dd, dd, dd, dd, dd, dd, dd, dd, dd, dd, dd, dd, dd, dd, dd, dd, dd, dd], [.box ((cS_sig_Set v_s7).map FV.d)]⟩
def G_sig_Check_C1 (n : Nat) (v_s7 : S_sig_Set) : Option G_sig_Check_C1_R :=
  if (bits .andNot .i64 v_s7.fPending 65534) = 0 then
   some (.x0 ((bits .andNot .i64 v_s7.fMask 65534) != 0))
  else
   some (.x0 true)
theorem G_sig_Check_C1_ok {Fi : Ex → PS → Prop} (hF : KC 43 Fi) (ks : List Fr) (n : Nat) (v_s7 : S_sig_Set)  (o : G_sig_Check_C1_R) (h : G_sig_Check_C1 n v_s7 = some o) (q : RunE Try.prog 43 Fi ks (G_sig_Check_C1_ex o) (G_sig_Check_C1_st v_s7 o)) : RunE Try.prog 43 Fi (.s (cL (cL (cR (bodyOf Try.f58)))) :: ks) .normal (G_sig_Check_C1_hd v_s7) := by
  unfold G_sig_Check_C1 at h
  by_cases h2 : (bits .andNot .i64 v_s7.fPending 65534) = 0
  · rw [if_pos h2] at h
    cases h
    exact pkk_sound TTok mix hF 1 (hs := [.c, .t false, .c, .c, .c, .c]) (ts := []) (s := [0]) (l := [1, 14]) (by kernel_rfl) (by kernel_rfl) (.cons (nf h2) .nil) q
  · rw [if_neg h2] at h
    cases h
    exact pkk_sound TTok mix hF 1 (hs := [.c, .t true, .c, .c, .c]) (ts := []) (s := [0]) (l := [1, 14]) (by kernel_rfl) (by kernel_rfl) (.cons (nt h2) .nil) q
inductive G_sig_Check_C2_R where
  | x0 (v_x20 : Bool)
def G_sig_Check_C2_ex : G_sig_Check_C2_R → Ex
  | .x0 _ => .normal
def G_sig_Check_C2_st (v_x12 : Int) (v_y19 : Int) (v_s7 : S_sig_Set) : G_sig_Check_C2_R → PS
  | .x0 v_x20 => ⟨[dd, .ref 0 0, dd, dd, dd, dd, dd, dd, dd, dd, dd, dd, dd, dd, dd, dd, .d (.agg (cA_t87 v_s7.fHow)), .d (.v (.int .i64 v_x12)), dd, dd, dd, dd, dd, dd, dd, dd, dd, dd, dd, dd, .d (.v (.bool v_x20)), dd, dd, dd, dd, dd, dd, dd, dd, dd, dd, dd, dd], [.box ((cS_sig_Set v_s7).map FV.d)]⟩
def G_sig_Check_C2_hd (v_x12 : Int) (v_y19 : Int) (v_s7 : S_sig_Set)  : PS := ⟨[dd, .ref 0 0, dd, .d (.v (.int .i64 v_x12)), .d (.v (.int .i64 v_y19)), dd, dd, dd, dd, dd, dd, dd, dd, dd, dd, dd, .d (.agg (cA_t87 v_s7.fHow)), .d (.v (.int .i64 v_x12)), dd, dd, dd, dd, dd, dd, dd, dd, dd, dd, dd, dd, dd, dd, dd, dd, dd, dd, dd, dd, dd, dd, dd, dd, dd], [.box ((cS_sig_Set v_s7).map FV.d)]⟩
def G_sig_Check_C2 (n : Nat) (v_x12 : Int) (v_y19 : Int) (v_s7 : S_sig_Set) : Option G_sig_Check_C2_R :=
  if v_y19 < 0 then
   some (.x0 true)
  else
   if v_x12 = 0 then
    some (.x0 (v_y19 != 0))
   else
    some (.x0 false)
theorem G_sig_Check_C2_ok {Fi : Ex → PS → Prop} (hF : KC 43 Fi) (ks : List Fr) (n : Nat) (v_x12 : Int) (v_y19 : Int) (v_s7 : S_sig_Set)  (o : G_sig_Check_C2_R) (h : G_sig_Check_C2 n v_x12 v_y19 v_s7 = some o) (q : RunE Try.prog 43 Fi ks (G_sig_Check_C2_ex o) (G_sig_Check_C2_st v_x12 v_y19 v_s7 o)) : RunE Try.prog 43 Fi (.s (cL (cR (cB (cL (cR (cR (cP (cB (cR (cL (cR (cR (bodyOf Try.f58))))))))))))) :: ks) .normal (G_sig_Check_C2_hd v_x12 v_y19 v_s7) := by
  unfold G_sig_Check_C2 at h
  by_cases h16 : v_y19 < 0
  · rw [if_pos h16] at h
    cases h
    exact pkk_sound TTok mix hF 1 (hs := [.t true, .c, .c, .c]) (ts := []) (s := [0]) (l := [1, 16, 17, 30]) (by kernel_rfl) (by kernel_rfl) (.cons (dt h16) .nil) q
  · rw [if_neg h16] at h
    by_cases h17 : v_x12 = 0
    · rw [if_pos h17] at h
      cases h
      exact pkk_sound TTok mix hF 1 (hs := [.t false, .c, .c, .t true, .c, .c]) (ts := []) (s := [0]) (l := [1, 16, 17, 30]) (by kernel_rfl) (by kernel_rfl) (.cons (df h16) (.cons (bt h17) .nil)) q
    · rw [if_neg h17] at h
      cases h
      exact pkk_sound TTok mix hF 1 (hs := [.t false, .c, .c, .t false, .c, .c]) (ts := []) (s := [0]) (l := [1, 16, 17, 30]) (by kernel_rfl) (by kernel_rfl) (.cons (df h16) (.cons (bf h17) .nil)) q
inductive G_sig_Check_L3_R where
  | x0 (v_x25 : Int)
  | x1 
def G_sig_Check_L3_ex : G_sig_Check_L3_R → Ex
  | .x0 _ => .ret
  | .x1  => .exit 0
def G_sig_Check_L3_st (v_s7 : S_sig_Set) : G_sig_Check_L3_R → PS
  | .x0 v_x25 => ⟨[dd, dd, .d (.v (.int .i64 v_x25)), dd, dd, dd, dd, dd, dd, dd, dd, dd, dd, dd, dd, dd, dd, dd, dd, dd, dd, dd, dd, dd, dd, dd, dd, dd, dd, dd, dd, dd, dd, dd, dd, dd, dd, dd, dd, dd, dd, dd, dd], []⟩
  | .x1  => ⟨[dd, .ref 0 0, dd, dd, dd, dd, dd, dd, dd, dd, dd, dd, dd, dd, dd, dd, dd, dd, dd, dd, dd, dd, dd, dd, dd, dd, dd, dd, dd, dd, dd, dd, dd, dd, dd, dd, dd, dd, dd, dd, dd, dd, dd], [.box ((cS_sig_Set v_s7).map FV.d)]⟩
def G_sig_Check_L3_hd (v_s7 : S_sig_Set) (v_x12 : Int) : PS := ⟨[dd, .ref 0 0, dd, dd, dd, dd, dd, dd, dd, dd, dd, dd, dd, dd, dd, dd, .d (.agg (cA_t87 v_s7.fHow)), .d (.v (.int .i64 v_x12)), dd, dd, dd, dd, dd, dd, dd, dd, dd, dd, dd, dd, dd, dd, dd, dd, dd, dd, dd, dd, dd, dd, dd, dd, dd], [.box ((cS_sig_Set v_s7).map FV.d)]⟩
def G_sig_Check_L3 (n : Nat) (v_s7 : S_sig_Set) : Nat → Int → Option G_sig_Check_L3_R
  | 0, _ => none
  | k + 1, v_x12 =>
    if v_x12 < 16 then
     (getA v_s7.fHow v_x12).bind fun (v_y19 : Int) =>
     (G_sig_Check_C2 n v_x12 v_y19 v_s7).bind fun v_o23 => match v_o23 with
     | .x0 v_z24 =>
       if v_z24 = true then
        some (.x0 1)
       else
        G_sig_Check_L3 n v_s7 k (wi .i64 (v_x12 + 1))
    else
     some (.x1 )
theorem G_sig_Check_L3_ok {Fi : Ex → PS → Prop} (hF : KC 43 Fi) (ks : List Fr) (n : Nat) (v_s7 : S_sig_Set)  : ∀ (k : Nat) (v_x12 : Int) (o : G_sig_Check_L3_R), G_sig_Check_L3 n v_s7 k v_x12 = some o → RunE Try.prog 43 Fi ks (G_sig_Check_L3_ex o) (G_sig_Check_L3_st v_s7 o) → RunE Try.prog 43 Fi (.l k (cP (cB (cR (cL (cR (cR (bodyOf Try.f58))))))) :: ks) .normal (G_sig_Check_L3_hd v_s7 v_x12)
  | 0, v_x12, o, h, q => by rw [G_sig_Check_L3] at h; cases h
  | k + 1, v_x12, o, h, q => by
    rw [G_sig_Check_L3] at h
    by_cases h5 : v_x12 < 16
    · rw [if_pos h5] at h
      obtain ⟨v_y19, h13, h⟩ := bind_some h
      obtain ⟨v_o23, h18, h⟩ := bind_some h
      refine pkk_sound TTok mix hF 11 (hs := [.t true, .l (.d (.v (.int .i64 v_y19)))]) (ts := []) (s := [0]) (l := [1, 3, 4, 16, 17]) (by kernel_rfl) (by kernel_rfl) (.cons (dt h5) (.cons (getA_ob0 (fun x => FV.d ((eI .i64) x)) h13) .nil)) (G_sig_Check_C2_ok hF (.s (cR (cR (cB (cL (cR (cR (cP (cB (cR (cL (cR (cR (bodyOf Try.f58))))))))))))) :: .b 1 :: .s (cR (cR (cR (cP (cB (cR (cL (cR (cR (bodyOf Try.f58)))))))))) :: .l k (cP (cB (cR (cL (cR (cR (bodyOf Try.f58))))))) :: ks) n v_x12 v_y19 v_s7 _ h18 ?_)
      cases v_o23 with
      | x0 v_z24 =>
        try dsimp only at h
        by_cases h19 : v_z24 = true
        · rw [if_pos h19] at h
          cases h
          exact pkk_sound TTok mix hF 7 (hs := [.t true]) (ts := []) (s := []) (l := [2]) (by kernel_rfl) (by kernel_rfl) (.cons h19 .nil) q
        · rw [if_neg h19] at h
          exact pkk_sound TTok mix hF 4 (hs := [.t false]) (ts := []) (s := [0]) (l := [1, 16, 17]) (by kernel_rfl) (by kernel_rfl) (.cons (vf h19) .nil) (G_sig_Check_L3_ok hF ks n v_s7 k (wi .i64 (v_x12 + 1)) _ h q)
    · rw [if_neg h5] at h
      cases h
      exact pkk_sound TTok mix hF 8 (hs := [.t false]) (ts := []) (s := [0]) (l := [1]) (by kernel_rfl) (by kernel_rfl) (.cons (df h5) .nil) q
/- ringhall/sig.Check -/
def G_sig_Check (n : Nat) (v_s7 : S_sig_Set) : Option (Int) :=
  (G_sig_Check_C1 n v_s7).bind fun v_o10 => match v_o10 with
  | .x0 v_z11 =>
    if v_z11 = true then
     some 1
    else
     (G_sig_Check_L3 n v_s7 n 0).bind fun v_o26 => match v_o26 with
     | .x0 v_z27 =>
       some v_z27
     | .x1  =>
       if (bits .and .i64 (shrI .i64 v_s7.fMask 9) 1) = 1 then
        some 3
       else
        if (v_s7.fHow 9) = 0 then
         some 0
        else
         some 3
theorem G_sig_Check_ok (n : Nat) (v_s7 : S_sig_Set) (r : Int) (h : G_sig_Check n v_s7 = some r) : Ret Try.prog 58 [eS_sig_Set v_s7] ((eI .i64) r) := by
  refine ret_run (n := 43) (fn := Try.f58) (c := bodyOf Try.f58) (by kernel_rfl) (by kernel_rfl) (by kernel_rfl) (by kernel_rfl) ?_
  have hF : KC 43 (FinR Try.prog Try.f58 ((eI .i64) r)) := FinR.kc' (by kernel_rfl)
  unfold G_sig_Check at h
  obtain ⟨v_o10, h3, h⟩ := bind_some h
  refine pkk_sound TTok mix hF 4 (hs := []) (ts := []) (s := [0]) (l := [1]) (by kernel_rfl) (by kernel_rfl) .nil (G_sig_Check_C1_ok hF (.s (cR (cL (cR (bodyOf Try.f58)))) :: .s (cR (cR (bodyOf Try.f58))) :: []) n v_s7 _ h3 ?_)
  cases v_o10 with
  | x0 v_z11 =>
    try dsimp only at h
    by_cases h4 : v_z11 = true
    · rw [if_pos h4] at h
      obtain rfl := Option.some.inj h
      exact pend_sound TTok mix 5 (hs := [.t true]) (by kernel_rfl) (by kernel_rfl) (by kernel_rfl) (.cons h4 .nil)
    · rw [if_neg h4] at h
      obtain ⟨v_o26, h20, h⟩ := bind_some h
      refine pkk_sound TTok mix hF 7 (hs := [.t false, .c, .n n]) (ts := []) (s := [0]) (l := [1, 16, 17]) (by kernel_rfl) (by kernel_rfl) (.cons (vf h4) .nil) (G_sig_Check_L3_ok hF (.b 0 :: .s (cR (cR (cR (bodyOf Try.f58)))) :: []) n v_s7 n 0 _ h20 ?_)
      cases v_o26 with
      | x0 v_z27 =>
        try dsimp only at h
        obtain rfl := Option.some.inj h
        exact pend_sound TTok mix 2 (hs := []) (by kernel_rfl) (by kernel_rfl) (by kernel_rfl) .nil
      | x1  =>
        try dsimp only at h
        by_cases h24 : (bits .and .i64 (shrI .i64 v_s7.fMask 9) 1) = 1
        · rw [if_pos h24] at h
          obtain rfl := Option.some.inj h
          exact pend_sound TTok mix 9 (hs := [.c, .t true, .c, .c, .c, .c]) (by kernel_rfl) (by kernel_rfl) (by kernel_rfl) (.cons (show (0 : Int) ≤ 9 by decide) (.cons (bt h24) .nil))
        · rw [if_neg h24] at h
          by_cases h25 : (v_s7.fHow 9) = 0
          · rw [if_pos h25] at h
            obtain rfl := Option.some.inj h
            exact pend_sound TTok mix 9 (hs := [.c, .t false, .c, .c, .c, .c, .t false]) (by kernel_rfl) (by kernel_rfl) (by kernel_rfl) (.cons (show (0 : Int) ≤ 9 by decide) (.cons (bf h24) (.cons (show (0 : Int) ≤ 9 ∧ (9 : Int) < 16 by decide) (.cons (nf h25) .nil))))
          · rw [if_neg h25] at h
            obtain rfl := Option.some.inj h
            exact pend_sound TTok mix 9 (hs := [.c, .t false, .c, .c, .c, .c, .t true]) (by kernel_rfl) (by kernel_rfl) (by kernel_rfl) (.cons (show (0 : Int) ≤ 9 by decide) (.cons (bf h24) (.cons (show (0 : Int) ≤ 9 ∧ (9 : Int) < 16 by decide) (.cons (nt h25) .nil))))
/- ringhall/sig.number -/
def G_sig_number (n : Nat) (v_n29 : Int) : Option (Bool) :=
  if v_n29 ≥ 1 then
   some (decide (v_n29 ≤ 15))
  else
   some false
theorem G_sig_number_ok (n : Nat) (v_n29 : Int) (r : Bool) (h : G_sig_number n v_n29 = some r) : Ret Try.prog 131 [(eI .i64) v_n29] (eB r) := by
  refine ret_run (n := 9) (fn := Try.f131) (c := bodyOf Try.f131) (by kernel_rfl) (by kernel_rfl) (by kernel_rfl) (by kernel_rfl) ?_
  have hF : KC 9 (FinR Try.prog Try.f131 (eB r)) := FinR.kc' (by kernel_rfl)
  unfold G_sig_number at h
  by_cases h29 : v_n29 ≥ 1
  · rw [if_pos h29] at h
    obtain rfl := Option.some.inj h
    exact pend_sound TTok mix 5 (hs := [.t true, .c]) (by kernel_rfl) (by kernel_rfl) (by kernel_rfl) (.cons (dt h29) .nil)
  · rw [if_neg h29] at h
    obtain rfl := Option.some.inj h
    exact pend_sound TTok mix 5 (hs := [.t false, .c]) (by kernel_rfl) (by kernel_rfl) (by kernel_rfl) (.cons (df h29) .nil)
inductive G_sig_Send_C1_R where
  | x0 (v_x34 : Bool)
def G_sig_Send_C1_ex : G_sig_Send_C1_R → Ex
  | .x0 _ => .normal
def G_sig_Send_C1_st (v_n6 : Int) (v_s5 : S_sig_Set) : G_sig_Send_C1_R → PS
  | .x0 v_x34 => ⟨[dd, .d (.v (.int .i64 v_n6)), .ref 0 0, dd, .ref 1 0, dd, dd, dd, dd, dd, dd, dd, dd, dd, dd, dd, dd, dd, dd, dd, dd, dd, dd, dd, dd, dd, dd, dd, dd, dd, dd, dd, .d (.v (.bool v_x34)), dd, dd, dd, dd, dd, dd, dd, dd], [.box ((cS_sig_Set v_s5).map FV.d), .box ((cS_sig_Set (S_sig_Set.mk 0 0 (fun (_ : Fin 16) => 0))).map FV.d)]⟩
def G_sig_Send_C1_hd (v_n6 : Int) (v_s5 : S_sig_Set)  : PS := ⟨[dd, .d (.v (.int .i64 v_n6)), .ref 0 0, dd, .ref 1 0, dd, dd, dd, dd, dd, dd, dd, dd, dd, dd, dd, dd, dd, dd, dd, dd, dd, dd, dd, dd, dd, dd, dd, dd, dd, dd, dd, dd, dd, dd, dd, dd, dd, dd, dd, dd], [.box ((cS_sig_Set v_s5).map FV.d), .box ((cS_sig_Set (S_sig_Set.mk 0 0 (fun (_ : Fin 16) => 0))).map FV.d)]⟩
def G_sig_Send_C1 (n : Nat) (v_n6 : Int) (v_s5 : S_sig_Set) : Option G_sig_Send_C1_R :=
  if 0 ≤ v_n6 ∧ v_n6 < (16 : Int) then
   (getA v_s5.fHow v_n6).bind fun (v_y33 : Int) =>
   if v_y33 = 1 then
    some (.x0 true)
   else
    if v_n6 = 7 then
     if 0 ≤ v_n6 ∧ v_n6 < (16 : Int) then
      (getA v_s5.fHow v_n6).bind fun (v_y35 : Int) =>
      some (.x0 (v_y35 == 0))
     else none
    else
     some (.x0 false)
  else none
theorem G_sig_Send_C1_ok {Fi : Ex → PS → Prop} (hF : KC 41 Fi) (ks : List Fr) (n : Nat) (v_n6 : Int) (v_s5 : S_sig_Set)  (o : G_sig_Send_C1_R) (h : G_sig_Send_C1 n v_n6 v_s5 = some o) (q : RunE Try.prog 41 Fi ks (G_sig_Send_C1_ex o) (G_sig_Send_C1_st v_n6 v_s5 o)) : RunE Try.prog 41 Fi (.s (cL (cL (cR (cR (cR (bodyOf Try.f51)))))) :: ks) .normal (G_sig_Send_C1_hd v_n6 v_s5) := by
  unfold G_sig_Send_C1 at h
  by_cases h39 : 0 ≤ v_n6 ∧ v_n6 < (16 : Int)
  · rw [if_pos h39] at h
    obtain ⟨v_y33, h40, h⟩ := bind_some h
    by_cases h41 : v_y33 = 1
    · rw [if_pos h41] at h
      cases h
      exact pkk_sound TTok mix hF 1 (hs := [.l (.d (.v (.int .i64 v_y33))), .t true, .c, .c, .c]) (ts := []) (s := [0, 1]) (l := [1, 2, 4, 32]) (by kernel_rfl) (by kernel_rfl) (.cons h39 (.cons (arr_cell (γ := FV) (sz := 1) (g := (fun x => [.d (.v (.int .i64 x))])) (pre := [.d (.v (.int .i64 v_s5.fPending)), .d (.v (.int .i64 v_s5.fMask))]) (post := []) (o := 0) (fun _ => rfl) h40 rfl) (.cons (bt h41) .nil))) q
    · rw [if_neg h41] at h
      by_cases h42 : v_n6 = 7
      · rw [if_pos h42] at h
        by_cases h43 : 0 ≤ v_n6 ∧ v_n6 < (16 : Int)
        · rw [if_pos h43] at h
          obtain ⟨v_y35, h44, h⟩ := bind_some h
          cases h
          exact pkk_sound TTok mix hF 1 (hs := [.l (.d (.v (.int .i64 v_y33))), .t false, .c, .c, .t true, .c, .c, .c, .l (.d (.v (.int .i64 v_y35))), .c, .c]) (ts := []) (s := [0, 1]) (l := [1, 2, 4, 32]) (by kernel_rfl) (by kernel_rfl) (.cons h39 (.cons (arr_cell (γ := FV) (sz := 1) (g := (fun x => [.d (.v (.int .i64 x))])) (pre := [.d (.v (.int .i64 v_s5.fPending)), .d (.v (.int .i64 v_s5.fMask))]) (post := []) (o := 0) (fun _ => rfl) h40 rfl) (.cons (bf h41) (.cons (bt h42) (.cons h43 (.cons (arr_cell (γ := FV) (sz := 1) (g := (fun x => [.d (.v (.int .i64 x))])) (pre := [.d (.v (.int .i64 v_s5.fPending)), .d (.v (.int .i64 v_s5.fMask))]) (post := []) (o := 0) (fun _ => rfl) h44 rfl) .nil)))))) q
        · rw [if_neg h43] at h; cases h
      · rw [if_neg h42] at h
        cases h
        exact pkk_sound TTok mix hF 1 (hs := [.l (.d (.v (.int .i64 v_y33))), .t false, .c, .c, .t false, .c, .c, .c, .c, .c]) (ts := []) (s := [0, 1]) (l := [1, 2, 4, 32]) (by kernel_rfl) (by kernel_rfl) (.cons h39 (.cons (arr_cell (γ := FV) (sz := 1) (g := (fun x => [.d (.v (.int .i64 x))])) (pre := [.d (.v (.int .i64 v_s5.fPending)), .d (.v (.int .i64 v_s5.fMask))]) (post := []) (o := 0) (fun _ => rfl) h40 rfl) (.cons (bf h41) (.cons (bf h42) .nil)))) q
  · rw [if_neg h39] at h; cases h
/- ringhall/sig.Send -/
def G_sig_Send (n : Nat) (v_s5 : S_sig_Set) (v_n6 : Int) : Option (S_sig_Set × Int) :=
  (G_sig_Check n v_s5).bind fun (v_r28 : (Int)) =>
  if v_r28 = 0 then
   (G_sig_number n v_n6).bind fun (v_r30 : (Bool)) =>
   if v_r30 = true then
    (G_sig_Send_C1 n v_n6 v_s5).bind fun v_o38 => match v_o38 with
    | .x0 v_z39 =>
      if v_z39 = true then
       some (v_s5, 0)
      else
       if 0 ≤ v_n6 then
        some ((S_sig_Set.mk (bits .or .i64 v_s5.fPending (shlI .i64 1 v_n6)) v_s5.fMask v_s5.fHow), 0)
       else none
   else
    some ((S_sig_Set.mk 0 0 (fun (_ : Fin 16) => 0)), 1)
  else
   some ((S_sig_Set.mk 0 0 (fun (_ : Fin 16) => 0)), v_r28)
theorem G_sig_Send_ok (n : Nat) (v_s5 : S_sig_Set) (v_n6 : Int) (r : S_sig_Set × Int) (h : G_sig_Send n v_s5 v_n6 = some r) : Ret Try.prog 51 [eS_sig_Set v_s5, (eI .i64) v_n6] (.tup [eS_sig_Set r.1, (eI .i64) r.2]) := by
  refine ret_run (n := 41) (fn := Try.f51) (c := bodyOf Try.f51) (by kernel_rfl) (by kernel_rfl) (by kernel_rfl) (by kernel_rfl) ?_
  have hF : KC 41 (FinR Try.prog Try.f51 (.tup [eS_sig_Set r.1, (eI .i64) r.2])) := FinR.kc' (by kernel_rfl)
  unfold G_sig_Send at h
  obtain ⟨v_r28, h26, h⟩ := bind_some h
  by_cases h28 : v_r28 = 0
  · rw [if_pos h28] at h
    obtain ⟨v_r30, h30, h⟩ := bind_some h
    by_cases h32 : v_r30 = true
    · rw [if_pos h32] at h
      obtain ⟨v_o38, h45, h⟩ := bind_some h
      refine pkk_sound TTok mix hF 16 (hs := [.c, .r ((eI .i64) v_r28), .t false, .r (eB v_r30), .t false]) (ts := []) (s := [0, 3]) (l := [1, 2, 4]) (by kernel_rfl) (by kernel_rfl) (.cons (G_sig_Check_ok n v_s5 _ h26) (.cons (nf h28) (.cons (G_sig_number_ok n v_n6 _ h30) (.cons (bnf h32) .nil)))) (G_sig_Send_C1_ok hF (.s (cR (cL (cR (cR (cR (bodyOf Try.f51)))))) :: .s (cR (cR (cR (cR (bodyOf Try.f51))))) :: []) n v_n6 v_s5 _ h45 ?_)
      cases v_o38 with
      | x0 v_z39 =>
        try dsimp only at h
        by_cases h47 : v_z39 = true
        · rw [if_pos h47] at h
          obtain rfl := Option.some.inj h
          exact pend_sound TTok mix 5 (hs := [.t true, .c, .c]) (by kernel_rfl) (by kernel_rfl) (by kernel_rfl) (.cons h47 (.cons (show 0 + 18 ≤ 18 by decide) .nil))
        · rw [if_neg h47] at h
          by_cases h48 : 0 ≤ v_n6
          · rw [if_pos h48] at h
            obtain rfl := Option.some.inj h
            exact pend_sound TTok mix 7 (hs := [.t false, .c, .c, .c, .c]) (by kernel_rfl) (by kernel_rfl) (by kernel_rfl) (.cons (vf h47) (.cons h48 (.cons (show 0 + 1 ≤ 18 by decide) (.cons (show 0 + 18 ≤ 18 by decide) .nil))))
          · rw [if_neg h48] at h; cases h
    · rw [if_neg h32] at h
      obtain rfl := Option.some.inj h
      exact pend_sound TTok mix 17 (hs := [.c, .r ((eI .i64) v_r28), .t false, .r (eB v_r30), .t true, .c]) (by kernel_rfl) (by kernel_rfl) (by kernel_rfl) (.cons (G_sig_Check_ok n v_s5 _ h26) (.cons (nf h28) (.cons (G_sig_number_ok n v_n6 _ h30) (.cons (bnt (vf h32)) (.cons (show 0 + 18 ≤ 18 by decide) .nil)))))
  · rw [if_neg h28] at h
    obtain rfl := Option.some.inj h
    exact pend_sound TTok mix 12 (hs := [.c, .r ((eI .i64) v_r28), .t true, .c]) (by kernel_rfl) (by kernel_rfl) (by kernel_rfl) (.cons (G_sig_Check_ok n v_s5 _ h26) (.cons (nt h28) (.cons (show 0 + 18 ≤ 18 by decide) .nil)))
/- ringhall/sig.Hold -/
def G_sig_Hold (n : Nat) (v_s41 : S_sig_Set) (v_mask42 : Int) : Option (S_sig_Set × Int) :=
  (G_sig_Check n v_s41).bind fun (v_r43 : (Int)) =>
  if v_r43 = 0 then
   if (bits .andNot .i64 v_mask42 65534) = 0 then
    some ((S_sig_Set.mk v_s41.fPending (bits .andNot .i64 v_mask42 512) v_s41.fHow), 0)
   else
    some ((S_sig_Set.mk 0 0 (fun (_ : Fin 16) => 0)), 1)
  else
   some ((S_sig_Set.mk 0 0 (fun (_ : Fin 16) => 0)), v_r43)
theorem G_sig_Hold_ok (n : Nat) (v_s41 : S_sig_Set) (v_mask42 : Int) (r : S_sig_Set × Int) (h : G_sig_Hold n v_s41 v_mask42 = some r) : Ret Try.prog 52 [eS_sig_Set v_s41, (eI .i64) v_mask42] (.tup [eS_sig_Set r.1, (eI .i64) r.2]) := by
  refine ret_run (n := 21) (fn := Try.f52) (c := bodyOf Try.f52) (by kernel_rfl) (by kernel_rfl) (by kernel_rfl) (by kernel_rfl) ?_
  have hF : KC 21 (FinR Try.prog Try.f52 (.tup [eS_sig_Set r.1, (eI .i64) r.2])) := FinR.kc' (by kernel_rfl)
  unfold G_sig_Hold at h
  obtain ⟨v_r43, h50, h⟩ := bind_some h
  by_cases h52 : v_r43 = 0
  · rw [if_pos h52] at h
    by_cases h54 : (bits .andNot .i64 v_mask42 65534) = 0
    · rw [if_pos h54] at h
      obtain rfl := Option.some.inj h
      exact pend_sound TTok mix 19 (hs := [.c, .r ((eI .i64) v_r43), .t false, .t false, .c, .c, .c]) (by kernel_rfl) (by kernel_rfl) (by kernel_rfl) (.cons (G_sig_Check_ok n v_s41 _ h50) (.cons (nf h52) (.cons (nf h54) (.cons (show 1 + 1 ≤ 18 by decide) (.cons (show 0 + 18 ≤ 18 by decide) .nil)))))
    · rw [if_neg h54] at h
      obtain rfl := Option.some.inj h
      exact pend_sound TTok mix 17 (hs := [.c, .r ((eI .i64) v_r43), .t false, .t true, .c]) (by kernel_rfl) (by kernel_rfl) (by kernel_rfl) (.cons (G_sig_Check_ok n v_s41 _ h50) (.cons (nf h52) (.cons (nt h54) (.cons (show 0 + 18 ≤ 18 by decide) .nil))))
  · rw [if_neg h52] at h
    obtain rfl := Option.some.inj h
    exact pend_sound TTok mix 12 (hs := [.c, .r ((eI .i64) v_r43), .t true, .c]) (by kernel_rfl) (by kernel_rfl) (by kernel_rfl) (.cons (G_sig_Check_ok n v_s41 _ h50) (.cons (nt h52) (.cons (show 0 + 18 ≤ 18 by decide) .nil)))
/- ringhall/sig.Handle -/
def G_sig_Handle (n : Nat) (v_s45 : S_sig_Set) (v_n46 : Int) (v_how47 : Int) : Option (S_sig_Set × Int) :=
  (G_sig_Check n v_s45).bind fun (v_r48 : (Int)) =>
  if v_r48 = 0 then
   (G_sig_number n v_n46).bind fun (v_r49 : (Bool)) =>
   if v_r49 = true then
    if v_how47 < 0 then
     some ((S_sig_Set.mk 0 0 (fun (_ : Fin 16) => 0)), 1)
    else
     if v_n46 = 9 then
      some ((S_sig_Set.mk 0 0 (fun (_ : Fin 16) => 0)), 7)
     else
      if 0 ≤ v_n46 ∧ v_n46 < (16 : Int) then
       (getA v_s45.fHow v_n46).bind fun (v_y50 : Int) =>
       if v_how47 = 1 then
        if 0 ≤ v_n46 then
         some ((S_sig_Set.mk (bits .andNot .i64 v_s45.fPending (shlI .i64 1 v_n46)) v_s45.fMask (setA v_s45.fHow v_n46 v_how47)), 0)
        else none
       else
        some ((S_sig_Set.mk v_s45.fPending v_s45.fMask (setA v_s45.fHow v_n46 v_how47)), 0)
      else none
   else
    some ((S_sig_Set.mk 0 0 (fun (_ : Fin 16) => 0)), 1)
  else
   some ((S_sig_Set.mk 0 0 (fun (_ : Fin 16) => 0)), v_r48)
theorem G_sig_Handle_ok (n : Nat) (v_s45 : S_sig_Set) (v_n46 : Int) (v_how47 : Int) (r : S_sig_Set × Int) (h : G_sig_Handle n v_s45 v_n46 v_how47 = some r) : Ret Try.prog 53 [eS_sig_Set v_s45, (eI .i64) v_n46, (eI .i64) v_how47] (.tup [eS_sig_Set r.1, (eI .i64) r.2]) := by
  refine ret_run (n := 39) (fn := Try.f53) (c := bodyOf Try.f53) (by kernel_rfl) (by kernel_rfl) (by kernel_rfl) (by kernel_rfl) ?_
  have hF : KC 39 (FinR Try.prog Try.f53 (.tup [eS_sig_Set r.1, (eI .i64) r.2])) := FinR.kc' (by kernel_rfl)
  unfold G_sig_Handle at h
  obtain ⟨v_r48, h56, h⟩ := bind_some h
  by_cases h58 : v_r48 = 0
  · rw [if_pos h58] at h
    obtain ⟨v_r49, h59, h⟩ := bind_some h
    by_cases h60 : v_r49 = true
    · rw [if_pos h60] at h
      by_cases h62 : v_how47 < 0
      · rw [if_pos h62] at h
        obtain rfl := Option.some.inj h
        exact pend_sound TTok mix 17 (hs := [.c, .r ((eI .i64) v_r48), .t false, .r (eB v_r49), .t false, .c, .t true, .c]) (by kernel_rfl) (by kernel_rfl) (by kernel_rfl) (.cons (G_sig_Check_ok n v_s45 _ h56) (.cons (nf h58) (.cons (G_sig_number_ok n v_n46 _ h59) (.cons (bnf h60) (.cons (dt h62) (.cons (show 0 + 18 ≤ 18 by decide) .nil))))))
      · rw [if_neg h62] at h
        by_cases h64 : v_n46 = 9
        · rw [if_pos h64] at h
          obtain rfl := Option.some.inj h
          exact pend_sound TTok mix 22 (hs := [.c, .r ((eI .i64) v_r48), .t false, .r (eB v_r49), .t false, .c, .t false, .t true, .c]) (by kernel_rfl) (by kernel_rfl) (by kernel_rfl) (.cons (G_sig_Check_ok n v_s45 _ h56) (.cons (nf h58) (.cons (G_sig_number_ok n v_n46 _ h59) (.cons (bnf h60) (.cons (df h62) (.cons (bt h64) (.cons (show 0 + 18 ≤ 18 by decide) .nil)))))))
        · rw [if_neg h64] at h
          by_cases h65 : 0 ≤ v_n46 ∧ v_n46 < (16 : Int)
          · rw [if_pos h65] at h
            obtain ⟨v_y50, h66, h⟩ := bind_some h
            by_cases h69 : v_how47 = 1
            · rw [if_pos h69] at h
              by_cases h70 : 0 ≤ v_n46
              · rw [if_pos h70] at h
                obtain rfl := Option.some.inj h
                exact pend_sound TTok mix 29 (hs := [.c, .r ((eI .i64) v_r48), .t false, .r (eB v_r49), .t false, .c, .t false, .t false, .x ((cS_sig_Set (S_sig_Set.mk v_s45.fPending v_s45.fMask (setA v_s45.fHow v_n46 v_how47))).map FV.d), .c, .t true, .c, .c, .c, .c]) (by kernel_rfl) (by kernel_rfl) (by kernel_rfl) (.cons (G_sig_Check_ok n v_s45 _ h56) (.cons (nf h58) (.cons (G_sig_number_ok n v_n46 _ h59) (.cons (bnf h60) (.cons (df h62) (.cons (bf h64) (.cons h65 (.cons (arr_store (γ := FV) (sz := 1) (g := (fun x => [.d (.v (.int .i64 x))])) (pre := [.d (.v (.int .i64 v_s45.fPending)), .d (.v (.int .i64 v_s45.fMask))]) (post := []) (o := 0) (y := v_how47) (zs := [.d (.v (.int .i64 v_how47))]) (fun _ => rfl) h66 rfl (Nat.le_of_ble_eq_true rfl)).1 (.cons (arr_store (γ := FV) (sz := 1) (g := (fun x => [.d (.v (.int .i64 x))])) (pre := [.d (.v (.int .i64 v_s45.fPending)), .d (.v (.int .i64 v_s45.fMask))]) (post := []) (o := 0) (y := v_how47) (zs := [.d (.v (.int .i64 v_how47))]) (fun _ => rfl) h66 rfl (Nat.le_of_ble_eq_true rfl)).2 (.cons (bt h69) (.cons h70 (.cons (show 0 + 1 ≤ 18 by decide) (.cons (show 0 + 18 ≤ 18 by decide) .nil)))))))))))))
              · rw [if_neg h70] at h; cases h
            · rw [if_neg h69] at h
              obtain rfl := Option.some.inj h
              exact pend_sound TTok mix 29 (hs := [.c, .r ((eI .i64) v_r48), .t false, .r (eB v_r49), .t false, .c, .t false, .t false, .x ((cS_sig_Set (S_sig_Set.mk v_s45.fPending v_s45.fMask (setA v_s45.fHow v_n46 v_how47))).map FV.d), .c, .t false, .c, .c]) (by kernel_rfl) (by kernel_rfl) (by kernel_rfl) (.cons (G_sig_Check_ok n v_s45 _ h56) (.cons (nf h58) (.cons (G_sig_number_ok n v_n46 _ h59) (.cons (bnf h60) (.cons (df h62) (.cons (bf h64) (.cons h65 (.cons (arr_store (γ := FV) (sz := 1) (g := (fun x => [.d (.v (.int .i64 x))])) (pre := [.d (.v (.int .i64 v_s45.fPending)), .d (.v (.int .i64 v_s45.fMask))]) (post := []) (o := 0) (y := v_how47) (zs := [.d (.v (.int .i64 v_how47))]) (fun _ => rfl) h66 rfl (Nat.le_of_ble_eq_true rfl)).1 (.cons (arr_store (γ := FV) (sz := 1) (g := (fun x => [.d (.v (.int .i64 x))])) (pre := [.d (.v (.int .i64 v_s45.fPending)), .d (.v (.int .i64 v_s45.fMask))]) (post := []) (o := 0) (y := v_how47) (zs := [.d (.v (.int .i64 v_how47))]) (fun _ => rfl) h66 rfl (Nat.le_of_ble_eq_true rfl)).2 (.cons (bf h69) (.cons (show 0 + 18 ≤ 18 by decide) .nil)))))))))))
          · rw [if_neg h65] at h; cases h
    · rw [if_neg h60] at h
      obtain rfl := Option.some.inj h
      exact pend_sound TTok mix 17 (hs := [.c, .r ((eI .i64) v_r48), .t false, .r (eB v_r49), .t true, .c, .c, .c]) (by kernel_rfl) (by kernel_rfl) (by kernel_rfl) (.cons (G_sig_Check_ok n v_s45 _ h56) (.cons (nf h58) (.cons (G_sig_number_ok n v_n46 _ h59) (.cons (bnt (vf h60)) (.cons (show 0 + 18 ≤ 18 by decide) .nil)))))
  · rw [if_neg h58] at h
    obtain rfl := Option.some.inj h
    exact pend_sound TTok mix 12 (hs := [.c, .r ((eI .i64) v_r48), .t true, .c]) (by kernel_rfl) (by kernel_rfl) (by kernel_rfl) (.cons (G_sig_Check_ok n v_s45 _ h56) (.cons (nt h58) (.cons (show 0 + 18 ≤ 18 by decide) .nil)))
inductive G_sig_Next_L1_R where
  | x0 (v_x55 : Int) (v_x56 : Int)
  | x1 
def G_sig_Next_L1_ex : G_sig_Next_L1_R → Ex
  | .x0 _ _ => .ret
  | .x1  => .exit 0
def G_sig_Next_L1_st (v_s52 : S_sig_Set) : G_sig_Next_L1_R → PS
  | .x0 v_x55 v_x56 => ⟨[dd, dd, .d (.v (.int .i64 v_x55)), .d (.v (.int .i64 v_x56)), dd, dd, dd, dd, dd, dd, dd, dd, dd, dd, dd, dd, dd, dd, dd, dd, dd, dd, dd, dd, dd, dd, dd, dd, dd, dd, dd, dd], []⟩
  | .x1  => ⟨[dd, dd, dd, dd, dd, dd, dd, dd, dd, dd, dd, dd, dd, dd, dd, dd, dd, dd, dd, dd, dd, dd, dd, dd, dd, dd, dd, dd, dd, dd, dd, dd], []⟩
def G_sig_Next_L1_hd (v_s52 : S_sig_Set) (v_n54 : Int) : PS := ⟨[dd, dd, dd, dd, dd, .d (.v (.int .i64 (bits .andNot .i64 v_s52.fPending v_s52.fMask))), .d (.v (.int .i64 v_n54)), dd, dd, dd, dd, dd, dd, dd, dd, dd, dd, dd, dd, dd, dd, dd, dd, dd, dd, dd, dd, dd, dd, dd, dd, dd], []⟩
def G_sig_Next_L1 (n : Nat) (v_s52 : S_sig_Set) : Nat → Int → Option G_sig_Next_L1_R
  | 0, _ => none
  | k + 1, v_n54 =>
    if v_n54 ≤ 15 then
     if 0 ≤ v_n54 then
      if (bits .and .i64 (shrI .i64 (bits .andNot .i64 v_s52.fPending v_s52.fMask) v_n54) 1) = 1 then
       some (.x0 v_n54 0)
      else
       G_sig_Next_L1 n v_s52 k (wi .i64 (v_n54 + 1))
     else none
    else
     some (.x1 )
theorem G_sig_Next_L1_ok {Fi : Ex → PS → Prop} (hF : KC 32 Fi) (ks : List Fr) (n : Nat) (v_s52 : S_sig_Set)  : ∀ (k : Nat) (v_n54 : Int) (o : G_sig_Next_L1_R), G_sig_Next_L1 n v_s52 k v_n54 = some o → RunE Try.prog 32 Fi ks (G_sig_Next_L1_ex o) (G_sig_Next_L1_st v_s52 o) → RunE Try.prog 32 Fi (.l k (cP (cB (cR (cL (cR (cR (cR (cR (bodyOf Try.f54))))))))) :: ks) .normal (G_sig_Next_L1_hd v_s52 v_n54)
  | 0, v_n54, o, h, q => by rw [G_sig_Next_L1] at h; cases h
  | k + 1, v_n54, o, h, q => by
    rw [G_sig_Next_L1] at h
    by_cases h77 : v_n54 ≤ 15
    · rw [if_pos h77] at h
      by_cases h81 : 0 ≤ v_n54
      · rw [if_pos h81] at h
        by_cases h83 : (bits .and .i64 (shrI .i64 (bits .andNot .i64 v_s52.fPending v_s52.fMask) v_n54) 1) = 1
        · rw [if_pos h83] at h
          cases h
          exact pkk_sound TTok mix hF 17 (hs := [.t true, .t true]) (ts := []) (s := []) (l := [2, 3]) (by kernel_rfl) (by kernel_rfl) (.cons (dt h77) (.cons h81 (.cons (bt h83) .nil))) q
        · rw [if_neg h83] at h
          exact pkk_sound TTok mix hF 14 (hs := [.t true, .t false]) (ts := []) (s := []) (l := [5, 6]) (by kernel_rfl) (by kernel_rfl) (.cons (dt h77) (.cons h81 (.cons (bf h83) .nil))) (G_sig_Next_L1_ok hF ks n v_s52 k (wi .i64 (v_n54 + 1)) _ h q)
      · rw [if_neg h81] at h; cases h
    · rw [if_neg h77] at h
      cases h
      exact pkk_sound TTok mix hF 8 (hs := [.t false]) (ts := []) (s := []) (l := []) (by kernel_rfl) (by kernel_rfl) (.cons (df h77) .nil) q
/- ringhall/sig.Next -/
def G_sig_Next (n : Nat) (v_s52 : S_sig_Set) : Option (Int × Int) :=
  (G_sig_Check n v_s52).bind fun (v_r53 : (Int)) =>
  if v_r53 = 0 then
   if (bits .and .i64 (shrI .i64 v_s52.fPending 9) 1) = 1 then
    some (9, 0)
   else
    (G_sig_Next_L1 n v_s52 n 1).bind fun v_o57 => match v_o57 with
    | .x0 v_z58 v_z59 =>
      some (v_z58, v_z59)
    | .x1  =>
      some (0, 4)
  else
   some (0, v_r53)
theorem G_sig_Next_ok (n : Nat) (v_s52 : S_sig_Set) (r : Int × Int) (h : G_sig_Next n v_s52 = some r) : Ret Try.prog 54 [eS_sig_Set v_s52] (.tup [(eI .i64) r.1, (eI .i64) r.2]) := by
  refine ret_run (n := 32) (fn := Try.f54) (c := bodyOf Try.f54) (by kernel_rfl) (by kernel_rfl) (by kernel_rfl) (by kernel_rfl) ?_
  have hF : KC 32 (FinR Try.prog Try.f54 (.tup [(eI .i64) r.1, (eI .i64) r.2])) := FinR.kc' (by kernel_rfl)
  unfold G_sig_Next at h
  obtain ⟨v_r53, h72, h⟩ := bind_some h
  by_cases h74 : v_r53 = 0
  · rw [if_pos h74] at h
    by_cases h76 : (bits .and .i64 (shrI .i64 v_s52.fPending 9) 1) = 1
    · rw [if_pos h76] at h
      obtain rfl := Option.some.inj h
      exact pend_sound TTok mix 17 (hs := [.c, .r ((eI .i64) v_r53), .t false, .c, .t true]) (by kernel_rfl) (by kernel_rfl) (by kernel_rfl) (.cons (G_sig_Check_ok n v_s52 _ h72) (.cons (nf h74) (.cons (show (0 : Int) ≤ 9 by decide) (.cons (bt h76) .nil))))
    · rw [if_neg h76] at h
      obtain ⟨v_o57, h84, h⟩ := bind_some h
      refine pkk_sound TTok mix hF 21 (hs := [.c, .r ((eI .i64) v_r53), .t false, .c, .t false, .c, .c, .n n]) (ts := []) (s := []) (l := [5, 6]) (by kernel_rfl) (by kernel_rfl) (.cons (G_sig_Check_ok n v_s52 _ h72) (.cons (nf h74) (.cons (show (0 : Int) ≤ 9 by decide) (.cons (bf h76) .nil)))) (G_sig_Next_L1_ok hF (.b 0 :: .s (cR (cR (cR (cR (cR (bodyOf Try.f54)))))) :: []) n v_s52 n 1 _ h84 ?_)
      cases v_o57 with
      | x0 v_z58 v_z59 =>
        try dsimp only at h
        obtain rfl := Option.some.inj h
        exact pend_sound TTok mix 2 (hs := []) (by kernel_rfl) (by kernel_rfl) (by kernel_rfl) .nil
      | x1  =>
        try dsimp only at h
        obtain rfl := Option.some.inj h
        exact pend_sound TTok mix 4 (hs := []) (by kernel_rfl) (by kernel_rfl) (by kernel_rfl) .nil
  · rw [if_neg h74] at h
    obtain rfl := Option.some.inj h
    exact pend_sound TTok mix 12 (hs := [.c, .r ((eI .i64) v_r53), .t true]) (by kernel_rfl) (by kernel_rfl) (by kernel_rfl) (.cons (G_sig_Check_ok n v_s52 _ h72) (.cons (nt h74) .nil))
/- ringhall/sig.Take -/
def G_sig_Take (n : Nat) (v_s61 : S_sig_Set) : Option (S_sig_Set × Int × Int × Int) :=
  (G_sig_Next n v_s61).bind fun (v_r62 : (Int × Int)) =>
  if v_r62.2 = 0 then
   if 0 ≤ v_r62.1 then
    if 0 ≤ v_r62.1 ∧ v_r62.1 < (16 : Int) then
     (getA v_s61.fHow v_r62.1).bind fun (v_y63 : Int) =>
     some ((S_sig_Set.mk (bits .andNot .i64 v_s61.fPending (shlI .i64 1 v_r62.1)) v_s61.fMask v_s61.fHow), v_r62.1, v_y63, 0)
    else none
   else none
  else
   some ((S_sig_Set.mk 0 0 (fun (_ : Fin 16) => 0)), 0, 0, v_r62.2)
theorem G_sig_Take_ok (n : Nat) (v_s61 : S_sig_Set) (r : S_sig_Set × Int × Int × Int) (h : G_sig_Take n v_s61 = some r) : Ret Try.prog 55 [eS_sig_Set v_s61] (.tup [eS_sig_Set r.1, (eI .i64) r.2.1, (eI .i64) r.2.2.1, (eI .i64) r.2.2.2]) := by
  refine ret_run (n := 29) (fn := Try.f55) (c := bodyOf Try.f55) (by kernel_rfl) (by kernel_rfl) (by kernel_rfl) (by kernel_rfl) ?_
  have hF : KC 29 (FinR Try.prog Try.f55 (.tup [eS_sig_Set r.1, (eI .i64) r.2.1, (eI .i64) r.2.2.1, (eI .i64) r.2.2.2])) := FinR.kc' (by kernel_rfl)
  unfold G_sig_Take at h
  obtain ⟨v_r62, h86, h⟩ := bind_some h
  by_cases h88 : v_r62.2 = 0
  · rw [if_pos h88] at h
    by_cases h89 : 0 ≤ v_r62.1
    · rw [if_pos h89] at h
      by_cases h90 : 0 ≤ v_r62.1 ∧ v_r62.1 < (16 : Int)
      · rw [if_pos h90] at h
        obtain ⟨v_y63, h91, h⟩ := bind_some h
        obtain rfl := Option.some.inj h
        exact pend_sound TTok mix 14 (hs := [.c, .r (.tup [(eI .i64) v_r62.1, (eI .i64) v_r62.2]), .t false, .c, .c, .c, .l (.d (.v (.int .i64 v_y63))), .c]) (by kernel_rfl) (by kernel_rfl) (by kernel_rfl) (.cons (G_sig_Next_ok n v_s61 _ h86) (.cons (nf h88) (.cons h89 (.cons (show 0 + 1 ≤ 18 by decide) (.cons h90 (.cons (arr_cell (γ := FV) (sz := 1) (g := (fun x => [.d (.v (.int .i64 x))])) (pre := [.d (.v (.int .i64 (bits .andNot .i64 v_s61.fPending (shlI .i64 1 v_r62.1)))), .d (.v (.int .i64 v_s61.fMask))]) (post := []) (o := 0) (fun _ => rfl) h91 rfl) (.cons (show 0 + 18 ≤ 18 by decide) .nil)))))))
      · rw [if_neg h90] at h; cases h
    · rw [if_neg h89] at h; cases h
  · rw [if_neg h88] at h
    obtain rfl := Option.some.inj h
    exact pend_sound TTok mix 12 (hs := [.c, .r (.tup [(eI .i64) v_r62.1, (eI .i64) v_r62.2]), .t true, .c]) (by kernel_rfl) (by kernel_rfl) (by kernel_rfl) (.cons (G_sig_Next_ok n v_s61 _ h86) (.cons (nt h88) (.cons (show 0 + 18 ≤ 18 by decide) .nil)))
inductive G_sig_Child_L1_R where
  | x0 (v_b83 : S_sig_Set)
def G_sig_Child_L1_ex : G_sig_Child_L1_R → Ex
  | .x0 _ => .exit 0
def G_sig_Child_L1_st  : G_sig_Child_L1_R → PS
  | .x0 v_b83 => ⟨[dd, dd, .ref 0 0, dd, .ref 1 0, dd, dd, dd, dd, dd, dd, dd, dd, dd, dd, dd, dd, dd, dd, dd, dd, dd, dd, dd, dd, dd, dd, dd, dd, dd], [.box ((cS_sig_Set v_b83).map FV.d), .box ((cS_sig_Set (S_sig_Set.mk 0 0 (fun (_ : Fin 16) => 0))).map FV.d)]⟩
def G_sig_Child_L1_hd  (v_x75 : Int) (v_b76 : S_sig_Set) : PS := ⟨[dd, dd, .ref 0 0, dd, .ref 1 0, dd, dd, dd, dd, dd, dd, dd, dd, dd, dd, .d (.v (.int .i64 v_x75)), dd, dd, dd, dd, dd, dd, dd, dd, dd, dd, dd, dd, dd, dd], [.box ((cS_sig_Set v_b76).map FV.d), .box ((cS_sig_Set (S_sig_Set.mk 0 0 (fun (_ : Fin 16) => 0))).map FV.d)]⟩
def G_sig_Child_L1 (n : Nat)  : Nat → Int → S_sig_Set → Option G_sig_Child_L1_R
  | 0, _, _ => none
  | k + 1, v_x75, v_b76 =>
    if v_x75 < 16 then
     if 0 ≤ v_x75 ∧ v_x75 < (16 : Int) then
      (getA v_b76.fHow v_x75).bind fun (v_y80 : Int) =>
      if v_y80 > 1 then
       if 0 ≤ v_x75 ∧ v_x75 < (16 : Int) then
        (getA v_b76.fHow v_x75).bind fun (v_y82 : Int) =>
        G_sig_Child_L1 n  k (wi .i64 (v_x75 + 1)) (S_sig_Set.mk v_b76.fPending v_b76.fMask (setA v_b76.fHow v_x75 0))
       else none
      else
       G_sig_Child_L1 n  k (wi .i64 (v_x75 + 1)) v_b76
     else none
    else
     some (.x0 v_b76)
theorem G_sig_Child_L1_ok {Fi : Ex → PS → Prop} (hF : KC 30 Fi) (ks : List Fr) (n : Nat)   : ∀ (k : Nat) (v_x75 : Int) (v_b76 : S_sig_Set) (o : G_sig_Child_L1_R), G_sig_Child_L1 n  k v_x75 v_b76 = some o → RunE Try.prog 30 Fi ks (G_sig_Child_L1_ex o) (G_sig_Child_L1_st  o) → RunE Try.prog 30 Fi (.l k (cP (cB (cR (cL (cT (cR (cL (cR (cR (bodyOf Try.f56)))))))))) :: ks) .normal (G_sig_Child_L1_hd  v_x75 v_b76)
  | 0, v_x75, v_b76, o, h, q => by rw [G_sig_Child_L1] at h; cases h
  | k + 1, v_x75, v_b76, o, h, q => by
    rw [G_sig_Child_L1] at h
    by_cases h114 : v_x75 < 16
    · rw [if_pos h114] at h
      by_cases h123 : 0 ≤ v_x75 ∧ v_x75 < (16 : Int)
      · rw [if_pos h123] at h
        obtain ⟨v_y80, h124, h⟩ := bind_some h
        by_cases h128 : v_y80 > 1
        · rw [if_pos h128] at h
          by_cases h129 : 0 ≤ v_x75 ∧ v_x75 < (16 : Int)
          · rw [if_pos h129] at h
            obtain ⟨v_y82, h130, h⟩ := bind_some h
            exact pkk_sound TTok mix hF 16 (hs := [.t true, .l (.d (.v (.int .i64 v_y80))), .t true, .x ((cS_sig_Set (S_sig_Set.mk v_b76.fPending v_b76.fMask (setA v_b76.fHow v_x75 0))).map FV.d), .c]) (ts := []) (s := [0, 1]) (l := [2, 4, 15]) (by kernel_rfl) (by kernel_rfl) (.cons (dt h114) (.cons h123 (.cons (arr_cell (γ := FV) (sz := 1) (g := (fun x => [.d (.v (.int .i64 x))])) (pre := [.d (.v (.int .i64 v_b76.fPending)), .d (.v (.int .i64 v_b76.fMask))]) (post := []) (o := 0) (fun _ => rfl) h124 rfl) (.cons (dt h128) (.cons h129 (.cons (arr_store (γ := FV) (sz := 1) (g := (fun x => [.d (.v (.int .i64 x))])) (pre := [.d (.v (.int .i64 v_b76.fPending)), .d (.v (.int .i64 v_b76.fMask))]) (post := []) (o := 0) (y := 0) (zs := [.d (.v (.int .i64 0))]) (fun _ => rfl) h130 rfl (Nat.le_of_ble_eq_true rfl)).1 (.cons (arr_store (γ := FV) (sz := 1) (g := (fun x => [.d (.v (.int .i64 x))])) (pre := [.d (.v (.int .i64 v_b76.fPending)), .d (.v (.int .i64 v_b76.fMask))]) (post := []) (o := 0) (y := 0) (zs := [.d (.v (.int .i64 0))]) (fun _ => rfl) h130 rfl (Nat.le_of_ble_eq_true rfl)).2 .nil))))))) (G_sig_Child_L1_ok hF ks n  k (wi .i64 (v_x75 + 1)) (S_sig_Set.mk v_b76.fPending v_b76.fMask (setA v_b76.fHow v_x75 0)) _ h q)
          · rw [if_neg h129] at h; cases h
        · rw [if_neg h128] at h
          exact pkk_sound TTok mix hF 16 (hs := [.t true, .l (.d (.v (.int .i64 v_y80))), .t false]) (ts := []) (s := [0, 1]) (l := [2, 4, 15]) (by kernel_rfl) (by kernel_rfl) (.cons (dt h114) (.cons h123 (.cons (arr_cell (γ := FV) (sz := 1) (g := (fun x => [.d (.v (.int .i64 x))])) (pre := [.d (.v (.int .i64 v_b76.fPending)), .d (.v (.int .i64 v_b76.fMask))]) (post := []) (o := 0) (fun _ => rfl) h124 rfl) (.cons (df h128) .nil)))) (G_sig_Child_L1_ok hF ks n  k (wi .i64 (v_x75 + 1)) v_b76 _ h q)
      · rw [if_neg h123] at h; cases h
    · rw [if_neg h114] at h
      cases h
      exact pkk_sound TTok mix hF 8 (hs := [.t false]) (ts := []) (s := [0, 1]) (l := [2, 4]) (by kernel_rfl) (by kernel_rfl) (.cons (df h114) .nil) q
/- ringhall/sig.Child -/
def G_sig_Child (n : Nat) (v_s65 : S_sig_Set) (v_exec66 : Bool) : Option (S_sig_Set × Int) :=
  (G_sig_Check n v_s65).bind fun (v_r67 : (Int)) =>
  if v_r67 = 0 then
   if v_exec66 = true then
    (G_sig_Child_L1 n  n 0 v_s65).bind fun v_o84 => match v_o84 with
    | .x0 v_z85 =>
      some (v_z85, 0)
   else
    some ((S_sig_Set.mk 0 v_s65.fMask v_s65.fHow), 0)
  else
   some ((S_sig_Set.mk 0 0 (fun (_ : Fin 16) => 0)), v_r67)
theorem G_sig_Child_ok (n : Nat) (v_s65 : S_sig_Set) (v_exec66 : Bool) (r : S_sig_Set × Int) (h : G_sig_Child n v_s65 v_exec66 = some r) : Ret Try.prog 56 [eS_sig_Set v_s65, eB v_exec66] (.tup [eS_sig_Set r.1, (eI .i64) r.2]) := by
  refine ret_run (n := 30) (fn := Try.f56) (c := bodyOf Try.f56) (by kernel_rfl) (by kernel_rfl) (by kernel_rfl) (by kernel_rfl) ?_
  have hF : KC 30 (FinR Try.prog Try.f56 (.tup [eS_sig_Set r.1, (eI .i64) r.2])) := FinR.kc' (by kernel_rfl)
  unfold G_sig_Child at h
  obtain ⟨v_r67, h93, h⟩ := bind_some h
  by_cases h95 : v_r67 = 0
  · rw [if_pos h95] at h
    by_cases h96 : v_exec66 = true
    · rw [if_pos h96] at h
      obtain ⟨v_o84, h131, h⟩ := bind_some h
      refine pkk_sound TTok mix hF 18 (hs := [.c, .r ((eI .i64) v_r67), .t false, .t true, .n n]) (ts := []) (s := [0, 3]) (l := [2, 4, 15]) (by kernel_rfl) (by kernel_rfl) (.cons (G_sig_Check_ok n v_s65 _ h93) (.cons (nf h95) (.cons h96 .nil))) (G_sig_Child_L1_ok hF (.b 0 :: .s (cR (cT (cR (cL (cR (cR (bodyOf Try.f56))))))) :: .s (cR (cR (cR (bodyOf Try.f56)))) :: []) n  n 0 v_s65 _ h131 ?_)
      cases v_o84 with
      | x0 v_z85 =>
        try dsimp only at h
        obtain rfl := Option.some.inj h
        exact pend_sound TTok mix 5 (hs := [.c, .c]) (by kernel_rfl) (by kernel_rfl) (by kernel_rfl) (.cons (show 0 + 18 ≤ 18 by decide) .nil)
    · rw [if_neg h96] at h
      obtain rfl := Option.some.inj h
      exact pend_sound TTok mix 19 (hs := [.c, .r ((eI .i64) v_r67), .t false, .t false, .c, .c, .c]) (by kernel_rfl) (by kernel_rfl) (by kernel_rfl) (.cons (G_sig_Check_ok n v_s65 _ h93) (.cons (nf h95) (.cons (vf h96) (.cons (show 0 + 1 ≤ 18 by decide) (.cons (show 0 + 18 ≤ 18 by decide) .nil)))))
  · rw [if_neg h95] at h
    obtain rfl := Option.some.inj h
    exact pend_sound TTok mix 12 (hs := [.c, .r ((eI .i64) v_r67), .t true, .c]) (by kernel_rfl) (by kernel_rfl) (by kernel_rfl) (.cons (G_sig_Check_ok n v_s65 _ h93) (.cons (nt h95) (.cons (show 0 + 18 ≤ 18 by decide) .nil)))
inductive G_slices_Min_int_int_L1_R where
  | x0 (v_m104 : Int)
def G_slices_Min_int_int_L1_ex : G_slices_Min_int_int_L1_R → Ex
  | .x0 _ => .exit 0
def G_slices_Min_int_int_L1_st (v_x98 : (List Int)) : G_slices_Min_int_int_L1_R → PS
  | .x0 v_m104 => ⟨[dd, dd, dd, .d (.v (.int .i64 v_m104)), dd, dd, dd, dd, dd, dd, dd, dd, dd, dd, dd, dd, dd, dd, dd, dd, dd, dd, dd, dd, dd], []⟩
def G_slices_Min_int_int_L1_hd (v_x98 : (List Int)) (v_m100 : Int) (v_i101 : Int) : PS := ⟨[.d (.sl (v_x98.map (eI .i64))), dd, dd, .d (.v (.int .i64 v_m100)), .d (.v (.int .i64 v_i101)), dd, dd, dd, dd, dd, dd, dd, dd, dd, dd, dd, dd, dd, dd, dd, dd, dd, dd, dd, dd], []⟩
def G_slices_Min_int_int_L1 (n : Nat) (v_x98 : (List Int)) : Nat → Int → Int → Option G_slices_Min_int_int_L1_R
  | 0, _, _ => none
  | k + 1, v_m100, v_i101 =>
    if v_i101 < (v_x98.length : Int) then
     (getI v_x98 v_i101).bind fun (v_y103 : Int) =>
     G_slices_Min_int_int_L1 n v_x98 k (minI v_m100 v_y103) (wi .i64 (v_i101 + 1))
    else
     some (.x0 v_m100)
theorem G_slices_Min_int_int_L1_ok {Fi : Ex → PS → Prop} (hF : KC 25 Fi) (ks : List Fr) (n : Nat) (v_x98 : (List Int))  : ∀ (k : Nat) (v_m100 : Int) (v_i101 : Int) (o : G_slices_Min_int_int_L1_R), G_slices_Min_int_int_L1 n v_x98 k v_m100 v_i101 = some o → RunE Try.prog 25 Fi ks (G_slices_Min_int_int_L1_ex o) (G_slices_Min_int_int_L1_st v_x98 o) → RunE Try.prog 25 Fi (.l k (cP (cB (cR (cL (cR (cR (cR (bodyOf Try.f132)))))))) :: ks) .normal (G_slices_Min_int_int_L1_hd v_x98 v_m100 v_i101)
  | 0, v_m100, v_i101, o, h, q => by rw [G_slices_Min_int_int_L1] at h; cases h
  | k + 1, v_m100, v_i101, o, h, q => by
    rw [G_slices_Min_int_int_L1] at h
    by_cases h151 : v_i101 < (v_x98.length : Int)
    · rw [if_pos h151] at h
      obtain ⟨v_y103, h153, h⟩ := bind_some h
      exact pkk_sound TTok mix hF 11 (hs := [.u (.d (.v (.int .i64 (v_x98.length : Int)))), .t true, .y ((eI .i64) v_y103), .c]) (ts := []) (s := []) (l := [0, 3, 4]) (by kernel_rfl) (by kernel_rfl) (.cons (len_ob (f := (eI .i64)) (l := v_x98)) (.cons (dt h151) (.cons (getI_ob (f := (eI .i64)) h153) .nil))) (G_slices_Min_int_int_L1_ok hF ks n v_x98 k (minI v_m100 v_y103) (wi .i64 (v_i101 + 1)) _ h q)
    · rw [if_neg h151] at h
      cases h
      exact pkk_sound TTok mix hF 8 (hs := [.u (.d (.v (.int .i64 (v_x98.length : Int)))), .t false]) (ts := []) (s := []) (l := [3]) (by kernel_rfl) (by kernel_rfl) (.cons (len_ob (f := (eI .i64)) (l := v_x98)) (.cons (df h151) .nil)) q
/- slices.Min[[]int,int] -/
def G_slices_Min_int_int (n : Nat) (v_x98 : (List Int)) : Option (Int) :=
  if (v_x98.length : Int) < 1 then
   none
  else
   (getI v_x98 0).bind fun (v_y99 : Int) =>
   (G_slices_Min_int_int_L1 n v_x98 n v_y99 1).bind fun v_o105 => match v_o105 with
   | .x0 v_z106 =>
     some v_z106
theorem G_slices_Min_int_int_ok (n : Nat) (v_x98 : (List Int)) (r : Int) (h : G_slices_Min_int_int n v_x98 = some r) : Ret Try.prog 132 [(eL (eI .i64)) v_x98] ((eI .i64) r) := by
  refine ret_run (n := 25) (fn := Try.f132) (c := bodyOf Try.f132) (by kernel_rfl) (by kernel_rfl) (by kernel_rfl) (by kernel_rfl) ?_
  have hF : KC 25 (FinR Try.prog Try.f132 ((eI .i64) r)) := FinR.kc' (by kernel_rfl)
  unfold G_slices_Min_int_int at h
  by_cases h149 : (v_x98.length : Int) < 1
  · rw [if_pos h149] at h
    cases h
  · rw [if_neg h149] at h
    obtain ⟨v_y99, h150, h⟩ := bind_some h
    obtain ⟨v_o105, h154, h⟩ := bind_some h
    refine pkk_sound TTok mix hF 14 (hs := [.u (.d (.v (.int .i64 (v_x98.length : Int)))), .t false, .y ((eI .i64) v_y99), .c, .n n]) (ts := []) (s := []) (l := [0, 3, 4]) (by kernel_rfl) (by kernel_rfl) (.cons (len_ob (f := (eI .i64)) (l := v_x98)) (.cons (df h149) (.cons (getI_ob (f := (eI .i64)) h150) .nil))) (G_slices_Min_int_int_L1_ok hF (.b 0 :: .s (cR (cR (cR (cR (bodyOf Try.f132))))) :: []) n v_x98 n v_y99 1 _ h154 ?_)
    cases v_o105 with
    | x0 v_z106 =>
      try dsimp only at h
      obtain rfl := Option.some.inj h
      exact pend_sound TTok mix 4 (hs := []) (by kernel_rfl) (by kernel_rfl) (by kernel_rfl) .nil
inductive G_ringref5_SignalErr_C1_R where
  | x0 (v_x90 : Bool)
def G_ringref5_SignalErr_C1_ex : G_ringref5_SignalErr_C1_R → Ex
  | .x0 _ => .normal
def G_ringref5_SignalErr_C1_st (v_pending87 : Int) (v_mask88 : Int) (v_how89 : (Fin 16 → Int)) : G_ringref5_SignalErr_C1_R → PS
  | .x0 v_x90 => ⟨[dd, .d (.v (.int .i64 v_mask88)), dd, dd, dd, .ref 0 0, dd, dd, dd, dd, dd, dd, dd, dd, dd, dd, dd, dd, dd, dd, dd, dd, dd, dd, dd, dd, dd, dd, dd, dd, .d (.v (.bool v_x90)), dd, dd, dd, dd, dd, dd, dd, dd, dd, dd, dd, dd, dd, dd, dd, dd, dd], [.box ((cA_t87 v_how89).map FV.d)]⟩
def G_ringref5_SignalErr_C1_hd (v_pending87 : Int) (v_mask88 : Int) (v_how89 : (Fin 16 → Int))  : PS := ⟨[.d (.v (.int .i64 v_pending87)), .d (.v (.int .i64 v_mask88)), dd, dd, dd, .ref 0 0, dd, dd, dd, dd, dd, dd, dd, dd, dd, dd, dd, dd, dd, dd, dd, dd, dd, dd, dd, dd, dd, dd, dd, dd, dd, dd, dd, dd, dd, dd, dd, dd, dd, dd, dd, dd, dd, dd, dd, dd, dd, dd], [.box ((cA_t87 v_how89).map FV.d)]⟩
def G_ringref5_SignalErr_C1 (n : Nat) (v_pending87 : Int) (v_mask88 : Int) (v_how89 : (Fin 16 → Int)) : Option G_ringref5_SignalErr_C1_R :=
  if v_pending87 < 0 then
   some (.x0 true)
  else
   if v_pending87 > 65535 then
    some (.x0 true)
   else
    if (remI v_pending87 2) = 1 then
     some (.x0 true)
    else
     if v_mask88 < 0 then
      some (.x0 true)
     else
      if v_mask88 > 65535 then
       some (.x0 true)
      else
       some (.x0 ((remI v_mask88 2) == 1))
theorem G_ringref5_SignalErr_C1_ok {Fi : Ex → PS → Prop} (hF : KC 48 Fi) (ks : List Fr) (n : Nat) (v_pending87 : Int) (v_mask88 : Int) (v_how89 : (Fin 16 → Int))  (o : G_ringref5_SignalErr_C1_R) (h : G_ringref5_SignalErr_C1 n v_pending87 v_mask88 v_how89 = some o) (q : RunE Try.prog 48 Fi ks (G_ringref5_SignalErr_C1_ex o) (G_ringref5_SignalErr_C1_st v_pending87 v_mask88 v_how89 o)) : RunE Try.prog 48 Fi (.s (cL (cL (cR (bodyOf Try.f57)))) :: ks) .normal (G_ringref5_SignalErr_C1_hd v_pending87 v_mask88 v_how89) := by
  unfold G_ringref5_SignalErr_C1 at h
  by_cases h140 : v_pending87 < 0
  · rw [if_pos h140] at h
    cases h
    exact pkk_sound TTok mix hF 1 (hs := [.t true, .c, .c, .c, .c, .c, .c, .c, .c, .c, .c, .c]) (ts := []) (s := [0]) (l := [1, 5, 30]) (by kernel_rfl) (by kernel_rfl) (.cons (dt h140) .nil) q
  · rw [if_neg h140] at h
    by_cases h141 : v_pending87 > 65535
    · rw [if_pos h141] at h
      cases h
      exact pkk_sound TTok mix hF 1 (hs := [.t false, .c, .t true, .c, .c, .c, .c, .c, .c, .c, .c, .c]) (ts := []) (s := [0]) (l := [1, 5, 30]) (by kernel_rfl) (by kernel_rfl) (.cons (df h140) (.cons (dt h141) .nil)) q
    · rw [if_neg h141] at h
      by_cases h143 : (remI v_pending87 2) = 1
      · rw [if_pos h143] at h
        cases h
        exact pkk_sound TTok mix hF 1 (hs := [.t false, .c, .t false, .c, .c, .t true, .c, .c, .c, .c, .c, .c]) (ts := []) (s := [0]) (l := [1, 5, 30]) (by kernel_rfl) (by kernel_rfl) (.cons (df h140) (.cons (df h141) (.cons (show (2 : Int) ≠ 0 by decide) (.cons (bt h143) .nil)))) q
      · rw [if_neg h143] at h
        by_cases h144 : v_mask88 < 0
        · rw [if_pos h144] at h
          cases h
          exact pkk_sound TTok mix hF 1 (hs := [.t false, .c, .t false, .c, .c, .t false, .c, .t true, .c, .c, .c, .c]) (ts := []) (s := [0]) (l := [1, 5, 30]) (by kernel_rfl) (by kernel_rfl) (.cons (df h140) (.cons (df h141) (.cons (show (2 : Int) ≠ 0 by decide) (.cons (bf h143) (.cons (dt h144) .nil))))) q
        · rw [if_neg h144] at h
          by_cases h145 : v_mask88 > 65535
          · rw [if_pos h145] at h
            cases h
            exact pkk_sound TTok mix hF 1 (hs := [.t false, .c, .t false, .c, .c, .t false, .c, .t false, .c, .t true, .c, .c]) (ts := []) (s := [0]) (l := [1, 5, 30]) (by kernel_rfl) (by kernel_rfl) (.cons (df h140) (.cons (df h141) (.cons (show (2 : Int) ≠ 0 by decide) (.cons (bf h143) (.cons (df h144) (.cons (dt h145) .nil)))))) q
          · rw [if_neg h145] at h
            cases h
            exact pkk_sound TTok mix hF 1 (hs := [.t false, .c, .t false, .c, .c, .t false, .c, .t false, .c, .t false, .c, .c]) (ts := []) (s := [0]) (l := [1, 5, 30]) (by kernel_rfl) (by kernel_rfl) (.cons (df h140) (.cons (df h141) (.cons (show (2 : Int) ≠ 0 by decide) (.cons (bf h143) (.cons (df h144) (.cons (df h145) (.cons (show (2 : Int) ≠ 0 by decide) .nil))))))) q
/- ringhall/ringref5.SignalErr -/
def G_ringref5_SignalErr (n : Nat) (v_pending87 : Int) (v_mask88 : Int) (v_how89 : (Fin 16 → Int)) : Option (Int) :=
  (G_ringref5_SignalErr_C1 n v_pending87 v_mask88 v_how89).bind fun v_o96 => match v_o96 with
  | .x0 v_z97 =>
    if v_z97 = true then
     some 1
    else
     (G_slices_Min_int_int n ([(v_how89 0), (v_how89 1), (v_how89 2), (v_how89 3), (v_how89 4), (v_how89 5), (v_how89 6), (v_how89 7), (v_how89 8), (v_how89 9), (v_how89 10), (v_how89 11), (v_how89 12), (v_how89 13), (v_how89 14), (v_how89 15)])).bind fun (v_r107 : (Int)) =>
     if v_r107 < 0 then
      some 1
     else
      if (v_how89 0) = 0 then
       if (remI (shrI .i64 v_mask88 9) 2) = 1 then
        some 3
       else
        if (v_how89 9) = 0 then
         some 0
        else
         some 3
      else
       some 1
theorem G_ringref5_SignalErr_ok (n : Nat) (v_pending87 : Int) (v_mask88 : Int) (v_how89 : (Fin 16 → Int)) (r : Int) (h : G_ringref5_SignalErr n v_pending87 v_mask88 v_how89 = some r) : Ret Try.prog 57 [(eI .i64) v_pending87, (eI .i64) v_mask88, (fun x => PV.agg (cA_t87 x)) v_how89] ((eI .i64) r) := by
  refine ret_run (n := 48) (fn := Try.f57) (c := bodyOf Try.f57) (by kernel_rfl) (by kernel_rfl) (by kernel_rfl) (by kernel_rfl) ?_
  have hF : KC 48 (FinR Try.prog Try.f57 ((eI .i64) r)) := FinR.kc' (by kernel_rfl)
  unfold G_ringref5_SignalErr at h
  obtain ⟨v_o96, h147, h⟩ := bind_some h
  refine pkk_sound TTok mix hF 4 (hs := []) (ts := []) (s := [0]) (l := [0, 1, 5]) (by kernel_rfl) (by kernel_rfl) .nil (G_ringref5_SignalErr_C1_ok hF (.s (cR (cL (cR (bodyOf Try.f57)))) :: .s (cR (cR (bodyOf Try.f57))) :: []) n v_pending87 v_mask88 v_how89 _ h147 ?_)
  cases v_o96 with
  | x0 v_z97 =>
    try dsimp only at h
    by_cases h148 : v_z97 = true
    · rw [if_pos h148] at h
      obtain rfl := Option.some.inj h
      exact pend_sound TTok mix 5 (hs := [.t true]) (by kernel_rfl) (by kernel_rfl) (by kernel_rfl) (.cons h148 .nil)
    · rw [if_neg h148] at h
      obtain ⟨v_r107, h155, h⟩ := bind_some h
      by_cases h156 : v_r107 < 0
      · rw [if_pos h156] at h
        obtain rfl := Option.some.inj h
        exact pend_sound TTok mix 10 (hs := [.t false, .c, .c, .r ((eI .i64) v_r107), .t true, .c, .c, .c]) (by kernel_rfl) (by kernel_rfl) (by kernel_rfl) (.cons (vf h148) (.cons (show (0 : Int) ≤ 0 by decide) (.cons (show (0 : Int) ≤ 16 by decide) (.cons (show (16 : Int) ≤ 16 by decide) (.cons (show (0 : Int) < 16 by decide) (.cons (G_slices_Min_int_int_ok n ([(v_how89 0), (v_how89 1), (v_how89 2), (v_how89 3), (v_how89 4), (v_how89 5), (v_how89 6), (v_how89 7), (v_how89 8), (v_how89 9), (v_how89 10), (v_how89 11), (v_how89 12), (v_how89 13), (v_how89 14), (v_how89 15)]) _ h155) (.cons (dt h156) .nil)))))))
      · rw [if_neg h156] at h
        by_cases h157 : (v_how89 0) = 0
        · rw [if_pos h157] at h
          by_cases h160 : (remI (shrI .i64 v_mask88 9) 2) = 1
          · rw [if_pos h160] at h
            obtain rfl := Option.some.inj h
            exact pend_sound TTok mix 15 (hs := [.t false, .c, .c, .r ((eI .i64) v_r107), .t false, .c, .c, .c, .t false, .t true, .c, .c, .c]) (by kernel_rfl) (by kernel_rfl) (by kernel_rfl) (.cons (vf h148) (.cons (show (0 : Int) ≤ 0 by decide) (.cons (show (0 : Int) ≤ 16 by decide) (.cons (show (16 : Int) ≤ 16 by decide) (.cons (show (0 : Int) < 16 by decide) (.cons (G_slices_Min_int_int_ok n ([(v_how89 0), (v_how89 1), (v_how89 2), (v_how89 3), (v_how89 4), (v_how89 5), (v_how89 6), (v_how89 7), (v_how89 8), (v_how89 9), (v_how89 10), (v_how89 11), (v_how89 12), (v_how89 13), (v_how89 14), (v_how89 15)]) _ h155) (.cons (df h156) (.cons (show (0 : Int) ≤ 0 ∧ (0 : Int) < 16 by decide) (.cons (nf h157) (.cons (show (0 : Int) ≤ 9 by decide) (.cons (show (2 : Int) ≠ 0 by decide) (.cons (bt h160) .nil))))))))))))
          · rw [if_neg h160] at h
            by_cases h161 : (v_how89 9) = 0
            · rw [if_pos h161] at h
              obtain rfl := Option.some.inj h
              exact pend_sound TTok mix 15 (hs := [.t false, .c, .c, .r ((eI .i64) v_r107), .t false, .c, .c, .c, .t false, .t false, .c, .c, .c, .t false]) (by kernel_rfl) (by kernel_rfl) (by kernel_rfl) (.cons (vf h148) (.cons (show (0 : Int) ≤ 0 by decide) (.cons (show (0 : Int) ≤ 16 by decide) (.cons (show (16 : Int) ≤ 16 by decide) (.cons (show (0 : Int) < 16 by decide) (.cons (G_slices_Min_int_int_ok n ([(v_how89 0), (v_how89 1), (v_how89 2), (v_how89 3), (v_how89 4), (v_how89 5), (v_how89 6), (v_how89 7), (v_how89 8), (v_how89 9), (v_how89 10), (v_how89 11), (v_how89 12), (v_how89 13), (v_how89 14), (v_how89 15)]) _ h155) (.cons (df h156) (.cons (show (0 : Int) ≤ 0 ∧ (0 : Int) < 16 by decide) (.cons (nf h157) (.cons (show (0 : Int) ≤ 9 by decide) (.cons (show (2 : Int) ≠ 0 by decide) (.cons (bf h160) (.cons (show (0 : Int) ≤ 9 ∧ (9 : Int) < 16 by decide) (.cons (nf h161) .nil))))))))))))))
            · rw [if_neg h161] at h
              obtain rfl := Option.some.inj h
              exact pend_sound TTok mix 15 (hs := [.t false, .c, .c, .r ((eI .i64) v_r107), .t false, .c, .c, .c, .t false, .t false, .c, .c, .c, .t true]) (by kernel_rfl) (by kernel_rfl) (by kernel_rfl) (.cons (vf h148) (.cons (show (0 : Int) ≤ 0 by decide) (.cons (show (0 : Int) ≤ 16 by decide) (.cons (show (16 : Int) ≤ 16 by decide) (.cons (show (0 : Int) < 16 by decide) (.cons (G_slices_Min_int_int_ok n ([(v_how89 0), (v_how89 1), (v_how89 2), (v_how89 3), (v_how89 4), (v_how89 5), (v_how89 6), (v_how89 7), (v_how89 8), (v_how89 9), (v_how89 10), (v_how89 11), (v_how89 12), (v_how89 13), (v_how89 14), (v_how89 15)]) _ h155) (.cons (df h156) (.cons (show (0 : Int) ≤ 0 ∧ (0 : Int) < 16 by decide) (.cons (nf h157) (.cons (show (0 : Int) ≤ 9 by decide) (.cons (show (2 : Int) ≠ 0 by decide) (.cons (bf h160) (.cons (show (0 : Int) ≤ 9 ∧ (9 : Int) < 16 by decide) (.cons (nt h161) .nil))))))))))))))
        · rw [if_neg h157] at h
          obtain rfl := Option.some.inj h
          exact pend_sound TTok mix 10 (hs := [.t false, .c, .c, .r ((eI .i64) v_r107), .t false, .c, .c, .c, .t true]) (by kernel_rfl) (by kernel_rfl) (by kernel_rfl) (.cons (vf h148) (.cons (show (0 : Int) ≤ 0 by decide) (.cons (show (0 : Int) ≤ 16 by decide) (.cons (show (16 : Int) ≤ 16 by decide) (.cons (show (0 : Int) < 16 by decide) (.cons (G_slices_Min_int_int_ok n ([(v_how89 0), (v_how89 1), (v_how89 2), (v_how89 3), (v_how89 4), (v_how89 5), (v_how89 6), (v_how89 7), (v_how89 8), (v_how89 9), (v_how89 10), (v_how89 11), (v_how89 12), (v_how89 13), (v_how89 14), (v_how89 15)]) _ h155) (.cons (df h156) (.cons (show (0 : Int) ≤ 0 ∧ (0 : Int) < 16 by decide) (.cons (nt h157) .nil)))))))))
inductive G_ringref5_numbers_L1_R where
  | x0 (v_w152 : (List Int))
def G_ringref5_numbers_L1_ex : G_ringref5_numbers_L1_R → Ex
  | .x0 _ => .exit 0
def G_ringref5_numbers_L1_st (v_n145 : Int) : G_ringref5_numbers_L1_R → PS
  | .x0 v_w152 => ⟨[dd, dd, dd, .srf 0, dd, dd, dd, dd, dd, dd, dd, dd, dd, dd, dd, dd, dd, dd, dd], [.row 3 1 (v_w152.map (eI .i64))]⟩
def G_ringref5_numbers_L1_hd (v_n145 : Int) (v_k146 : Int) (v_w147 : (List Int)) : PS := ⟨[.d (.v (.int .i64 v_n145)), dd, dd, .srf 0, .d (.v (.int .i64 v_k146)), dd, dd, dd, dd, dd, dd, dd, dd, dd, dd, dd, dd, dd, dd], [.row 3 1 (v_w147.map (eI .i64))]⟩
def G_ringref5_numbers_L1 (n : Nat) (v_n145 : Int) : Nat → Int → (List Int) → Option G_ringref5_numbers_L1_R
  | 0, _, _ => none
  | k + 1, v_k146, v_w147 =>
    if v_k146 < 16 then
     if 0 ≤ v_k146 then
      if (bits .and .i64 (shrI .i64 v_n145 v_k146) 1) = 1 then
       (app 8 v_w147 ([v_k146])).bind fun (v_a151 : (List Int)) =>
       G_ringref5_numbers_L1 n v_n145 k (wi .i64 (v_k146 + 1)) v_a151
      else
       G_ringref5_numbers_L1 n v_n145 k (wi .i64 (v_k146 + 1)) v_w147
     else none
    else
     some (.x0 v_w147)
theorem G_ringref5_numbers_L1_ok {Fi : Ex → PS → Prop} (hF : KC 19 Fi) (ks : List Fr) (n : Nat) (v_n145 : Int)  : ∀ (k : Nat) (v_k146 : Int) (v_w147 : (List Int)) (o : G_ringref5_numbers_L1_R), G_ringref5_numbers_L1 n v_n145 k v_k146 v_w147 = some o → RunE Try.prog 19 Fi ks (G_ringref5_numbers_L1_ex o) (G_ringref5_numbers_L1_st v_n145 o) → RunE Try.prog 19 Fi (.l k (cP (cB (cR (cL (cR (cR (bodyOf Try.f133))))))) :: ks) .normal (G_ringref5_numbers_L1_hd v_n145 v_k146 v_w147)
  | 0, v_k146, v_w147, o, h, q => by rw [G_ringref5_numbers_L1] at h; cases h
  | k + 1, v_k146, v_w147, o, h, q => by
    rw [G_ringref5_numbers_L1] at h
    by_cases h221 : v_k146 < 16
    · rw [if_pos h221] at h
      by_cases h227 : 0 ≤ v_k146
      · rw [if_pos h227] at h
        by_cases h230 : (bits .and .i64 (shrI .i64 v_n145 v_k146) 1) = 1
        · rw [if_pos h230] at h
          obtain ⟨v_a151, h231, h⟩ := bind_some h
          exact pkk_sound TTok mix hF 14 (hs := [.t true, .t true, .bd, .w (v_a151.map (eI .i64))]) (ts := []) (s := [31]) (l := [0, 3, 4]) (by kernel_rfl) (by kernel_rfl) (.cons (dt h221) (.cons h227 (.cons (bt h230) (.cons (app_ob (f := (eI .i64)) (s := 1) h231 (fun _ => rfl)).1 (.cons (app_ob (f := (eI .i64)) (s := 1) h231 (fun _ => rfl)).2.1 (.cons (app_ob (f := (eI .i64)) (s := 1) h231 (fun _ => rfl)).2.2.1 (.cons (app_ob (f := (eI .i64)) (s := 1) h231 (fun _ => rfl)).2.2.2 .nil))))))) (G_ringref5_numbers_L1_ok hF ks n v_n145 k (wi .i64 (v_k146 + 1)) v_a151 _ h q)
        · rw [if_neg h230] at h
          exact pkk_sound TTok mix hF 14 (hs := [.t true, .t false]) (ts := []) (s := [0]) (l := [0, 3, 4]) (by kernel_rfl) (by kernel_rfl) (.cons (dt h221) (.cons h227 (.cons (bf h230) .nil))) (G_ringref5_numbers_L1_ok hF ks n v_n145 k (wi .i64 (v_k146 + 1)) v_w147 _ h q)
      · rw [if_neg h227] at h; cases h
    · rw [if_neg h221] at h
      cases h
      exact pkk_sound TTok mix hF 8 (hs := [.t false]) (ts := []) (s := [0]) (l := [3]) (by kernel_rfl) (by kernel_rfl) (.cons (df h221) .nil) q
/- ringhall/ringref5.numbers -/
def G_ringref5_numbers (n : Nat) (v_n145 : Int) : Option ((List Int)) :=
  (G_ringref5_numbers_L1 n v_n145 n 1 ([] : List Int)).bind fun v_o153 => match v_o153 with
  | .x0 v_z154 =>
    some v_z154
theorem G_ringref5_numbers_ok (n : Nat) (v_n145 : Int) (r : (List Int)) (h : G_ringref5_numbers n v_n145 = some r) : Ret Try.prog 133 [(eI .i64) v_n145] ((eL (eI .i64)) r) := by
  refine ret_run (n := 19) (fn := Try.f133) (c := bodyOf Try.f133) (by kernel_rfl) (by kernel_rfl) (by kernel_rfl) (by kernel_rfl) ?_
  have hF : KC 19 (FinR Try.prog Try.f133 ((eL (eI .i64)) r)) := FinR.kc' (by kernel_rfl)
  unfold G_ringref5_numbers at h
  obtain ⟨v_o153, h232, h⟩ := bind_some h
  refine pkk_sound TTok mix hF 9 (hs := [.n n]) (ts := [(3, 3, 1)]) (s := [9]) (l := [0, 3, 4]) (by kernel_rfl) (by kernel_rfl) .nil (G_ringref5_numbers_L1_ok hF (.b 0 :: .s (cR (cR (cR (bodyOf Try.f133)))) :: []) n v_n145 n 1 ([] : List Int) _ h232 ?_)
  cases v_o153 with
  | x0 v_z154 =>
    try dsimp only at h
    obtain rfl := Option.some.inj h
    exact pend_sound TTok mix 4 (hs := []) (by kernel_rfl) (by kernel_rfl) (by kernel_rfl) .nil
/- ringhall/ringref5.SignalsOf -/
def G_ringref5_SignalsOf (n : Nat) (v_pending142 : Int) (v_mask143 : Int) (v_how144 : (Fin 16 → Int)) : Option (S_ringref5_Signals) :=
  (G_ringref5_numbers n v_pending142).bind fun (v_r155 : ((List Int))) =>
  (G_ringref5_numbers n v_mask143).bind fun (v_r156 : ((List Int))) =>
  some (S_ringref5_Signals.mk v_r155 v_r156 v_how144)
theorem G_ringref5_SignalsOf_ok (n : Nat) (v_pending142 : Int) (v_mask143 : Int) (v_how144 : (Fin 16 → Int)) (r : S_ringref5_Signals) (h : G_ringref5_SignalsOf n v_pending142 v_mask143 v_how144 = some r) : Ret Try.prog 59 [(eI .i64) v_pending142, (eI .i64) v_mask143, (fun x => PV.agg (cA_t87 x)) v_how144] (eS_ringref5_Signals r) := by
  refine ret_run (n := 13) (fn := Try.f59) (c := bodyOf Try.f59) (by kernel_rfl) (by kernel_rfl) (by kernel_rfl) (by kernel_rfl) ?_
  have hF : KC 13 (FinR Try.prog Try.f59 (eS_ringref5_Signals r)) := FinR.kc' (by kernel_rfl)
  unfold G_ringref5_SignalsOf at h
  obtain ⟨v_r155, h233, h⟩ := bind_some h
  obtain ⟨v_r156, h234, h⟩ := bind_some h
  obtain rfl := Option.some.inj h
  exact pend_sound TTok mix 5 (hs := [.r ((eL (eI .i64)) v_r155), .r ((eL (eI .i64)) v_r156), .c, .c]) (by kernel_rfl) (by kernel_rfl) (by kernel_rfl) (.cons (G_ringref5_numbers_ok n v_pending142 _ h233) (.cons (G_ringref5_numbers_ok n v_mask143 _ h234) (.cons (show 0 + 18 ≤ 18 by decide) .nil)))
inductive G_slices_Index_int_int_L1_R where
  | x0 (v_x166 : Int)
  | x1 
def G_slices_Index_int_int_L1_ex : G_slices_Index_int_int_L1_R → Ex
  | .x0 _ => .ret
  | .x1  => .exit 0
def G_slices_Index_int_int_L1_st (v_s161 : (List Int)) (v_v162 : Int) : G_slices_Index_int_int_L1_R → PS
  | .x0 v_x166 => ⟨[dd, dd, dd, dd, .d (.v (.int .i64 v_x166)), dd, dd, dd, dd, dd, dd, dd, dd, dd, dd, dd, dd, dd, dd], []⟩
  | .x1  => ⟨[dd, dd, dd, dd, dd, dd, dd, dd, dd, dd, dd, dd, dd, dd, dd, dd, dd, dd, dd], []⟩
def G_slices_Index_int_int_L1_hd (v_s161 : (List Int)) (v_v162 : Int) (v_x163 : Int) : PS := ⟨[.d (.sl (v_s161.map (eI .i64))), .d (.v (.int .i64 v_v162)), dd, dd, dd, dd, dd, .d (.v (.int .i64 (v_s161.length : Int))), .d (.v (.int .i64 v_x163)), dd, dd, dd, dd, dd, dd, dd, dd, dd, dd], []⟩
def G_slices_Index_int_int_L1 (n : Nat) (v_s161 : (List Int)) (v_v162 : Int) : Nat → Int → Option G_slices_Index_int_int_L1_R
  | 0, _ => none
  | k + 1, v_x163 =>
    if v_x163 < (v_s161.length : Int) then
     (getI v_s161 v_x163).bind fun (v_y165 : Int) =>
     if v_v162 = v_y165 then
      some (.x0 v_x163)
     else
      G_slices_Index_int_int_L1 n v_s161 v_v162 k (wi .i64 (v_x163 + 1))
    else
     some (.x1 )
theorem G_slices_Index_int_int_L1_ok {Fi : Ex → PS → Prop} (hF : KC 19 Fi) (ks : List Fr) (n : Nat) (v_s161 : (List Int)) (v_v162 : Int)  : ∀ (k : Nat) (v_x163 : Int) (o : G_slices_Index_int_int_L1_R), G_slices_Index_int_int_L1 n v_s161 v_v162 k v_x163 = some o → RunE Try.prog 19 Fi ks (G_slices_Index_int_int_L1_ex o) (G_slices_Index_int_int_L1_st v_s161 v_v162 o) → RunE Try.prog 19 Fi (.l k (cP (cB (cR (cL (cR (bodyOf Try.f119)))))) :: ks) .normal (G_slices_Index_int_int_L1_hd v_s161 v_v162 v_x163)
  | 0, v_x163, o, h, q => by rw [G_slices_Index_int_int_L1] at h; cases h
  | k + 1, v_x163, o, h, q => by
    rw [G_slices_Index_int_int_L1] at h
    by_cases h236 : v_x163 < (v_s161.length : Int)
    · rw [if_pos h236] at h
      obtain ⟨v_y165, h239, h⟩ := bind_some h
      by_cases h240 : v_v162 = v_y165
      · rw [if_pos h240] at h
        cases h
        exact pkk_sound TTok mix hF 19 (hs := [.t true, .y ((eI .i64) v_y165), .c, .t true]) (ts := []) (s := []) (l := [4]) (by kernel_rfl) (by kernel_rfl) (.cons (dt h236) (.cons (getI_ob (f := (eI .i64)) h239) (.cons (bt h240) .nil))) q
      · rw [if_neg h240] at h
        exact pkk_sound TTok mix hF 16 (hs := [.t true, .y ((eI .i64) v_y165), .c, .t false]) (ts := []) (s := []) (l := [0, 1, 7, 8]) (by kernel_rfl) (by kernel_rfl) (.cons (dt h236) (.cons (getI_ob (f := (eI .i64)) h239) (.cons (bf h240) .nil))) (G_slices_Index_int_int_L1_ok hF ks n v_s161 v_v162 k (wi .i64 (v_x163 + 1)) _ h q)
    · rw [if_neg h236] at h
      cases h
      exact pkk_sound TTok mix hF 8 (hs := [.t false]) (ts := []) (s := []) (l := []) (by kernel_rfl) (by kernel_rfl) (.cons (df h236) .nil) q
/- slices.Index[[]int,int] -/
def G_slices_Index_int_int (n : Nat) (v_s161 : (List Int)) (v_v162 : Int) : Option (Int) :=
  (G_slices_Index_int_int_L1 n v_s161 v_v162 n 0).bind fun v_o167 => match v_o167 with
  | .x0 v_z168 =>
    some v_z168
  | .x1  =>
    some (-1)
theorem G_slices_Index_int_int_ok (n : Nat) (v_s161 : (List Int)) (v_v162 : Int) (r : Int) (h : G_slices_Index_int_int n v_s161 v_v162 = some r) : Ret Try.prog 119 [(eL (eI .i64)) v_s161, (eI .i64) v_v162] ((eI .i64) r) := by
  refine ret_run (n := 19) (fn := Try.f119) (c := bodyOf Try.f119) (by kernel_rfl) (by kernel_rfl) (by kernel_rfl) (by kernel_rfl) ?_
  have hF : KC 19 (FinR Try.prog Try.f119 ((eI .i64) r)) := FinR.kc' (by kernel_rfl)
  unfold G_slices_Index_int_int at h
  obtain ⟨v_o167, h241, h⟩ := bind_some h
  refine pkk_sound TTok mix hF 7 (hs := [.u (.d (.v (.int .i64 (v_s161.length : Int)))), .n n]) (ts := []) (s := []) (l := [0, 1, 7, 8]) (by kernel_rfl) (by kernel_rfl) (.cons (len_ob (f := (eI .i64)) (l := v_s161)) .nil) (G_slices_Index_int_int_L1_ok hF (.b 0 :: .s (cR (cR (bodyOf Try.f119))) :: []) n v_s161 v_v162 n 0 _ h241 ?_)
  cases v_o167 with
  | x0 v_z168 =>
    try dsimp only at h
    obtain rfl := Option.some.inj h
    exact pend_sound TTok mix 2 (hs := []) (by kernel_rfl) (by kernel_rfl) (by kernel_rfl) .nil
  | x1  =>
    try dsimp only at h
    obtain rfl := Option.some.inj h
    exact pend_sound TTok mix 4 (hs := []) (by kernel_rfl) (by kernel_rfl) (by kernel_rfl) .nil
/- slices.Contains[[]int,int] -/
def G_slices_Contains_int_int (n : Nat) (v_s159 : (List Int)) (v_v160 : Int) : Option (Bool) :=
  (G_slices_Index_int_int n v_s159 v_v160).bind fun (v_r169 : (Int)) =>
  some (decide (v_r169 ≥ 0))
theorem G_slices_Contains_int_int_ok (n : Nat) (v_s159 : (List Int)) (v_v160 : Int) (r : Bool) (h : G_slices_Contains_int_int n v_s159 v_v160 = some r) : Ret Try.prog 21 [(eL (eI .i64)) v_s159, (eI .i64) v_v160] (eB r) := by
  refine ret_run (n := 9) (fn := Try.f21) (c := bodyOf Try.f21) (by kernel_rfl) (by kernel_rfl) (by kernel_rfl) (by kernel_rfl) ?_
  have hF : KC 9 (FinR Try.prog Try.f21 (eB r)) := FinR.kc' (by kernel_rfl)
  unfold G_slices_Contains_int_int at h
  obtain ⟨v_r169, h242, h⟩ := bind_some h
  obtain rfl := Option.some.inj h
  exact pend_sound TTok mix 5 (hs := [.r ((eI .i64) v_r169)]) (by kernel_rfl) (by kernel_rfl) (by kernel_rfl) (.cons (G_slices_Index_int_int_ok n v_s159 v_v160 _ h242) .nil)
inductive G_ringref5_Signals_Ready_L1_R where
  | x0 (v_x176 : Int)
  | x1 
def G_ringref5_Signals_Ready_L1_ex : G_ringref5_Signals_Ready_L1_R → Ex
  | .x0 _ => .ret
  | .x1  => .exit 0
def G_ringref5_Signals_Ready_L1_st (v_s158 : S_ringref5_Signals) : G_ringref5_Signals_Ready_L1_R → PS
  | .x0 v_x176 => ⟨[dd, dd, .d (.v (.int .i64 v_x176)), dd, dd, dd, dd, dd, dd, dd, dd, dd, dd, dd, dd, dd, dd, dd, dd, dd, dd, dd], []⟩
  | .x1  => ⟨[dd, dd, dd, dd, dd, dd, dd, dd, dd, dd, dd, dd, dd, dd, dd, dd, dd, dd, dd, dd, dd, dd], []⟩
def G_ringref5_Signals_Ready_L1_hd (v_s158 : S_ringref5_Signals) (v_x171 : Int) : PS := ⟨[dd, .ref 0 0, dd, dd, dd, dd, dd, dd, dd, .d (.sl (v_s158.fWait.map (eI .i64))), .d (.v (.int .i64 (v_s158.fWait.length : Int))), .d (.v (.int .i64 v_x171)), dd, dd, dd, dd, dd, dd, dd, dd, dd, dd], [.box ((cS_ringref5_Signals v_s158).map FV.d)]⟩
def G_ringref5_Signals_Ready_L1 (n : Nat) (v_s158 : S_ringref5_Signals) : Nat → Int → Option G_ringref5_Signals_Ready_L1_R
  | 0, _ => none
  | k + 1, v_x171 =>
    if v_x171 < (v_s158.fWait.length : Int) then
     (getI v_s158.fWait v_x171).bind fun (v_y174 : Int) =>
     (G_slices_Contains_int_int n v_s158.fBack v_y174).bind fun (v_r175 : (Bool)) =>
     if v_r175 = true then
      G_ringref5_Signals_Ready_L1 n v_s158 k (wi .i64 (v_x171 + 1))
     else
      some (.x0 v_y174)
    else
     some (.x1 )
theorem G_ringref5_Signals_Ready_L1_ok {Fi : Ex → PS → Prop} (hF : KC 22 Fi) (ks : List Fr) (n : Nat) (v_s158 : S_ringref5_Signals)  : ∀ (k : Nat) (v_x171 : Int) (o : G_ringref5_Signals_Ready_L1_R), G_ringref5_Signals_Ready_L1 n v_s158 k v_x171 = some o → RunE Try.prog 22 Fi ks (G_ringref5_Signals_Ready_L1_ex o) (G_ringref5_Signals_Ready_L1_st v_s158 o) → RunE Try.prog 22 Fi (.l k (cP (cB (cR (cL (cR (cR (bodyOf Try.f60))))))) :: ks) .normal (G_ringref5_Signals_Ready_L1_hd v_s158 v_x171)
  | 0, v_x171, o, h, q => by rw [G_ringref5_Signals_Ready_L1] at h; cases h
  | k + 1, v_x171, o, h, q => by
    rw [G_ringref5_Signals_Ready_L1] at h
    by_cases h245 : v_x171 < (v_s158.fWait.length : Int)
    · rw [if_pos h245] at h
      obtain ⟨v_y174, h249, h⟩ := bind_some h
      obtain ⟨v_r175, h250, h⟩ := bind_some h
      by_cases h251 : v_r175 = true
      · rw [if_pos h251] at h
        exact pkk_sound TTok mix hF 16 (hs := [.t true, .y ((eI .i64) v_y174), .c, .c, .r (eB v_r175), .t false]) (ts := []) (s := [0]) (l := [1, 9, 10, 11]) (by kernel_rfl) (by kernel_rfl) (.cons (dt h245) (.cons (getI_ob (f := (eI .i64)) h249) (.cons (G_slices_Contains_int_int_ok n v_s158.fBack v_y174 _ h250) (.cons (bnf h251) .nil)))) (G_ringref5_Signals_Ready_L1_ok hF ks n v_s158 k (wi .i64 (v_x171 + 1)) _ h q)
      · rw [if_neg h251] at h
        cases h
        exact pkk_sound TTok mix hF 19 (hs := [.t true, .y ((eI .i64) v_y174), .c, .c, .r (eB v_r175), .t true]) (ts := []) (s := []) (l := [2]) (by kernel_rfl) (by kernel_rfl) (.cons (dt h245) (.cons (getI_ob (f := (eI .i64)) h249) (.cons (G_slices_Contains_int_int_ok n v_s158.fBack v_y174 _ h250) (.cons (bnt (vf h251)) .nil)))) q
    · rw [if_neg h245] at h
      cases h
      exact pkk_sound TTok mix hF 8 (hs := [.t false]) (ts := []) (s := []) (l := []) (by kernel_rfl) (by kernel_rfl) (.cons (df h245) .nil) q
/- (ringhall/ringref5.Signals).Ready -/
def G_ringref5_Signals_Ready (n : Nat) (v_s158 : S_ringref5_Signals) : Option (Int) :=
  (G_slices_Contains_int_int n v_s158.fWait 9).bind fun (v_r170 : (Bool)) =>
  if v_r170 = true then
   some 9
  else
   (G_ringref5_Signals_Ready_L1 n v_s158 n 0).bind fun v_o177 => match v_o177 with
   | .x0 v_z178 =>
     some v_z178
   | .x1  =>
     some 0
theorem G_ringref5_Signals_Ready_ok (n : Nat) (v_s158 : S_ringref5_Signals) (r : Int) (h : G_ringref5_Signals_Ready n v_s158 = some r) : Ret Try.prog 60 [eS_ringref5_Signals v_s158] ((eI .i64) r) := by
  refine ret_run (n := 22) (fn := Try.f60) (c := bodyOf Try.f60) (by kernel_rfl) (by kernel_rfl) (by kernel_rfl) (by kernel_rfl) ?_
  have hF : KC 22 (FinR Try.prog Try.f60 ((eI .i64) r)) := FinR.kc' (by kernel_rfl)
  unfold G_ringref5_Signals_Ready at h
  obtain ⟨v_r170, h243, h⟩ := bind_some h
  by_cases h244 : v_r170 = true
  · rw [if_pos h244] at h
    obtain rfl := Option.some.inj h
    exact pend_sound TTok mix 10 (hs := [.c, .r (eB v_r170), .t true]) (by kernel_rfl) (by kernel_rfl) (by kernel_rfl) (.cons (G_slices_Contains_int_int_ok n v_s158.fWait 9 _ h243) (.cons h244 .nil))
  · rw [if_neg h244] at h
    obtain ⟨v_o177, h252, h⟩ := bind_some h
    refine pkk_sound TTok mix hF 12 (hs := [.c, .r (eB v_r170), .t false, .c, .u (.d (.v (.int .i64 (v_s158.fWait.length : Int)))), .n n]) (ts := []) (s := [0]) (l := [1, 9, 10, 11]) (by kernel_rfl) (by kernel_rfl) (.cons (G_slices_Contains_int_int_ok n v_s158.fWait 9 _ h243) (.cons (vf h244) (.cons (len_ob (f := (eI .i64)) (l := v_s158.fWait)) .nil))) (G_ringref5_Signals_Ready_L1_ok hF (.b 0 :: .s (cR (cR (cR (bodyOf Try.f60)))) :: []) n v_s158 n 0 _ h252 ?_)
    cases v_o177 with
    | x0 v_z178 =>
      try dsimp only at h
      obtain rfl := Option.some.inj h
      exact pend_sound TTok mix 2 (hs := []) (by kernel_rfl) (by kernel_rfl) (by kernel_rfl) .nil
    | x1  =>
      try dsimp only at h
      obtain rfl := Option.some.inj h
      exact pend_sound TTok mix 4 (hs := []) (by kernel_rfl) (by kernel_rfl) (by kernel_rfl) .nil
/- slices.Clone[[]int,int] -/
def G_slices_Clone_int_int_A (n : Nat) (v_c191 : Nat) : Option ((List Int)) :=
  some ([] : List Int)
theorem G_slices_Clone_int_int_A_ok (n : Nat) (v_c191 : Nat) (r : (List Int)) (h : G_slices_Clone_int_int_A n v_c191 = some r) : RetH Try.prog 23 [.d (.v (.slice none 0 v_c191))] [] (.srf 0) [.row 3 1 (r.map (eI .i64))] := by
  refine retH_run (n := 8) (fn := Try.f23) (c := bodyOf Try.f23) (by kernel_rfl) (by kernel_rfl) (by kernel_rfl) (by kernel_rfl) ?_
  have hF : KC 8 (FinH Try.prog Try.f23 [] (.srf 0) [.row 3 1 (r.map (eI .i64))]) := FinH.kc' (by kernel_rfl)
  unfold G_slices_Clone_int_int_A at h
  obtain rfl := Option.some.inj h
  exact pendH_sound TTok mix 11 (hs := [.c, .dl 4, .th 2 3 1]) [12] (by kernel_rfl) (by kernel_rfl) (by kernel_rfl) .nil
/- slices.Clone[[]int,int] -/
def G_slices_Clone_int_int_B (n : Nat) (v_a192 : Addr) (v_c193 : Nat) : Option ((List Int)) :=
  (app 8 ([] : List Int) ([] : (List Int))).bind fun (v_a194 : (List Int)) =>
  some v_a194
theorem G_slices_Clone_int_int_B_ok (n : Nat) (v_a192 : Addr) (v_c193 : Nat) (r : (List Int)) (h : G_slices_Clone_int_int_B n v_a192 v_c193 = some r) : RetH Try.prog 23 [.d (.v (.slice (some v_a192) 0 v_c193))] [] (.srf 0) [.row 3 1 (r.map (eI .i64))] := by
  refine retH_run (n := 8) (fn := Try.f23) (c := bodyOf Try.f23) (by kernel_rfl) (by kernel_rfl) (by kernel_rfl) (by kernel_rfl) ?_
  have hF : KC 8 (FinH Try.prog Try.f23 [] (.srf 0) [.row 3 1 (r.map (eI .i64))]) := FinH.kc' (by kernel_rfl)
  unfold G_slices_Clone_int_int_B at h
  obtain ⟨v_a194, h274, h⟩ := bind_some h
  obtain rfl := Option.some.inj h
  exact pendH_sound TTok mix 10 (hs := [.c, .w (([] : List Int).map (eI .i64)), .w (v_a194.map (eI .i64))]) [15] (by kernel_rfl) (by kernel_rfl) (by kernel_rfl) (.cons (Eq.refl (([] : List Int).map (eI .i64))) (.cons (app_ob (f := (eI .i64)) (s := 1) h274 (fun _ => rfl)).1 (.cons (app_ob (f := (eI .i64)) (s := 1) h274 (fun _ => rfl)).2.1 (.cons (app_ob (f := (eI .i64)) (s := 1) h274 (fun _ => rfl)).2.2.1 (.cons (app_ob (f := (eI .i64)) (s := 1) h274 (fun _ => rfl)).2.2.2 .nil)))))
/- slices.Clone[[]int,int] -/
def G_slices_Clone_int_int_C (n : Nat) (v_y195 : Int) (v_ys196 : (List Int)) : Option ((List Int)) :=
  (app 8 ([] : List Int) (v_y195 :: v_ys196)).bind fun (v_a197 : (List Int)) =>
  some v_a197
theorem G_slices_Clone_int_int_C_ok (n : Nat) (v_y195 : Int) (v_ys196 : (List Int)) (r : (List Int)) (h : G_slices_Clone_int_int_C n v_y195 v_ys196 = some r) : RetH Try.prog 23 [.d (.sl ((eI .i64) v_y195 :: v_ys196.map (eI .i64)))] [] (.srf 0) [.row 3 1 (r.map (eI .i64))] := by
  refine retH_run (n := 8) (fn := Try.f23) (c := bodyOf Try.f23) (by kernel_rfl) (by kernel_rfl) (by kernel_rfl) (by kernel_rfl) ?_
  have hF : KC 8 (FinH Try.prog Try.f23 [] (.srf 0) [.row 3 1 (r.map (eI .i64))]) := FinH.kc' (by kernel_rfl)
  unfold G_slices_Clone_int_int_C at h
  obtain ⟨v_a197, h275, h⟩ := bind_some h
  obtain rfl := Option.some.inj h
  exact pendH_sound TTok mix 10 (hs := [.c, .w (([] : List Int).map (eI .i64)), .w (v_a197.map (eI .i64))]) [15] (by kernel_rfl) (by kernel_rfl) (by kernel_rfl) (.cons (Eq.refl (([] : List Int).map (eI .i64))) (.cons (app_ob (f := (eI .i64)) (s := 1) h275 (fun _ => rfl)).1 (.cons (app_ob (f := (eI .i64)) (s := 1) h275 (fun _ => rfl)).2.1 (.cons (app_ob (f := (eI .i64)) (s := 1) h275 (fun _ => rfl)).2.2.1 (.cons (app_ob (f := (eI .i64)) (s := 1) h275 (fun _ => rfl)).2.2.2 .nil)))))
def G_slices_Clone_int_int (n : Nat) (xs : (List Int)) : Option (List Int) := app 8 [] xs
theorem G_slices_Clone_int_int_ok (n : Nat) (xs : (List Int)) (r : (List Int)) (h : G_slices_Clone_int_int n xs = some r) : RetH Try.prog 23 [.d (.sl (xs.map (eI .i64)))] [] (.srf 0) [.row 3 1 (r.map (eI .i64))] := by
  unfold G_slices_Clone_int_int at h
  have e : app 8 ([] : (List Int)) [] = some [] := by simp [app]
  cases xs with
  | nil =>
    rw [e] at h; obtain rfl := Option.some.inj h
    exact clone_nil (fun c => G_slices_Clone_int_int_A_ok n c _ (by unfold G_slices_Clone_int_int_A; rfl)) (fun a c => G_slices_Clone_int_int_B_ok n a c _ (by unfold G_slices_Clone_int_int_B; rw [e]; rfl))
  | cons y ys => exact G_slices_Clone_int_int_C_ok n y ys _ (by unfold G_slices_Clone_int_int_C; rw [h]; rfl)
/- (ringhall/ringref5.Signals).Without$1 -/
def G_ringref5_Signals_Without_1 (n : Nat) (v_k200 : Int) (v_c201 : Int) : Option (Bool) :=
  some (v_k200 == v_c201)
theorem G_ringref5_Signals_Without_1_ok (n : Nat) (v_k200 : Int) (v_c201 : Int) (r : Bool) (h : G_ringref5_Signals_Without_1 n v_k200 v_c201 = some r) : Ret Try.prog 136 [(eI .i64) v_k200, .iptr [.v (.int .i64 v_c201)] 0] (eB r) := by
  refine ret_run (n := 7) (fn := Try.f136) (c := bodyOf Try.f136) (by kernel_rfl) (by kernel_rfl) (by kernel_rfl) (by kernel_rfl) ?_
  have hF : KC 7 (FinR Try.prog Try.f136 (eB r)) := FinR.kc' (by kernel_rfl)
  unfold G_ringref5_Signals_Without_1 at h
  obtain rfl := Option.some.inj h
  exact pend_sound TTok mix 5 (hs := [.c]) (by kernel_rfl) (by kernel_rfl) (by kernel_rfl) .nil
inductive G_slices_IndexFunc_int_int_L1_R where
  | x0 (v_x211 : Int)
  | x1 
def G_slices_IndexFunc_int_int_L1_ex : G_slices_IndexFunc_int_int_L1_R → Ex
  | .x0 _ => .ret
  | .x1  => .exit 0
def G_slices_IndexFunc_int_int_L1_st (v_s204 : (List Int)) (v_f205 : (Int → Option (Bool))) (v_f205_g : FuncId) (v_f205_c : (List PV)) : G_slices_IndexFunc_int_int_L1_R → PS
  | .x0 v_x211 => ⟨[dd, dd, dd, dd, .d (.v (.int .i64 v_x211)), dd, dd, dd, dd, dd, dd, dd, dd, dd, dd, dd, dd, dd, dd], []⟩
  | .x1  => ⟨[dd, dd, dd, dd, dd, dd, dd, dd, dd, dd, dd, dd, dd, dd, dd, dd, dd, dd, dd], []⟩
def G_slices_IndexFunc_int_int_L1_hd (v_s204 : (List Int)) (v_f205 : (Int → Option (Bool))) (v_f205_g : FuncId) (v_f205_c : (List PV)) (v_x206 : Int) : PS := ⟨[.d (.sl (v_s204.map (eI .i64))), .d (.clo v_f205_g v_f205_c), dd, dd, dd, dd, dd, .d (.v (.int .i64 (v_s204.length : Int))), .d (.v (.int .i64 v_x206)), dd, dd, dd, dd, dd, dd, dd, dd, dd, dd], []⟩
def G_slices_IndexFunc_int_int_L1 (n : Nat) (v_s204 : (List Int)) (v_f205 : (Int → Option (Bool))) : Nat → Int → Option G_slices_IndexFunc_int_int_L1_R
  | 0, _ => none
  | k + 1, v_x206 =>
    if v_x206 < (v_s204.length : Int) then
     (getI v_s204 v_x206).bind fun (v_y209 : Int) =>
     (v_f205 v_y209).bind fun (v_r210 : (Bool)) =>
     if v_r210 = true then
      some (.x0 v_x206)
     else
      G_slices_IndexFunc_int_int_L1 n v_s204 v_f205 k (wi .i64 (v_x206 + 1))
    else
     some (.x1 )
theorem G_slices_IndexFunc_int_int_L1_ok {Fi : Ex → PS → Prop} (hF : KC 19 Fi) (ks : List Fr) (n : Nat) (v_s204 : (List Int)) (v_f205 : (Int → Option (Bool))) (v_f205_g : FuncId) (v_f205_c : (List PV)) (v_f205_h : ∀ (x0 : Int) (r : Bool), v_f205 x0 = some r → Ret Try.prog v_f205_g ([(eI .i64) x0] ++ v_f205_c) (eB r)) : ∀ (k : Nat) (v_x206 : Int) (o : G_slices_IndexFunc_int_int_L1_R), G_slices_IndexFunc_int_int_L1 n v_s204 v_f205 k v_x206 = some o → RunE Try.prog 19 Fi ks (G_slices_IndexFunc_int_int_L1_ex o) (G_slices_IndexFunc_int_int_L1_st v_s204 v_f205 v_f205_g v_f205_c o) → RunE Try.prog 19 Fi (.l k (cP (cB (cR (cL (cR (bodyOf Try.f187)))))) :: ks) .normal (G_slices_IndexFunc_int_int_L1_hd v_s204 v_f205 v_f205_g v_f205_c v_x206)
  | 0, v_x206, o, h, q => by rw [G_slices_IndexFunc_int_int_L1] at h; cases h
  | k + 1, v_x206, o, h, q => by
    rw [G_slices_IndexFunc_int_int_L1] at h
    by_cases h278 : v_x206 < (v_s204.length : Int)
    · rw [if_pos h278] at h
      obtain ⟨v_y209, h282, h⟩ := bind_some h
      obtain ⟨v_r210, h283, h⟩ := bind_some h
      by_cases h284 : v_r210 = true
      · rw [if_pos h284] at h
        cases h
        exact pkk_sound TTok mix hF 19 (hs := [.t true, .y ((eI .i64) v_y209), .c, .r (eB v_r210), .t true]) (ts := []) (s := []) (l := [4]) (by kernel_rfl) (by kernel_rfl) (.cons (dt h278) (.cons (getI_ob (f := (eI .i64)) h282) (.cons (v_f205_h v_y209 _ h283) (.cons h284 .nil)))) q
      · rw [if_neg h284] at h
        exact pkk_sound TTok mix hF 16 (hs := [.t true, .y ((eI .i64) v_y209), .c, .r (eB v_r210), .t false]) (ts := []) (s := []) (l := [0, 1, 7, 8]) (by kernel_rfl) (by kernel_rfl) (.cons (dt h278) (.cons (getI_ob (f := (eI .i64)) h282) (.cons (v_f205_h v_y209 _ h283) (.cons (vf h284) .nil)))) (G_slices_IndexFunc_int_int_L1_ok hF ks n v_s204 v_f205 v_f205_g v_f205_c v_f205_h k (wi .i64 (v_x206 + 1)) _ h q)
    · rw [if_neg h278] at h
      cases h
      exact pkk_sound TTok mix hF 8 (hs := [.t false]) (ts := []) (s := []) (l := []) (by kernel_rfl) (by kernel_rfl) (.cons (df h278) .nil) q
/- slices.IndexFunc[[]int,int] -/
def G_slices_IndexFunc_int_int (n : Nat) (v_s204 : (List Int)) (v_f205 : (Int → Option (Bool))) : Option (Int) :=
  (G_slices_IndexFunc_int_int_L1 n v_s204 v_f205 n 0).bind fun v_o212 => match v_o212 with
  | .x0 v_z213 =>
    some v_z213
  | .x1  =>
    some (-1)
theorem G_slices_IndexFunc_int_int_ok (n : Nat) (v_s204 : (List Int)) (v_f205 : (Int → Option (Bool))) (v_f205_g : FuncId) (v_f205_c : List PV) (v_f205_h : ∀ (x0 : Int) (r : Bool), v_f205 x0 = some r → Ret Try.prog v_f205_g ([(eI .i64) x0] ++ v_f205_c) (eB r)) (r : Int) (h : G_slices_IndexFunc_int_int n v_s204 v_f205 = some r) : Ret Try.prog 187 [(eL (eI .i64)) v_s204, (.clo v_f205_g v_f205_c)] ((eI .i64) r) := by
  refine ret_run (n := 19) (fn := Try.f187) (c := bodyOf Try.f187) (by kernel_rfl) (by kernel_rfl) (by kernel_rfl) (by kernel_rfl) ?_
  have hF : KC 19 (FinR Try.prog Try.f187 ((eI .i64) r)) := FinR.kc' (by kernel_rfl)
  unfold G_slices_IndexFunc_int_int at h
  obtain ⟨v_o212, h285, h⟩ := bind_some h
  refine pkk_sound TTok mix hF 7 (hs := [.u (.d (.v (.int .i64 (v_s204.length : Int)))), .n n]) (ts := []) (s := []) (l := [0, 1, 7, 8]) (by kernel_rfl) (by kernel_rfl) (.cons (len_ob (f := (eI .i64)) (l := v_s204)) .nil) (G_slices_IndexFunc_int_int_L1_ok hF (.b 0 :: .s (cR (cR (bodyOf Try.f187))) :: []) n v_s204 v_f205 v_f205_g v_f205_c v_f205_h n 0 _ h285 ?_)
  cases v_o212 with
  | x0 v_z213 =>
    try dsimp only at h
    obtain rfl := Option.some.inj h
    exact pend_sound TTok mix 2 (hs := []) (by kernel_rfl) (by kernel_rfl) (by kernel_rfl) .nil
  | x1  =>
    try dsimp only at h
    obtain rfl := Option.some.inj h
    exact pend_sound TTok mix 4 (hs := []) (by kernel_rfl) (by kernel_rfl) (by kernel_rfl) .nil
inductive G_slices_DeleteFunc_int_int_h_L1_R where
  | x0 (v_i226 : Int) (v_w227 : (List Int))
def G_slices_DeleteFunc_int_int_h_L1_ex : G_slices_DeleteFunc_int_int_h_L1_R → Ex
  | .x0 _ _ => .exit 0
def G_slices_DeleteFunc_int_int_h_L1_st (v_del203 : (Int → Option (Bool))) (v_del203_g : FuncId) (v_del203_c : (List PV)) : G_slices_DeleteFunc_int_int_h_L1_R → PS
  | .x0 v_i226 v_w227 => ⟨[.srf 1, dd, dd, dd, dd, .d (.v (.int .i64 v_i226)), dd, dd, dd, dd, dd, dd, dd, dd, dd, dd, dd, dd, dd, dd, dd, dd, dd, dd, dd, dd, dd, dd, dd, dd, dd, dd, dd, dd, dd, dd, dd, dd, dd, dd, dd, dd], [.gh 0 (.srf 1), .row 3 1 (v_w227.map (eI .i64))]⟩
def G_slices_DeleteFunc_int_int_h_L1_hd (v_del203 : (Int → Option (Bool))) (v_del203_g : FuncId) (v_del203_c : (List PV)) (v_i215 : Int) (v_j216 : Int) (v_w217 : (List Int)) : PS := ⟨[.srf 1, .d (.clo v_del203_g v_del203_c), dd, dd, dd, .d (.v (.int .i64 v_i215)), .d (.v (.int .i64 v_j216)), dd, dd, dd, dd, dd, dd, dd, dd, dd, dd, dd, dd, dd, dd, dd, dd, dd, dd, dd, dd, dd, dd, dd, dd, dd, dd, dd, dd, dd, dd, dd, dd, dd, dd, dd], [.gh 0 (.srf 1), .row 3 1 (v_w217.map (eI .i64))]⟩
def G_slices_DeleteFunc_int_int_h_L1 (n : Nat) (v_del203 : (Int → Option (Bool))) : Nat → Int → Int → (List Int) → Option G_slices_DeleteFunc_int_int_h_L1_R
  | 0, _, _, _ => none
  | k + 1, v_i215, v_j216, v_w217 =>
    if v_j216 < (v_w217.length : Int) then
     if 0 ≤ v_j216 ∧ (v_j216).toNat < v_w217.length then
      (v_w217[(v_j216).toNat]?).bind fun (v_y222 : Int) =>
      (v_del203 v_y222).bind fun (v_r223 : (Bool)) =>
      if v_r223 = true then
       G_slices_DeleteFunc_int_int_h_L1 n v_del203 k v_i215 (wi .i64 (v_j216 + 1)) v_w217
      else
       if 0 ≤ v_i215 ∧ (v_i215).toNat < v_w217.length then
        (v_w217[(v_i215).toNat]?).bind fun (v_y225 : Int) =>
        G_slices_DeleteFunc_int_int_h_L1 n v_del203 k (wi .i64 (v_i215 + 1)) (wi .i64 (v_j216 + 1)) (v_w217.set (v_i215).toNat v_y222)
       else none
     else none
    else
     some (.x0 v_i215 v_w217)
theorem G_slices_DeleteFunc_int_int_h_L1_ok {Fi : Ex → PS → Prop} (hF : KC 42 Fi) (ks : List Fr) (n : Nat) (v_del203 : (Int → Option (Bool))) (v_del203_g : FuncId) (v_del203_c : (List PV)) (v_del203_h : ∀ (x0 : Int) (r : Bool), v_del203 x0 = some r → Ret Try.prog v_del203_g ([(eI .i64) x0] ++ v_del203_c) (eB r)) : ∀ (k : Nat) (v_i215 : Int) (v_j216 : Int) (v_w217 : (List Int)) (o : G_slices_DeleteFunc_int_int_h_L1_R), G_slices_DeleteFunc_int_int_h_L1 n v_del203 k v_i215 v_j216 v_w217 = some o → RunE Try.prog 42 Fi ks (G_slices_DeleteFunc_int_int_h_L1_ex o) (G_slices_DeleteFunc_int_int_h_L1_st v_del203 v_del203_g v_del203_c o) → RunE Try.prog 42 Fi (.l k (cP (cB (cR (cL (cR (cR (cR (bodyOf Try.f135)))))))) :: ks) .normal (G_slices_DeleteFunc_int_int_h_L1_hd v_del203 v_del203_g v_del203_c v_i215 v_j216 v_w217)
  | 0, v_i215, v_j216, v_w217, o, h, q => by rw [G_slices_DeleteFunc_int_int_h_L1] at h; cases h
  | k + 1, v_i215, v_j216, v_w217, o, h, q => by
    rw [G_slices_DeleteFunc_int_int_h_L1] at h
    by_cases h288 : v_j216 < (v_w217.length : Int)
    · rw [if_pos h288] at h
      by_cases h298 : 0 ≤ v_j216 ∧ (v_j216).toNat < v_w217.length
      · rw [if_pos h298] at h
        obtain ⟨v_y222, h299, h⟩ := bind_some h
        obtain ⟨v_r223, h300, h⟩ := bind_some h
        by_cases h304 : v_r223 = true
        · rw [if_pos h304] at h
          exact pkk_sound TTok mix hF 16 (hs := [.u (.d (.v (.int .i64 (v_w217.length : Int)))), .t true, .y ((eI .i64) v_y222), .r (eB v_r223), .t false]) (ts := []) (s := [0, 1]) (l := [0, 1, 5, 6]) (by kernel_rfl) (by kernel_rfl) (.cons (len_ob (f := (eI .i64)) (l := v_w217)) (.cons (dt h288) (.cons (idx_ob (f := (eI .i64)) h298) (.cons (get_ob (f := (eI .i64)) h299) (.cons (v_del203_h v_y222 _ h300) (.cons (bnf h304) .nil)))))) (G_slices_DeleteFunc_int_int_h_L1_ok hF ks n v_del203 v_del203_g v_del203_c v_del203_h k v_i215 (wi .i64 (v_j216 + 1)) v_w217 _ h q)
        · rw [if_neg h304] at h
          by_cases h305 : 0 ≤ v_i215 ∧ (v_i215).toNat < v_w217.length
          · rw [if_pos h305] at h
            obtain ⟨v_y225, h306, h⟩ := bind_some h
            exact pkk_sound TTok mix hF 18 (hs := [.u (.d (.v (.int .i64 (v_w217.length : Int)))), .t true, .y ((eI .i64) v_y222), .r (eB v_r223), .t true, .w ((v_w217.set (v_i215).toNat v_y222).map (eI .i64)), .y ((eI .i64) v_y225)]) (ts := []) (s := [0, 1]) (l := [0, 1, 5, 6]) (by kernel_rfl) (by kernel_rfl) (.cons (len_ob (f := (eI .i64)) (l := v_w217)) (.cons (dt h288) (.cons (idx_ob (f := (eI .i64)) h298) (.cons (get_ob (f := (eI .i64)) h299) (.cons (v_del203_h v_y222 _ h300) (.cons (bnt (vf h304)) (.cons (idx_ob (f := (eI .i64)) h305) (.cons (get_ob (f := (eI .i64)) h306) (.cons (Eq.refl (pcells (.v (.int .i64 v_y222)))) (.cons (set_ob (f := (eI .i64)) (l := v_w217) (k := (v_i215).toNat) (z := v_y222) (p := .v (.int .i64 v_y222)) rfl) .nil)))))))))) (G_slices_DeleteFunc_int_int_h_L1_ok hF ks n v_del203 v_del203_g v_del203_c v_del203_h k (wi .i64 (v_i215 + 1)) (wi .i64 (v_j216 + 1)) (v_w217.set (v_i215).toNat v_y222) _ h q)
          · rw [if_neg h305] at h; cases h
      · rw [if_neg h298] at h; cases h
    · rw [if_neg h288] at h
      cases h
      exact pkk_sound TTok mix hF 8 (hs := [.u (.d (.v (.int .i64 (v_w217.length : Int)))), .t false]) (ts := []) (s := [0, 1]) (l := [0, 5]) (by kernel_rfl) (by kernel_rfl) (.cons (len_ob (f := (eI .i64)) (l := v_w217)) (.cons (df h288) .nil)) q
/- slices.DeleteFunc[[]int,int] -/
def G_slices_DeleteFunc_int_int_h (n : Nat) (v_s202 : (List Int)) (v_del203 : (Int → Option (Bool))) : Option ((List Int)) :=
  (G_slices_IndexFunc_int_int n v_s202 v_del203).bind fun (v_r214 : (Int)) =>
  if v_r214 = (-1) then
   some v_s202
  else
   (G_slices_DeleteFunc_int_int_h_L1 n v_del203 n v_r214 (wi .i64 (v_r214 + 1)) v_s202).bind fun v_o228 => match v_o228 with
   | .x0 v_z229 v_z230 =>
     if (0 ≤ v_z229 ∧ v_z229 ≤ (v_z230.length : Int)) then
      if v_z229.toNat ≤ v_z230.length ∧ v_z230.length ≤ v_z230.length then
       (sub (clrR v_z230 v_z229.toNat v_z230.length 0) 0 v_z229).bind fun (v_s231 : (List Int)) =>
       some v_s231
      else none
     else none
theorem G_slices_DeleteFunc_int_int_h_ok (n : Nat) (v_s202 : (List Int)) (v_del203 : (Int → Option (Bool))) (v_del203_g : FuncId) (v_del203_c : List PV) (v_del203_h : ∀ (x0 : Int) (r : Bool), v_del203 x0 = some r → Ret Try.prog v_del203_g ([(eI .i64) x0] ++ v_del203_c) (eB r)) (r : (List Int)) (h : G_slices_DeleteFunc_int_int_h n v_s202 v_del203 = some r) : RetH Try.prog 135 [.srf 0, .d ((.clo v_del203_g v_del203_c))] [.row 3 1 (v_s202.map (eI .i64))] (.srf 1) [.none, .row 3 1 (r.map (eI .i64))] := by
  refine retH_run (n := 42) (fn := Try.f135) (c := bodyOf Try.f135) (by kernel_rfl) (by kernel_rfl) (by kernel_rfl) (by kernel_rfl) ?_
  have hF : KC 42 (FinH Try.prog Try.f135 [.row 3 1 (v_s202.map (eI .i64))] (.srf 1) [.none, .row 3 1 (r.map (eI .i64))]) := FinH.kc' (by kernel_rfl)
  unfold G_slices_DeleteFunc_int_int_h at h
  obtain ⟨v_r214, h286, h⟩ := bind_some h
  by_cases h287 : v_r214 = (-1)
  · rw [if_pos h287] at h
    obtain rfl := Option.some.inj h
    exact pendH_sound TTok mix 13 (hs := [.c, .r ((eI .i64) v_r214), .t true, .dl 4, .mv 0]) [0, 29] (by kernel_rfl) (by kernel_rfl) (by kernel_rfl) (.cons (G_slices_IndexFunc_int_int_ok n v_s202 v_del203 v_del203_g v_del203_c v_del203_h _ h286) (.cons (bt h287) .nil))
  · rw [if_neg h287] at h
    obtain ⟨v_o228, h307, h⟩ := bind_some h
    refine pkk_sound TTok mix hF 14 (hs := [.c, .r ((eI .i64) v_r214), .t false, .n n]) (ts := []) (s := [1, 0]) (l := [0, 1, 5, 6]) (by kernel_rfl) (by kernel_rfl) (.cons (G_slices_IndexFunc_int_int_ok n v_s202 v_del203 v_del203_g v_del203_c v_del203_h _ h286) (.cons (bf h287) .nil)) (G_slices_DeleteFunc_int_int_h_L1_ok hF (.b 0 :: .s (cR (cR (cR (cR (bodyOf Try.f135))))) :: []) n v_del203 v_del203_g v_del203_c v_del203_h n v_r214 (wi .i64 (v_r214 + 1)) v_s202 _ h307 ?_)
    cases v_o228 with
    | x0 v_z229 v_z230 =>
      try dsimp only at h
      by_cases h308 : (0 ≤ v_z229 ∧ v_z229 ≤ (v_z230.length : Int))
      · rw [if_pos h308] at h
        by_cases h309 : v_z229.toNat ≤ v_z230.length ∧ v_z230.length ≤ v_z230.length
        · rw [if_pos h309] at h
          obtain ⟨v_s231, h310, h⟩ := bind_some h
          obtain rfl := Option.some.inj h
          exact pendH_sound TTok mix 6 (hs := [.e 8 [1] (.ssl 1 v_z229.toNat v_z230.length 1) [], .e 11 [1] (dd) [(1, .row 3 1 ((clrR v_z230 v_z229.toNat v_z230.length 0).map (eI .i64)))], .w (v_s231.map (eI .i64))]) [1, 20] (by kernel_rfl) (by kernel_rfl) (by kernel_rfl) (.cons (xs10 (P := Try.prog) (T := TT) (f := (eI .i64)) (t := 22) (e := 3) (s := 1) (l := 1) (L := v_z230) (x := (.tmp 36)) (lo := (.tmp 37)) (a := v_z229) (ka := .i64) (by kernel_rfl) h308) (.cons (xclr (ti := ⟨1, 8, .int .i64, [.i .i64]⟩) (P := Try.prog) (T := TT) (f := (eI .i64)) (t := 22) (e := 3) (s := 1) (l := 1) (i := v_z229.toNat) (j := v_z230.length) (z := 0) (L := v_z230) (x := (.tmp 38)) (p := .v (.int .i64 0)) (by kernel_rfl) (by kernel_rfl) (by kernel_rfl) (by kernel_rfl) (by decide) rfl h309) (.cons (Eq.refl (0 : Int)) (.cons (subR_ob (f := (eI .i64)) h310).1 (.cons (subR_ob (f := (eI .i64)) h310).2.1 (.cons (subR_ob (f := (eI .i64)) h310).2.2 .nil))))))
        · rw [if_neg h309] at h; cases h
      · rw [if_neg h308] at h; cases h
/- (ringhall/ringref5.Signals).Without -/
def G_ringref5_Signals_Without (n : Nat) (v_s189 : S_ringref5_Signals) (v_n190 : Int) : Option (S_ringref5_Signals) :=
  (G_slices_Clone_int_int n v_s189.fWait).bind fun (v_r199 : ((List Int))) =>
  (G_slices_DeleteFunc_int_int_h n v_r199 (fun (y0 : Int) => G_ringref5_Signals_Without_1 n y0 v_n190)).bind fun (v_r232 : ((List Int))) =>
  some (S_ringref5_Signals.mk v_r232 v_s189.fBack v_s189.fHow)
theorem G_ringref5_Signals_Without_ok (n : Nat) (v_s189 : S_ringref5_Signals) (v_n190 : Int) (r : S_ringref5_Signals) (h : G_ringref5_Signals_Without n v_s189 v_n190 = some r) : Ret Try.prog 62 [eS_ringref5_Signals v_s189, (eI .i64) v_n190] (eS_ringref5_Signals r) := by
  refine ret_run (n := 12) (fn := Try.f62) (c := bodyOf Try.f62) (by kernel_rfl) (by kernel_rfl) (by kernel_rfl) (by kernel_rfl) ?_
  have hF : KC 12 (FinR Try.prog Try.f62 (eS_ringref5_Signals r)) := FinR.kc' (by kernel_rfl)
  unfold G_ringref5_Signals_Without at h
  obtain ⟨v_r199, h277, h⟩ := bind_some h
  obtain ⟨v_r232, h311, h⟩ := bind_some h
  obtain rfl := Option.some.inj h
  exact pend_sound TTok mix 8 (hs := [.dl 3, .fb 3, .c, .h [] [] [.row 3 1 (v_r199.map (eI .i64))] (.srf 0), .h [15] [] [.none, .row 3 1 (v_r232.map (eI .i64))] (.srf 1), .c, .c, .c]) (by kernel_rfl) (by kernel_rfl) (by kernel_rfl) (.cons (G_slices_Clone_int_int_ok n v_s189.fWait _ h277) (.cons (G_slices_DeleteFunc_int_int_h_ok n v_r199 (fun (y0 : Int) => G_ringref5_Signals_Without_1 n y0 v_n190) 136 [.iptr [.v (.int .i64 v_n190)] 0] (fun y0 r h => G_ringref5_Signals_Without_1_ok n y0 v_n190 r h) _ h311) (.cons (show 0 + 1 ≤ 18 by decide) (.cons (show 0 + 18 ≤ 18 by decide) .nil))))
inductive G_ringref5_BitsOf_L1_R where
  | x0 (v_n241 : Int)
def G_ringref5_BitsOf_L1_ex : G_ringref5_BitsOf_L1_R → Ex
  | .x0 _ => .exit 0
def G_ringref5_BitsOf_L1_st (v_l236 : (List Int)) : G_ringref5_BitsOf_L1_R → PS
  | .x0 v_n241 => ⟨[dd, dd, dd, .d (.v (.int .i64 v_n241)), dd, dd, dd, dd, dd, dd, dd, dd, dd, dd, dd, dd, dd, dd], []⟩
def G_ringref5_BitsOf_L1_hd (v_l236 : (List Int)) (v_n237 : Int) (v_x238 : Int) : PS := ⟨[dd, dd, dd, .d (.v (.int .i64 v_n237)), dd, dd, .d (.sl (v_l236.map (eI .i64))), .d (.v (.int .i64 (v_l236.length : Int))), .d (.v (.int .i64 v_x238)), dd, dd, dd, dd, dd, dd, dd, dd, dd], []⟩
def G_ringref5_BitsOf_L1 (n : Nat) (v_l236 : (List Int)) : Nat → Int → Int → Option G_ringref5_BitsOf_L1_R
  | 0, _, _ => none
  | k + 1, v_n237, v_x238 =>
    if v_x238 < (v_l236.length : Int) then
     (getI v_l236 v_x238).bind fun (v_y240 : Int) =>
     if 0 ≤ v_y240 then
      G_ringref5_BitsOf_L1 n v_l236 k (wi .i64 (v_n237 + (shlI .i64 1 v_y240))) (wi .i64 (v_x238 + 1))
     else none
    else
     some (.x0 v_n237)
theorem G_ringref5_BitsOf_L1_ok {Fi : Ex → PS → Prop} (hF : KC 18 Fi) (ks : List Fr) (n : Nat) (v_l236 : (List Int))  : ∀ (k : Nat) (v_n237 : Int) (v_x238 : Int) (o : G_ringref5_BitsOf_L1_R), G_ringref5_BitsOf_L1 n v_l236 k v_n237 v_x238 = some o → RunE Try.prog 18 Fi ks (G_ringref5_BitsOf_L1_ex o) (G_ringref5_BitsOf_L1_st v_l236 o) → RunE Try.prog 18 Fi (.l k (cP (cB (cR (cL (cR (cR (bodyOf Try.f134))))))) :: ks) .normal (G_ringref5_BitsOf_L1_hd v_l236 v_n237 v_x238)
  | 0, v_n237, v_x238, o, h, q => by rw [G_ringref5_BitsOf_L1] at h; cases h
  | k + 1, v_n237, v_x238, o, h, q => by
    rw [G_ringref5_BitsOf_L1] at h
    by_cases h313 : v_x238 < (v_l236.length : Int)
    · rw [if_pos h313] at h
      obtain ⟨v_y240, h316, h⟩ := bind_some h
      by_cases h317 : 0 ≤ v_y240
      · rw [if_pos h317] at h
        exact pkk_sound TTok mix hF 13 (hs := [.t true, .y ((eI .i64) v_y240), .c]) (ts := []) (s := []) (l := [3, 6, 7, 8]) (by kernel_rfl) (by kernel_rfl) (.cons (dt h313) (.cons (getI_ob (f := (eI .i64)) h316) (.cons h317 .nil))) (G_ringref5_BitsOf_L1_ok hF ks n v_l236 k (wi .i64 (v_n237 + (shlI .i64 1 v_y240))) (wi .i64 (v_x238 + 1)) _ h q)
      · rw [if_neg h317] at h; cases h
    · rw [if_neg h313] at h
      cases h
      exact pkk_sound TTok mix hF 8 (hs := [.t false]) (ts := []) (s := []) (l := [3]) (by kernel_rfl) (by kernel_rfl) (.cons (df h313) .nil) q
/- ringhall/ringref5.BitsOf -/
def G_ringref5_BitsOf (n : Nat) (v_l236 : (List Int)) : Option (Int) :=
  (G_ringref5_BitsOf_L1 n v_l236 n 0 0).bind fun v_o242 => match v_o242 with
  | .x0 v_z243 =>
    some v_z243
theorem G_ringref5_BitsOf_ok (n : Nat) (v_l236 : (List Int)) (r : Int) (h : G_ringref5_BitsOf n v_l236 = some r) : Ret Try.prog 134 [(eL (eI .i64)) v_l236] ((eI .i64) r) := by
  refine ret_run (n := 18) (fn := Try.f134) (c := bodyOf Try.f134) (by kernel_rfl) (by kernel_rfl) (by kernel_rfl) (by kernel_rfl) ?_
  have hF : KC 18 (FinR Try.prog Try.f134 ((eI .i64) r)) := FinR.kc' (by kernel_rfl)
  unfold G_ringref5_BitsOf at h
  obtain ⟨v_o242, h318, h⟩ := bind_some h
  refine pkk_sound TTok mix hF 9 (hs := [.u (.d (.v (.int .i64 (v_l236.length : Int)))), .n n]) (ts := []) (s := []) (l := [3, 6, 7, 8]) (by kernel_rfl) (by kernel_rfl) (.cons (len_ob (f := (eI .i64)) (l := v_l236)) .nil) (G_ringref5_BitsOf_L1_ok hF (.b 0 :: .s (cR (cR (cR (bodyOf Try.f134)))) :: []) n v_l236 n 0 0 _ h318 ?_)
  cases v_o242 with
  | x0 v_z243 =>
    try dsimp only at h
    obtain rfl := Option.some.inj h
    exact pend_sound TTok mix 4 (hs := []) (by kernel_rfl) (by kernel_rfl) (by kernel_rfl) .nil
inductive G_ringlaw5_same_C1_R where
  | x0 (v_x248 : Bool)
def G_ringlaw5_same_C1_ex : G_ringlaw5_same_C1_R → Ex
  | .x0 _ => .normal
def G_ringlaw5_same_C1_st (v_s234 : S_sig_Set) (v_r235 : S_ringref5_Signals) : G_ringlaw5_same_C1_R → PS
  | .x0 v_x248 => ⟨[dd, dd, dd, dd, .d (.v (.bool v_x248)), dd, dd, dd, dd, dd, dd, dd, dd, dd, dd, dd, dd, dd, dd, dd, dd, dd, dd, dd, dd, dd], []⟩
def G_ringlaw5_same_C1_hd (v_s234 : S_sig_Set) (v_r235 : S_ringref5_Signals)  : PS := ⟨[dd, dd, .ref 0 0, .ref 1 0, dd, dd, dd, dd, dd, dd, dd, dd, dd, dd, dd, dd, dd, dd, dd, dd, dd, dd, dd, dd, dd, dd], [.box ((cS_sig_Set v_s234).map FV.d), .box ((cS_ringref5_Signals v_r235).map FV.d)]⟩
def G_ringlaw5_same_C1 (n : Nat) (v_s234 : S_sig_Set) (v_r235 : S_ringref5_Signals) : Option G_ringlaw5_same_C1_R :=
  (G_ringref5_BitsOf n v_r235.fWait).bind fun (v_r246 : (Int)) =>
  if v_s234.fPending = v_r246 then
   (G_ringref5_BitsOf n v_r235.fBack).bind fun (v_r247 : (Int)) =>
   if v_s234.fMask = v_r247 then
    some (.x0 (eqRes .eql (eqA_16_int v_s234.fHow v_r235.fHow)))
   else
    some (.x0 false)
  else
   some (.x0 false)
theorem G_ringlaw5_same_C1_ok {Fi : Ex → PS → Prop} (hF : KC 26 Fi) (ks : List Fr) (n : Nat) (v_s234 : S_sig_Set) (v_r235 : S_ringref5_Signals)  (o : G_ringlaw5_same_C1_R) (h : G_ringlaw5_same_C1 n v_s234 v_r235 = some o) (q : RunE Try.prog 26 Fi ks (G_ringlaw5_same_C1_ex o) (G_ringlaw5_same_C1_st v_s234 v_r235 o)) : RunE Try.prog 26 Fi (.s (cL (cR (bodyOf Try.f61))) :: ks) .normal (G_ringlaw5_same_C1_hd v_s234 v_r235) := by
  unfold G_ringlaw5_same_C1 at h
  obtain ⟨v_r246, h323, h⟩ := bind_some h
  by_cases h324 : v_s234.fPending = v_r246
  · rw [if_pos h324] at h
    obtain ⟨v_r247, h325, h⟩ := bind_some h
    by_cases h326 : v_s234.fMask = v_r247
    · rw [if_pos h326] at h
      cases h
      exact pkk_sound TTok mix hF 1 (hs := [.c, .c, .r ((eI .i64) v_r246), .t true, .c, .c, .c, .c, .c, .c, .r ((eI .i64) v_r247), .c, .t true, .c, .c, .c, .c, .c, .c, .q (eqA_16_int v_s234.fHow v_r235.fHow)]) (ts := []) (s := []) (l := [4]) (by kernel_rfl) (by kernel_rfl) (.cons (G_ringref5_BitsOf_ok n v_r235.fWait _ h323) (.cons (bt h324) (.cons (G_ringref5_BitsOf_ok n v_r235.fBack _ h325) (.cons (bt h326) (.cons (eqA_16_int_ok v_s234.fHow v_r235.fHow) .nil))))) q
    · rw [if_neg h326] at h
      cases h
      exact pkk_sound TTok mix hF 1 (hs := [.c, .c, .r ((eI .i64) v_r246), .t true, .c, .c, .c, .c, .c, .c, .r ((eI .i64) v_r247), .c, .t false, .c, .c, .c, .c]) (ts := []) (s := []) (l := [4]) (by kernel_rfl) (by kernel_rfl) (.cons (G_ringref5_BitsOf_ok n v_r235.fWait _ h323) (.cons (bt h324) (.cons (G_ringref5_BitsOf_ok n v_r235.fBack _ h325) (.cons (bf h326) .nil)))) q
  · rw [if_neg h324] at h
    cases h
    exact pkk_sound TTok mix hF 1 (hs := [.c, .c, .r ((eI .i64) v_r246), .t false, .c, .c, .c, .c, .c, .c, .c, .c, .c, .c]) (ts := []) (s := []) (l := [4]) (by kernel_rfl) (by kernel_rfl) (.cons (G_ringref5_BitsOf_ok n v_r235.fWait _ h323) (.cons (bf h324) .nil)) q
/- ringhall/ringlaw5.same -/
def G_ringlaw5_same (n : Nat) (v_s234 : S_sig_Set) (v_r235 : S_ringref5_Signals) : Option (Bool) :=
  (G_ringlaw5_same_C1 n v_s234 v_r235).bind fun v_o251 => match v_o251 with
  | .x0 v_z252 =>
    some v_z252
theorem G_ringlaw5_same_ok (n : Nat) (v_s234 : S_sig_Set) (v_r235 : S_ringref5_Signals) (r : Bool) (h : G_ringlaw5_same n v_s234 v_r235 = some r) : Ret Try.prog 61 [eS_sig_Set v_s234, eS_ringref5_Signals v_r235] (eB r) := by
  refine ret_run (n := 26) (fn := Try.f61) (c := bodyOf Try.f61) (by kernel_rfl) (by kernel_rfl) (by kernel_rfl) (by kernel_rfl) ?_
  have hF : KC 26 (FinR Try.prog Try.f61 (eB r)) := FinR.kc' (by kernel_rfl)
  unfold G_ringlaw5_same at h
  obtain ⟨v_o251, h327, h⟩ := bind_some h
  refine pkk_sound TTok mix hF 3 (hs := []) (ts := []) (s := [0, 3]) (l := [2, 3]) (by kernel_rfl) (by kernel_rfl) .nil (G_ringlaw5_same_C1_ok hF (.s (cR (cR (bodyOf Try.f61))) :: []) n v_s234 v_r235 _ h327 ?_)
  cases v_o251 with
  | x0 v_z252 =>
    try dsimp only at h
    obtain rfl := Option.some.inj h
    exact pend_sound TTok mix 1 (hs := []) (by kernel_rfl) (by kernel_rfl) (by kernel_rfl) .nil
/- math/bits.Len64 -/
def G_math_bits_Len64 (n : Nat) (v_x381 : Int) : Option (Int) :=
  if v_x381 ≥ 4294967296 then
   if (shrI .u64 v_x381 32) ≥ 65536 then
    if (shrI .u64 (shrI .u64 v_x381 32) 16) ≥ 256 then
     (getS (ByteArray.mk #[0, 1, 2, 2, 3, 3, 3, 3, 4, 4, 4, 4, 4, 4, 4, 4, 5, 5, 5, 5, 5, 5, 5, 5, 5, 5, 5, 5, 5, 5, 5, 5, 6, 6, 6, 6, 6, 6, 6, 6, 6, 6, 6, 6, 6, 6, 6, 6, 6, 6, 6, 6, 6, 6, 6, 6, 6, 6, 6, 6, 6, 6, 6, 6, 7, 7, 7, 7, 7, 7, 7, 7, 7, 7, 7, 7, 7, 7, 7, 7, 7, 7, 7, 7, 7, 7, 7, 7, 7, 7, 7, 7, 7, 7, 7, 7, 7, 7, 7, 7, 7, 7, 7, 7, 7, 7, 7, 7, 7, 7, 7, 7, 7, 7, 7, 7, 7, 7, 7, 7, 7, 7, 7, 7, 7, 7, 7, 7, 8, 8, 8, 8, 8, 8, 8, 8, 8, 8, 8, 8, 8, 8, 8, 8, 8, 8, 8, 8, 8, 8, 8, 8, 8, 8, 8, 8, 8, 8, 8, 8, 8, 8, 8, 8, 8, 8, 8, 8, 8, 8, 8, 8, 8, 8, 8, 8, 8, 8, 8, 8, 8, 8, 8, 8, 8, 8, 8, 8, 8, 8, 8, 8, 8, 8, 8, 8, 8, 8, 8, 8, 8, 8, 8, 8, 8, 8, 8, 8, 8, 8, 8, 8, 8, 8, 8, 8, 8, 8, 8, 8, 8, 8, 8, 8, 8, 8, 8, 8, 8, 8, 8, 8, 8, 8, 8, 8, 8, 8, 8, 8, 8, 8, 8, 8, 8, 8, 8, 8, 8, 8, 8, 8, 8, 8, 8, 8]) (wi .u8 (shrI .u64 (shrI .u64 (shrI .u64 v_x381 32) 16) 8))).bind fun (v_y382 : Int) =>
     some (wi .i64 ((wi .i64 ((wi .i64 (32 + 16)) + 8)) + (wi .i64 v_y382)))
    else
     (getS (ByteArray.mk #[0, 1, 2, 2, 3, 3, 3, 3, 4, 4, 4, 4, 4, 4, 4, 4, 5, 5, 5, 5, 5, 5, 5, 5, 5, 5, 5, 5, 5, 5, 5, 5, 6, 6, 6, 6, 6, 6, 6, 6, 6, 6, 6, 6, 6, 6, 6, 6, 6, 6, 6, 6, 6, 6, 6, 6, 6, 6, 6, 6, 6, 6, 6, 6, 7, 7, 7, 7, 7, 7, 7, 7, 7, 7, 7, 7, 7, 7, 7, 7, 7, 7, 7, 7, 7, 7, 7, 7, 7, 7, 7, 7, 7, 7, 7, 7, 7, 7, 7, 7, 7, 7, 7, 7, 7, 7, 7, 7, 7, 7, 7, 7, 7, 7, 7, 7, 7, 7, 7, 7, 7, 7, 7, 7, 7, 7, 7, 7, 8, 8, 8, 8, 8, 8, 8, 8, 8, 8, 8, 8, 8, 8, 8, 8, 8, 8, 8, 8, 8, 8, 8, 8, 8, 8, 8, 8, 8, 8, 8, 8, 8, 8, 8, 8, 8, 8, 8, 8, 8, 8, 8, 8, 8, 8, 8, 8, 8, 8, 8, 8, 8, 8, 8, 8, 8, 8, 8, 8, 8, 8, 8, 8, 8, 8, 8, 8, 8, 8, 8, 8, 8, 8, 8, 8, 8, 8, 8, 8, 8, 8, 8, 8, 8, 8, 8, 8, 8, 8, 8, 8, 8, 8, 8, 8, 8, 8, 8, 8, 8, 8, 8, 8, 8, 8, 8, 8, 8, 8, 8, 8, 8, 8, 8, 8, 8, 8, 8, 8, 8, 8, 8, 8, 8, 8, 8, 8]) (wi .u8 (shrI .u64 (shrI .u64 v_x381 32) 16))).bind fun (v_y383 : Int) =>
     some (wi .i64 ((wi .i64 (32 + 16)) + (wi .i64 v_y383)))
   else
    if (shrI .u64 v_x381 32) ≥ 256 then
     (getS (ByteArray.mk #[0, 1, 2, 2, 3, 3, 3, 3, 4, 4, 4, 4, 4, 4, 4, 4, 5, 5, 5, 5, 5, 5, 5, 5, 5, 5, 5, 5, 5, 5, 5, 5, 6, 6, 6, 6, 6, 6, 6, 6, 6, 6, 6, 6, 6, 6, 6, 6, 6, 6, 6, 6, 6, 6, 6, 6, 6, 6, 6, 6, 6, 6, 6, 6, 7, 7, 7, 7, 7, 7, 7, 7, 7, 7, 7, 7, 7, 7, 7, 7, 7, 7, 7, 7, 7, 7, 7, 7, 7, 7, 7, 7, 7, 7, 7, 7, 7, 7, 7, 7, 7, 7, 7, 7, 7, 7, 7, 7, 7, 7, 7, 7, 7, 7, 7, 7, 7, 7, 7, 7, 7, 7, 7, 7, 7, 7, 7, 7, 8, 8, 8, 8, 8, 8, 8, 8, 8, 8, 8, 8, 8, 8, 8, 8, 8, 8, 8, 8, 8, 8, 8, 8, 8, 8, 8, 8, 8, 8, 8, 8, 8, 8, 8, 8, 8, 8, 8, 8, 8, 8, 8, 8, 8, 8, 8, 8, 8, 8, 8, 8, 8, 8, 8, 8, 8, 8, 8, 8, 8, 8, 8, 8, 8, 8, 8, 8, 8, 8, 8, 8, 8, 8, 8, 8, 8, 8, 8, 8, 8, 8, 8, 8, 8, 8, 8, 8, 8, 8, 8, 8, 8, 8, 8, 8, 8, 8, 8, 8, 8, 8, 8, 8, 8, 8, 8, 8, 8, 8, 8, 8, 8, 8, 8, 8, 8, 8, 8, 8, 8, 8, 8, 8, 8, 8, 8, 8]) (wi .u8 (shrI .u64 (shrI .u64 v_x381 32) 8))).bind fun (v_y384 : Int) =>
     some (wi .i64 ((wi .i64 (32 + 8)) + (wi .i64 v_y384)))
    else
     (getS (ByteArray.mk #[0, 1, 2, 2, 3, 3, 3, 3, 4, 4, 4, 4, 4, 4, 4, 4, 5, 5, 5, 5, 5, 5, 5, 5, 5, 5, 5, 5, 5, 5, 5, 5, 6, 6, 6, 6, 6, 6, 6, 6, 6, 6, 6, 6, 6, 6, 6, 6, 6, 6, 6, 6, 6, 6, 6, 6, 6, 6, 6, 6, 6, 6, 6, 6, 7, 7, 7, 7, 7, 7, 7, 7, 7, 7, 7, 7, 7, 7, 7, 7, 7, 7, 7, 7, 7, 7, 7, 7, 7, 7, 7, 7, 7, 7, 7, 7, 7, 7, 7, 7, 7, 7, 7, 7, 7, 7, 7, 7, 7, 7, 7, 7, 7, 7, 7, 7, 7, 7, 7, 7, 7, 7, 7, 7, 7, 7, 7, 7, 8, 8, 8, 8, 8, 8, 8, 8, 8, 8, 8, 8, 8, 8, 8, 8, 8, 8, 8, 8, 8, 8, 8, 8, 8, 8, 8, 8, 8, 8, 8, 8, 8, 8, 8, 8, 8, 8, 8, 8, 8, 8, 8, 8, 8, 8, 8, 8, 8, 8, 8, 8, 8, 8, 8, 8, 8, 8, 8, 8, 8, 8, 8, 8, 8, 8, 8, 8, 8, 8, 8, 8, 8, 8, 8, 8, 8, 8, 8, 8, 8, 8, 8, 8, 8, 8, 8, 8, 8, 8, 8, 8, 8, 8, 8, 8, 8, 8, 8, 8, 8, 8, 8, 8, 8, 8, 8, 8, 8, 8, 8, 8, 8, 8, 8, 8, 8, 8, 8, 8, 8, 8, 8, 8, 8, 8, 8, 8]) (wi .u8 (shrI .u64 v_x381 32))).bind fun (v_y385 : Int) =>
     some (wi .i64 (32 + (wi .i64 v_y385)))
  else
   if v_x381 ≥ 65536 then
    if (shrI .u64 v_x381 16) ≥ 256 then
     (getS (ByteArray.mk #[0, 1, 2, 2, 3, 3, 3, 3, 4, 4, 4, 4, 4, 4, 4, 4, 5, 5, 5, 5, 5, 5, 5, 5, 5, 5, 5, 5, 5, 5, 5, 5, 6, 6, 6, 6, 6, 6, 6, 6, 6, 6, 6, 6, 6, 6, 6, 6, 6, 6, 6, 6, 6, 6, 6, 6, 6, 6, 6, 6, 6, 6, 6, 6, 7, 7, 7, 7, 7, 7, 7, 7, 7, 7, 7, 7, 7, 7, 7, 7, 7, 7, 7, 7, 7, 7, 7, 7, 7, 7, 7, 7, 7, 7, 7, 7, 7, 7, 7, 7, 7, 7, 7, 7, 7, 7, 7, 7, 7, 7, 7, 7, 7, 7, 7, 7, 7, 7, 7, 7, 7, 7, 7, 7, 7, 7, 7, 7, 8, 8, 8, 8, 8, 8, 8, 8, 8, 8, 8, 8, 8, 8, 8, 8, 8, 8, 8, 8, 8, 8, 8, 8, 8, 8, 8, 8, 8, 8, 8, 8, 8, 8, 8, 8, 8, 8, 8, 8, 8, 8, 8, 8, 8, 8, 8, 8, 8, 8, 8, 8, 8, 8, 8, 8, 8, 8, 8, 8, 8, 8, 8, 8, 8, 8, 8, 8, 8, 8, 8, 8, 8, 8, 8, 8, 8, 8, 8, 8, 8, 8, 8, 8, 8, 8, 8, 8, 8, 8, 8, 8, 8, 8, 8, 8, 8, 8, 8, 8, 8, 8, 8, 8, 8, 8, 8, 8, 8, 8, 8, 8, 8, 8, 8, 8, 8, 8, 8, 8, 8, 8, 8, 8, 8, 8, 8, 8]) (wi .u8 (shrI .u64 (shrI .u64 v_x381 16) 8))).bind fun (v_y386 : Int) =>
     some (wi .i64 ((wi .i64 ((wi .i64 (0 + 16)) + 8)) + (wi .i64 v_y386)))
    else
     (getS (ByteArray.mk #[0, 1, 2, 2, 3, 3, 3, 3, 4, 4, 4, 4, 4, 4, 4, 4, 5, 5, 5, 5, 5, 5, 5, 5, 5, 5, 5, 5, 5, 5, 5, 5, 6, 6, 6, 6, 6, 6, 6, 6, 6, 6, 6, 6, 6, 6, 6, 6, 6, 6, 6, 6, 6, 6, 6, 6, 6, 6, 6, 6, 6, 6, 6, 6, 7, 7, 7, 7, 7, 7, 7, 7, 7, 7, 7, 7, 7, 7, 7, 7, 7, 7, 7, 7, 7, 7, 7, 7, 7, 7, 7, 7, 7, 7, 7, 7, 7, 7, 7, 7, 7, 7, 7, 7, 7, 7, 7, 7, 7, 7, 7, 7, 7, 7, 7, 7, 7, 7, 7, 7, 7, 7, 7, 7, 7, 7, 7, 7, 8, 8, 8, 8, 8, 8, 8, 8, 8, 8, 8, 8, 8, 8, 8, 8, 8, 8, 8, 8, 8, 8, 8, 8, 8, 8, 8, 8, 8, 8, 8, 8, 8, 8, 8, 8, 8, 8, 8, 8, 8, 8, 8, 8, 8, 8, 8, 8, 8, 8, 8, 8, 8, 8, 8, 8, 8, 8, 8, 8, 8, 8, 8, 8, 8, 8, 8, 8, 8, 8, 8, 8, 8, 8, 8, 8, 8, 8, 8, 8, 8, 8, 8, 8, 8, 8, 8, 8, 8, 8, 8, 8, 8, 8, 8, 8, 8, 8, 8, 8, 8, 8, 8, 8, 8, 8, 8, 8, 8, 8, 8, 8, 8, 8, 8, 8, 8, 8, 8, 8, 8, 8, 8, 8, 8, 8, 8, 8]) (wi .u8 (shrI .u64 v_x381 16))).bind fun (v_y387 : Int) =>
     some (wi .i64 ((wi .i64 (0 + 16)) + (wi .i64 v_y387)))
   else
    if v_x381 ≥ 256 then
     (getS (ByteArray.mk #[0, 1, 2, 2, 3, 3, 3, 3, 4, 4, 4, 4, 4, 4, 4, 4, 5, 5, 5, 5, 5, 5, 5, 5, 5, 5, 5, 5, 5, 5, 5, 5, 6, 6, 6, 6, 6, 6, 6, 6, 6, 6, 6, 6, 6, 6, 6, 6, 6, 6, 6, 6, 6, 6, 6, 6, 6, 6, 6, 6, 6, 6, 6, 6, 7, 7, 7, 7, 7, 7, 7, 7, 7, 7, 7, 7, 7, 7, 7, 7, 7, 7, 7, 7, 7, 7, 7, 7, 7, 7, 7, 7, 7, 7, 7, 7, 7, 7, 7, 7, 7, 7, 7, 7, 7, 7, 7, 7, 7, 7, 7, 7, 7, 7, 7, 7, 7, 7, 7, 7, 7, 7, 7, 7, 7, 7, 7, 7, 8, 8, 8, 8, 8, 8, 8, 8, 8, 8, 8, 8, 8, 8, 8, 8, 8, 8, 8, 8, 8, 8, 8, 8, 8, 8, 8, 8, 8, 8, 8, 8, 8, 8, 8, 8, 8, 8, 8, 8, 8, 8, 8, 8, 8, 8, 8, 8, 8, 8, 8, 8, 8, 8, 8, 8, 8, 8, 8, 8, 8, 8, 8, 8, 8, 8, 8, 8, 8, 8, 8, 8, 8, 8, 8, 8, 8, 8, 8, 8, 8, 8, 8, 8, 8, 8, 8, 8, 8, 8, 8, 8, 8, 8, 8, 8, 8, 8, 8, 8, 8, 8, 8, 8, 8, 8, 8, 8, 8, 8, 8, 8, 8, 8, 8, 8, 8, 8, 8, 8, 8, 8, 8, 8, 8, 8, 8, 8]) (wi .u8 (shrI .u64 v_x381 8))).bind fun (v_y388 : Int) =>
     some (wi .i64 ((wi .i64 (0 + 8)) + (wi .i64 v_y388)))
    else
     (getS (ByteArray.mk #[0, 1, 2, 2, 3, 3, 3, 3, 4, 4, 4, 4, 4, 4, 4, 4, 5, 5, 5, 5, 5, 5, 5, 5, 5, 5, 5, 5, 5, 5, 5, 5, 6, 6, 6, 6, 6, 6, 6, 6, 6, 6, 6, 6, 6, 6, 6, 6, 6, 6, 6, 6, 6, 6, 6, 6, 6, 6, 6, 6, 6, 6, 6, 6, 7, 7, 7, 7, 7, 7, 7, 7, 7, 7, 7, 7, 7, 7, 7, 7, 7, 7, 7, 7, 7, 7, 7, 7, 7, 7, 7, 7, 7, 7, 7, 7, 7, 7, 7, 7, 7, 7, 7, 7, 7, 7, 7, 7, 7, 7, 7, 7, 7, 7, 7, 7, 7, 7, 7, 7, 7, 7, 7, 7, 7, 7, 7, 7, 8, 8, 8, 8, 8, 8, 8, 8, 8, 8, 8, 8, 8, 8, 8, 8, 8, 8, 8, 8, 8, 8, 8, 8, 8, 8, 8, 8, 8, 8, 8, 8, 8, 8, 8, 8, 8, 8, 8, 8, 8, 8, 8, 8, 8, 8, 8, 8, 8, 8, 8, 8, 8, 8, 8, 8, 8, 8, 8, 8, 8, 8, 8, 8, 8, 8, 8, 8, 8, 8, 8, 8, 8, 8, 8, 8, 8, 8, 8, 8, 8, 8, 8, 8, 8, 8, 8, 8, 8, 8, 8, 8, 8, 8, 8, 8, 8, 8, 8, 8, 8, 8, 8, 8, 8, 8, 8, 8, 8, 8, 8, 8, 8, 8, 8, 8, 8, 8, 8, 8, 8, 8, 8, 8, 8, 8, 8, 8]) (wi .u8 v_x381)).bind fun (v_y389 : Int) =>
     some (wi .i64 (0 + (wi .i64 v_y389)))
theorem G_math_bits_Len64_ok (n : Nat) (v_x381 : Int) (r : Int) (h : G_math_bits_Len64 n v_x381 = some r) : Ret Try.prog 185 [(eI .u64) v_x381] ((eI .i64) r) := by
  refine ret_run (n := 25) (fn := Try.f185) (c := bodyOf Try.f185) (by kernel_rfl) (by kernel_rfl) (by kernel_rfl) (by kernel_rfl) ?_
  have hF : KC 25 (FinR Try.prog Try.f185 ((eI .i64) r)) := FinR.kc' (by kernel_rfl)
  unfold G_math_bits_Len64 at h
  by_cases h502 : v_x381 ≥ 4294967296
  · rw [if_pos h502] at h
    by_cases h506 : (shrI .u64 v_x381 32) ≥ 65536
    · rw [if_pos h506] at h
      by_cases h510 : (shrI .u64 (shrI .u64 v_x381 32) 16) ≥ 256
      · rw [if_pos h510] at h
        obtain ⟨v_y382, h512, h⟩ := bind_some h
        obtain rfl := Option.some.inj h
        exact pend_sound TTok mix 26 (hs := [.t true, .t true, .t true, .l (.d (.v (.int .u8 v_y382)))]) (by kernel_rfl) (by kernel_rfl) (by kernel_rfl) (.cons (dt h502) (.cons (show (0 : Int) ≤ 32 by decide) (.cons (dt h506) (.cons (show (0 : Int) ≤ 16 by decide) (.cons (dt h510) (.cons (show (0 : Int) ≤ 8 by decide) (.cons (getS_ob h512) .nil)))))))
      · rw [if_neg h510] at h
        obtain ⟨v_y383, h513, h⟩ := bind_some h
        obtain rfl := Option.some.inj h
        exact pend_sound TTok mix 24 (hs := [.t true, .t true, .t false, .l (.d (.v (.int .u8 v_y383)))]) (by kernel_rfl) (by kernel_rfl) (by kernel_rfl) (.cons (dt h502) (.cons (show (0 : Int) ≤ 32 by decide) (.cons (dt h506) (.cons (show (0 : Int) ≤ 16 by decide) (.cons (df h510) (.cons (getS_ob h513) .nil))))))
    · rw [if_neg h506] at h
      by_cases h516 : (shrI .u64 v_x381 32) ≥ 256
      · rw [if_pos h516] at h
        obtain ⟨v_y384, h518, h⟩ := bind_some h
        obtain rfl := Option.some.inj h
        exact pend_sound TTok mix 24 (hs := [.t true, .t false, .t true, .l (.d (.v (.int .u8 v_y384)))]) (by kernel_rfl) (by kernel_rfl) (by kernel_rfl) (.cons (dt h502) (.cons (show (0 : Int) ≤ 32 by decide) (.cons (df h506) (.cons (dt h516) (.cons (show (0 : Int) ≤ 8 by decide) (.cons (getS_ob h518) .nil))))))
      · rw [if_neg h516] at h
        obtain ⟨v_y385, h519, h⟩ := bind_some h
        obtain rfl := Option.some.inj h
        exact pend_sound TTok mix 22 (hs := [.t true, .t false, .t false, .l (.d (.v (.int .u8 v_y385)))]) (by kernel_rfl) (by kernel_rfl) (by kernel_rfl) (.cons (dt h502) (.cons (show (0 : Int) ≤ 32 by decide) (.cons (df h506) (.cons (df h516) (.cons (getS_ob h519) .nil)))))
  · rw [if_neg h502] at h
    by_cases h522 : v_x381 ≥ 65536
    · rw [if_pos h522] at h
      by_cases h526 : (shrI .u64 v_x381 16) ≥ 256
      · rw [if_pos h526] at h
        obtain ⟨v_y386, h528, h⟩ := bind_some h
        obtain rfl := Option.some.inj h
        exact pend_sound TTok mix 24 (hs := [.t false, .t true, .t true, .l (.d (.v (.int .u8 v_y386)))]) (by kernel_rfl) (by kernel_rfl) (by kernel_rfl) (.cons (df h502) (.cons (dt h522) (.cons (show (0 : Int) ≤ 16 by decide) (.cons (dt h526) (.cons (show (0 : Int) ≤ 8 by decide) (.cons (getS_ob h528) .nil))))))
      · rw [if_neg h526] at h
        obtain ⟨v_y387, h529, h⟩ := bind_some h
        obtain rfl := Option.some.inj h
        exact pend_sound TTok mix 22 (hs := [.t false, .t true, .t false, .l (.d (.v (.int .u8 v_y387)))]) (by kernel_rfl) (by kernel_rfl) (by kernel_rfl) (.cons (df h502) (.cons (dt h522) (.cons (show (0 : Int) ≤ 16 by decide) (.cons (df h526) (.cons (getS_ob h529) .nil)))))
    · rw [if_neg h522] at h
      by_cases h532 : v_x381 ≥ 256
      · rw [if_pos h532] at h
        obtain ⟨v_y388, h534, h⟩ := bind_some h
        obtain rfl := Option.some.inj h
        exact pend_sound TTok mix 22 (hs := [.t false, .t false, .t true, .l (.d (.v (.int .u8 v_y388)))]) (by kernel_rfl) (by kernel_rfl) (by kernel_rfl) (.cons (df h502) (.cons (df h522) (.cons (dt h532) (.cons (show (0 : Int) ≤ 8 by decide) (.cons (getS_ob h534) .nil)))))
      · rw [if_neg h532] at h
        obtain ⟨v_y389, h535, h⟩ := bind_some h
        obtain rfl := Option.some.inj h
        exact pend_sound TTok mix 20 (hs := [.t false, .t false, .t false, .l (.d (.v (.int .u8 v_y389)))]) (by kernel_rfl) (by kernel_rfl) (by kernel_rfl) (.cons (df h502) (.cons (df h522) (.cons (df h532) (.cons (getS_ob h535) .nil))))
/- math/bits.Len -/
def G_math_bits_Len (n : Nat) (v_x380 : Int) : Option (Int) :=
  (G_math_bits_Len64 n v_x380).bind fun (v_r390 : (Int)) =>
  some v_r390
theorem G_math_bits_Len_ok (n : Nat) (v_x380 : Int) (r : Int) (h : G_math_bits_Len n v_x380 = some r) : Ret Try.prog 121 [(eI .u64) v_x380] ((eI .i64) r) := by
  refine ret_run (n := 8) (fn := Try.f121) (c := bodyOf Try.f121) (by kernel_rfl) (by kernel_rfl) (by kernel_rfl) (by kernel_rfl) ?_
  have hF : KC 8 (FinR Try.prog Try.f121 ((eI .i64) r)) := FinR.kc' (by kernel_rfl)
  unfold G_math_bits_Len at h
  obtain ⟨v_r390, h536, h⟩ := bind_some h
  obtain rfl := Option.some.inj h
  exact pend_sound TTok mix 8 (hs := [.c, .r ((eI .i64) v_r390)]) (by kernel_rfl) (by kernel_rfl) (by kernel_rfl) (.cons (G_math_bits_Len64_ok n v_x380 _ h536) .nil)
/- cmp.isNaN[int] -/
def G_cmp_isNaN_int (n : Nat) (v_x413 : Int) : Option (Bool) :=
  some (v_x413 != v_x413)
theorem G_cmp_isNaN_int_ok (n : Nat) (v_x413 : Int) (r : Bool) (h : G_cmp_isNaN_int n v_x413 = some r) : Ret Try.prog 212 [(eI .i64) v_x413] (eB r) := by
  refine ret_run (n := 6) (fn := Try.f212) (c := bodyOf Try.f212) (by kernel_rfl) (by kernel_rfl) (by kernel_rfl) (by kernel_rfl) ?_
  have hF : KC 6 (FinR Try.prog Try.f212 (eB r)) := FinR.kc' (by kernel_rfl)
  unfold G_cmp_isNaN_int at h
  obtain rfl := Option.some.inj h
  exact pend_sound TTok mix 5 (hs := []) (by kernel_rfl) (by kernel_rfl) (by kernel_rfl) .nil
inductive G_cmp_Less_int_C1_R where
  | x0 (v_x418 : Bool)
def G_cmp_Less_int_C1_ex : G_cmp_Less_int_C1_R → Ex
  | .x0 _ => .normal
def G_cmp_Less_int_C1_st (v_x411 : Int) (v_y412 : Int) : G_cmp_Less_int_C1_R → PS
  | .x0 v_x418 => ⟨[dd, dd, dd, dd, .d (.v (.bool v_x418)), dd, dd, dd, dd, dd, dd, dd, dd, dd, dd, dd, dd], []⟩
def G_cmp_Less_int_C1_hd (v_x411 : Int) (v_y412 : Int)  : PS := ⟨[.d (.v (.int .i64 v_x411)), .d (.v (.int .i64 v_y412)), dd, dd, dd, dd, dd, dd, dd, dd, dd, dd, dd, dd, dd, dd, dd], []⟩
def G_cmp_Less_int_C1 (n : Nat) (v_x411 : Int) (v_y412 : Int) : Option G_cmp_Less_int_C1_R :=
  (G_cmp_isNaN_int n v_x411).bind fun (v_r416 : (Bool)) =>
  if v_r416 = true then
   (G_cmp_isNaN_int n v_y412).bind fun (v_r417 : (Bool)) =>
   if v_r417 = true then
    some (.x0 (decide (v_x411 < v_y412)))
   else
    some (.x0 true)
  else
   some (.x0 (decide (v_x411 < v_y412)))
theorem G_cmp_Less_int_C1_ok {Fi : Ex → PS → Prop} (hF : KC 17 Fi) (ks : List Fr) (n : Nat) (v_x411 : Int) (v_y412 : Int)  (o : G_cmp_Less_int_C1_R) (h : G_cmp_Less_int_C1 n v_x411 v_y412 = some o) (q : RunE Try.prog 17 Fi ks (G_cmp_Less_int_C1_ex o) (G_cmp_Less_int_C1_st v_x411 v_y412 o)) : RunE Try.prog 17 Fi (.s (cL (cR (bodyOf Try.f181))) :: ks) .normal (G_cmp_Less_int_C1_hd v_x411 v_y412) := by
  unfold G_cmp_Less_int_C1 at h
  obtain ⟨v_r416, h549, h⟩ := bind_some h
  by_cases h550 : v_r416 = true
  · rw [if_pos h550] at h
    obtain ⟨v_r417, h551, h⟩ := bind_some h
    by_cases h552 : v_r417 = true
    · rw [if_pos h552] at h
      cases h
      exact pkk_sound TTok mix hF 1 (hs := [.r (eB v_r416), .t true, .c, .r (eB v_r417), .c, .t false, .c, .c]) (ts := []) (s := []) (l := [4]) (by kernel_rfl) (by kernel_rfl) (.cons (G_cmp_isNaN_int_ok n v_x411 _ h549) (.cons h550 (.cons (G_cmp_isNaN_int_ok n v_y412 _ h551) (.cons (bnf h552) .nil)))) q
    · rw [if_neg h552] at h
      cases h
      exact pkk_sound TTok mix hF 1 (hs := [.r (eB v_r416), .t true, .c, .r (eB v_r417), .c, .t true, .c, .c]) (ts := []) (s := []) (l := [4]) (by kernel_rfl) (by kernel_rfl) (.cons (G_cmp_isNaN_int_ok n v_x411 _ h549) (.cons h550 (.cons (G_cmp_isNaN_int_ok n v_y412 _ h551) (.cons (bnt (vf h552)) .nil)))) q
  · rw [if_neg h550] at h
    cases h
    exact pkk_sound TTok mix hF 1 (hs := [.r (eB v_r416), .t false, .c, .c, .c, .c, .c]) (ts := []) (s := []) (l := [4]) (by kernel_rfl) (by kernel_rfl) (.cons (G_cmp_isNaN_int_ok n v_x411 _ h549) (.cons (vf h550) .nil)) q
/- cmp.Less[int] -/
def G_cmp_Less_int (n : Nat) (v_x411 : Int) (v_y412 : Int) : Option (Bool) :=
  (G_cmp_Less_int_C1 n v_x411 v_y412).bind fun v_o421 => match v_o421 with
  | .x0 v_z422 =>
    some v_z422
theorem G_cmp_Less_int_ok (n : Nat) (v_x411 : Int) (v_y412 : Int) (r : Bool) (h : G_cmp_Less_int n v_x411 v_y412 = some r) : Ret Try.prog 181 [(eI .i64) v_x411, (eI .i64) v_y412] (eB r) := by
  refine ret_run (n := 17) (fn := Try.f181) (c := bodyOf Try.f181) (by kernel_rfl) (by kernel_rfl) (by kernel_rfl) (by kernel_rfl) ?_
  have hF : KC 17 (FinR Try.prog Try.f181 (eB r)) := FinR.kc' (by kernel_rfl)
  unfold G_cmp_Less_int at h
  obtain ⟨v_o421, h553, h⟩ := bind_some h
  refine pkk_sound TTok mix hF 3 (hs := []) (ts := []) (s := []) (l := [0, 1]) (by kernel_rfl) (by kernel_rfl) .nil (G_cmp_Less_int_C1_ok hF (.s (cR (cR (bodyOf Try.f181))) :: []) n v_x411 v_y412 _ h553 ?_)
  cases v_o421 with
  | x0 v_z422 =>
    try dsimp only at h
    obtain rfl := Option.some.inj h
    exact pend_sound TTok mix 1 (hs := []) (by kernel_rfl) (by kernel_rfl) (by kernel_rfl) .nil
inductive G_slices_insertionSortOrdered_int_h_L1_R where
  | x0 (v_w435 : (List Int))
def G_slices_insertionSortOrdered_int_h_L1_ex : G_slices_insertionSortOrdered_int_h_L1_R → Ex
  | .x0 _ => .exit 2
def G_slices_insertionSortOrdered_int_h_L1_st (v_a403 : Int) (v_b404 : Int) (v_i405 : Int) : G_slices_insertionSortOrdered_int_h_L1_R → PS
  | .x0 v_w435 => ⟨[.srf 1, .d (.v (.int .i64 v_a403)), .d (.v (.int .i64 v_b404)), dd, dd, dd, .d (.v (.int .i64 v_i405)), dd, dd, dd, dd, dd, dd, dd, dd, dd, dd, dd, dd, dd, dd, dd, dd, dd, dd, dd, dd, dd, dd, dd, dd, dd, dd, dd, dd, dd, dd, dd, dd, dd, dd, dd, dd, dd, dd, dd, dd, dd, dd], [.gh 0 (.srf 1), .row 3 1 (v_w435.map (eI .i64))]⟩
def G_slices_insertionSortOrdered_int_h_L1_hd (v_a403 : Int) (v_b404 : Int) (v_i405 : Int) (v_j407 : Int) (v_w408 : (List Int)) : PS := ⟨[.srf 1, .d (.v (.int .i64 v_a403)), .d (.v (.int .i64 v_b404)), dd, dd, dd, .d (.v (.int .i64 v_i405)), .d (.v (.int .i64 v_j407)), dd, dd, dd, dd, dd, dd, dd, dd, dd, dd, dd, dd, dd, dd, dd, dd, dd, dd, dd, dd, dd, dd, dd, dd, dd, dd, dd, dd, dd, dd, dd, dd, dd, dd, dd, dd, dd, dd, dd, dd, dd], [.gh 0 (.srf 1), .row 3 1 (v_w408.map (eI .i64))]⟩
def G_slices_insertionSortOrdered_int_h_L1 (n : Nat) (v_a403 : Int) (v_b404 : Int) (v_i405 : Int) : Nat → Int → (List Int) → Option G_slices_insertionSortOrdered_int_h_L1_R
  | 0, _, _ => none
  | k + 1, v_j407, v_w408 =>
    if v_j407 > v_a403 then
     if 0 ≤ v_j407 ∧ (v_j407).toNat < v_w408.length then
      (v_w408[(v_j407).toNat]?).bind fun (v_y424 : Int) =>
      if 0 ≤ (wi .i64 (v_j407 - 1)) ∧ ((wi .i64 (v_j407 - 1))).toNat < v_w408.length then
       (v_w408[((wi .i64 (v_j407 - 1))).toNat]?).bind fun (v_y425 : Int) =>
       (G_cmp_Less_int n v_y424 v_y425).bind fun (v_r426 : (Bool)) =>
       if v_r426 = true then
        if 0 ≤ (wi .i64 (v_j407 - 1)) ∧ ((wi .i64 (v_j407 - 1))).toNat < v_w408.length then
         (v_w408[((wi .i64 (v_j407 - 1))).toNat]?).bind fun (v_y431 : Int) =>
         if 0 ≤ v_j407 ∧ (v_j407).toNat < v_w408.length then
          (v_w408[(v_j407).toNat]?).bind fun (v_y432 : Int) =>
          if 0 ≤ v_j407 ∧ (v_j407).toNat < v_w408.length then
           (v_w408[(v_j407).toNat]?).bind fun (v_y433 : Int) =>
           if 0 ≤ (wi .i64 (v_j407 - 1)) ∧ ((wi .i64 (v_j407 - 1))).toNat < (v_w408.set (v_j407).toNat v_y431).length then
            ((v_w408.set (v_j407).toNat v_y431)[((wi .i64 (v_j407 - 1))).toNat]?).bind fun (v_y434 : Int) =>
            G_slices_insertionSortOrdered_int_h_L1 n v_a403 v_b404 v_i405 k (wi .i64 (v_j407 - 1)) ((v_w408.set (v_j407).toNat v_y431).set ((wi .i64 (v_j407 - 1))).toNat v_y432)
           else none
          else none
         else none
        else none
       else
        some (.x0 v_w408)
      else none
     else none
    else
     some (.x0 v_w408)
theorem G_slices_insertionSortOrdered_int_h_L1_ok {Fi : Ex → PS → Prop} (hF : KC 49 Fi) (ks : List Fr) (n : Nat) (v_a403 : Int) (v_b404 : Int) (v_i405 : Int)  : ∀ (k : Nat) (v_j407 : Int) (v_w408 : (List Int)) (o : G_slices_insertionSortOrdered_int_h_L1_R), G_slices_insertionSortOrdered_int_h_L1 n v_a403 v_b404 v_i405 k v_j407 v_w408 = some o → RunE Try.prog 49 Fi ks (G_slices_insertionSortOrdered_int_h_L1_ex o) (G_slices_insertionSortOrdered_int_h_L1_st v_a403 v_b404 v_i405 o) → RunE Try.prog 49 Fi (.l k (cP (cB (cR (cB (cL (cR (cP (cB (cR (bodyOf Try.f175)))))))))) :: ks) .normal (G_slices_insertionSortOrdered_int_h_L1_hd v_a403 v_b404 v_i405 v_j407 v_w408)
  | 0, v_j407, v_w408, o, h, q => by rw [G_slices_insertionSortOrdered_int_h_L1] at h; cases h
  | k + 1, v_j407, v_w408, o, h, q => by
    rw [G_slices_insertionSortOrdered_int_h_L1] at h
    by_cases h555 : v_j407 > v_a403
    · rw [if_pos h555] at h
      by_cases h556 : 0 ≤ v_j407 ∧ (v_j407).toNat < v_w408.length
      · rw [if_pos h556] at h
        obtain ⟨v_y424, h557, h⟩ := bind_some h
        by_cases h558 : 0 ≤ (wi .i64 (v_j407 - 1)) ∧ ((wi .i64 (v_j407 - 1))).toNat < v_w408.length
        · rw [if_pos h558] at h
          obtain ⟨v_y425, h559, h⟩ := bind_some h
          obtain ⟨v_r426, h560, h⟩ := bind_some h
          by_cases h561 : v_r426 = true
          · rw [if_pos h561] at h
            by_cases h570 : 0 ≤ (wi .i64 (v_j407 - 1)) ∧ ((wi .i64 (v_j407 - 1))).toNat < v_w408.length
            · rw [if_pos h570] at h
              obtain ⟨v_y431, h571, h⟩ := bind_some h
              by_cases h572 : 0 ≤ v_j407 ∧ (v_j407).toNat < v_w408.length
              · rw [if_pos h572] at h
                obtain ⟨v_y432, h573, h⟩ := bind_some h
                by_cases h574 : 0 ≤ v_j407 ∧ (v_j407).toNat < v_w408.length
                · rw [if_pos h574] at h
                  obtain ⟨v_y433, h575, h⟩ := bind_some h
                  by_cases h576 : 0 ≤ (wi .i64 (v_j407 - 1)) ∧ ((wi .i64 (v_j407 - 1))).toNat < (v_w408.set (v_j407).toNat v_y431).length
                  · rw [if_pos h576] at h
                    obtain ⟨v_y434, h577, h⟩ := bind_some h
                    exact pkk_sound TTok mix hF 11 (hs := [.t true, .c, .c, .c, .y ((eI .i64) v_y424), .c, .c, .c, .c, .c, .y ((eI .i64) v_y425), .c, .r (eB v_r426), .t true, .y ((eI .i64) v_y431), .y ((eI .i64) v_y432), .w ((v_w408.set (v_j407).toNat v_y431).map (eI .i64)), .y ((eI .i64) v_y433), .w (((v_w408.set (v_j407).toNat v_y431).set ((wi .i64 (v_j407 - 1))).toNat v_y432).map (eI .i64)), .y ((eI .i64) v_y434)]) (ts := []) (s := [0, 1]) (l := [0, 1, 2, 6, 7]) (by kernel_rfl) (by kernel_rfl) (.cons (dt h555) (.cons (idx_ob (f := (eI .i64)) h556) (.cons (get_ob (f := (eI .i64)) h557) (.cons (idx_ob (f := (eI .i64)) h558) (.cons (get_ob (f := (eI .i64)) h559) (.cons (G_cmp_Less_int_ok n v_y424 v_y425 _ h560) (.cons h561 (.cons (idx_ob (f := (eI .i64)) h570) (.cons (get_ob (f := (eI .i64)) h571) (.cons (idx_ob (f := (eI .i64)) h572) (.cons (get_ob (f := (eI .i64)) h573) (.cons (idx_ob (f := (eI .i64)) h574) (.cons (get_ob (f := (eI .i64)) h575) (.cons (Eq.refl (pcells (.v (.int .i64 v_y431)))) (.cons (set_ob (f := (eI .i64)) (l := v_w408) (k := (v_j407).toNat) (z := v_y431) (p := .v (.int .i64 v_y431)) rfl) (.cons (idx_ob (f := (eI .i64)) h576) (.cons (get_ob (f := (eI .i64)) h577) (.cons (Eq.refl (pcells (.v (.int .i64 v_y432)))) (.cons (set_ob (f := (eI .i64)) (l := (v_w408.set (v_j407).toNat v_y431)) (k := ((wi .i64 (v_j407 - 1))).toNat) (z := v_y432) (p := .v (.int .i64 v_y432)) rfl) .nil))))))))))))))))))) (G_slices_insertionSortOrdered_int_h_L1_ok hF ks n v_a403 v_b404 v_i405 k (wi .i64 (v_j407 - 1)) ((v_w408.set (v_j407).toNat v_y431).set ((wi .i64 (v_j407 - 1))).toNat v_y432) _ h q)
                  · rw [if_neg h576] at h; cases h
                · rw [if_neg h574] at h; cases h
              · rw [if_neg h572] at h; cases h
            · rw [if_neg h570] at h; cases h
          · rw [if_neg h561] at h
            cases h
            exact pkk_sound TTok mix hF 8 (hs := [.t true, .c, .c, .c, .y ((eI .i64) v_y424), .c, .c, .c, .c, .c, .y ((eI .i64) v_y425), .c, .r (eB v_r426), .t false]) (ts := []) (s := [0, 1]) (l := [0, 1, 2, 6]) (by kernel_rfl) (by kernel_rfl) (.cons (dt h555) (.cons (idx_ob (f := (eI .i64)) h556) (.cons (get_ob (f := (eI .i64)) h557) (.cons (idx_ob (f := (eI .i64)) h558) (.cons (get_ob (f := (eI .i64)) h559) (.cons (G_cmp_Less_int_ok n v_y424 v_y425 _ h560) (.cons (vf h561) .nil))))))) q
        · rw [if_neg h558] at h; cases h
      · rw [if_neg h556] at h; cases h
    · rw [if_neg h555] at h
      cases h
      exact pkk_sound TTok mix hF 8 (hs := [.t false, .c, .c, .c, .c, .c, .c, .c, .c, .c, .c]) (ts := []) (s := [0, 1]) (l := [0, 1, 2, 6]) (by kernel_rfl) (by kernel_rfl) (.cons (df h555) .nil) q
inductive G_slices_insertionSortOrdered_int_h_L2_R where
  | x0 (v_w439 : (List Int))
def G_slices_insertionSortOrdered_int_h_L2_ex : G_slices_insertionSortOrdered_int_h_L2_R → Ex
  | .x0 _ => .exit 0
def G_slices_insertionSortOrdered_int_h_L2_st (v_a403 : Int) (v_b404 : Int) : G_slices_insertionSortOrdered_int_h_L2_R → PS
  | .x0 v_w439 => ⟨[dd, dd, dd, dd, dd, dd, dd, dd, dd, dd, dd, dd, dd, dd, dd, dd, dd, dd, dd, dd, dd, dd, dd, dd, dd, dd, dd, dd, dd, dd, dd, dd, dd, dd, dd, dd, dd, dd, dd, dd, dd, dd, dd, dd, dd, dd, dd, dd, dd], [.gh 0 (.srf 1), .row 3 1 (v_w439.map (eI .i64))]⟩
def G_slices_insertionSortOrdered_int_h_L2_hd (v_a403 : Int) (v_b404 : Int) (v_i405 : Int) (v_w406 : (List Int)) : PS := ⟨[.srf 1, .d (.v (.int .i64 v_a403)), .d (.v (.int .i64 v_b404)), dd, dd, dd, .d (.v (.int .i64 v_i405)), dd, dd, dd, dd, dd, dd, dd, dd, dd, dd, dd, dd, dd, dd, dd, dd, dd, dd, dd, dd, dd, dd, dd, dd, dd, dd, dd, dd, dd, dd, dd, dd, dd, dd, dd, dd, dd, dd, dd, dd, dd, dd], [.gh 0 (.srf 1), .row 3 1 (v_w406.map (eI .i64))]⟩
def G_slices_insertionSortOrdered_int_h_L2 (n : Nat) (v_a403 : Int) (v_b404 : Int) : Nat → Int → (List Int) → Option G_slices_insertionSortOrdered_int_h_L2_R
  | 0, _, _ => none
  | k + 1, v_i405, v_w406 =>
    if v_i405 < v_b404 then
     (G_slices_insertionSortOrdered_int_h_L1 n v_a403 v_b404 v_i405 n v_i405 v_w406).bind fun v_o437 => match v_o437 with
     | .x0 v_z438 =>
       G_slices_insertionSortOrdered_int_h_L2 n v_a403 v_b404 k (wi .i64 (v_i405 + 1)) v_z438
    else
     some (.x0 v_w406)
theorem G_slices_insertionSortOrdered_int_h_L2_ok {Fi : Ex → PS → Prop} (hF : KC 49 Fi) (ks : List Fr) (n : Nat) (v_a403 : Int) (v_b404 : Int)  : ∀ (k : Nat) (v_i405 : Int) (v_w406 : (List Int)) (o : G_slices_insertionSortOrdered_int_h_L2_R), G_slices_insertionSortOrdered_int_h_L2 n v_a403 v_b404 k v_i405 v_w406 = some o → RunE Try.prog 49 Fi ks (G_slices_insertionSortOrdered_int_h_L2_ex o) (G_slices_insertionSortOrdered_int_h_L2_st v_a403 v_b404 o) → RunE Try.prog 49 Fi (.l k (cP (cB (cR (bodyOf Try.f175)))) :: ks) .normal (G_slices_insertionSortOrdered_int_h_L2_hd v_a403 v_b404 v_i405 v_w406)
  | 0, v_i405, v_w406, o, h, q => by rw [G_slices_insertionSortOrdered_int_h_L2] at h; cases h
  | k + 1, v_i405, v_w406, o, h, q => by
    rw [G_slices_insertionSortOrdered_int_h_L2] at h
    by_cases h539 : v_i405 < v_b404
    · rw [if_pos h539] at h
      obtain ⟨v_o437, h578, h⟩ := bind_some h
      refine pkk_sound TTok mix hF 12 (hs := [.t true, .n n]) (ts := []) (s := [0, 1]) (l := [0, 1, 2, 6, 7]) (by kernel_rfl) (by kernel_rfl) (.cons (dt h539) .nil) (G_slices_insertionSortOrdered_int_h_L1_ok hF (.b 2 :: .b 1 :: .s (cR (cR (cP (cB (cR (bodyOf Try.f175)))))) :: .l k (cP (cB (cR (bodyOf Try.f175)))) :: ks) n v_a403 v_b404 v_i405 n v_i405 v_w406 _ h578 ?_)
      cases v_o437 with
      | x0 v_z438 =>
        try dsimp only at h
        exact pkk_sound TTok mix hF 3 (hs := []) (ts := []) (s := [0, 1]) (l := [0, 1, 2, 6]) (by kernel_rfl) (by kernel_rfl) .nil (G_slices_insertionSortOrdered_int_h_L2_ok hF ks n v_a403 v_b404 k (wi .i64 (v_i405 + 1)) v_z438 _ h q)
    · rw [if_neg h539] at h
      cases h
      exact pkk_sound TTok mix hF 8 (hs := [.t false]) (ts := []) (s := [0, 1]) (l := []) (by kernel_rfl) (by kernel_rfl) (.cons (df h539) .nil) q
/- slices.insertionSortOrdered[int] -/
def G_slices_insertionSortOrdered_int_h (n : Nat) (v_data402 : (List Int)) (v_a403 : Int) (v_b404 : Int) : Option ((List Int)) :=
  (G_slices_insertionSortOrdered_int_h_L2 n v_a403 v_b404 n (wi .i64 (v_a403 + 1)) v_data402).bind fun v_o440 => match v_o440 with
  | .x0 v_z441 =>
    some v_z441
theorem G_slices_insertionSortOrdered_int_h_ok (n : Nat) (v_data402 : (List Int)) (v_a403 : Int) (v_b404 : Int) (r : (List Int)) (h : G_slices_insertionSortOrdered_int_h n v_data402 v_a403 v_b404 = some r) : RetH Try.prog 175 [.srf 0, .d ((eI .i64) v_a403), .d ((eI .i64) v_b404)] [.row 3 1 (v_data402.map (eI .i64))] (.tup []) [.row 3 1 (r.map (eI .i64))] := by
  refine retH_run (n := 49) (fn := Try.f175) (c := bodyOf Try.f175) (by kernel_rfl) (by kernel_rfl) (by kernel_rfl) (by kernel_rfl) ?_
  have hF : KC 49 (FinH Try.prog Try.f175 [.row 3 1 (v_data402.map (eI .i64))] (.tup []) [.row 3 1 (r.map (eI .i64))]) := FinH.kc' (by kernel_rfl)
  unfold G_slices_insertionSortOrdered_int_h at h
  obtain ⟨v_o440, h579, h⟩ := bind_some h
  refine pkk_sound TTok mix hF 4 (hs := [.n n]) (ts := []) (s := [1, 0]) (l := [0, 1, 2, 6]) (by kernel_rfl) (by kernel_rfl) .nil (G_slices_insertionSortOrdered_int_h_L2_ok hF (.b 0 :: []) n v_a403 v_b404 n (wi .i64 (v_a403 + 1)) v_data402 _ h579 ?_)
  cases v_o440 with
  | x0 v_z441 =>
    try dsimp only at h
    obtain rfl := Option.some.inj h
    exact pendH_sound TTok mix 1 (hs := []) [1] (by kernel_rfl) (by kernel_rfl) (by kernel_rfl) .nil
inductive G_slices_siftDownOrdered_int_h_C1_R where
  | x0 (v_x489 : Bool) (v_w490 : (List Int))
def G_slices_siftDownOrdered_int_h_C1_ex : G_slices_siftDownOrdered_int_h_C1_R → Ex
  | .x0 _ _ => .normal
def G_slices_siftDownOrdered_int_h_C1_st (v_hi451 : Int) (v_first452 : Int) (v_root453 : Int) (v_w454 : (List Int)) : G_slices_siftDownOrdered_int_h_C1_R → PS
  | .x0 v_x489 v_w490 => ⟨[.srf 1, dd, .d (.v (.int .i64 v_hi451)), .d (.v (.int .i64 v_first452)), dd, dd, dd, dd, .d (.v (.int .i64 v_root453)), .d (.v (.int .i64 (wi .i64 ((wi .i64 (2 * v_root453)) + 1)))), dd, dd, dd, dd, dd, dd, dd, dd, dd, dd, dd, dd, dd, dd, dd, dd, dd, dd, dd, dd, dd, dd, dd, dd, dd, dd, .d (.v (.bool v_x489)), dd, dd, dd, dd, dd, dd, dd, dd, dd, dd, dd, dd, dd, dd, dd, dd, dd, dd, dd, dd, dd, dd, dd, dd, dd, dd, dd, dd, dd, dd, dd, dd, dd, dd, dd, dd, dd, dd, dd], [.gh 0 (.srf 1), .row 3 1 (v_w490.map (eI .i64))]⟩
def G_slices_siftDownOrdered_int_h_C1_hd (v_hi451 : Int) (v_first452 : Int) (v_root453 : Int) (v_w454 : (List Int))  : PS := ⟨[.srf 1, dd, .d (.v (.int .i64 v_hi451)), .d (.v (.int .i64 v_first452)), dd, dd, dd, dd, .d (.v (.int .i64 v_root453)), .d (.v (.int .i64 (wi .i64 ((wi .i64 (2 * v_root453)) + 1)))), dd, dd, dd, dd, dd, dd, dd, dd, dd, dd, dd, dd, dd, dd, dd, dd, dd, dd, dd, dd, dd, dd, dd, dd, dd, dd, dd, dd, dd, dd, dd, dd, dd, dd, dd, dd, dd, dd, dd, dd, dd, dd, dd, dd, dd, dd, dd, dd, dd, dd, dd, dd, dd, dd, dd, dd, dd, dd, dd, dd, dd, dd, dd, dd, dd, dd], [.gh 0 (.srf 1), .row 3 1 (v_w454.map (eI .i64))]⟩
def G_slices_siftDownOrdered_int_h_C1 (n : Nat) (v_hi451 : Int) (v_first452 : Int) (v_root453 : Int) (v_w454 : (List Int)) : Option G_slices_siftDownOrdered_int_h_C1_R :=
  if (wi .i64 ((wi .i64 ((wi .i64 (2 * v_root453)) + 1)) + 1)) < v_hi451 then
   if 0 ≤ (wi .i64 (v_first452 + (wi .i64 ((wi .i64 (2 * v_root453)) + 1)))) ∧ ((wi .i64 (v_first452 + (wi .i64 ((wi .i64 (2 * v_root453)) + 1))))).toNat < v_w454.length then
    (v_w454[((wi .i64 (v_first452 + (wi .i64 ((wi .i64 (2 * v_root453)) + 1))))).toNat]?).bind fun (v_y486 : Int) =>
    if 0 ≤ (wi .i64 ((wi .i64 (v_first452 + (wi .i64 ((wi .i64 (2 * v_root453)) + 1)))) + 1)) ∧ ((wi .i64 ((wi .i64 (v_first452 + (wi .i64 ((wi .i64 (2 * v_root453)) + 1)))) + 1))).toNat < v_w454.length then
     (v_w454[((wi .i64 ((wi .i64 (v_first452 + (wi .i64 ((wi .i64 (2 * v_root453)) + 1)))) + 1))).toNat]?).bind fun (v_y487 : Int) =>
     (G_cmp_Less_int n v_y486 v_y487).bind fun (v_r488 : (Bool)) =>
     some (.x0 v_r488 v_w454)
    else none
   else none
  else
   some (.x0 false v_w454)
theorem G_slices_siftDownOrdered_int_h_C1_ok {Fi : Ex → PS → Prop} (hF : KC 76 Fi) (ks : List Fr) (n : Nat) (v_hi451 : Int) (v_first452 : Int) (v_root453 : Int) (v_w454 : (List Int))  (o : G_slices_siftDownOrdered_int_h_C1_R) (h : G_slices_siftDownOrdered_int_h_C1 n v_hi451 v_first452 v_root453 v_w454 = some o) (q : RunE Try.prog 76 Fi ks (G_slices_siftDownOrdered_int_h_C1_ex o) (G_slices_siftDownOrdered_int_h_C1_st v_hi451 v_first452 v_root453 v_w454 o)) : RunE Try.prog 76 Fi (.s (cL (cL (cR (cR (cB (cP (cB (cR (bodyOf Try.f207))))))))) :: ks) .normal (G_slices_siftDownOrdered_int_h_C1_hd v_hi451 v_first452 v_root453 v_w454) := by
  unfold G_slices_siftDownOrdered_int_h_C1 at h
  by_cases h624 : (wi .i64 ((wi .i64 ((wi .i64 (2 * v_root453)) + 1)) + 1)) < v_hi451
  · rw [if_pos h624] at h
    by_cases h625 : 0 ≤ (wi .i64 (v_first452 + (wi .i64 ((wi .i64 (2 * v_root453)) + 1)))) ∧ ((wi .i64 (v_first452 + (wi .i64 ((wi .i64 (2 * v_root453)) + 1))))).toNat < v_w454.length
    · rw [if_pos h625] at h
      obtain ⟨v_y486, h626, h⟩ := bind_some h
      by_cases h627 : 0 ≤ (wi .i64 ((wi .i64 (v_first452 + (wi .i64 ((wi .i64 (2 * v_root453)) + 1)))) + 1)) ∧ ((wi .i64 ((wi .i64 (v_first452 + (wi .i64 ((wi .i64 (2 * v_root453)) + 1)))) + 1))).toNat < v_w454.length
      · rw [if_pos h627] at h
        obtain ⟨v_y487, h628, h⟩ := bind_some h
        obtain ⟨v_r488, h629, h⟩ := bind_some h
        cases h
        exact pkk_sound TTok mix hF 1 (hs := [.t true, .c, .c, .c, .c, .c, .y ((eI .i64) v_y486), .c, .c, .c, .c, .c, .c, .c, .y ((eI .i64) v_y487), .c, .r (eB v_r488)]) (ts := []) (s := [0, 1]) (l := [0, 2, 3, 8, 9, 36]) (by kernel_rfl) (by kernel_rfl) (.cons (dt h624) (.cons (idx_ob (f := (eI .i64)) h625) (.cons (get_ob (f := (eI .i64)) h626) (.cons (idx_ob (f := (eI .i64)) h627) (.cons (get_ob (f := (eI .i64)) h628) (.cons (G_cmp_Less_int_ok n v_y486 v_y487 _ h629) .nil)))))) q
      · rw [if_neg h627] at h; cases h
    · rw [if_neg h625] at h; cases h
  · rw [if_neg h624] at h
    cases h
    exact pkk_sound TTok mix hF 1 (hs := [.t false, .c, .c, .c, .c, .c, .c, .c, .c, .c, .c, .c, .c, .c]) (ts := []) (s := [0, 1]) (l := [0, 2, 3, 8, 9, 36]) (by kernel_rfl) (by kernel_rfl) (.cons (df h624) .nil) q
inductive G_slices_siftDownOrdered_int_h_C2_R where
  | x0 (v_child496 : Int) (v_w497 : (List Int))
def G_slices_siftDownOrdered_int_h_C2_ex : G_slices_siftDownOrdered_int_h_C2_R → Ex
  | .x0 _ _ => .normal
def G_slices_siftDownOrdered_int_h_C2_st (v_hi451 : Int) (v_first452 : Int) (v_root453 : Int) (v_z494 : Bool) (v_z495 : (List Int)) : G_slices_siftDownOrdered_int_h_C2_R → PS
  | .x0 v_child496 v_w497 => ⟨[.srf 1, dd, .d (.v (.int .i64 v_hi451)), .d (.v (.int .i64 v_first452)), dd, dd, dd, dd, .d (.v (.int .i64 v_root453)), .d (.v (.int .i64 v_child496)), dd, dd, dd, dd, dd, dd, dd, dd, dd, dd, dd, dd, dd, dd, dd, dd, dd, dd, dd, dd, dd, dd, dd, dd, dd, dd, dd, dd, dd, dd, dd, dd, dd, dd, dd, dd, dd, dd, dd, dd, dd, dd, dd, dd, dd, dd, dd, dd, dd, dd, dd, dd, dd, dd, dd, dd, dd, dd, dd, dd, dd, dd, dd, dd, dd, dd], [.gh 0 (.srf 1), .row 3 1 (v_w497.map (eI .i64))]⟩
def G_slices_siftDownOrdered_int_h_C2_hd (v_hi451 : Int) (v_first452 : Int) (v_root453 : Int) (v_z494 : Bool) (v_z495 : (List Int))  : PS := ⟨[.srf 1, dd, .d (.v (.int .i64 v_hi451)), .d (.v (.int .i64 v_first452)), dd, dd, dd, dd, .d (.v (.int .i64 v_root453)), .d (.v (.int .i64 (wi .i64 ((wi .i64 (2 * v_root453)) + 1)))), dd, dd, dd, dd, dd, dd, dd, dd, dd, dd, dd, dd, dd, dd, dd, dd, dd, dd, dd, dd, dd, dd, dd, dd, dd, dd, .d (.v (.bool v_z494)), dd, dd, dd, dd, dd, dd, dd, dd, dd, dd, dd, dd, dd, dd, dd, dd, dd, dd, dd, dd, dd, dd, dd, dd, dd, dd, dd, dd, dd, dd, dd, dd, dd, dd, dd, dd, dd, dd, dd], [.gh 0 (.srf 1), .row 3 1 (v_z495.map (eI .i64))]⟩
def G_slices_siftDownOrdered_int_h_C2 (n : Nat) (v_hi451 : Int) (v_first452 : Int) (v_root453 : Int) (v_z494 : Bool) (v_z495 : (List Int)) : Option G_slices_siftDownOrdered_int_h_C2_R :=
  if v_z494 = true then
   some (.x0 (wi .i64 ((wi .i64 ((wi .i64 (2 * v_root453)) + 1)) + 1)) v_z495)
  else
   some (.x0 (wi .i64 ((wi .i64 (2 * v_root453)) + 1)) v_z495)
theorem G_slices_siftDownOrdered_int_h_C2_ok {Fi : Ex → PS → Prop} (hF : KC 76 Fi) (ks : List Fr) (n : Nat) (v_hi451 : Int) (v_first452 : Int) (v_root453 : Int) (v_z494 : Bool) (v_z495 : (List Int))  (o : G_slices_siftDownOrdered_int_h_C2_R) (h : G_slices_siftDownOrdered_int_h_C2 n v_hi451 v_first452 v_root453 v_z494 v_z495 = some o) (q : RunE Try.prog 76 Fi ks (G_slices_siftDownOrdered_int_h_C2_ex o) (G_slices_siftDownOrdered_int_h_C2_st v_hi451 v_first452 v_root453 v_z494 v_z495 o)) : RunE Try.prog 76 Fi (.s (cR (cL (cR (cR (cB (cP (cB (cR (bodyOf Try.f207))))))))) :: ks) .normal (G_slices_siftDownOrdered_int_h_C2_hd v_hi451 v_first452 v_root453 v_z494 v_z495) := by
  unfold G_slices_siftDownOrdered_int_h_C2 at h
  by_cases h632 : v_z494 = true
  · rw [if_pos h632] at h
    cases h
    exact pkk_sound TTok mix hF 2 (hs := [.t true]) (ts := []) (s := [0, 1]) (l := [0, 2, 3, 8, 9]) (by kernel_rfl) (by kernel_rfl) (.cons h632 .nil) q
  · rw [if_neg h632] at h
    cases h
    exact pkk_sound TTok mix hF 2 (hs := [.t false]) (ts := []) (s := [0, 1]) (l := [0, 2, 3, 8, 9]) (by kernel_rfl) (by kernel_rfl) (.cons (vf h632) .nil) q
inductive G_slices_siftDownOrdered_int_h_L3_R where
  | x0 (v_w482 : (List Int))
  | x1 (v_w506 : (List Int))
def G_slices_siftDownOrdered_int_h_L3_ex : G_slices_siftDownOrdered_int_h_L3_R → Ex
  | .x0 _ => .exit 0
  | .x1 _ => .ret
def G_slices_siftDownOrdered_int_h_L3_st (v_hi451 : Int) (v_first452 : Int) : G_slices_siftDownOrdered_int_h_L3_R → PS
  | .x0 v_w482 => ⟨[dd, dd, dd, dd, dd, dd, dd, dd, dd, dd, dd, dd, dd, dd, dd, dd, dd, dd, dd, dd, dd, dd, dd, dd, dd, dd, dd, dd, dd, dd, dd, dd, dd, dd, dd, dd, dd, dd, dd, dd, dd, dd, dd, dd, dd, dd, dd, dd, dd, dd, dd, dd, dd, dd, dd, dd, dd, dd, dd, dd, dd, dd, dd, dd, dd, dd, dd, dd, dd, dd, dd, dd, dd, dd, dd, dd], [.gh 0 (.srf 1), .row 3 1 (v_w482.map (eI .i64))]⟩
  | .x1 v_w506 => ⟨[dd, dd, dd, dd, dd, dd, dd, dd, dd, dd, dd, dd, dd, dd, dd, dd, dd, dd, dd, dd, dd, dd, dd, dd, dd, dd, dd, dd, dd, dd, dd, dd, dd, dd, dd, dd, dd, dd, dd, dd, dd, dd, dd, dd, dd, dd, dd, dd, dd, dd, dd, dd, dd, dd, dd, dd, dd, dd, dd, dd, dd, dd, dd, dd, dd, dd, dd, dd, dd, dd, dd, dd, dd, dd, dd, dd], [.gh 0 (.srf 1), .row 3 1 (v_w506.map (eI .i64))]⟩
def G_slices_siftDownOrdered_int_h_L3_hd (v_hi451 : Int) (v_first452 : Int) (v_root453 : Int) (v_w454 : (List Int)) : PS := ⟨[.srf 1, dd, .d (.v (.int .i64 v_hi451)), .d (.v (.int .i64 v_first452)), dd, dd, dd, dd, .d (.v (.int .i64 v_root453)), dd, dd, dd, dd, dd, dd, dd, dd, dd, dd, dd, dd, dd, dd, dd, dd, dd, dd, dd, dd, dd, dd, dd, dd, dd, dd, dd, dd, dd, dd, dd, dd, dd, dd, dd, dd, dd, dd, dd, dd, dd, dd, dd, dd, dd, dd, dd, dd, dd, dd, dd, dd, dd, dd, dd, dd, dd, dd, dd, dd, dd, dd, dd, dd, dd, dd, dd], [.gh 0 (.srf 1), .row 3 1 (v_w454.map (eI .i64))]⟩
def G_slices_siftDownOrdered_int_h_L3 (n : Nat) (v_hi451 : Int) (v_first452 : Int) : Nat → Int → (List Int) → Option G_slices_siftDownOrdered_int_h_L3_R
  | 0, _, _ => none
  | k + 1, v_root453, v_w454 =>
    if (wi .i64 ((wi .i64 (2 * v_root453)) + 1)) ≥ v_hi451 then
     some (.x0 v_w454)
    else
     (G_slices_siftDownOrdered_int_h_C1 n v_hi451 v_first452 v_root453 v_w454).bind fun v_o493 => match v_o493 with
     | .x0 v_z494 v_z495 =>
       (G_slices_siftDownOrdered_int_h_C2 n v_hi451 v_first452 v_root453 v_z494 v_z495).bind fun v_o500 => match v_o500 with
       | .x0 v_z501 v_z502 =>
         if 0 ≤ (wi .i64 (v_first452 + v_root453)) ∧ ((wi .i64 (v_first452 + v_root453))).toNat < v_z502.length then
          (v_z502[((wi .i64 (v_first452 + v_root453))).toNat]?).bind fun (v_y503 : Int) =>
          if 0 ≤ (wi .i64 (v_first452 + v_z501)) ∧ ((wi .i64 (v_first452 + v_z501))).toNat < v_z502.length then
           (v_z502[((wi .i64 (v_first452 + v_z501))).toNat]?).bind fun (v_y504 : Int) =>
           (G_cmp_Less_int n v_y503 v_y504).bind fun (v_r505 : (Bool)) =>
           if v_r505 = true then
            if 0 ≤ (wi .i64 (v_first452 + v_z501)) ∧ ((wi .i64 (v_first452 + v_z501))).toNat < v_z502.length then
             (v_z502[((wi .i64 (v_first452 + v_z501))).toNat]?).bind fun (v_y507 : Int) =>
             if 0 ≤ (wi .i64 (v_first452 + v_root453)) ∧ ((wi .i64 (v_first452 + v_root453))).toNat < v_z502.length then
              (v_z502[((wi .i64 (v_first452 + v_root453))).toNat]?).bind fun (v_y508 : Int) =>
              if 0 ≤ (wi .i64 (v_first452 + v_root453)) ∧ ((wi .i64 (v_first452 + v_root453))).toNat < v_z502.length then
               (v_z502[((wi .i64 (v_first452 + v_root453))).toNat]?).bind fun (v_y509 : Int) =>
               if 0 ≤ (wi .i64 (v_first452 + v_z501)) ∧ ((wi .i64 (v_first452 + v_z501))).toNat < (v_z502.set ((wi .i64 (v_first452 + v_root453))).toNat v_y507).length then
                ((v_z502.set ((wi .i64 (v_first452 + v_root453))).toNat v_y507)[((wi .i64 (v_first452 + v_z501))).toNat]?).bind fun (v_y510 : Int) =>
                G_slices_siftDownOrdered_int_h_L3 n v_hi451 v_first452 k v_z501 ((v_z502.set ((wi .i64 (v_first452 + v_root453))).toNat v_y507).set ((wi .i64 (v_first452 + v_z501))).toNat v_y508)
               else none
              else none
             else none
            else none
           else
            some (.x1 v_z502)
          else none
         else none
theorem G_slices_siftDownOrdered_int_h_L3_ok {Fi : Ex → PS → Prop} (hF : KC 76 Fi) (ks : List Fr) (n : Nat) (v_hi451 : Int) (v_first452 : Int)  : ∀ (k : Nat) (v_root453 : Int) (v_w454 : (List Int)) (o : G_slices_siftDownOrdered_int_h_L3_R), G_slices_siftDownOrdered_int_h_L3 n v_hi451 v_first452 k v_root453 v_w454 = some o → RunE Try.prog 76 Fi ks (G_slices_siftDownOrdered_int_h_L3_ex o) (G_slices_siftDownOrdered_int_h_L3_st v_hi451 v_first452 o) → RunE Try.prog 76 Fi (.l k (cP (cB (cR (bodyOf Try.f207)))) :: ks) .normal (G_slices_siftDownOrdered_int_h_L3_hd v_hi451 v_first452 v_root453 v_w454)
  | 0, v_root453, v_w454, o, h, q => by rw [G_slices_siftDownOrdered_int_h_L3] at h; cases h
  | k + 1, v_root453, v_w454, o, h, q => by
    rw [G_slices_siftDownOrdered_int_h_L3] at h
    by_cases h617 : (wi .i64 ((wi .i64 (2 * v_root453)) + 1)) ≥ v_hi451
    · rw [if_pos h617] at h
      cases h
      exact pkk_sound TTok mix hF 12 (hs := [.t true]) (ts := []) (s := [0, 1]) (l := []) (by kernel_rfl) (by kernel_rfl) (.cons (dt h617) .nil) q
    · rw [if_neg h617] at h
      obtain ⟨v_o493, h630, h⟩ := bind_some h
      refine pkk_sound TTok mix hF 11 (hs := [.t false]) (ts := []) (s := [0, 1]) (l := [0, 2, 3, 8, 9]) (by kernel_rfl) (by kernel_rfl) (.cons (df h617) .nil) (G_slices_siftDownOrdered_int_h_C1_ok hF (.s (cR (cL (cR (cR (cB (cP (cB (cR (bodyOf Try.f207))))))))) :: .s (cR (cR (cR (cB (cP (cB (cR (bodyOf Try.f207)))))))) :: .b 1 :: .l k (cP (cB (cR (bodyOf Try.f207)))) :: ks) n v_hi451 v_first452 v_root453 v_w454 _ h630 ?_)
      cases v_o493 with
      | x0 v_z494 v_z495 =>
        try dsimp only at h
        obtain ⟨v_o500, h633, h⟩ := bind_some h
        refine pkk_sound TTok mix hF 0 (hs := []) (ts := []) (s := [0, 1]) (l := [0, 2, 3, 8, 9, 36]) (by kernel_rfl) (by kernel_rfl) .nil (G_slices_siftDownOrdered_int_h_C2_ok hF (.s (cR (cR (cR (cB (cP (cB (cR (bodyOf Try.f207)))))))) :: .b 1 :: .l k (cP (cB (cR (bodyOf Try.f207)))) :: ks) n v_hi451 v_first452 v_root453 v_z494 v_z495 _ h633 ?_)
        cases v_o500 with
        | x0 v_z501 v_z502 =>
          try dsimp only at h
          by_cases h634 : 0 ≤ (wi .i64 (v_first452 + v_root453)) ∧ ((wi .i64 (v_first452 + v_root453))).toNat < v_z502.length
          · rw [if_pos h634] at h
            obtain ⟨v_y503, h635, h⟩ := bind_some h
            by_cases h636 : 0 ≤ (wi .i64 (v_first452 + v_z501)) ∧ ((wi .i64 (v_first452 + v_z501))).toNat < v_z502.length
            · rw [if_pos h636] at h
              obtain ⟨v_y504, h637, h⟩ := bind_some h
              obtain ⟨v_r505, h638, h⟩ := bind_some h
              by_cases h639 : v_r505 = true
              · rw [if_pos h639] at h
                by_cases h640 : 0 ≤ (wi .i64 (v_first452 + v_z501)) ∧ ((wi .i64 (v_first452 + v_z501))).toNat < v_z502.length
                · rw [if_pos h640] at h
                  obtain ⟨v_y507, h641, h⟩ := bind_some h
                  by_cases h642 : 0 ≤ (wi .i64 (v_first452 + v_root453)) ∧ ((wi .i64 (v_first452 + v_root453))).toNat < v_z502.length
                  · rw [if_pos h642] at h
                    obtain ⟨v_y508, h643, h⟩ := bind_some h
                    by_cases h644 : 0 ≤ (wi .i64 (v_first452 + v_root453)) ∧ ((wi .i64 (v_first452 + v_root453))).toNat < v_z502.length
                    · rw [if_pos h644] at h
                      obtain ⟨v_y509, h645, h⟩ := bind_some h
                      by_cases h646 : 0 ≤ (wi .i64 (v_first452 + v_z501)) ∧ ((wi .i64 (v_first452 + v_z501))).toNat < (v_z502.set ((wi .i64 (v_first452 + v_root453))).toNat v_y507).length
                      · rw [if_pos h646] at h
                        obtain ⟨v_y510, h647, h⟩ := bind_some h
                        exact pkk_sound TTok mix hF 9 (hs := [.y ((eI .i64) v_y503), .y ((eI .i64) v_y504), .r (eB v_r505), .t false, .y ((eI .i64) v_y507), .y ((eI .i64) v_y508), .w ((v_z502.set ((wi .i64 (v_first452 + v_root453))).toNat v_y507).map (eI .i64)), .y ((eI .i64) v_y509), .w (((v_z502.set ((wi .i64 (v_first452 + v_root453))).toNat v_y507).set ((wi .i64 (v_first452 + v_z501))).toNat v_y508).map (eI .i64)), .y ((eI .i64) v_y510)]) (ts := []) (s := [0, 1]) (l := [0, 2, 3, 8]) (by kernel_rfl) (by kernel_rfl) (.cons (idx_ob (f := (eI .i64)) h634) (.cons (get_ob (f := (eI .i64)) h635) (.cons (idx_ob (f := (eI .i64)) h636) (.cons (get_ob (f := (eI .i64)) h637) (.cons (G_cmp_Less_int_ok n v_y503 v_y504 _ h638) (.cons (bnf h639) (.cons (idx_ob (f := (eI .i64)) h640) (.cons (get_ob (f := (eI .i64)) h641) (.cons (idx_ob (f := (eI .i64)) h642) (.cons (get_ob (f := (eI .i64)) h643) (.cons (idx_ob (f := (eI .i64)) h644) (.cons (get_ob (f := (eI .i64)) h645) (.cons (Eq.refl (pcells (.v (.int .i64 v_y507)))) (.cons (set_ob (f := (eI .i64)) (l := v_z502) (k := ((wi .i64 (v_first452 + v_root453))).toNat) (z := v_y507) (p := .v (.int .i64 v_y507)) rfl) (.cons (idx_ob (f := (eI .i64)) h646) (.cons (get_ob (f := (eI .i64)) h647) (.cons (Eq.refl (pcells (.v (.int .i64 v_y508)))) (.cons (set_ob (f := (eI .i64)) (l := (v_z502.set ((wi .i64 (v_first452 + v_root453))).toNat v_y507)) (k := ((wi .i64 (v_first452 + v_z501))).toNat) (z := v_y508) (p := .v (.int .i64 v_y508)) rfl) .nil)))))))))))))))))) (G_slices_siftDownOrdered_int_h_L3_ok hF ks n v_hi451 v_first452 k v_z501 ((v_z502.set ((wi .i64 (v_first452 + v_root453))).toNat v_y507).set ((wi .i64 (v_first452 + v_z501))).toNat v_y508) _ h q)
                      · rw [if_neg h646] at h; cases h
                    · rw [if_neg h644] at h; cases h
                  · rw [if_neg h642] at h; cases h
                · rw [if_neg h640] at h; cases h
              · rw [if_neg h639] at h
                cases h
                exact pkk_sound TTok mix hF 8 (hs := [.y ((eI .i64) v_y503), .y ((eI .i64) v_y504), .r (eB v_r505), .t true]) (ts := []) (s := [0, 1]) (l := []) (by kernel_rfl) (by kernel_rfl) (.cons (idx_ob (f := (eI .i64)) h634) (.cons (get_ob (f := (eI .i64)) h635) (.cons (idx_ob (f := (eI .i64)) h636) (.cons (get_ob (f := (eI .i64)) h637) (.cons (G_cmp_Less_int_ok n v_y503 v_y504 _ h638) (.cons (bnt (vf h639)) .nil)))))) q
            · rw [if_neg h636] at h; cases h
          · rw [if_neg h634] at h; cases h
/- slices.siftDownOrdered[int] -/
def G_slices_siftDownOrdered_int_h (n : Nat) (v_data449 : (List Int)) (v_lo450 : Int) (v_hi451 : Int) (v_first452 : Int) : Option ((List Int)) :=
  (G_slices_siftDownOrdered_int_h_L3 n v_hi451 v_first452 n v_lo450 v_data449).bind fun v_o511 => match v_o511 with
  | .x0 v_z512 =>
    some v_z512
  | .x1 v_z513 =>
    some v_z513
theorem G_slices_siftDownOrdered_int_h_ok (n : Nat) (v_data449 : (List Int)) (v_lo450 : Int) (v_hi451 : Int) (v_first452 : Int) (r : (List Int)) (h : G_slices_siftDownOrdered_int_h n v_data449 v_lo450 v_hi451 v_first452 = some r) : RetH Try.prog 207 [.srf 0, .d ((eI .i64) v_lo450), .d ((eI .i64) v_hi451), .d ((eI .i64) v_first452)] [.row 3 1 (v_data449.map (eI .i64))] (.tup []) [.row 3 1 (r.map (eI .i64))] := by
  refine retH_run (n := 76) (fn := Try.f207) (c := bodyOf Try.f207) (by kernel_rfl) (by kernel_rfl) (by kernel_rfl) (by kernel_rfl) ?_
  have hF : KC 76 (FinH Try.prog Try.f207 [.row 3 1 (v_data449.map (eI .i64))] (.tup []) [.row 3 1 (r.map (eI .i64))]) := FinH.kc' (by kernel_rfl)
  unfold G_slices_siftDownOrdered_int_h at h
  obtain ⟨v_o511, h648, h⟩ := bind_some h
  refine pkk_sound TTok mix hF 4 (hs := [.n n]) (ts := []) (s := [1, 0]) (l := [0, 2, 3, 8]) (by kernel_rfl) (by kernel_rfl) .nil (G_slices_siftDownOrdered_int_h_L3_ok hF (.b 0 :: []) n v_hi451 v_first452 n v_lo450 v_data449 _ h648 ?_)
  cases v_o511 with
  | x0 v_z512 =>
    try dsimp only at h
    obtain rfl := Option.some.inj h
    exact pendH_sound TTok mix 1 (hs := []) [1] (by kernel_rfl) (by kernel_rfl) (by kernel_rfl) .nil
  | x1 v_z513 =>
    try dsimp only at h
    obtain rfl := Option.some.inj h
    exact pendH_sound TTok mix 1 (hs := []) [1] (by kernel_rfl) (by kernel_rfl) (by kernel_rfl) .nil
inductive G_slices_heapSortOrdered_int_h_L1_R where
  | x0 (v_w516 : (List Int))
def G_slices_heapSortOrdered_int_h_L1_ex : G_slices_heapSortOrdered_int_h_L1_R → Ex
  | .x0 _ => .exit 0
def G_slices_heapSortOrdered_int_h_L1_st (v_a445 : Int) (v_b446 : Int) : G_slices_heapSortOrdered_int_h_L1_R → PS
  | .x0 v_w516 => ⟨[.srf 1, dd, dd, dd, dd, dd, .d (.v (.int .i64 v_a445)), .d (.v (.int .i64 0)), .d (.v (.int .i64 (wi .i64 (v_b446 - v_a445)))), dd, dd, dd, dd, dd, dd, dd, dd, dd, dd, dd, dd, dd, dd, dd, dd, dd, dd, dd, dd, dd, dd, dd, dd, dd, dd, dd, dd, dd, dd, dd, dd, dd, dd, dd, dd, dd, dd, dd, dd, dd, dd, dd, dd, dd, dd, dd], [.gh 0 (.srf 1), .row 3 1 (v_w516.map (eI .i64))]⟩
def G_slices_heapSortOrdered_int_h_L1_hd (v_a445 : Int) (v_b446 : Int) (v_i447 : Int) (v_w448 : (List Int)) : PS := ⟨[.srf 1, dd, dd, dd, dd, dd, .d (.v (.int .i64 v_a445)), .d (.v (.int .i64 0)), .d (.v (.int .i64 (wi .i64 (v_b446 - v_a445)))), .d (.v (.int .i64 v_i447)), dd, dd, dd, dd, dd, dd, dd, dd, dd, dd, dd, dd, dd, dd, dd, dd, dd, dd, dd, dd, dd, dd, dd, dd, dd, dd, dd, dd, dd, dd, dd, dd, dd, dd, dd, dd, dd, dd, dd, dd, dd, dd, dd, dd, dd, dd], [.gh 0 (.srf 1), .row 3 1 (v_w448.map (eI .i64))]⟩
def G_slices_heapSortOrdered_int_h_L1 (n : Nat) (v_a445 : Int) (v_b446 : Int) : Nat → Int → (List Int) → Option G_slices_heapSortOrdered_int_h_L1_R
  | 0, _, _ => none
  | k + 1, v_i447, v_w448 =>
    if v_i447 ≥ 0 then
     (G_slices_siftDownOrdered_int_h n v_w448 v_i447 (wi .i64 (v_b446 - v_a445)) v_a445).bind fun (v_r515 : ((List Int))) =>
     G_slices_heapSortOrdered_int_h_L1 n v_a445 v_b446 k (wi .i64 (v_i447 - 1)) v_r515
    else
     some (.x0 v_w448)
theorem G_slices_heapSortOrdered_int_h_L1_ok {Fi : Ex → PS → Prop} (hF : KC 56 Fi) (ks : List Fr) (n : Nat) (v_a445 : Int) (v_b446 : Int)  : ∀ (k : Nat) (v_i447 : Int) (v_w448 : (List Int)) (o : G_slices_heapSortOrdered_int_h_L1_R), G_slices_heapSortOrdered_int_h_L1 n v_a445 v_b446 k v_i447 v_w448 = some o → RunE Try.prog 56 Fi ks (G_slices_heapSortOrdered_int_h_L1_ex o) (G_slices_heapSortOrdered_int_h_L1_st v_a445 v_b446 o) → RunE Try.prog 56 Fi (.l k (cP (cB (cR (cL (cR (cR (cR (bodyOf Try.f176)))))))) :: ks) .normal (G_slices_heapSortOrdered_int_h_L1_hd v_a445 v_b446 v_i447 v_w448)
  | 0, v_i447, v_w448, o, h, q => by rw [G_slices_heapSortOrdered_int_h_L1] at h; cases h
  | k + 1, v_i447, v_w448, o, h, q => by
    rw [G_slices_heapSortOrdered_int_h_L1] at h
    by_cases h585 : v_i447 ≥ 0
    · rw [if_pos h585] at h
      obtain ⟨v_r515, h650, h⟩ := bind_some h
      exact pkk_sound TTok mix hF 11 (hs := [.t true, .h [1] [] [.row 3 1 (v_r515.map (eI .i64))] (.tup [])]) (ts := []) (s := [0, 1]) (l := [0, 6, 7, 8, 9]) (by kernel_rfl) (by kernel_rfl) (.cons (dt h585) (.cons (G_slices_siftDownOrdered_int_h_ok n v_w448 v_i447 (wi .i64 (v_b446 - v_a445)) v_a445 _ h650) .nil)) (G_slices_heapSortOrdered_int_h_L1_ok hF ks n v_a445 v_b446 k (wi .i64 (v_i447 - 1)) v_r515 _ h q)
    · rw [if_neg h585] at h
      cases h
      exact pkk_sound TTok mix hF 8 (hs := [.t false]) (ts := []) (s := [0, 1]) (l := [0, 6, 7, 8]) (by kernel_rfl) (by kernel_rfl) (.cons (df h585) .nil) q
inductive G_slices_heapSortOrdered_int_h_L2_R where
  | x0 (v_w531 : (List Int))
def G_slices_heapSortOrdered_int_h_L2_ex : G_slices_heapSortOrdered_int_h_L2_R → Ex
  | .x0 _ => .exit 2
def G_slices_heapSortOrdered_int_h_L2_st (v_a445 : Int) : G_slices_heapSortOrdered_int_h_L2_R → PS
  | .x0 v_w531 => ⟨[dd, dd, dd, dd, dd, dd, dd, dd, dd, dd, dd, dd, dd, dd, dd, dd, dd, dd, dd, dd, dd, dd, dd, dd, dd, dd, dd, dd, dd, dd, dd, dd, dd, dd, dd, dd, dd, dd, dd, dd, dd, dd, dd, dd, dd, dd, dd, dd, dd, dd, dd, dd, dd, dd, dd, dd], [.gh 0 (.srf 1), .row 3 1 (v_w531.map (eI .i64))]⟩
def G_slices_heapSortOrdered_int_h_L2_hd (v_a445 : Int) (v_i519 : Int) (v_w520 : (List Int)) : PS := ⟨[.srf 1, dd, dd, dd, dd, dd, .d (.v (.int .i64 v_a445)), .d (.v (.int .i64 0)), dd, dd, .d (.v (.int .i64 v_i519)), dd, dd, dd, dd, dd, dd, dd, dd, dd, dd, dd, dd, dd, dd, dd, dd, dd, dd, dd, dd, dd, dd, dd, dd, dd, dd, dd, dd, dd, dd, dd, dd, dd, dd, dd, dd, dd, dd, dd, dd, dd, dd, dd, dd, dd], [.gh 0 (.srf 1), .row 3 1 (v_w520.map (eI .i64))]⟩
def G_slices_heapSortOrdered_int_h_L2 (n : Nat) (v_a445 : Int) : Nat → Int → (List Int) → Option G_slices_heapSortOrdered_int_h_L2_R
  | 0, _, _ => none
  | k + 1, v_i519, v_w520 =>
    if v_i519 ≥ 0 then
     if 0 ≤ (wi .i64 (v_a445 + v_i519)) ∧ ((wi .i64 (v_a445 + v_i519))).toNat < v_w520.length then
      (v_w520[((wi .i64 (v_a445 + v_i519))).toNat]?).bind fun (v_y526 : Int) =>
      if 0 ≤ v_a445 ∧ (v_a445).toNat < v_w520.length then
       (v_w520[(v_a445).toNat]?).bind fun (v_y527 : Int) =>
       if 0 ≤ v_a445 ∧ (v_a445).toNat < v_w520.length then
        (v_w520[(v_a445).toNat]?).bind fun (v_y528 : Int) =>
        if 0 ≤ (wi .i64 (v_a445 + v_i519)) ∧ ((wi .i64 (v_a445 + v_i519))).toNat < (v_w520.set (v_a445).toNat v_y526).length then
         ((v_w520.set (v_a445).toNat v_y526)[((wi .i64 (v_a445 + v_i519))).toNat]?).bind fun (v_y529 : Int) =>
         (G_slices_siftDownOrdered_int_h n ((v_w520.set (v_a445).toNat v_y526).set ((wi .i64 (v_a445 + v_i519))).toNat v_y527) 0 v_i519 v_a445).bind fun (v_r530 : ((List Int))) =>
         G_slices_heapSortOrdered_int_h_L2 n v_a445 k (wi .i64 (v_i519 - 1)) v_r530
        else none
       else none
      else none
     else none
    else
     some (.x0 v_w520)
theorem G_slices_heapSortOrdered_int_h_L2_ok {Fi : Ex → PS → Prop} (hF : KC 56 Fi) (ks : List Fr) (n : Nat) (v_a445 : Int)  : ∀ (k : Nat) (v_i519 : Int) (v_w520 : (List Int)) (o : G_slices_heapSortOrdered_int_h_L2_R), G_slices_heapSortOrdered_int_h_L2 n v_a445 k v_i519 v_w520 = some o → RunE Try.prog 56 Fi ks (G_slices_heapSortOrdered_int_h_L2_ex o) (G_slices_heapSortOrdered_int_h_L2_st v_a445 o) → RunE Try.prog 56 Fi (.l k (cP (cB (cR (cR (cR (cR (cR (bodyOf Try.f176)))))))) :: ks) .normal (G_slices_heapSortOrdered_int_h_L2_hd v_a445 v_i519 v_w520)
  | 0, v_i519, v_w520, o, h, q => by rw [G_slices_heapSortOrdered_int_h_L2] at h; cases h
  | k + 1, v_i519, v_w520, o, h, q => by
    rw [G_slices_heapSortOrdered_int_h_L2] at h
    by_cases h652 : v_i519 ≥ 0
    · rw [if_pos h652] at h
      by_cases h662 : 0 ≤ (wi .i64 (v_a445 + v_i519)) ∧ ((wi .i64 (v_a445 + v_i519))).toNat < v_w520.length
      · rw [if_pos h662] at h
        obtain ⟨v_y526, h663, h⟩ := bind_some h
        by_cases h664 : 0 ≤ v_a445 ∧ (v_a445).toNat < v_w520.length
        · rw [if_pos h664] at h
          obtain ⟨v_y527, h665, h⟩ := bind_some h
          by_cases h666 : 0 ≤ v_a445 ∧ (v_a445).toNat < v_w520.length
          · rw [if_pos h666] at h
            obtain ⟨v_y528, h667, h⟩ := bind_some h
            by_cases h668 : 0 ≤ (wi .i64 (v_a445 + v_i519)) ∧ ((wi .i64 (v_a445 + v_i519))).toNat < (v_w520.set (v_a445).toNat v_y526).length
            · rw [if_pos h668] at h
              obtain ⟨v_y529, h669, h⟩ := bind_some h
              obtain ⟨v_r530, h670, h⟩ := bind_some h
              exact pkk_sound TTok mix hF 13 (hs := [.t true, .y ((eI .i64) v_y526), .y ((eI .i64) v_y527), .w ((v_w520.set (v_a445).toNat v_y526).map (eI .i64)), .y ((eI .i64) v_y528), .w (((v_w520.set (v_a445).toNat v_y526).set ((wi .i64 (v_a445 + v_i519))).toNat v_y527).map (eI .i64)), .y ((eI .i64) v_y529), .h [1] [] [.row 3 1 (v_r530.map (eI .i64))] (.tup [])]) (ts := []) (s := [0, 1]) (l := [0, 6, 7, 10]) (by kernel_rfl) (by kernel_rfl) (.cons (dt h652) (.cons (idx_ob (f := (eI .i64)) h662) (.cons (get_ob (f := (eI .i64)) h663) (.cons (idx_ob (f := (eI .i64)) h664) (.cons (get_ob (f := (eI .i64)) h665) (.cons (idx_ob (f := (eI .i64)) h666) (.cons (get_ob (f := (eI .i64)) h667) (.cons (Eq.refl (pcells (.v (.int .i64 v_y526)))) (.cons (set_ob (f := (eI .i64)) (l := v_w520) (k := (v_a445).toNat) (z := v_y526) (p := .v (.int .i64 v_y526)) rfl) (.cons (idx_ob (f := (eI .i64)) h668) (.cons (get_ob (f := (eI .i64)) h669) (.cons (Eq.refl (pcells (.v (.int .i64 v_y527)))) (.cons (set_ob (f := (eI .i64)) (l := (v_w520.set (v_a445).toNat v_y526)) (k := ((wi .i64 (v_a445 + v_i519))).toNat) (z := v_y527) (p := .v (.int .i64 v_y527)) rfl) (.cons (G_slices_siftDownOrdered_int_h_ok n ((v_w520.set (v_a445).toNat v_y526).set ((wi .i64 (v_a445 + v_i519))).toNat v_y527) 0 v_i519 v_a445 _ h670) .nil)))))))))))))) (G_slices_heapSortOrdered_int_h_L2_ok hF ks n v_a445 k (wi .i64 (v_i519 - 1)) v_r530 _ h q)
            · rw [if_neg h668] at h; cases h
          · rw [if_neg h666] at h; cases h
        · rw [if_neg h664] at h; cases h
      · rw [if_neg h662] at h; cases h
    · rw [if_neg h652] at h
      cases h
      exact pkk_sound TTok mix hF 8 (hs := [.t false]) (ts := []) (s := [0, 1]) (l := []) (by kernel_rfl) (by kernel_rfl) (.cons (df h652) .nil) q
/- slices.heapSortOrdered[int] -/
def G_slices_heapSortOrdered_int_h (n : Nat) (v_data444 : (List Int)) (v_a445 : Int) (v_b446 : Int) : Option ((List Int)) :=
  (G_slices_heapSortOrdered_int_h_L1 n v_a445 v_b446 n (quoI .i64 (wi .i64 ((wi .i64 (v_b446 - v_a445)) - 1)) 2) v_data444).bind fun v_o517 => match v_o517 with
  | .x0 v_z518 =>
    (G_slices_heapSortOrdered_int_h_L2 n v_a445 n (wi .i64 ((wi .i64 (v_b446 - v_a445)) - 1)) v_z518).bind fun v_o532 => match v_o532 with
    | .x0 v_z533 =>
      some v_z533
theorem G_slices_heapSortOrdered_int_h_ok (n : Nat) (v_data444 : (List Int)) (v_a445 : Int) (v_b446 : Int) (r : (List Int)) (h : G_slices_heapSortOrdered_int_h n v_data444 v_a445 v_b446 = some r) : RetH Try.prog 176 [.srf 0, .d ((eI .i64) v_a445), .d ((eI .i64) v_b446)] [.row 3 1 (v_data444.map (eI .i64))] (.tup []) [.row 3 1 (r.map (eI .i64))] := by
  refine retH_run (n := 56) (fn := Try.f176) (c := bodyOf Try.f176) (by kernel_rfl) (by kernel_rfl) (by kernel_rfl) (by kernel_rfl) ?_
  have hF : KC 56 (FinH Try.prog Try.f176 [.row 3 1 (v_data444.map (eI .i64))] (.tup []) [.row 3 1 (r.map (eI .i64))]) := FinH.kc' (by kernel_rfl)
  unfold G_slices_heapSortOrdered_int_h at h
  obtain ⟨v_o517, h651, h⟩ := bind_some h
  refine pkk_sound TTok mix hF 11 (hs := [.n n]) (ts := []) (s := [1, 0]) (l := [0, 6, 7, 8, 9]) (by kernel_rfl) (by kernel_rfl) (.cons (show (2 : Int) ≠ 0 by decide) .nil) (G_slices_heapSortOrdered_int_h_L1_ok hF (.b 0 :: .s (cR (cR (cR (cR (bodyOf Try.f176))))) :: []) n v_a445 v_b446 n (quoI .i64 (wi .i64 ((wi .i64 (v_b446 - v_a445)) - 1)) 2) v_data444 _ h651 ?_)
  cases v_o517 with
  | x0 v_z518 =>
    try dsimp only at h
    obtain ⟨v_o532, h671, h⟩ := bind_some h
    refine pkk_sound TTok mix hF 5 (hs := [.n n]) (ts := []) (s := [0, 1]) (l := [0, 6, 7, 10]) (by kernel_rfl) (by kernel_rfl) .nil (G_slices_heapSortOrdered_int_h_L2_ok hF (.b 2 :: []) n v_a445 n (wi .i64 ((wi .i64 (v_b446 - v_a445)) - 1)) v_z518 _ h671 ?_)
    cases v_o532 with
    | x0 v_z533 =>
      try dsimp only at h
      obtain rfl := Option.some.inj h
      exact pendH_sound TTok mix 1 (hs := []) [1] (by kernel_rfl) (by kernel_rfl) (by kernel_rfl) .nil
/- slices.nextPowerOfTwo -/
def G_slices_nextPowerOfTwo (n : Nat) (v_length539 : Int) : Option (Int) :=
  (G_math_bits_Len n (wi .u64 v_length539)).bind fun (v_r540 : (Int)) =>
  if 0 ≤ v_r540 then
   some (shlI .u64 1 v_r540)
  else none
theorem G_slices_nextPowerOfTwo_ok (n : Nat) (v_length539 : Int) (r : Int) (h : G_slices_nextPowerOfTwo n v_length539 = some r) : Ret Try.prog 208 [(eI .i64) v_length539] ((eI .u64) r) := by
  refine ret_run (n := 7) (fn := Try.f208) (c := bodyOf Try.f208) (by kernel_rfl) (by kernel_rfl) (by kernel_rfl) (by kernel_rfl) ?_
  have hF : KC 7 (FinR Try.prog Try.f208 ((eI .u64) r)) := FinR.kc' (by kernel_rfl)
  unfold G_slices_nextPowerOfTwo at h
  obtain ⟨v_r540, h677, h⟩ := bind_some h
  by_cases h678 : 0 ≤ v_r540
  · rw [if_pos h678] at h
    obtain rfl := Option.some.inj h
    exact pend_sound TTok mix 5 (hs := [.r ((eI .i64) v_r540)]) (by kernel_rfl) (by kernel_rfl) (by kernel_rfl) (.cons (G_math_bits_Len_ok n (wi .u64 v_length539) _ h677) (.cons h678 .nil))
  · rw [if_neg h678] at h; cases h
/- (*slices.xorshift).Next -/
def G_slices_xorshift_Next_h (n : Nat) (v_r544 : Int) : Option (Int × Int) :=
  some ((bits .xor .u64 (bits .xor .u64 (bits .xor .u64 v_r544 (shlI .u64 v_r544 13)) (shrI .u64 (bits .xor .u64 v_r544 (shlI .u64 v_r544 13)) 7)) (shlI .u64 (bits .xor .u64 (bits .xor .u64 v_r544 (shlI .u64 v_r544 13)) (shrI .u64 (bits .xor .u64 v_r544 (shlI .u64 v_r544 13)) 7)) 17)), (bits .xor .u64 (bits .xor .u64 (bits .xor .u64 v_r544 (shlI .u64 v_r544 13)) (shrI .u64 (bits .xor .u64 v_r544 (shlI .u64 v_r544 13)) 7)) (shlI .u64 (bits .xor .u64 (bits .xor .u64 v_r544 (shlI .u64 v_r544 13)) (shrI .u64 (bits .xor .u64 v_r544 (shlI .u64 v_r544 13)) 7)) 17)))
theorem G_slices_xorshift_Next_h_ok (n : Nat) (v_r544 : Int) (r : Int × Int) (h : G_slices_xorshift_Next_h n v_r544 = some r) : RetH Try.prog 209 [.ref 0 0] [.box [.d (.v (.int .u64 v_r544))]] (.d ((eI .u64) r.1)) [.box [.d (.v (.int .u64 r.2))]] := by
  refine retH_run (n := 33) (fn := Try.f209) (c := bodyOf Try.f209) (by kernel_rfl) (by kernel_rfl) (by kernel_rfl) (by kernel_rfl) ?_
  have hF : KC 33 (FinH Try.prog Try.f209 [.box [.d (.v (.int .u64 v_r544))]] (.d ((eI .u64) r.1)) [.box [.d (.v (.int .u64 r.2))]]) := FinH.kc' (by kernel_rfl)
  unfold G_slices_xorshift_Next_h at h
  obtain rfl := Option.some.inj h
  exact pendH_sound TTok mix 11 (hs := [.c, .c, .c, .c, .c, .c, .c, .c, .c, .c]) [0] (by kernel_rfl) (by kernel_rfl) (by kernel_rfl) (.cons (show (0 : Int) ≤ 13 by decide) (.cons (show 0 + 1 ≤ 1 by decide) (.cons (show (0 : Int) ≤ 7 by decide) (.cons (show 0 + 1 ≤ 1 by decide) (.cons (show (0 : Int) ≤ 17 by decide) (.cons (show 0 + 1 ≤ 1 by decide) .nil))))))
inductive G_slices_breakPatternsOrdered_int_h_L1_R where
  | x0 (v_w580 : (List Int))
def G_slices_breakPatternsOrdered_int_h_L1_ex : G_slices_breakPatternsOrdered_int_h_L1_R → Ex
  | .x0 _ => .exit 0
def G_slices_breakPatternsOrdered_int_h_L1_st (v_a537 : Int) (v_b538 : Int) (v_r541 : (Int)) : G_slices_breakPatternsOrdered_int_h_L1_R → PS
  | .x0 v_w580 => ⟨[dd, dd, dd, dd, dd, dd, dd, dd, dd, dd, dd, dd, dd, dd, dd, dd, dd, dd, dd, dd, dd, dd, dd, dd, dd, dd, dd, dd, dd, dd, dd, dd, dd, dd, dd, dd, dd, dd, dd, dd, dd, dd, dd, dd, dd, dd, dd, dd, dd, dd, dd, dd, dd, dd, dd, dd, dd, dd, dd, dd, dd, dd, dd, dd, dd], [.gh 0 (.srf 1), .row 3 1 (v_w580.map (eI .i64))]⟩
def G_slices_breakPatternsOrdered_int_h_L1_hd (v_a537 : Int) (v_b538 : Int) (v_r541 : (Int)) (v_idx559 : Int) (v_w560 : (List Int)) (v_b561 : Int) : PS := ⟨[.srf 1, .d (.v (.int .i64 v_a537)), dd, dd, dd, dd, .d (.v (.int .i64 (wi .i64 (v_b538 - v_a537)))), .ref 2 0, .d (.v (.int .u64 v_r541)), .d (.v (.int .i64 v_idx559)), dd, dd, dd, dd, dd, dd, dd, dd, dd, dd, dd, dd, dd, dd, dd, dd, dd, dd, dd, dd, dd, dd, dd, dd, dd, dd, dd, dd, dd, dd, dd, dd, dd, dd, dd, dd, dd, dd, dd, dd, dd, dd, dd, dd, dd, dd, dd, dd, dd, dd, dd, dd, dd, dd, dd], [.gh 0 (.srf 1), .row 3 1 (v_w560.map (eI .i64)), .box [.d (.v (.int .u64 v_b561))]]⟩
def G_slices_breakPatternsOrdered_int_h_L1 (n : Nat) (v_a537 : Int) (v_b538 : Int) (v_r541 : (Int)) : Nat → Int → (List Int) → Int → Option G_slices_breakPatternsOrdered_int_h_L1_R
  | 0, _, _, _ => none
  | k + 1, v_idx559, v_w560, v_b561 =>
    if v_idx559 ≤ (wi .i64 ((wi .i64 (v_a537 + (wi .i64 ((quoI .i64 (wi .i64 (v_b538 - v_a537)) 4) * 2)))) + 1)) then
     (G_slices_xorshift_Next_h n v_b561).bind fun (v_r571 : (Int × Int)) =>
     if (wi .i64 (bits .and .u64 v_r571.1 (wi .u64 (v_r541 - 1)))) ≥ (wi .i64 (v_b538 - v_a537)) then
      if 0 ≤ (wi .i64 (v_a537 + (wi .i64 ((wi .i64 (bits .and .u64 v_r571.1 (wi .u64 (v_r541 - 1)))) - (wi .i64 (v_b538 - v_a537)))))) ∧ ((wi .i64 (v_a537 + (wi .i64 ((wi .i64 (bits .and .u64 v_r571.1 (wi .u64 (v_r541 - 1)))) - (wi .i64 (v_b538 - v_a537))))))).toNat < v_w560.length then
       (v_w560[((wi .i64 (v_a537 + (wi .i64 ((wi .i64 (bits .and .u64 v_r571.1 (wi .u64 (v_r541 - 1)))) - (wi .i64 (v_b538 - v_a537))))))).toNat]?).bind fun (v_y572 : Int) =>
       if 0 ≤ v_idx559 ∧ (v_idx559).toNat < v_w560.length then
        (v_w560[(v_idx559).toNat]?).bind fun (v_y573 : Int) =>
        if 0 ≤ v_idx559 ∧ (v_idx559).toNat < v_w560.length then
         (v_w560[(v_idx559).toNat]?).bind fun (v_y574 : Int) =>
         if 0 ≤ (wi .i64 (v_a537 + (wi .i64 ((wi .i64 (bits .and .u64 v_r571.1 (wi .u64 (v_r541 - 1)))) - (wi .i64 (v_b538 - v_a537)))))) ∧ ((wi .i64 (v_a537 + (wi .i64 ((wi .i64 (bits .and .u64 v_r571.1 (wi .u64 (v_r541 - 1)))) - (wi .i64 (v_b538 - v_a537))))))).toNat < (v_w560.set (v_idx559).toNat v_y572).length then
          ((v_w560.set (v_idx559).toNat v_y572)[((wi .i64 (v_a537 + (wi .i64 ((wi .i64 (bits .and .u64 v_r571.1 (wi .u64 (v_r541 - 1)))) - (wi .i64 (v_b538 - v_a537))))))).toNat]?).bind fun (v_y575 : Int) =>
          G_slices_breakPatternsOrdered_int_h_L1 n v_a537 v_b538 v_r541 k (wi .i64 (v_idx559 + 1)) ((v_w560.set (v_idx559).toNat v_y572).set ((wi .i64 (v_a537 + (wi .i64 ((wi .i64 (bits .and .u64 v_r571.1 (wi .u64 (v_r541 - 1)))) - (wi .i64 (v_b538 - v_a537))))))).toNat v_y573) v_r571.2
         else none
        else none
       else none
      else none
     else
      if 0 ≤ (wi .i64 (v_a537 + (wi .i64 (bits .and .u64 v_r571.1 (wi .u64 (v_r541 - 1)))))) ∧ ((wi .i64 (v_a537 + (wi .i64 (bits .and .u64 v_r571.1 (wi .u64 (v_r541 - 1))))))).toNat < v_w560.length then
       (v_w560[((wi .i64 (v_a537 + (wi .i64 (bits .and .u64 v_r571.1 (wi .u64 (v_r541 - 1))))))).toNat]?).bind fun (v_y576 : Int) =>
       if 0 ≤ v_idx559 ∧ (v_idx559).toNat < v_w560.length then
        (v_w560[(v_idx559).toNat]?).bind fun (v_y577 : Int) =>
        if 0 ≤ v_idx559 ∧ (v_idx559).toNat < v_w560.length then
         (v_w560[(v_idx559).toNat]?).bind fun (v_y578 : Int) =>
         if 0 ≤ (wi .i64 (v_a537 + (wi .i64 (bits .and .u64 v_r571.1 (wi .u64 (v_r541 - 1)))))) ∧ ((wi .i64 (v_a537 + (wi .i64 (bits .and .u64 v_r571.1 (wi .u64 (v_r541 - 1))))))).toNat < (v_w560.set (v_idx559).toNat v_y576).length then
          ((v_w560.set (v_idx559).toNat v_y576)[((wi .i64 (v_a537 + (wi .i64 (bits .and .u64 v_r571.1 (wi .u64 (v_r541 - 1))))))).toNat]?).bind fun (v_y579 : Int) =>
          G_slices_breakPatternsOrdered_int_h_L1 n v_a537 v_b538 v_r541 k (wi .i64 (v_idx559 + 1)) ((v_w560.set (v_idx559).toNat v_y576).set ((wi .i64 (v_a537 + (wi .i64 (bits .and .u64 v_r571.1 (wi .u64 (v_r541 - 1))))))).toNat v_y577) v_r571.2
         else none
        else none
       else none
      else none
    else
     some (.x0 v_w560)
theorem G_slices_breakPatternsOrdered_int_h_L1_ok {Fi : Ex → PS → Prop} (hF : KC 65 Fi) (ks : List Fr) (n : Nat) (v_a537 : Int) (v_b538 : Int) (v_r541 : (Int))  : ∀ (k : Nat) (v_idx559 : Int) (v_w560 : (List Int)) (v_b561 : Int) (o : G_slices_breakPatternsOrdered_int_h_L1_R), G_slices_breakPatternsOrdered_int_h_L1 n v_a537 v_b538 v_r541 k v_idx559 v_w560 v_b561 = some o → RunE Try.prog 65 Fi ks (G_slices_breakPatternsOrdered_int_h_L1_ex o) (G_slices_breakPatternsOrdered_int_h_L1_st v_a537 v_b538 v_r541 o) → RunE Try.prog 65 Fi (.l k (cP (cB (cR (cR (cR (cT (cR (cR (bodyOf Try.f177))))))))) :: ks) .normal (G_slices_breakPatternsOrdered_int_h_L1_hd v_a537 v_b538 v_r541 v_idx559 v_w560 v_b561)
  | 0, v_idx559, v_w560, v_b561, o, h, q => by rw [G_slices_breakPatternsOrdered_int_h_L1] at h; cases h
  | k + 1, v_idx559, v_w560, v_b561, o, h, q => by
    rw [G_slices_breakPatternsOrdered_int_h_L1] at h
    by_cases h717 : v_idx559 ≤ (wi .i64 ((wi .i64 (v_a537 + (wi .i64 ((quoI .i64 (wi .i64 (v_b538 - v_a537)) 4) * 2)))) + 1))
    · rw [if_pos h717] at h
      obtain ⟨v_r571, h737, h⟩ := bind_some h
      by_cases h739 : (wi .i64 (bits .and .u64 v_r571.1 (wi .u64 (v_r541 - 1)))) ≥ (wi .i64 (v_b538 - v_a537))
      · rw [if_pos h739] at h
        by_cases h740 : 0 ≤ (wi .i64 (v_a537 + (wi .i64 ((wi .i64 (bits .and .u64 v_r571.1 (wi .u64 (v_r541 - 1)))) - (wi .i64 (v_b538 - v_a537)))))) ∧ ((wi .i64 (v_a537 + (wi .i64 ((wi .i64 (bits .and .u64 v_r571.1 (wi .u64 (v_r541 - 1)))) - (wi .i64 (v_b538 - v_a537))))))).toNat < v_w560.length
        · rw [if_pos h740] at h
          obtain ⟨v_y572, h741, h⟩ := bind_some h
          by_cases h742 : 0 ≤ v_idx559 ∧ (v_idx559).toNat < v_w560.length
          · rw [if_pos h742] at h
            obtain ⟨v_y573, h743, h⟩ := bind_some h
            by_cases h744 : 0 ≤ v_idx559 ∧ (v_idx559).toNat < v_w560.length
            · rw [if_pos h744] at h
              obtain ⟨v_y574, h745, h⟩ := bind_some h
              by_cases h746 : 0 ≤ (wi .i64 (v_a537 + (wi .i64 ((wi .i64 (bits .and .u64 v_r571.1 (wi .u64 (v_r541 - 1)))) - (wi .i64 (v_b538 - v_a537)))))) ∧ ((wi .i64 (v_a537 + (wi .i64 ((wi .i64 (bits .and .u64 v_r571.1 (wi .u64 (v_r541 - 1)))) - (wi .i64 (v_b538 - v_a537))))))).toNat < (v_w560.set (v_idx559).toNat v_y572).length
              · rw [if_pos h746] at h
                obtain ⟨v_y575, h747, h⟩ := bind_some h
                exact pkk_sound TTok mix hF 18 (hs := [.t true, .h [2] [] [.box [.d (.v (.int .u64 v_r571.2))]] (.d (.v (.int .u64 v_r571.1))), .t true, .y ((eI .i64) v_y572), .y ((eI .i64) v_y573), .w ((v_w560.set (v_idx559).toNat v_y572).map (eI .i64)), .y ((eI .i64) v_y574), .w (((v_w560.set (v_idx559).toNat v_y572).set ((wi .i64 (v_a537 + (wi .i64 ((wi .i64 (bits .and .u64 v_r571.1 (wi .u64 (v_r541 - 1)))) - (wi .i64 (v_b538 - v_a537))))))).toNat v_y573).map (eI .i64)), .y ((eI .i64) v_y575)]) (ts := []) (s := [0, 1, 2]) (l := [0, 1, 6, 7, 8, 9]) (by kernel_rfl) (by kernel_rfl) (.cons (show (4 : Int) ≠ 0 by decide) (.cons (dt h717) (.cons (G_slices_xorshift_Next_h_ok n v_b561 _ h737) (.cons (dt h739) (.cons (idx_ob (f := (eI .i64)) h740) (.cons (get_ob (f := (eI .i64)) h741) (.cons (idx_ob (f := (eI .i64)) h742) (.cons (get_ob (f := (eI .i64)) h743) (.cons (idx_ob (f := (eI .i64)) h744) (.cons (get_ob (f := (eI .i64)) h745) (.cons (Eq.refl (pcells (.v (.int .i64 v_y572)))) (.cons (set_ob (f := (eI .i64)) (l := v_w560) (k := (v_idx559).toNat) (z := v_y572) (p := .v (.int .i64 v_y572)) rfl) (.cons (idx_ob (f := (eI .i64)) h746) (.cons (get_ob (f := (eI .i64)) h747) (.cons (Eq.refl (pcells (.v (.int .i64 v_y573)))) (.cons (set_ob (f := (eI .i64)) (l := (v_w560.set (v_idx559).toNat v_y572)) (k := ((wi .i64 (v_a537 + (wi .i64 ((wi .i64 (bits .and .u64 v_r571.1 (wi .u64 (v_r541 - 1)))) - (wi .i64 (v_b538 - v_a537))))))).toNat) (z := v_y573) (p := .v (.int .i64 v_y573)) rfl) .nil)))))))))))))))) (G_slices_breakPatternsOrdered_int_h_L1_ok hF ks n v_a537 v_b538 v_r541 k (wi .i64 (v_idx559 + 1)) ((v_w560.set (v_idx559).toNat v_y572).set ((wi .i64 (v_a537 + (wi .i64 ((wi .i64 (bits .and .u64 v_r571.1 (wi .u64 (v_r541 - 1)))) - (wi .i64 (v_b538 - v_a537))))))).toNat v_y573) v_r571.2 _ h q)
              · rw [if_neg h746] at h; cases h
            · rw [if_neg h744] at h; cases h
          · rw [if_neg h742] at h; cases h
        · rw [if_neg h740] at h; cases h
      · rw [if_neg h739] at h
        by_cases h748 : 0 ≤ (wi .i64 (v_a537 + (wi .i64 (bits .and .u64 v_r571.1 (wi .u64 (v_r541 - 1)))))) ∧ ((wi .i64 (v_a537 + (wi .i64 (bits .and .u64 v_r571.1 (wi .u64 (v_r541 - 1))))))).toNat < v_w560.length
        · rw [if_pos h748] at h
          obtain ⟨v_y576, h749, h⟩ := bind_some h
          by_cases h750 : 0 ≤ v_idx559 ∧ (v_idx559).toNat < v_w560.length
          · rw [if_pos h750] at h
            obtain ⟨v_y577, h751, h⟩ := bind_some h
            by_cases h752 : 0 ≤ v_idx559 ∧ (v_idx559).toNat < v_w560.length
            · rw [if_pos h752] at h
              obtain ⟨v_y578, h753, h⟩ := bind_some h
              by_cases h754 : 0 ≤ (wi .i64 (v_a537 + (wi .i64 (bits .and .u64 v_r571.1 (wi .u64 (v_r541 - 1)))))) ∧ ((wi .i64 (v_a537 + (wi .i64 (bits .and .u64 v_r571.1 (wi .u64 (v_r541 - 1))))))).toNat < (v_w560.set (v_idx559).toNat v_y576).length
              · rw [if_pos h754] at h
                obtain ⟨v_y579, h755, h⟩ := bind_some h
                exact pkk_sound TTok mix hF 18 (hs := [.t true, .h [2] [] [.box [.d (.v (.int .u64 v_r571.2))]] (.d (.v (.int .u64 v_r571.1))), .t false, .y ((eI .i64) v_y576), .y ((eI .i64) v_y577), .w ((v_w560.set (v_idx559).toNat v_y576).map (eI .i64)), .y ((eI .i64) v_y578), .w (((v_w560.set (v_idx559).toNat v_y576).set ((wi .i64 (v_a537 + (wi .i64 (bits .and .u64 v_r571.1 (wi .u64 (v_r541 - 1))))))).toNat v_y577).map (eI .i64)), .y ((eI .i64) v_y579)]) (ts := []) (s := [0, 1, 2]) (l := [0, 1, 6, 7, 8, 9]) (by kernel_rfl) (by kernel_rfl) (.cons (show (4 : Int) ≠ 0 by decide) (.cons (dt h717) (.cons (G_slices_xorshift_Next_h_ok n v_b561 _ h737) (.cons (df h739) (.cons (idx_ob (f := (eI .i64)) h748) (.cons (get_ob (f := (eI .i64)) h749) (.cons (idx_ob (f := (eI .i64)) h750) (.cons (get_ob (f := (eI .i64)) h751) (.cons (idx_ob (f := (eI .i64)) h752) (.cons (get_ob (f := (eI .i64)) h753) (.cons (Eq.refl (pcells (.v (.int .i64 v_y576)))) (.cons (set_ob (f := (eI .i64)) (l := v_w560) (k := (v_idx559).toNat) (z := v_y576) (p := .v (.int .i64 v_y576)) rfl) (.cons (idx_ob (f := (eI .i64)) h754) (.cons (get_ob (f := (eI .i64)) h755) (.cons (Eq.refl (pcells (.v (.int .i64 v_y577)))) (.cons (set_ob (f := (eI .i64)) (l := (v_w560.set (v_idx559).toNat v_y576)) (k := ((wi .i64 (v_a537 + (wi .i64 (bits .and .u64 v_r571.1 (wi .u64 (v_r541 - 1))))))).toNat) (z := v_y577) (p := .v (.int .i64 v_y577)) rfl) .nil)))))))))))))))) (G_slices_breakPatternsOrdered_int_h_L1_ok hF ks n v_a537 v_b538 v_r541 k (wi .i64 (v_idx559 + 1)) ((v_w560.set (v_idx559).toNat v_y576).set ((wi .i64 (v_a537 + (wi .i64 (bits .and .u64 v_r571.1 (wi .u64 (v_r541 - 1))))))).toNat v_y577) v_r571.2 _ h q)
              · rw [if_neg h754] at h; cases h
            · rw [if_neg h752] at h; cases h
          · rw [if_neg h750] at h; cases h
        · rw [if_neg h748] at h; cases h
    · rw [if_neg h717] at h
      cases h
      exact pkk_sound TTok mix hF 8 (hs := [.t false]) (ts := []) (s := [0, 1]) (l := []) (by kernel_rfl) (by kernel_rfl) (.cons (show (4 : Int) ≠ 0 by decide) (.cons (df h717) .nil)) q
/- slices.breakPatternsOrdered[int] -/
def G_slices_breakPatternsOrdered_int_h (n : Nat) (v_data536 : (List Int)) (v_a537 : Int) (v_b538 : Int) : Option ((List Int)) :=
  if (wi .i64 (v_b538 - v_a537)) ≥ 8 then
   (G_slices_nextPowerOfTwo n (wi .i64 (v_b538 - v_a537))).bind fun (v_r541 : (Int)) =>
   (G_slices_breakPatternsOrdered_int_h_L1 n v_a537 v_b538 v_r541 n (wi .i64 ((wi .i64 (v_a537 + (wi .i64 ((quoI .i64 (wi .i64 (v_b538 - v_a537)) 4) * 2)))) - 1)) v_data536 (wi .u64 (wi .i64 (v_b538 - v_a537)))).bind fun v_o581 => match v_o581 with
   | .x0 v_z582 =>
     some v_z582
  else
   some v_data536
theorem G_slices_breakPatternsOrdered_int_h_ok (n : Nat) (v_data536 : (List Int)) (v_a537 : Int) (v_b538 : Int) (r : (List Int)) (h : G_slices_breakPatternsOrdered_int_h n v_data536 v_a537 v_b538 = some r) : RetH Try.prog 177 [.srf 0, .d ((eI .i64) v_a537), .d ((eI .i64) v_b538)] [.row 3 1 (v_data536.map (eI .i64))] (.tup []) [.row 3 1 (r.map (eI .i64))] := by
  refine retH_run (n := 65) (fn := Try.f177) (c := bodyOf Try.f177) (by kernel_rfl) (by kernel_rfl) (by kernel_rfl) (by kernel_rfl) ?_
  have hF : KC 65 (FinH Try.prog Try.f177 [.row 3 1 (v_data536.map (eI .i64))] (.tup []) [.row 3 1 (r.map (eI .i64))]) := FinH.kc' (by kernel_rfl)
  unfold G_slices_breakPatternsOrdered_int_h at h
  by_cases h676 : (wi .i64 (v_b538 - v_a537)) ≥ 8
  · rw [if_pos h676] at h
    obtain ⟨v_r541, h679, h⟩ := bind_some h
    obtain ⟨v_o581, h756, h⟩ := bind_some h
    refine pkk_sound TTok mix hF 13 (hs := [.t true, .c, .r ((eI .u64) v_r541), .n n]) (ts := []) (s := [1, 0, 26]) (l := [0, 1, 6, 7, 8, 9]) (by kernel_rfl) (by kernel_rfl) (.cons (dt h676) (.cons (show 0 + 1 ≤ 1 by decide) (.cons (G_slices_nextPowerOfTwo_ok n (wi .i64 (v_b538 - v_a537)) _ h679) (.cons (show (4 : Int) ≠ 0 by decide) .nil)))) (G_slices_breakPatternsOrdered_int_h_L1_ok hF (.b 0 :: []) n v_a537 v_b538 v_r541 n (wi .i64 ((wi .i64 (v_a537 + (wi .i64 ((quoI .i64 (wi .i64 (v_b538 - v_a537)) 4) * 2)))) - 1)) v_data536 (wi .u64 (wi .i64 (v_b538 - v_a537))) _ h756 ?_)
    cases v_o581 with
    | x0 v_z582 =>
      try dsimp only at h
      obtain rfl := Option.some.inj h
      exact pendH_sound TTok mix 1 (hs := []) [1] (by kernel_rfl) (by kernel_rfl) (by kernel_rfl) .nil
  · rw [if_neg h676] at h
    obtain rfl := Option.some.inj h
    exact pendH_sound TTok mix 6 (hs := [.t false]) [0] (by kernel_rfl) (by kernel_rfl) (by kernel_rfl) (.cons (df h676) .nil)
/- slices.order2Ordered[int] -/
def G_slices_order2Ordered_int_h (n : Nat) (v_data603 : (List Int)) (v_a604 : Int) (v_b605 : Int) (v_swaps606 : Int) : Option (Int × Int × Int) :=
  (getI v_data603 v_b605).bind fun (v_y607 : Int) =>
  (getI v_data603 v_a604).bind fun (v_y608 : Int) =>
  (G_cmp_Less_int n v_y607 v_y608).bind fun (v_r609 : (Bool)) =>
  if v_r609 = true then
   some (v_b605, v_a604, (wi .i64 (v_swaps606 + 1)))
  else
   some (v_a604, v_b605, v_swaps606)
theorem G_slices_order2Ordered_int_h_ok (n : Nat) (v_data603 : (List Int)) (v_a604 : Int) (v_b605 : Int) (v_swaps606 : Int) (r : Int × Int × Int) (h : G_slices_order2Ordered_int_h n v_data603 v_a604 v_b605 v_swaps606 = some r) : RetH Try.prog 227 [.d ((eL (eI .i64)) v_data603), .d ((eI .i64) v_a604), .d ((eI .i64) v_b605), .ref 0 0] [.box [.d (.v (.int .i64 v_swaps606))]] (.tup [.d ((eI .i64) r.1), .d ((eI .i64) r.2.1)]) [.box [.d (.v (.int .i64 r.2.2))]] := by
  refine retH_run (n := 28) (fn := Try.f227) (c := bodyOf Try.f227) (by kernel_rfl) (by kernel_rfl) (by kernel_rfl) (by kernel_rfl) ?_
  have hF : KC 28 (FinH Try.prog Try.f227 [.box [.d (.v (.int .i64 v_swaps606))]] (.tup [.d ((eI .i64) r.1), .d ((eI .i64) r.2.1)]) [.box [.d (.v (.int .i64 r.2.2))]]) := FinH.kc' (by kernel_rfl)
  unfold G_slices_order2Ordered_int_h at h
  obtain ⟨v_y607, h766, h⟩ := bind_some h
  obtain ⟨v_y608, h767, h⟩ := bind_some h
  obtain ⟨v_r609, h768, h⟩ := bind_some h
  by_cases h770 : v_r609 = true
  · rw [if_pos h770] at h
    obtain rfl := Option.some.inj h
    exact pendH_sound TTok mix 12 (hs := [.y ((eI .i64) v_y607), .c, .y ((eI .i64) v_y608), .c, .r (eB v_r609), .t true, .c, .c]) [0] (by kernel_rfl) (by kernel_rfl) (by kernel_rfl) (.cons (getI_ob (f := (eI .i64)) h766) (.cons (getI_ob (f := (eI .i64)) h767) (.cons (G_cmp_Less_int_ok n v_y607 v_y608 _ h768) (.cons h770 (.cons (show 0 + 1 ≤ 1 by decide) .nil)))))
  · rw [if_neg h770] at h
    obtain rfl := Option.some.inj h
    exact pendH_sound TTok mix 10 (hs := [.y ((eI .i64) v_y607), .c, .y ((eI .i64) v_y608), .c, .r (eB v_r609), .t false]) [0] (by kernel_rfl) (by kernel_rfl) (by kernel_rfl) (.cons (getI_ob (f := (eI .i64)) h766) (.cons (getI_ob (f := (eI .i64)) h767) (.cons (G_cmp_Less_int_ok n v_y607 v_y608 _ h768) (.cons (vf h770) .nil))))
/- slices.medianOrdered[int] -/
def G_slices_medianOrdered_int_h (n : Nat) (v_data598 : (List Int)) (v_a599 : Int) (v_b600 : Int) (v_c601 : Int) (v_swaps602 : Int) : Option (Int × Int) :=
  (G_slices_order2Ordered_int_h n v_data598 v_a599 v_b600 v_swaps602).bind fun (v_r610 : (Int × Int × Int)) =>
  (G_slices_order2Ordered_int_h n v_data598 v_r610.2.1 v_c601 v_r610.2.2).bind fun (v_r611 : (Int × Int × Int)) =>
  (G_slices_order2Ordered_int_h n v_data598 v_r610.1 v_r611.1 v_r611.2.2).bind fun (v_r612 : (Int × Int × Int)) =>
  some (v_r612.2.1, v_r612.2.2)
theorem G_slices_medianOrdered_int_h_ok (n : Nat) (v_data598 : (List Int)) (v_a599 : Int) (v_b600 : Int) (v_c601 : Int) (v_swaps602 : Int) (r : Int × Int) (h : G_slices_medianOrdered_int_h n v_data598 v_a599 v_b600 v_c601 v_swaps602 = some r) : RetH Try.prog 211 [.d ((eL (eI .i64)) v_data598), .d ((eI .i64) v_a599), .d ((eI .i64) v_b600), .d ((eI .i64) v_c601), .ref 0 0] [.box [.d (.v (.int .i64 v_swaps602))]] (.d ((eI .i64) r.1)) [.box [.d (.v (.int .i64 r.2))]] := by
  refine retH_run (n := 36) (fn := Try.f211) (c := bodyOf Try.f211) (by kernel_rfl) (by kernel_rfl) (by kernel_rfl) (by kernel_rfl) ?_
  have hF : KC 36 (FinH Try.prog Try.f211 [.box [.d (.v (.int .i64 v_swaps602))]] (.d ((eI .i64) r.1)) [.box [.d (.v (.int .i64 r.2))]]) := FinH.kc' (by kernel_rfl)
  unfold G_slices_medianOrdered_int_h at h
  obtain ⟨v_r610, h771, h⟩ := bind_some h
  obtain ⟨v_r611, h772, h⟩ := bind_some h
  obtain ⟨v_r612, h773, h⟩ := bind_some h
  obtain rfl := Option.some.inj h
  exact pendH_sound TTok mix 11 (hs := [.h [0] [] [.box [.d (.v (.int .i64 v_r610.2.2))]] (.tup [.d (.v (.int .i64 v_r610.1)), .d (.v (.int .i64 v_r610.2.1))]), .h [0] [] [.box [.d (.v (.int .i64 v_r611.2.2))]] (.tup [.d (.v (.int .i64 v_r611.1)), .d (.v (.int .i64 v_r611.2.1))]), .h [0] [] [.box [.d (.v (.int .i64 v_r612.2.2))]] (.tup [.d (.v (.int .i64 v_r612.1)), .d (.v (.int .i64 v_r612.2.1))])]) [0] (by kernel_rfl) (by kernel_rfl) (by kernel_rfl) (.cons (G_slices_order2Ordered_int_h_ok n v_data598 v_a599 v_b600 v_swaps602 _ h771) (.cons (G_slices_order2Ordered_int_h_ok n v_data598 v_r610.2.1 v_c601 v_r610.2.2 _ h772) (.cons (G_slices_order2Ordered_int_h_ok n v_data598 v_r610.1 v_r611.1 v_r611.2.2 _ h773) .nil)))
/- slices.medianAdjacentOrdered[int] -/
def G_slices_medianAdjacentOrdered_int_h (n : Nat) (v_data595 : (List Int)) (v_a596 : Int) (v_swaps597 : Int) : Option (Int × Int) :=
  (G_slices_medianOrdered_int_h n v_data595 (wi .i64 (v_a596 - 1)) v_a596 (wi .i64 (v_a596 + 1)) v_swaps597).bind fun (v_r613 : (Int × Int)) =>
  some (v_r613.1, v_r613.2)
theorem G_slices_medianAdjacentOrdered_int_h_ok (n : Nat) (v_data595 : (List Int)) (v_a596 : Int) (v_swaps597 : Int) (r : Int × Int) (h : G_slices_medianAdjacentOrdered_int_h n v_data595 v_a596 v_swaps597 = some r) : RetH Try.prog 210 [.d ((eL (eI .i64)) v_data595), .d ((eI .i64) v_a596), .ref 0 0] [.box [.d (.v (.int .i64 v_swaps597))]] (.d ((eI .i64) r.1)) [.box [.d (.v (.int .i64 r.2))]] := by
  refine retH_run (n := 15) (fn := Try.f210) (c := bodyOf Try.f210) (by kernel_rfl) (by kernel_rfl) (by kernel_rfl) (by kernel_rfl) ?_
  have hF : KC 15 (FinH Try.prog Try.f210 [.box [.d (.v (.int .i64 v_swaps597))]] (.d ((eI .i64) r.1)) [.box [.d (.v (.int .i64 r.2))]]) := FinH.kc' (by kernel_rfl)
  unfold G_slices_medianAdjacentOrdered_int_h at h
  obtain ⟨v_r613, h774, h⟩ := bind_some h
  obtain rfl := Option.some.inj h
  exact pendH_sound TTok mix 5 (hs := [.h [0] [] [.box [.d (.v (.int .i64 v_r613.2))]] (.d (.v (.int .i64 v_r613.1)))]) [0] (by kernel_rfl) (by kernel_rfl) (by kernel_rfl) (.cons (G_slices_medianOrdered_int_h_ok n v_data595 (wi .i64 (v_a596 - 1)) v_a596 (wi .i64 (v_a596 + 1)) v_swaps597 _ h774) .nil)
inductive G_slices_choosePivotOrdered_int_C1_R where
  | x0 (v_j629 : Int) (v_b630 : Int)
  | x1 (v_j634 : Int)
def G_slices_choosePivotOrdered_int_C1_ex : G_slices_choosePivotOrdered_int_C1_R → Ex
  | .x0 _ _ => .normal
  | .x1 _ => .normal
def G_slices_choosePivotOrdered_int_C1_st (v_data592 : (List Int)) (v_b594 : Int) (v_a593 : Int) : G_slices_choosePivotOrdered_int_C1_R → PS
  | .x0 v_j629 v_b630 => ⟨[dd, dd, dd, dd, dd, dd, dd, dd, dd, .ref 0 0, dd, .d (.v (.int .i64 v_j629)), dd, dd, dd, dd, dd, dd, dd, dd, dd, dd, dd, dd, dd, dd, dd, dd, dd, dd, dd, dd, dd, dd, dd, dd, dd, dd, dd, dd, dd, dd, dd, dd, dd, dd, dd, dd, dd, dd, dd, dd, dd, dd, dd, dd, dd], [.box [.d (.v (.int .i64 v_b630))]]⟩
  | .x1 v_j634 => ⟨[dd, dd, dd, dd, dd, dd, dd, dd, dd, .ref 0 0, dd, .d (.v (.int .i64 v_j634)), dd, dd, dd, dd, dd, dd, dd, dd, dd, dd, dd, dd, dd, dd, dd, dd, dd, dd, dd, dd, dd, dd, dd, dd, dd, dd, dd, dd, dd, dd, dd, dd, dd, dd, dd, dd, dd, dd, dd, dd, dd, dd, dd, dd, dd], [.box [.d (.v (.int .i64 0))]]⟩
def G_slices_choosePivotOrdered_int_C1_hd (v_data592 : (List Int)) (v_b594 : Int) (v_a593 : Int)  : PS := ⟨[.d (.sl (v_data592.map (eI .i64))), dd, dd, dd, dd, dd, dd, dd, .d (.v (.int .i64 (wi .i64 (v_b594 - v_a593)))), .ref 0 0, .d (.v (.int .i64 (wi .i64 (v_a593 + (wi .i64 ((quoI .i64 (wi .i64 (v_b594 - v_a593)) 4) * 1)))))), .d (.v (.int .i64 (wi .i64 (v_a593 + (wi .i64 ((quoI .i64 (wi .i64 (v_b594 - v_a593)) 4) * 2)))))), .d (.v (.int .i64 (wi .i64 (v_a593 + (wi .i64 ((quoI .i64 (wi .i64 (v_b594 - v_a593)) 4) * 3)))))), dd, dd, dd, dd, dd, dd, dd, dd, dd, dd, dd, dd, dd, dd, dd, dd, dd, dd, dd, .d (.v (.bool (decide ((wi .i64 (v_b594 - v_a593)) ≥ 8)))), dd, dd, dd, dd, dd, dd, dd, dd, dd, dd, dd, dd, dd, dd, dd, dd, dd, dd, dd, dd, dd, dd, dd, dd], [.box [.d (.v (.int .i64 0))]]⟩
def G_slices_choosePivotOrdered_int_C1 (n : Nat) (v_data592 : (List Int)) (v_b594 : Int) (v_a593 : Int) : Option G_slices_choosePivotOrdered_int_C1_R :=
  if (wi .i64 (v_b594 - v_a593)) ≥ 8 then
   if (wi .i64 (v_b594 - v_a593)) ≥ 50 then
    (G_slices_medianAdjacentOrdered_int_h n v_data592 (wi .i64 (v_a593 + (wi .i64 ((quoI .i64 (wi .i64 (v_b594 - v_a593)) 4) * 1)))) 0).bind fun (v_r625 : (Int × Int)) =>
    (G_slices_medianAdjacentOrdered_int_h n v_data592 (wi .i64 (v_a593 + (wi .i64 ((quoI .i64 (wi .i64 (v_b594 - v_a593)) 4) * 2)))) v_r625.2).bind fun (v_r626 : (Int × Int)) =>
    (G_slices_medianAdjacentOrdered_int_h n v_data592 (wi .i64 (v_a593 + (wi .i64 ((quoI .i64 (wi .i64 (v_b594 - v_a593)) 4) * 3)))) v_r626.2).bind fun (v_r627 : (Int × Int)) =>
    (G_slices_medianOrdered_int_h n v_data592 v_r625.1 v_r626.1 v_r627.1 v_r627.2).bind fun (v_r628 : (Int × Int)) =>
    some (.x0 v_r628.1 v_r628.2)
   else
    (G_slices_medianOrdered_int_h n v_data592 (wi .i64 (v_a593 + (wi .i64 ((quoI .i64 (wi .i64 (v_b594 - v_a593)) 4) * 1)))) (wi .i64 (v_a593 + (wi .i64 ((quoI .i64 (wi .i64 (v_b594 - v_a593)) 4) * 2)))) (wi .i64 (v_a593 + (wi .i64 ((quoI .i64 (wi .i64 (v_b594 - v_a593)) 4) * 3)))) 0).bind fun (v_r631 : (Int × Int)) =>
    some (.x0 v_r631.1 v_r631.2)
  else
   some (.x1 (wi .i64 (v_a593 + (wi .i64 ((quoI .i64 (wi .i64 (v_b594 - v_a593)) 4) * 2)))))
theorem G_slices_choosePivotOrdered_int_C1_ok {Fi : Ex → PS → Prop} (hF : KC 57 Fi) (ks : List Fr) (n : Nat) (v_data592 : (List Int)) (v_b594 : Int) (v_a593 : Int)  (o : G_slices_choosePivotOrdered_int_C1_R) (h : G_slices_choosePivotOrdered_int_C1 n v_data592 v_b594 v_a593 = some o) (q : RunE Try.prog 57 Fi ks (G_slices_choosePivotOrdered_int_C1_ex o) (G_slices_choosePivotOrdered_int_C1_st v_data592 v_b594 v_a593 o)) : RunE Try.prog 57 Fi (.s (cR (cL (cR (cR (cR (cR (cR (cR (bodyOf Try.f178))))))))) :: ks) .normal (G_slices_choosePivotOrdered_int_C1_hd v_data592 v_b594 v_a593) := by
  unfold G_slices_choosePivotOrdered_int_C1 at h
  by_cases h784 : (wi .i64 (v_b594 - v_a593)) ≥ 8
  · rw [if_pos h784] at h
    by_cases h789 : (wi .i64 (v_b594 - v_a593)) ≥ 50
    · rw [if_pos h789] at h
      obtain ⟨v_r625, h790, h⟩ := bind_some h
      obtain ⟨v_r626, h791, h⟩ := bind_some h
      obtain ⟨v_r627, h792, h⟩ := bind_some h
      obtain ⟨v_r628, h793, h⟩ := bind_some h
      cases h
      exact pkk_sound TTok mix hF 11 (hs := [.t true, .t true, .h [0] [] [.box [.d (.v (.int .i64 v_r625.2))]] (.d (.v (.int .i64 v_r625.1))), .h [0] [] [.box [.d (.v (.int .i64 v_r626.2))]] (.d (.v (.int .i64 v_r626.1))), .h [0] [] [.box [.d (.v (.int .i64 v_r627.2))]] (.d (.v (.int .i64 v_r627.1))), .h [0] [] [.box [.d (.v (.int .i64 v_r628.2))]] (.d (.v (.int .i64 v_r628.1)))]) (ts := []) (s := [0]) (l := [9, 11]) (by kernel_rfl) (by kernel_rfl) (.cons (dt h784) (.cons (dt h789) (.cons (G_slices_medianAdjacentOrdered_int_h_ok n v_data592 (wi .i64 (v_a593 + (wi .i64 ((quoI .i64 (wi .i64 (v_b594 - v_a593)) 4) * 1)))) 0 _ h790) (.cons (G_slices_medianAdjacentOrdered_int_h_ok n v_data592 (wi .i64 (v_a593 + (wi .i64 ((quoI .i64 (wi .i64 (v_b594 - v_a593)) 4) * 2)))) v_r625.2 _ h791) (.cons (G_slices_medianAdjacentOrdered_int_h_ok n v_data592 (wi .i64 (v_a593 + (wi .i64 ((quoI .i64 (wi .i64 (v_b594 - v_a593)) 4) * 3)))) v_r626.2 _ h792) (.cons (G_slices_medianOrdered_int_h_ok n v_data592 v_r625.1 v_r626.1 v_r627.1 v_r627.2 _ h793) .nil)))))) q
    · rw [if_neg h789] at h
      obtain ⟨v_r631, h794, h⟩ := bind_some h
      cases h
      exact pkk_sound TTok mix hF 7 (hs := [.t true, .t false, .h [0] [] [.box [.d (.v (.int .i64 v_r631.2))]] (.d (.v (.int .i64 v_r631.1)))]) (ts := []) (s := [0]) (l := [9, 11]) (by kernel_rfl) (by kernel_rfl) (.cons (dt h784) (.cons (df h789) (.cons (G_slices_medianOrdered_int_h_ok n v_data592 (wi .i64 (v_a593 + (wi .i64 ((quoI .i64 (wi .i64 (v_b594 - v_a593)) 4) * 1)))) (wi .i64 (v_a593 + (wi .i64 ((quoI .i64 (wi .i64 (v_b594 - v_a593)) 4) * 2)))) (wi .i64 (v_a593 + (wi .i64 ((quoI .i64 (wi .i64 (v_b594 - v_a593)) 4) * 3)))) 0 _ h794) .nil))) q
  · rw [if_neg h784] at h
    cases h
    exact pkk_sound TTok mix hF 2 (hs := [.t false]) (ts := []) (s := [0]) (l := [9, 11]) (by kernel_rfl) (by kernel_rfl) (.cons (df h784) .nil) q
/- slices.choosePivotOrdered[int] -/
def G_slices_choosePivotOrdered_int (n : Nat) (v_data592 : (List Int)) (v_a593 : Int) (v_b594 : Int) : Option (Int × Int) :=
  (G_slices_choosePivotOrdered_int_C1 n v_data592 v_b594 v_a593).bind fun v_o635 => match v_o635 with
  | .x0 v_z636 v_z637 =>
    if v_z637 = 0 then
     some (v_z636, 1)
    else
     if v_z637 = 12 then
      some (v_z636, 2)
     else
      some (v_z636, 0)
  | .x1 v_z638 =>
    some (v_z638, 1)
theorem G_slices_choosePivotOrdered_int_ok (n : Nat) (v_data592 : (List Int)) (v_a593 : Int) (v_b594 : Int) (r : Int × Int) (h : G_slices_choosePivotOrdered_int n v_data592 v_a593 v_b594 = some r) : Ret Try.prog 178 [(eL (eI .i64)) v_data592, (eI .i64) v_a593, (eI .i64) v_b594] (.tup [(eI .i64) r.1, (eI .i64) r.2]) := by
  refine ret_run (n := 57) (fn := Try.f178) (c := bodyOf Try.f178) (by kernel_rfl) (by kernel_rfl) (by kernel_rfl) (by kernel_rfl) ?_
  have hF : KC 57 (FinR Try.prog Try.f178 (.tup [(eI .i64) r.1, (eI .i64) r.2])) := FinR.kc' (by kernel_rfl)
  unfold G_slices_choosePivotOrdered_int at h
  obtain ⟨v_o635, h795, h⟩ := bind_some h
  refine pkk_sound TTok mix hF 15 (hs := []) (ts := []) (s := [18]) (l := [0, 8, 9, 10, 11, 12, 32]) (by kernel_rfl) (by kernel_rfl) (.cons (show (4 : Int) ≠ 0 by decide) (.cons (show (4 : Int) ≠ 0 by decide) (.cons (show (4 : Int) ≠ 0 by decide) .nil))) (G_slices_choosePivotOrdered_int_C1_ok hF (.s (cR (cR (cR (cR (cR (cR (cR (bodyOf Try.f178)))))))) :: []) n v_data592 v_b594 v_a593 _ h795 ?_)
  cases v_o635 with
  | x0 v_z636 v_z637 =>
    try dsimp only at h
    by_cases h798 : v_z637 = 0
    · rw [if_pos h798] at h
      obtain rfl := Option.some.inj h
      exact pend_sound TTok mix 10 (hs := [.c, .t true]) (by kernel_rfl) (by kernel_rfl) (by kernel_rfl) (.cons (bt h798) .nil)
    · rw [if_neg h798] at h
      by_cases h800 : v_z637 = 12
      · rw [if_pos h800] at h
        obtain rfl := Option.some.inj h
        exact pend_sound TTok mix 13 (hs := [.c, .t false, .t true]) (by kernel_rfl) (by kernel_rfl) (by kernel_rfl) (.cons (bf h798) (.cons (bt h800) .nil))
      · rw [if_neg h800] at h
        obtain rfl := Option.some.inj h
        exact pend_sound TTok mix 13 (hs := [.c, .t false, .t false]) (by kernel_rfl) (by kernel_rfl) (by kernel_rfl) (.cons (bf h798) (.cons (bf h800) .nil))
  | x1 v_z638 =>
    try dsimp only at h
    obtain rfl := Option.some.inj h
    exact pend_sound TTok mix 10 (hs := [.c, .c]) (by kernel_rfl) (by kernel_rfl) (by kernel_rfl) .nil
inductive G_slices_reverseRangeOrdered_int_h_L1_R where
  | x0 (v_w654 : (List Int))
def G_slices_reverseRangeOrdered_int_h_L1_ex : G_slices_reverseRangeOrdered_int_h_L1_R → Ex
  | .x0 _ => .exit 0
def G_slices_reverseRangeOrdered_int_h_L1_st  : G_slices_reverseRangeOrdered_int_h_L1_R → PS
  | .x0 v_w654 => ⟨[dd, dd, dd, dd, dd, dd, dd, dd, dd, dd, dd, dd, dd, dd, dd, dd, dd, dd, dd, dd, dd, dd, dd, dd, dd, dd, dd, dd, dd, dd, dd, dd], [.gh 0 (.srf 1), .row 3 1 (v_w654.map (eI .i64))]⟩
def G_slices_reverseRangeOrdered_int_h_L1_hd  (v_i643 : Int) (v_j644 : Int) (v_w645 : (List Int)) : PS := ⟨[.srf 1, dd, dd, dd, dd, dd, .d (.v (.int .i64 v_i643)), .d (.v (.int .i64 v_j644)), dd, dd, dd, dd, dd, dd, dd, dd, dd, dd, dd, dd, dd, dd, dd, dd, dd, dd, dd, dd, dd, dd, dd, dd], [.gh 0 (.srf 1), .row 3 1 (v_w645.map (eI .i64))]⟩
def G_slices_reverseRangeOrdered_int_h_L1 (n : Nat)  : Nat → Int → Int → (List Int) → Option G_slices_reverseRangeOrdered_int_h_L1_R
  | 0, _, _, _ => none
  | k + 1, v_i643, v_j644, v_w645 =>
    if v_i643 < v_j644 then
     if 0 ≤ v_j644 ∧ (v_j644).toNat < v_w645.length then
      (v_w645[(v_j644).toNat]?).bind fun (v_y650 : Int) =>
      if 0 ≤ v_i643 ∧ (v_i643).toNat < v_w645.length then
       (v_w645[(v_i643).toNat]?).bind fun (v_y651 : Int) =>
       if 0 ≤ v_i643 ∧ (v_i643).toNat < v_w645.length then
        (v_w645[(v_i643).toNat]?).bind fun (v_y652 : Int) =>
        if 0 ≤ v_j644 ∧ (v_j644).toNat < (v_w645.set (v_i643).toNat v_y650).length then
         ((v_w645.set (v_i643).toNat v_y650)[(v_j644).toNat]?).bind fun (v_y653 : Int) =>
         G_slices_reverseRangeOrdered_int_h_L1 n  k (wi .i64 (v_i643 + 1)) (wi .i64 (v_j644 - 1)) ((v_w645.set (v_i643).toNat v_y650).set (v_j644).toNat v_y651)
        else none
       else none
      else none
     else none
    else
     some (.x0 v_w645)
theorem G_slices_reverseRangeOrdered_int_h_L1_ok {Fi : Ex → PS → Prop} (hF : KC 32 Fi) (ks : List Fr) (n : Nat)   : ∀ (k : Nat) (v_i643 : Int) (v_j644 : Int) (v_w645 : (List Int)) (o : G_slices_reverseRangeOrdered_int_h_L1_R), G_slices_reverseRangeOrdered_int_h_L1 n  k v_i643 v_j644 v_w645 = some o → RunE Try.prog 32 Fi ks (G_slices_reverseRangeOrdered_int_h_L1_ex o) (G_slices_reverseRangeOrdered_int_h_L1_st  o) → RunE Try.prog 32 Fi (.l k (cP (cB (cR (cR (bodyOf Try.f179))))) :: ks) .normal (G_slices_reverseRangeOrdered_int_h_L1_hd  v_i643 v_j644 v_w645)
  | 0, v_i643, v_j644, v_w645, o, h, q => by rw [G_slices_reverseRangeOrdered_int_h_L1] at h; cases h
  | k + 1, v_i643, v_j644, v_w645, o, h, q => by
    rw [G_slices_reverseRangeOrdered_int_h_L1] at h
    by_cases h803 : v_i643 < v_j644
    · rw [if_pos h803] at h
      by_cases h812 : 0 ≤ v_j644 ∧ (v_j644).toNat < v_w645.length
      · rw [if_pos h812] at h
        obtain ⟨v_y650, h813, h⟩ := bind_some h
        by_cases h814 : 0 ≤ v_i643 ∧ (v_i643).toNat < v_w645.length
        · rw [if_pos h814] at h
          obtain ⟨v_y651, h815, h⟩ := bind_some h
          by_cases h816 : 0 ≤ v_i643 ∧ (v_i643).toNat < v_w645.length
          · rw [if_pos h816] at h
            obtain ⟨v_y652, h817, h⟩ := bind_some h
            by_cases h818 : 0 ≤ v_j644 ∧ (v_j644).toNat < (v_w645.set (v_i643).toNat v_y650).length
            · rw [if_pos h818] at h
              obtain ⟨v_y653, h819, h⟩ := bind_some h
              exact pkk_sound TTok mix hF 13 (hs := [.t true, .y ((eI .i64) v_y650), .y ((eI .i64) v_y651), .w ((v_w645.set (v_i643).toNat v_y650).map (eI .i64)), .y ((eI .i64) v_y652), .w (((v_w645.set (v_i643).toNat v_y650).set (v_j644).toNat v_y651).map (eI .i64)), .y ((eI .i64) v_y653)]) (ts := []) (s := [0, 1]) (l := [0, 6, 7]) (by kernel_rfl) (by kernel_rfl) (.cons (dt h803) (.cons (idx_ob (f := (eI .i64)) h812) (.cons (get_ob (f := (eI .i64)) h813) (.cons (idx_ob (f := (eI .i64)) h814) (.cons (get_ob (f := (eI .i64)) h815) (.cons (idx_ob (f := (eI .i64)) h816) (.cons (get_ob (f := (eI .i64)) h817) (.cons (Eq.refl (pcells (.v (.int .i64 v_y650)))) (.cons (set_ob (f := (eI .i64)) (l := v_w645) (k := (v_i643).toNat) (z := v_y650) (p := .v (.int .i64 v_y650)) rfl) (.cons (idx_ob (f := (eI .i64)) h818) (.cons (get_ob (f := (eI .i64)) h819) (.cons (Eq.refl (pcells (.v (.int .i64 v_y651)))) (.cons (set_ob (f := (eI .i64)) (l := (v_w645.set (v_i643).toNat v_y650)) (k := (v_j644).toNat) (z := v_y651) (p := .v (.int .i64 v_y651)) rfl) .nil))))))))))))) (G_slices_reverseRangeOrdered_int_h_L1_ok hF ks n  k (wi .i64 (v_i643 + 1)) (wi .i64 (v_j644 - 1)) ((v_w645.set (v_i643).toNat v_y650).set (v_j644).toNat v_y651) _ h q)
            · rw [if_neg h818] at h; cases h
          · rw [if_neg h816] at h; cases h
        · rw [if_neg h814] at h; cases h
      · rw [if_neg h812] at h; cases h
    · rw [if_neg h803] at h
      cases h
      exact pkk_sound TTok mix hF 8 (hs := [.t false]) (ts := []) (s := [0, 1]) (l := []) (by kernel_rfl) (by kernel_rfl) (.cons (df h803) .nil) q
/- slices.reverseRangeOrdered[int] -/
def G_slices_reverseRangeOrdered_int_h (n : Nat) (v_data640 : (List Int)) (v_a641 : Int) (v_b642 : Int) : Option ((List Int)) :=
  (G_slices_reverseRangeOrdered_int_h_L1 n  n v_a641 (wi .i64 (v_b642 - 1)) v_data640).bind fun v_o655 => match v_o655 with
  | .x0 v_z656 =>
    some v_z656
theorem G_slices_reverseRangeOrdered_int_h_ok (n : Nat) (v_data640 : (List Int)) (v_a641 : Int) (v_b642 : Int) (r : (List Int)) (h : G_slices_reverseRangeOrdered_int_h n v_data640 v_a641 v_b642 = some r) : RetH Try.prog 179 [.srf 0, .d ((eI .i64) v_a641), .d ((eI .i64) v_b642)] [.row 3 1 (v_data640.map (eI .i64))] (.tup []) [.row 3 1 (r.map (eI .i64))] := by
  refine retH_run (n := 32) (fn := Try.f179) (c := bodyOf Try.f179) (by kernel_rfl) (by kernel_rfl) (by kernel_rfl) (by kernel_rfl) ?_
  have hF : KC 32 (FinH Try.prog Try.f179 [.row 3 1 (v_data640.map (eI .i64))] (.tup []) [.row 3 1 (r.map (eI .i64))]) := FinH.kc' (by kernel_rfl)
  unfold G_slices_reverseRangeOrdered_int_h at h
  obtain ⟨v_o655, h820, h⟩ := bind_some h
  refine pkk_sound TTok mix hF 6 (hs := [.n n]) (ts := []) (s := [1, 0]) (l := [0, 6, 7]) (by kernel_rfl) (by kernel_rfl) .nil (G_slices_reverseRangeOrdered_int_h_L1_ok hF (.b 0 :: []) n  n v_a641 (wi .i64 (v_b642 - 1)) v_data640 _ h820 ?_)
  cases v_o655 with
  | x0 v_z656 =>
    try dsimp only at h
    obtain rfl := Option.some.inj h
    exact pendH_sound TTok mix 1 (hs := []) [1] (by kernel_rfl) (by kernel_rfl) (by kernel_rfl) .nil
inductive G_slices_partialInsertionSortOrdered_int_h_L1_R where
  | x0 (v_i683 : Int) (v_w684 : (List Int))
def G_slices_partialInsertionSortOrdered_int_h_L1_ex : G_slices_partialInsertionSortOrdered_int_h_L1_R → Ex
  | .x0 _ _ => .exit 2
def G_slices_partialInsertionSortOrdered_int_h_L1_st (v_a670 : Int) (v_b671 : Int) (v_j673 : Int) : G_slices_partialInsertionSortOrdered_int_h_L1_R → PS
  | .x0 v_i683 v_w684 => ⟨[.srf 1, .d (.v (.int .i64 v_a670)), .d (.v (.int .i64 v_b671)), dd, dd, dd, dd, .d (.v (.int .i64 v_i683)), .d (.v (.int .i64 v_j673)), dd, dd, dd, dd, dd, dd, dd, dd, dd, dd, dd, dd, dd, dd, dd, dd, dd, dd, dd, dd, dd, dd, dd, dd, dd, dd, dd, dd, dd, dd, dd, dd, dd, dd, dd, dd, dd, dd, dd, dd, dd, dd, dd, dd, dd, dd, dd, dd, dd, dd, dd, dd, dd, dd, dd, dd, dd, dd, dd, dd, dd, dd, dd, dd, dd, dd, dd, dd, dd, dd, dd, dd, dd, dd, dd, dd, dd, dd, dd, dd, dd, dd, dd, dd, dd, dd, dd, dd, dd, dd, dd, dd, dd, dd, dd, dd, dd, dd, dd, dd, dd, dd, dd, dd, dd, dd, dd, dd, dd, dd, dd, dd, dd, dd, dd, dd, dd, dd, dd, dd, dd, dd, dd, dd], [.gh 0 (.srf 1), .row 3 1 (v_w684.map (eI .i64))]⟩
def G_slices_partialInsertionSortOrdered_int_h_L1_hd (v_a670 : Int) (v_b671 : Int) (v_j673 : Int) (v_i675 : Int) (v_w676 : (List Int)) : PS := ⟨[.srf 1, .d (.v (.int .i64 v_a670)), .d (.v (.int .i64 v_b671)), dd, dd, dd, dd, .d (.v (.int .i64 v_i675)), .d (.v (.int .i64 v_j673)), dd, dd, dd, dd, dd, dd, dd, dd, dd, dd, dd, dd, dd, dd, dd, dd, dd, dd, dd, dd, dd, dd, dd, dd, dd, dd, dd, dd, dd, dd, dd, dd, dd, dd, dd, dd, dd, dd, dd, dd, dd, dd, dd, dd, dd, dd, dd, dd, dd, dd, dd, dd, dd, dd, dd, dd, dd, dd, dd, dd, dd, dd, dd, dd, dd, dd, dd, dd, dd, dd, dd, dd, dd, dd, dd, dd, dd, dd, dd, dd, dd, dd, dd, dd, dd, dd, dd, dd, dd, dd, dd, dd, dd, dd, dd, dd, dd, dd, dd, dd, dd, dd, dd, dd, dd, dd, dd, dd, dd, dd, dd, dd, dd, dd, dd, dd, dd, dd, dd, dd, dd, dd, dd, dd], [.gh 0 (.srf 1), .row 3 1 (v_w676.map (eI .i64))]⟩
def G_slices_partialInsertionSortOrdered_int_h_L1 (n : Nat) (v_a670 : Int) (v_b671 : Int) (v_j673 : Int) : Nat → Int → (List Int) → Option G_slices_partialInsertionSortOrdered_int_h_L1_R
  | 0, _, _ => none
  | k + 1, v_i675, v_w676 =>
    if v_i675 < v_b671 then
     if 0 ≤ v_i675 ∧ (v_i675).toNat < v_w676.length then
      (v_w676[(v_i675).toNat]?).bind fun (v_y680 : Int) =>
      if 0 ≤ (wi .i64 (v_i675 - 1)) ∧ ((wi .i64 (v_i675 - 1))).toNat < v_w676.length then
       (v_w676[((wi .i64 (v_i675 - 1))).toNat]?).bind fun (v_y681 : Int) =>
       (G_cmp_Less_int n v_y680 v_y681).bind fun (v_r682 : (Bool)) =>
       if v_r682 = true then
        some (.x0 v_i675 v_w676)
       else
        G_slices_partialInsertionSortOrdered_int_h_L1 n v_a670 v_b671 v_j673 k (wi .i64 (v_i675 + 1)) v_w676
      else none
     else none
    else
     some (.x0 v_i675 v_w676)
theorem G_slices_partialInsertionSortOrdered_int_h_L1_ok {Fi : Ex → PS → Prop} (hF : KC 133 Fi) (ks : List Fr) (n : Nat) (v_a670 : Int) (v_b671 : Int) (v_j673 : Int)  : ∀ (k : Nat) (v_i675 : Int) (v_w676 : (List Int)) (o : G_slices_partialInsertionSortOrdered_int_h_L1_R), G_slices_partialInsertionSortOrdered_int_h_L1 n v_a670 v_b671 v_j673 k v_i675 v_w676 = some o → RunE Try.prog 133 Fi ks (G_slices_partialInsertionSortOrdered_int_h_L1_ex o) (G_slices_partialInsertionSortOrdered_int_h_L1_st v_a670 v_b671 v_j673 o) → RunE Try.prog 133 Fi (.l k (cP (cB (cL (cB (cL (cR (cP (cB (cR (cL (cR (cR (bodyOf Try.f180))))))))))))) :: ks) .normal (G_slices_partialInsertionSortOrdered_int_h_L1_hd v_a670 v_b671 v_j673 v_i675 v_w676)
  | 0, v_i675, v_w676, o, h, q => by rw [G_slices_partialInsertionSortOrdered_int_h_L1] at h; cases h
  | k + 1, v_i675, v_w676, o, h, q => by
    rw [G_slices_partialInsertionSortOrdered_int_h_L1] at h
    by_cases h835 : v_i675 < v_b671
    · rw [if_pos h835] at h
      by_cases h836 : 0 ≤ v_i675 ∧ (v_i675).toNat < v_w676.length
      · rw [if_pos h836] at h
        obtain ⟨v_y680, h837, h⟩ := bind_some h
        by_cases h838 : 0 ≤ (wi .i64 (v_i675 - 1)) ∧ ((wi .i64 (v_i675 - 1))).toNat < v_w676.length
        · rw [if_pos h838] at h
          obtain ⟨v_y681, h839, h⟩ := bind_some h
          obtain ⟨v_r682, h840, h⟩ := bind_some h
          by_cases h841 : v_r682 = true
          · rw [if_pos h841] at h
            cases h
            exact pkk_sound TTok mix hF 8 (hs := [.t true, .c, .c, .c, .y ((eI .i64) v_y680), .c, .c, .c, .c, .c, .y ((eI .i64) v_y681), .c, .r (eB v_r682), .c, .t false]) (ts := []) (s := [0, 1]) (l := [0, 1, 2, 7, 8]) (by kernel_rfl) (by kernel_rfl) (.cons (dt h835) (.cons (idx_ob (f := (eI .i64)) h836) (.cons (get_ob (f := (eI .i64)) h837) (.cons (idx_ob (f := (eI .i64)) h838) (.cons (get_ob (f := (eI .i64)) h839) (.cons (G_cmp_Less_int_ok n v_y680 v_y681 _ h840) (.cons (bnf h841) .nil))))))) q
          · rw [if_neg h841] at h
            exact pkk_sound TTok mix hF 9 (hs := [.t true, .c, .c, .c, .y ((eI .i64) v_y680), .c, .c, .c, .c, .c, .y ((eI .i64) v_y681), .c, .r (eB v_r682), .c, .t true]) (ts := []) (s := [0, 1]) (l := [0, 1, 2, 7, 8]) (by kernel_rfl) (by kernel_rfl) (.cons (dt h835) (.cons (idx_ob (f := (eI .i64)) h836) (.cons (get_ob (f := (eI .i64)) h837) (.cons (idx_ob (f := (eI .i64)) h838) (.cons (get_ob (f := (eI .i64)) h839) (.cons (G_cmp_Less_int_ok n v_y680 v_y681 _ h840) (.cons (bnt (vf h841)) .nil))))))) (G_slices_partialInsertionSortOrdered_int_h_L1_ok hF ks n v_a670 v_b671 v_j673 k (wi .i64 (v_i675 + 1)) v_w676 _ h q)
        · rw [if_neg h838] at h; cases h
      · rw [if_neg h836] at h; cases h
    · rw [if_neg h835] at h
      cases h
      exact pkk_sound TTok mix hF 8 (hs := [.t false, .c, .c, .c, .c, .c, .c, .c, .c, .c, .c, .c]) (ts := []) (s := [0, 1]) (l := [0, 1, 2, 7, 8]) (by kernel_rfl) (by kernel_rfl) (.cons (df h835) .nil) q
inductive G_slices_partialInsertionSortOrdered_int_h_L2_R where
  | x0 (v_w710 : (List Int))
def G_slices_partialInsertionSortOrdered_int_h_L2_ex : G_slices_partialInsertionSortOrdered_int_h_L2_R → Ex
  | .x0 _ => .exit 4
def G_slices_partialInsertionSortOrdered_int_h_L2_st (v_a670 : Int) (v_b671 : Int) (v_z688 : Int) (v_j673 : Int) : G_slices_partialInsertionSortOrdered_int_h_L2_R → PS
  | .x0 v_w710 => ⟨[.srf 1, .d (.v (.int .i64 v_a670)), .d (.v (.int .i64 v_b671)), dd, dd, dd, dd, .d (.v (.int .i64 v_z688)), .d (.v (.int .i64 v_j673)), dd, dd, dd, dd, dd, dd, dd, dd, dd, dd, dd, dd, dd, dd, dd, dd, dd, dd, dd, dd, dd, dd, dd, dd, dd, dd, dd, dd, dd, dd, dd, dd, dd, dd, dd, dd, dd, dd, dd, dd, dd, dd, dd, dd, dd, dd, dd, dd, dd, dd, dd, dd, dd, dd, dd, dd, dd, dd, dd, dd, dd, dd, dd, dd, dd, dd, dd, dd, dd, dd, dd, dd, dd, dd, dd, dd, dd, dd, dd, dd, dd, dd, dd, dd, dd, dd, dd, dd, dd, dd, dd, dd, dd, dd, dd, dd, dd, dd, dd, dd, dd, dd, dd, dd, dd, dd, dd, dd, dd, dd, dd, dd, dd, dd, dd, dd, dd, dd, dd, dd, dd, dd, dd, dd], [.gh 0 (.srf 1), .row 3 1 (v_w710.map (eI .i64))]⟩
def G_slices_partialInsertionSortOrdered_int_h_L2_hd (v_a670 : Int) (v_b671 : Int) (v_z688 : Int) (v_j673 : Int) (v_j698 : Int) (v_w699 : (List Int)) : PS := ⟨[.srf 1, .d (.v (.int .i64 v_a670)), .d (.v (.int .i64 v_b671)), dd, dd, dd, dd, .d (.v (.int .i64 v_z688)), .d (.v (.int .i64 v_j673)), .d (.v (.int .i64 v_j698)), dd, dd, dd, dd, dd, dd, dd, dd, dd, dd, dd, dd, dd, dd, dd, dd, dd, dd, dd, dd, dd, dd, dd, dd, dd, dd, dd, dd, dd, dd, dd, dd, dd, dd, dd, dd, dd, dd, dd, dd, dd, dd, dd, dd, dd, dd, dd, dd, dd, dd, dd, dd, dd, dd, dd, dd, dd, dd, dd, dd, dd, dd, dd, dd, dd, dd, dd, dd, dd, dd, dd, dd, dd, dd, dd, dd, dd, dd, dd, dd, dd, dd, dd, dd, dd, dd, dd, dd, dd, dd, dd, dd, dd, dd, dd, dd, dd, dd, dd, dd, dd, dd, dd, dd, dd, dd, dd, dd, dd, dd, dd, dd, dd, dd, dd, dd, dd, dd, dd, dd, dd, dd, dd], [.gh 0 (.srf 1), .row 3 1 (v_w699.map (eI .i64))]⟩
def G_slices_partialInsertionSortOrdered_int_h_L2 (n : Nat) (v_a670 : Int) (v_b671 : Int) (v_z688 : Int) (v_j673 : Int) : Nat → Int → (List Int) → Option G_slices_partialInsertionSortOrdered_int_h_L2_R
  | 0, _, _ => none
  | k + 1, v_j698, v_w699 =>
    if v_j698 ≥ 1 then
     if 0 ≤ v_j698 ∧ (v_j698).toNat < v_w699.length then
      (v_w699[(v_j698).toNat]?).bind fun (v_y707 : Int) =>
      if 0 ≤ (wi .i64 (v_j698 - 1)) ∧ ((wi .i64 (v_j698 - 1))).toNat < v_w699.length then
       (v_w699[((wi .i64 (v_j698 - 1))).toNat]?).bind fun (v_y708 : Int) =>
       (G_cmp_Less_int n v_y707 v_y708).bind fun (v_r709 : (Bool)) =>
       if v_r709 = true then
        if 0 ≤ (wi .i64 (v_j698 - 1)) ∧ ((wi .i64 (v_j698 - 1))).toNat < v_w699.length then
         (v_w699[((wi .i64 (v_j698 - 1))).toNat]?).bind fun (v_y711 : Int) =>
         if 0 ≤ v_j698 ∧ (v_j698).toNat < v_w699.length then
          (v_w699[(v_j698).toNat]?).bind fun (v_y712 : Int) =>
          if 0 ≤ v_j698 ∧ (v_j698).toNat < v_w699.length then
           (v_w699[(v_j698).toNat]?).bind fun (v_y713 : Int) =>
           if 0 ≤ (wi .i64 (v_j698 - 1)) ∧ ((wi .i64 (v_j698 - 1))).toNat < (v_w699.set (v_j698).toNat v_y711).length then
            ((v_w699.set (v_j698).toNat v_y711)[((wi .i64 (v_j698 - 1))).toNat]?).bind fun (v_y714 : Int) =>
            G_slices_partialInsertionSortOrdered_int_h_L2 n v_a670 v_b671 v_z688 v_j673 k (wi .i64 (v_j698 - 1)) ((v_w699.set (v_j698).toNat v_y711).set ((wi .i64 (v_j698 - 1))).toNat v_y712)
           else none
          else none
         else none
        else none
       else
        some (.x0 v_w699)
      else none
     else none
    else
     some (.x0 v_w699)
theorem G_slices_partialInsertionSortOrdered_int_h_L2_ok {Fi : Ex → PS → Prop} (hF : KC 133 Fi) (ks : List Fr) (n : Nat) (v_a670 : Int) (v_b671 : Int) (v_z688 : Int) (v_j673 : Int)  : ∀ (k : Nat) (v_j698 : Int) (v_w699 : (List Int)) (o : G_slices_partialInsertionSortOrdered_int_h_L2_R), G_slices_partialInsertionSortOrdered_int_h_L2 n v_a670 v_b671 v_z688 v_j673 k v_j698 v_w699 = some o → RunE Try.prog 133 Fi ks (G_slices_partialInsertionSortOrdered_int_h_L2_ex o) (G_slices_partialInsertionSortOrdered_int_h_L2_st v_a670 v_b671 v_z688 v_j673 o) → RunE Try.prog 133 Fi (.l k (cP (cB (cR (cT (cR (cL (cR (cR (cR (cR (cB (cL (cR (cP (cB (cR (cL (cR (cR (bodyOf Try.f180)))))))))))))))))))) :: ks) .normal (G_slices_partialInsertionSortOrdered_int_h_L2_hd v_a670 v_b671 v_z688 v_j673 v_j698 v_w699)
  | 0, v_j698, v_w699, o, h, q => by rw [G_slices_partialInsertionSortOrdered_int_h_L2] at h; cases h
  | k + 1, v_j698, v_w699, o, h, q => by
    rw [G_slices_partialInsertionSortOrdered_int_h_L2] at h
    by_cases h854 : v_j698 ≥ 1
    · rw [if_pos h854] at h
      by_cases h869 : 0 ≤ v_j698 ∧ (v_j698).toNat < v_w699.length
      · rw [if_pos h869] at h
        obtain ⟨v_y707, h870, h⟩ := bind_some h
        by_cases h871 : 0 ≤ (wi .i64 (v_j698 - 1)) ∧ ((wi .i64 (v_j698 - 1))).toNat < v_w699.length
        · rw [if_pos h871] at h
          obtain ⟨v_y708, h872, h⟩ := bind_some h
          obtain ⟨v_r709, h873, h⟩ := bind_some h
          by_cases h874 : v_r709 = true
          · rw [if_pos h874] at h
            by_cases h875 : 0 ≤ (wi .i64 (v_j698 - 1)) ∧ ((wi .i64 (v_j698 - 1))).toNat < v_w699.length
            · rw [if_pos h875] at h
              obtain ⟨v_y711, h876, h⟩ := bind_some h
              by_cases h877 : 0 ≤ v_j698 ∧ (v_j698).toNat < v_w699.length
              · rw [if_pos h877] at h
                obtain ⟨v_y712, h878, h⟩ := bind_some h
                by_cases h879 : 0 ≤ v_j698 ∧ (v_j698).toNat < v_w699.length
                · rw [if_pos h879] at h
                  obtain ⟨v_y713, h880, h⟩ := bind_some h
                  by_cases h881 : 0 ≤ (wi .i64 (v_j698 - 1)) ∧ ((wi .i64 (v_j698 - 1))).toNat < (v_w699.set (v_j698).toNat v_y711).length
                  · rw [if_pos h881] at h
                    obtain ⟨v_y714, h882, h⟩ := bind_some h
                    exact pkk_sound TTok mix hF 16 (hs := [.t true, .y ((eI .i64) v_y707), .y ((eI .i64) v_y708), .r (eB v_r709), .t false, .y ((eI .i64) v_y711), .y ((eI .i64) v_y712), .w ((v_w699.set (v_j698).toNat v_y711).map (eI .i64)), .y ((eI .i64) v_y713), .w (((v_w699.set (v_j698).toNat v_y711).set ((wi .i64 (v_j698 - 1))).toNat v_y712).map (eI .i64)), .y ((eI .i64) v_y714)]) (ts := []) (s := [0, 1]) (l := [0, 1, 2, 7, 8, 9]) (by kernel_rfl) (by kernel_rfl) (.cons (dt h854) (.cons (idx_ob (f := (eI .i64)) h869) (.cons (get_ob (f := (eI .i64)) h870) (.cons (idx_ob (f := (eI .i64)) h871) (.cons (get_ob (f := (eI .i64)) h872) (.cons (G_cmp_Less_int_ok n v_y707 v_y708 _ h873) (.cons (bnf h874) (.cons (idx_ob (f := (eI .i64)) h875) (.cons (get_ob (f := (eI .i64)) h876) (.cons (idx_ob (f := (eI .i64)) h877) (.cons (get_ob (f := (eI .i64)) h878) (.cons (idx_ob (f := (eI .i64)) h879) (.cons (get_ob (f := (eI .i64)) h880) (.cons (Eq.refl (pcells (.v (.int .i64 v_y711)))) (.cons (set_ob (f := (eI .i64)) (l := v_w699) (k := (v_j698).toNat) (z := v_y711) (p := .v (.int .i64 v_y711)) rfl) (.cons (idx_ob (f := (eI .i64)) h881) (.cons (get_ob (f := (eI .i64)) h882) (.cons (Eq.refl (pcells (.v (.int .i64 v_y712)))) (.cons (set_ob (f := (eI .i64)) (l := (v_w699.set (v_j698).toNat v_y711)) (k := ((wi .i64 (v_j698 - 1))).toNat) (z := v_y712) (p := .v (.int .i64 v_y712)) rfl) .nil))))))))))))))))))) (G_slices_partialInsertionSortOrdered_int_h_L2_ok hF ks n v_a670 v_b671 v_z688 v_j673 k (wi .i64 (v_j698 - 1)) ((v_w699.set (v_j698).toNat v_y711).set ((wi .i64 (v_j698 - 1))).toNat v_y712) _ h q)
                  · rw [if_neg h881] at h; cases h
                · rw [if_neg h879] at h; cases h
              · rw [if_neg h877] at h; cases h
            · rw [if_neg h875] at h; cases h
          · rw [if_neg h874] at h
            cases h
            exact pkk_sound TTok mix hF 17 (hs := [.t true, .y ((eI .i64) v_y707), .y ((eI .i64) v_y708), .r (eB v_r709), .t true]) (ts := []) (s := [0, 1]) (l := [0, 1, 2, 7, 8]) (by kernel_rfl) (by kernel_rfl) (.cons (dt h854) (.cons (idx_ob (f := (eI .i64)) h869) (.cons (get_ob (f := (eI .i64)) h870) (.cons (idx_ob (f := (eI .i64)) h871) (.cons (get_ob (f := (eI .i64)) h872) (.cons (G_cmp_Less_int_ok n v_y707 v_y708 _ h873) (.cons (bnt (vf h874)) .nil))))))) q
        · rw [if_neg h871] at h; cases h
      · rw [if_neg h869] at h; cases h
    · rw [if_neg h854] at h
      cases h
      exact pkk_sound TTok mix hF 8 (hs := [.t false]) (ts := []) (s := [0, 1]) (l := [0, 1, 2, 7, 8]) (by kernel_rfl) (by kernel_rfl) (.cons (df h854) .nil) q
inductive G_slices_partialInsertionSortOrdered_int_h_L3_R where
  | x0 (v_w730 : (List Int))
def G_slices_partialInsertionSortOrdered_int_h_L3_ex : G_slices_partialInsertionSortOrdered_int_h_L3_R → Ex
  | .x0 _ => .exit 6
def G_slices_partialInsertionSortOrdered_int_h_L3_st (v_a670 : Int) (v_b671 : Int) (v_z688 : Int) (v_j673 : Int) : G_slices_partialInsertionSortOrdered_int_h_L3_R → PS
  | .x0 v_w730 => ⟨[.srf 1, .d (.v (.int .i64 v_a670)), .d (.v (.int .i64 v_b671)), dd, dd, dd, dd, .d (.v (.int .i64 v_z688)), .d (.v (.int .i64 v_j673)), dd, dd, dd, dd, dd, dd, dd, dd, dd, dd, dd, dd, dd, dd, dd, dd, dd, dd, dd, dd, dd, dd, dd, dd, dd, dd, dd, dd, dd, dd, dd, dd, dd, dd, dd, dd, dd, dd, dd, dd, dd, dd, dd, dd, dd, dd, dd, dd, dd, dd, dd, dd, dd, dd, dd, dd, dd, dd, dd, dd, dd, dd, dd, dd, dd, dd, dd, dd, dd, dd, dd, dd, dd, dd, dd, dd, dd, dd, dd, dd, dd, dd, dd, dd, dd, dd, dd, dd, dd, dd, dd, dd, dd, dd, dd, dd, dd, dd, dd, dd, dd, dd, dd, dd, dd, dd, dd, dd, dd, dd, dd, dd, dd, dd, dd, dd, dd, dd, dd, dd, dd, dd, dd, dd], [.gh 0 (.srf 1), .row 3 1 (v_w730.map (eI .i64))]⟩
def G_slices_partialInsertionSortOrdered_int_h_L3_hd (v_a670 : Int) (v_b671 : Int) (v_z688 : Int) (v_j673 : Int) (v_j718 : Int) (v_w719 : (List Int)) : PS := ⟨[.srf 1, .d (.v (.int .i64 v_a670)), .d (.v (.int .i64 v_b671)), dd, dd, dd, dd, .d (.v (.int .i64 v_z688)), .d (.v (.int .i64 v_j673)), dd, .d (.v (.int .i64 v_j718)), dd, dd, dd, dd, dd, dd, dd, dd, dd, dd, dd, dd, dd, dd, dd, dd, dd, dd, dd, dd, dd, dd, dd, dd, dd, dd, dd, dd, dd, dd, dd, dd, dd, dd, dd, dd, dd, dd, dd, dd, dd, dd, dd, dd, dd, dd, dd, dd, dd, dd, dd, dd, dd, dd, dd, dd, dd, dd, dd, dd, dd, dd, dd, dd, dd, dd, dd, dd, dd, dd, dd, dd, dd, dd, dd, dd, dd, dd, dd, dd, dd, dd, dd, dd, dd, dd, dd, dd, dd, dd, dd, dd, dd, dd, dd, dd, dd, dd, dd, dd, dd, dd, dd, dd, dd, dd, dd, dd, dd, dd, dd, dd, dd, dd, dd, dd, dd, dd, dd, dd, dd, dd], [.gh 0 (.srf 1), .row 3 1 (v_w719.map (eI .i64))]⟩
def G_slices_partialInsertionSortOrdered_int_h_L3 (n : Nat) (v_a670 : Int) (v_b671 : Int) (v_z688 : Int) (v_j673 : Int) : Nat → Int → (List Int) → Option G_slices_partialInsertionSortOrdered_int_h_L3_R
  | 0, _, _ => none
  | k + 1, v_j718, v_w719 =>
    if v_j718 < v_b671 then
     if 0 ≤ v_j718 ∧ (v_j718).toNat < v_w719.length then
      (v_w719[(v_j718).toNat]?).bind fun (v_y727 : Int) =>
      if 0 ≤ (wi .i64 (v_j718 - 1)) ∧ ((wi .i64 (v_j718 - 1))).toNat < v_w719.length then
       (v_w719[((wi .i64 (v_j718 - 1))).toNat]?).bind fun (v_y728 : Int) =>
       (G_cmp_Less_int n v_y727 v_y728).bind fun (v_r729 : (Bool)) =>
       if v_r729 = true then
        if 0 ≤ (wi .i64 (v_j718 - 1)) ∧ ((wi .i64 (v_j718 - 1))).toNat < v_w719.length then
         (v_w719[((wi .i64 (v_j718 - 1))).toNat]?).bind fun (v_y731 : Int) =>
         if 0 ≤ v_j718 ∧ (v_j718).toNat < v_w719.length then
          (v_w719[(v_j718).toNat]?).bind fun (v_y732 : Int) =>
          if 0 ≤ v_j718 ∧ (v_j718).toNat < v_w719.length then
           (v_w719[(v_j718).toNat]?).bind fun (v_y733 : Int) =>
           if 0 ≤ (wi .i64 (v_j718 - 1)) ∧ ((wi .i64 (v_j718 - 1))).toNat < (v_w719.set (v_j718).toNat v_y731).length then
            ((v_w719.set (v_j718).toNat v_y731)[((wi .i64 (v_j718 - 1))).toNat]?).bind fun (v_y734 : Int) =>
            G_slices_partialInsertionSortOrdered_int_h_L3 n v_a670 v_b671 v_z688 v_j673 k (wi .i64 (v_j718 + 1)) ((v_w719.set (v_j718).toNat v_y731).set ((wi .i64 (v_j718 - 1))).toNat v_y732)
           else none
          else none
         else none
        else none
       else
        some (.x0 v_w719)
      else none
     else none
    else
     some (.x0 v_w719)
theorem G_slices_partialInsertionSortOrdered_int_h_L3_ok {Fi : Ex → PS → Prop} (hF : KC 133 Fi) (ks : List Fr) (n : Nat) (v_a670 : Int) (v_b671 : Int) (v_z688 : Int) (v_j673 : Int)  : ∀ (k : Nat) (v_j718 : Int) (v_w719 : (List Int)) (o : G_slices_partialInsertionSortOrdered_int_h_L3_R), G_slices_partialInsertionSortOrdered_int_h_L3 n v_a670 v_b671 v_z688 v_j673 k v_j718 v_w719 = some o → RunE Try.prog 133 Fi ks (G_slices_partialInsertionSortOrdered_int_h_L3_ex o) (G_slices_partialInsertionSortOrdered_int_h_L3_st v_a670 v_b671 v_z688 v_j673 o) → RunE Try.prog 133 Fi (.l k (cP (cB (cR (cT (cR (cR (cR (cR (cR (cR (cB (cL (cR (cP (cB (cR (cL (cR (cR (bodyOf Try.f180)))))))))))))))))))) :: ks) .normal (G_slices_partialInsertionSortOrdered_int_h_L3_hd v_a670 v_b671 v_z688 v_j673 v_j718 v_w719)
  | 0, v_j718, v_w719, o, h, q => by rw [G_slices_partialInsertionSortOrdered_int_h_L3] at h; cases h
  | k + 1, v_j718, v_w719, o, h, q => by
    rw [G_slices_partialInsertionSortOrdered_int_h_L3] at h
    by_cases h885 : v_j718 < v_b671
    · rw [if_pos h885] at h
      by_cases h900 : 0 ≤ v_j718 ∧ (v_j718).toNat < v_w719.length
      · rw [if_pos h900] at h
        obtain ⟨v_y727, h901, h⟩ := bind_some h
        by_cases h902 : 0 ≤ (wi .i64 (v_j718 - 1)) ∧ ((wi .i64 (v_j718 - 1))).toNat < v_w719.length
        · rw [if_pos h902] at h
          obtain ⟨v_y728, h903, h⟩ := bind_some h
          obtain ⟨v_r729, h904, h⟩ := bind_some h
          by_cases h905 : v_r729 = true
          · rw [if_pos h905] at h
            by_cases h906 : 0 ≤ (wi .i64 (v_j718 - 1)) ∧ ((wi .i64 (v_j718 - 1))).toNat < v_w719.length
            · rw [if_pos h906] at h
              obtain ⟨v_y731, h907, h⟩ := bind_some h
              by_cases h908 : 0 ≤ v_j718 ∧ (v_j718).toNat < v_w719.length
              · rw [if_pos h908] at h
                obtain ⟨v_y732, h909, h⟩ := bind_some h
                by_cases h910 : 0 ≤ v_j718 ∧ (v_j718).toNat < v_w719.length
                · rw [if_pos h910] at h
                  obtain ⟨v_y733, h911, h⟩ := bind_some h
                  by_cases h912 : 0 ≤ (wi .i64 (v_j718 - 1)) ∧ ((wi .i64 (v_j718 - 1))).toNat < (v_w719.set (v_j718).toNat v_y731).length
                  · rw [if_pos h912] at h
                    obtain ⟨v_y734, h913, h⟩ := bind_some h
                    exact pkk_sound TTok mix hF 16 (hs := [.t true, .y ((eI .i64) v_y727), .y ((eI .i64) v_y728), .r (eB v_r729), .t false, .y ((eI .i64) v_y731), .y ((eI .i64) v_y732), .w ((v_w719.set (v_j718).toNat v_y731).map (eI .i64)), .y ((eI .i64) v_y733), .w (((v_w719.set (v_j718).toNat v_y731).set ((wi .i64 (v_j718 - 1))).toNat v_y732).map (eI .i64)), .y ((eI .i64) v_y734)]) (ts := []) (s := [0, 1]) (l := [0, 1, 2, 7, 8, 10]) (by kernel_rfl) (by kernel_rfl) (.cons (dt h885) (.cons (idx_ob (f := (eI .i64)) h900) (.cons (get_ob (f := (eI .i64)) h901) (.cons (idx_ob (f := (eI .i64)) h902) (.cons (get_ob (f := (eI .i64)) h903) (.cons (G_cmp_Less_int_ok n v_y727 v_y728 _ h904) (.cons (bnf h905) (.cons (idx_ob (f := (eI .i64)) h906) (.cons (get_ob (f := (eI .i64)) h907) (.cons (idx_ob (f := (eI .i64)) h908) (.cons (get_ob (f := (eI .i64)) h909) (.cons (idx_ob (f := (eI .i64)) h910) (.cons (get_ob (f := (eI .i64)) h911) (.cons (Eq.refl (pcells (.v (.int .i64 v_y731)))) (.cons (set_ob (f := (eI .i64)) (l := v_w719) (k := (v_j718).toNat) (z := v_y731) (p := .v (.int .i64 v_y731)) rfl) (.cons (idx_ob (f := (eI .i64)) h912) (.cons (get_ob (f := (eI .i64)) h913) (.cons (Eq.refl (pcells (.v (.int .i64 v_y732)))) (.cons (set_ob (f := (eI .i64)) (l := (v_w719.set (v_j718).toNat v_y731)) (k := ((wi .i64 (v_j718 - 1))).toNat) (z := v_y732) (p := .v (.int .i64 v_y732)) rfl) .nil))))))))))))))))))) (G_slices_partialInsertionSortOrdered_int_h_L3_ok hF ks n v_a670 v_b671 v_z688 v_j673 k (wi .i64 (v_j718 + 1)) ((v_w719.set (v_j718).toNat v_y731).set ((wi .i64 (v_j718 - 1))).toNat v_y732) _ h q)
                  · rw [if_neg h912] at h; cases h
                · rw [if_neg h910] at h; cases h
              · rw [if_neg h908] at h; cases h
            · rw [if_neg h906] at h; cases h
          · rw [if_neg h905] at h
            cases h
            exact pkk_sound TTok mix hF 17 (hs := [.t true, .y ((eI .i64) v_y727), .y ((eI .i64) v_y728), .r (eB v_r729), .t true]) (ts := []) (s := [0, 1]) (l := [0, 1, 2, 7, 8]) (by kernel_rfl) (by kernel_rfl) (.cons (dt h885) (.cons (idx_ob (f := (eI .i64)) h900) (.cons (get_ob (f := (eI .i64)) h901) (.cons (idx_ob (f := (eI .i64)) h902) (.cons (get_ob (f := (eI .i64)) h903) (.cons (G_cmp_Less_int_ok n v_y727 v_y728 _ h904) (.cons (bnt (vf h905)) .nil))))))) q
        · rw [if_neg h902] at h; cases h
      · rw [if_neg h900] at h; cases h
    · rw [if_neg h885] at h
      cases h
      exact pkk_sound TTok mix hF 8 (hs := [.t false]) (ts := []) (s := [0, 1]) (l := [0, 1, 2, 7, 8]) (by kernel_rfl) (by kernel_rfl) (.cons (df h885) .nil) q
inductive G_slices_partialInsertionSortOrdered_int_h_L4_R where
  | x0 (v_w750 : (List Int))
def G_slices_partialInsertionSortOrdered_int_h_L4_ex : G_slices_partialInsertionSortOrdered_int_h_L4_R → Ex
  | .x0 _ => .exit 6
def G_slices_partialInsertionSortOrdered_int_h_L4_st (v_a670 : Int) (v_b671 : Int) (v_z688 : Int) (v_j673 : Int) : G_slices_partialInsertionSortOrdered_int_h_L4_R → PS
  | .x0 v_w750 => ⟨[.srf 1, .d (.v (.int .i64 v_a670)), .d (.v (.int .i64 v_b671)), dd, dd, dd, dd, .d (.v (.int .i64 v_z688)), .d (.v (.int .i64 v_j673)), dd, dd, dd, dd, dd, dd, dd, dd, dd, dd, dd, dd, dd, dd, dd, dd, dd, dd, dd, dd, dd, dd, dd, dd, dd, dd, dd, dd, dd, dd, dd, dd, dd, dd, dd, dd, dd, dd, dd, dd, dd, dd, dd, dd, dd, dd, dd, dd, dd, dd, dd, dd, dd, dd, dd, dd, dd, dd, dd, dd, dd, dd, dd, dd, dd, dd, dd, dd, dd, dd, dd, dd, dd, dd, dd, dd, dd, dd, dd, dd, dd, dd, dd, dd, dd, dd, dd, dd, dd, dd, dd, dd, dd, dd, dd, dd, dd, dd, dd, dd, dd, dd, dd, dd, dd, dd, dd, dd, dd, dd, dd, dd, dd, dd, dd, dd, dd, dd, dd, dd, dd, dd, dd, dd], [.gh 0 (.srf 1), .row 3 1 (v_w750.map (eI .i64))]⟩
def G_slices_partialInsertionSortOrdered_int_h_L4_hd (v_a670 : Int) (v_b671 : Int) (v_z688 : Int) (v_j673 : Int) (v_j738 : Int) (v_w739 : (List Int)) : PS := ⟨[.srf 1, .d (.v (.int .i64 v_a670)), .d (.v (.int .i64 v_b671)), dd, dd, dd, dd, .d (.v (.int .i64 v_z688)), .d (.v (.int .i64 v_j673)), dd, .d (.v (.int .i64 v_j738)), dd, dd, dd, dd, dd, dd, dd, dd, dd, dd, dd, dd, dd, dd, dd, dd, dd, dd, dd, dd, dd, dd, dd, dd, dd, dd, dd, dd, dd, dd, dd, dd, dd, dd, dd, dd, dd, dd, dd, dd, dd, dd, dd, dd, dd, dd, dd, dd, dd, dd, dd, dd, dd, dd, dd, dd, dd, dd, dd, dd, dd, dd, dd, dd, dd, dd, dd, dd, dd, dd, dd, dd, dd, dd, dd, dd, dd, dd, dd, dd, dd, dd, dd, dd, dd, dd, dd, dd, dd, dd, dd, dd, dd, dd, dd, dd, dd, dd, dd, dd, dd, dd, dd, dd, dd, dd, dd, dd, dd, dd, dd, dd, dd, dd, dd, dd, dd, dd, dd, dd, dd, dd], [.gh 0 (.srf 1), .row 3 1 (v_w739.map (eI .i64))]⟩
def G_slices_partialInsertionSortOrdered_int_h_L4 (n : Nat) (v_a670 : Int) (v_b671 : Int) (v_z688 : Int) (v_j673 : Int) : Nat → Int → (List Int) → Option G_slices_partialInsertionSortOrdered_int_h_L4_R
  | 0, _, _ => none
  | k + 1, v_j738, v_w739 =>
    if v_j738 < v_b671 then
     if 0 ≤ v_j738 ∧ (v_j738).toNat < v_w739.length then
      (v_w739[(v_j738).toNat]?).bind fun (v_y747 : Int) =>
      if 0 ≤ (wi .i64 (v_j738 - 1)) ∧ ((wi .i64 (v_j738 - 1))).toNat < v_w739.length then
       (v_w739[((wi .i64 (v_j738 - 1))).toNat]?).bind fun (v_y748 : Int) =>
       (G_cmp_Less_int n v_y747 v_y748).bind fun (v_r749 : (Bool)) =>
       if v_r749 = true then
        if 0 ≤ (wi .i64 (v_j738 - 1)) ∧ ((wi .i64 (v_j738 - 1))).toNat < v_w739.length then
         (v_w739[((wi .i64 (v_j738 - 1))).toNat]?).bind fun (v_y751 : Int) =>
         if 0 ≤ v_j738 ∧ (v_j738).toNat < v_w739.length then
          (v_w739[(v_j738).toNat]?).bind fun (v_y752 : Int) =>
          if 0 ≤ v_j738 ∧ (v_j738).toNat < v_w739.length then
           (v_w739[(v_j738).toNat]?).bind fun (v_y753 : Int) =>
           if 0 ≤ (wi .i64 (v_j738 - 1)) ∧ ((wi .i64 (v_j738 - 1))).toNat < (v_w739.set (v_j738).toNat v_y751).length then
            ((v_w739.set (v_j738).toNat v_y751)[((wi .i64 (v_j738 - 1))).toNat]?).bind fun (v_y754 : Int) =>
            G_slices_partialInsertionSortOrdered_int_h_L4 n v_a670 v_b671 v_z688 v_j673 k (wi .i64 (v_j738 + 1)) ((v_w739.set (v_j738).toNat v_y751).set ((wi .i64 (v_j738 - 1))).toNat v_y752)
           else none
          else none
         else none
        else none
       else
        some (.x0 v_w739)
      else none
     else none
    else
     some (.x0 v_w739)
theorem G_slices_partialInsertionSortOrdered_int_h_L4_ok {Fi : Ex → PS → Prop} (hF : KC 133 Fi) (ks : List Fr) (n : Nat) (v_a670 : Int) (v_b671 : Int) (v_z688 : Int) (v_j673 : Int)  : ∀ (k : Nat) (v_j738 : Int) (v_w739 : (List Int)) (o : G_slices_partialInsertionSortOrdered_int_h_L4_R), G_slices_partialInsertionSortOrdered_int_h_L4 n v_a670 v_b671 v_z688 v_j673 k v_j738 v_w739 = some o → RunE Try.prog 133 Fi ks (G_slices_partialInsertionSortOrdered_int_h_L4_ex o) (G_slices_partialInsertionSortOrdered_int_h_L4_st v_a670 v_b671 v_z688 v_j673 o) → RunE Try.prog 133 Fi (.l k (cP (cB (cR (cT (cR (cR (cR (cR (cR (cR (cB (cL (cR (cP (cB (cR (cL (cR (cR (bodyOf Try.f180)))))))))))))))))))) :: ks) .normal (G_slices_partialInsertionSortOrdered_int_h_L4_hd v_a670 v_b671 v_z688 v_j673 v_j738 v_w739)
  | 0, v_j738, v_w739, o, h, q => by rw [G_slices_partialInsertionSortOrdered_int_h_L4] at h; cases h
  | k + 1, v_j738, v_w739, o, h, q => by
    rw [G_slices_partialInsertionSortOrdered_int_h_L4] at h
    by_cases h916 : v_j738 < v_b671
    · rw [if_pos h916] at h
      by_cases h931 : 0 ≤ v_j738 ∧ (v_j738).toNat < v_w739.length
      · rw [if_pos h931] at h
        obtain ⟨v_y747, h932, h⟩ := bind_some h
        by_cases h933 : 0 ≤ (wi .i64 (v_j738 - 1)) ∧ ((wi .i64 (v_j738 - 1))).toNat < v_w739.length
        · rw [if_pos h933] at h
          obtain ⟨v_y748, h934, h⟩ := bind_some h
          obtain ⟨v_r749, h935, h⟩ := bind_some h
          by_cases h936 : v_r749 = true
          · rw [if_pos h936] at h
            by_cases h937 : 0 ≤ (wi .i64 (v_j738 - 1)) ∧ ((wi .i64 (v_j738 - 1))).toNat < v_w739.length
            · rw [if_pos h937] at h
              obtain ⟨v_y751, h938, h⟩ := bind_some h
              by_cases h939 : 0 ≤ v_j738 ∧ (v_j738).toNat < v_w739.length
              · rw [if_pos h939] at h
                obtain ⟨v_y752, h940, h⟩ := bind_some h
                by_cases h941 : 0 ≤ v_j738 ∧ (v_j738).toNat < v_w739.length
                · rw [if_pos h941] at h
                  obtain ⟨v_y753, h942, h⟩ := bind_some h
                  by_cases h943 : 0 ≤ (wi .i64 (v_j738 - 1)) ∧ ((wi .i64 (v_j738 - 1))).toNat < (v_w739.set (v_j738).toNat v_y751).length
                  · rw [if_pos h943] at h
                    obtain ⟨v_y754, h944, h⟩ := bind_some h
                    exact pkk_sound TTok mix hF 16 (hs := [.t true, .y ((eI .i64) v_y747), .y ((eI .i64) v_y748), .r (eB v_r749), .t false, .y ((eI .i64) v_y751), .y ((eI .i64) v_y752), .w ((v_w739.set (v_j738).toNat v_y751).map (eI .i64)), .y ((eI .i64) v_y753), .w (((v_w739.set (v_j738).toNat v_y751).set ((wi .i64 (v_j738 - 1))).toNat v_y752).map (eI .i64)), .y ((eI .i64) v_y754)]) (ts := []) (s := [0, 1]) (l := [0, 1, 2, 7, 8, 10]) (by kernel_rfl) (by kernel_rfl) (.cons (dt h916) (.cons (idx_ob (f := (eI .i64)) h931) (.cons (get_ob (f := (eI .i64)) h932) (.cons (idx_ob (f := (eI .i64)) h933) (.cons (get_ob (f := (eI .i64)) h934) (.cons (G_cmp_Less_int_ok n v_y747 v_y748 _ h935) (.cons (bnf h936) (.cons (idx_ob (f := (eI .i64)) h937) (.cons (get_ob (f := (eI .i64)) h938) (.cons (idx_ob (f := (eI .i64)) h939) (.cons (get_ob (f := (eI .i64)) h940) (.cons (idx_ob (f := (eI .i64)) h941) (.cons (get_ob (f := (eI .i64)) h942) (.cons (Eq.refl (pcells (.v (.int .i64 v_y751)))) (.cons (set_ob (f := (eI .i64)) (l := v_w739) (k := (v_j738).toNat) (z := v_y751) (p := .v (.int .i64 v_y751)) rfl) (.cons (idx_ob (f := (eI .i64)) h943) (.cons (get_ob (f := (eI .i64)) h944) (.cons (Eq.refl (pcells (.v (.int .i64 v_y752)))) (.cons (set_ob (f := (eI .i64)) (l := (v_w739.set (v_j738).toNat v_y751)) (k := ((wi .i64 (v_j738 - 1))).toNat) (z := v_y752) (p := .v (.int .i64 v_y752)) rfl) .nil))))))))))))))))))) (G_slices_partialInsertionSortOrdered_int_h_L4_ok hF ks n v_a670 v_b671 v_z688 v_j673 k (wi .i64 (v_j738 + 1)) ((v_w739.set (v_j738).toNat v_y751).set ((wi .i64 (v_j738 - 1))).toNat v_y752) _ h q)
                  · rw [if_neg h943] at h; cases h
                · rw [if_neg h941] at h; cases h
              · rw [if_neg h939] at h; cases h
            · rw [if_neg h937] at h; cases h
          · rw [if_neg h936] at h
            cases h
            exact pkk_sound TTok mix hF 17 (hs := [.t true, .y ((eI .i64) v_y747), .y ((eI .i64) v_y748), .r (eB v_r749), .t true]) (ts := []) (s := [0, 1]) (l := [0, 1, 2, 7, 8]) (by kernel_rfl) (by kernel_rfl) (.cons (dt h916) (.cons (idx_ob (f := (eI .i64)) h931) (.cons (get_ob (f := (eI .i64)) h932) (.cons (idx_ob (f := (eI .i64)) h933) (.cons (get_ob (f := (eI .i64)) h934) (.cons (G_cmp_Less_int_ok n v_y747 v_y748 _ h935) (.cons (bnt (vf h936)) .nil))))))) q
        · rw [if_neg h933] at h; cases h
      · rw [if_neg h931] at h; cases h
    · rw [if_neg h916] at h
      cases h
      exact pkk_sound TTok mix hF 8 (hs := [.t false]) (ts := []) (s := [0, 1]) (l := [0, 1, 2, 7, 8]) (by kernel_rfl) (by kernel_rfl) (.cons (df h916) .nil) q
inductive G_slices_partialInsertionSortOrdered_int_h_L5_R where
  | x0 (v_x690 : Bool) (v_w691 : (List Int))
  | x1 (v_w758 : (List Int))
def G_slices_partialInsertionSortOrdered_int_h_L5_ex : G_slices_partialInsertionSortOrdered_int_h_L5_R → Ex
  | .x0 _ _ => .ret
  | .x1 _ => .exit 0
def G_slices_partialInsertionSortOrdered_int_h_L5_st (v_a670 : Int) (v_b671 : Int) : G_slices_partialInsertionSortOrdered_int_h_L5_R → PS
  | .x0 v_x690 v_w691 => ⟨[dd, dd, dd, dd, dd, dd, .d (.v (.bool v_x690)), dd, dd, dd, dd, dd, dd, dd, dd, dd, dd, dd, dd, dd, dd, dd, dd, dd, dd, dd, dd, dd, dd, dd, dd, dd, dd, dd, dd, dd, dd, dd, dd, dd, dd, dd, dd, dd, dd, dd, dd, dd, dd, dd, dd, dd, dd, dd, dd, dd, dd, dd, dd, dd, dd, dd, dd, dd, dd, dd, dd, dd, dd, dd, dd, dd, dd, dd, dd, dd, dd, dd, dd, dd, dd, dd, dd, dd, dd, dd, dd, dd, dd, dd, dd, dd, dd, dd, dd, dd, dd, dd, dd, dd, dd, dd, dd, dd, dd, dd, dd, dd, dd, dd, dd, dd, dd, dd, dd, dd, dd, dd, dd, dd, dd, dd, dd, dd, dd, dd, dd, dd, dd, dd, dd, dd, dd], [.gh 0 (.srf 1), .row 3 1 (v_w691.map (eI .i64))]⟩
  | .x1 v_w758 => ⟨[dd, dd, dd, dd, dd, dd, dd, dd, dd, dd, dd, dd, dd, dd, dd, dd, dd, dd, dd, dd, dd, dd, dd, dd, dd, dd, dd, dd, dd, dd, dd, dd, dd, dd, dd, dd, dd, dd, dd, dd, dd, dd, dd, dd, dd, dd, dd, dd, dd, dd, dd, dd, dd, dd, dd, dd, dd, dd, dd, dd, dd, dd, dd, dd, dd, dd, dd, dd, dd, dd, dd, dd, dd, dd, dd, dd, dd, dd, dd, dd, dd, dd, dd, dd, dd, dd, dd, dd, dd, dd, dd, dd, dd, dd, dd, dd, dd, dd, dd, dd, dd, dd, dd, dd, dd, dd, dd, dd, dd, dd, dd, dd, dd, dd, dd, dd, dd, dd, dd, dd, dd, dd, dd, dd, dd, dd, dd, dd, dd, dd, dd, dd, dd], [.gh 0 (.srf 1), .row 3 1 (v_w758.map (eI .i64))]⟩
def G_slices_partialInsertionSortOrdered_int_h_L5_hd (v_a670 : Int) (v_b671 : Int) (v_i672 : Int) (v_j673 : Int) (v_w674 : (List Int)) : PS := ⟨[.srf 1, .d (.v (.int .i64 v_a670)), .d (.v (.int .i64 v_b671)), dd, dd, dd, dd, .d (.v (.int .i64 v_i672)), .d (.v (.int .i64 v_j673)), dd, dd, dd, dd, dd, dd, dd, dd, dd, dd, dd, dd, dd, dd, dd, dd, dd, dd, dd, dd, dd, dd, dd, dd, dd, dd, dd, dd, dd, dd, dd, dd, dd, dd, dd, dd, dd, dd, dd, dd, dd, dd, dd, dd, dd, dd, dd, dd, dd, dd, dd, dd, dd, dd, dd, dd, dd, dd, dd, dd, dd, dd, dd, dd, dd, dd, dd, dd, dd, dd, dd, dd, dd, dd, dd, dd, dd, dd, dd, dd, dd, dd, dd, dd, dd, dd, dd, dd, dd, dd, dd, dd, dd, dd, dd, dd, dd, dd, dd, dd, dd, dd, dd, dd, dd, dd, dd, dd, dd, dd, dd, dd, dd, dd, dd, dd, dd, dd, dd, dd, dd, dd, dd, dd], [.gh 0 (.srf 1), .row 3 1 (v_w674.map (eI .i64))]⟩
def G_slices_partialInsertionSortOrdered_int_h_L5 (n : Nat) (v_a670 : Int) (v_b671 : Int) : Nat → Int → Int → (List Int) → Option G_slices_partialInsertionSortOrdered_int_h_L5_R
  | 0, _, _, _ => none
  | k + 1, v_i672, v_j673, v_w674 =>
    if v_j673 < 5 then
     (G_slices_partialInsertionSortOrdered_int_h_L1 n v_a670 v_b671 v_j673 n v_i672 v_w674).bind fun v_o687 => match v_o687 with
     | .x0 v_z688 v_z689 =>
       if v_z688 = v_b671 then
        some (.x0 true v_z689)
       else
        if (wi .i64 (v_b671 - v_a670)) < 50 then
         some (.x0 false v_z689)
        else
         if 0 ≤ (wi .i64 (v_z688 - 1)) ∧ ((wi .i64 (v_z688 - 1))).toNat < v_z689.length then
          (v_z689[((wi .i64 (v_z688 - 1))).toNat]?).bind fun (v_y694 : Int) =>
          if 0 ≤ v_z688 ∧ (v_z688).toNat < v_z689.length then
           (v_z689[(v_z688).toNat]?).bind fun (v_y695 : Int) =>
           if 0 ≤ v_z688 ∧ (v_z688).toNat < v_z689.length then
            (v_z689[(v_z688).toNat]?).bind fun (v_y696 : Int) =>
            if 0 ≤ (wi .i64 (v_z688 - 1)) ∧ ((wi .i64 (v_z688 - 1))).toNat < (v_z689.set (v_z688).toNat v_y694).length then
             ((v_z689.set (v_z688).toNat v_y694)[((wi .i64 (v_z688 - 1))).toNat]?).bind fun (v_y697 : Int) =>
             if (wi .i64 (v_z688 - v_a670)) ≥ 2 then
              (G_slices_partialInsertionSortOrdered_int_h_L2 n v_a670 v_b671 v_z688 v_j673 n (wi .i64 (v_z688 - 1)) ((v_z689.set (v_z688).toNat v_y694).set ((wi .i64 (v_z688 - 1))).toNat v_y695)).bind fun v_o716 => match v_o716 with
              | .x0 v_z717 =>
                if (wi .i64 (v_b671 - v_z688)) ≥ 2 then
                 (G_slices_partialInsertionSortOrdered_int_h_L3 n v_a670 v_b671 v_z688 v_j673 n (wi .i64 (v_z688 + 1)) v_z717).bind fun v_o736 => match v_o736 with
                 | .x0 v_z737 =>
                   G_slices_partialInsertionSortOrdered_int_h_L5 n v_a670 v_b671 k v_z688 (wi .i64 (v_j673 + 1)) v_z737
                else
                 G_slices_partialInsertionSortOrdered_int_h_L5 n v_a670 v_b671 k v_z688 (wi .i64 (v_j673 + 1)) v_z717
             else
              if (wi .i64 (v_b671 - v_z688)) ≥ 2 then
               (G_slices_partialInsertionSortOrdered_int_h_L4 n v_a670 v_b671 v_z688 v_j673 n (wi .i64 (v_z688 + 1)) ((v_z689.set (v_z688).toNat v_y694).set ((wi .i64 (v_z688 - 1))).toNat v_y695)).bind fun v_o756 => match v_o756 with
               | .x0 v_z757 =>
                 G_slices_partialInsertionSortOrdered_int_h_L5 n v_a670 v_b671 k v_z688 (wi .i64 (v_j673 + 1)) v_z757
              else
               G_slices_partialInsertionSortOrdered_int_h_L5 n v_a670 v_b671 k v_z688 (wi .i64 (v_j673 + 1)) ((v_z689.set (v_z688).toNat v_y694).set ((wi .i64 (v_z688 - 1))).toNat v_y695)
            else none
           else none
          else none
         else none
    else
     some (.x1 v_w674)

end Go.Proofs.Ytjjjaakefnnbpaa.pv
