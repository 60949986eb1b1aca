/- What the functions compute, as functions over plain data, with their contracts: written by gen.py. -/
import Derived.Test.YtjjjaakefnnbpaaProg
import Derived.Test.YtjjjaakefnnbpaaQr
import Derived.Test.YtjjjaakefnnbpaaShelf
import Derived.Test.YtjjjaakefnnbpaaSg
set_option maxRecDepth 100000
set_option linter.all false
namespace Go.Proofs.Ytjjjaakefnnbpaa.pv
open Go.RowKit
def TT : List TI := [
⟨1, 0, .oth, []⟩,
⟨1, 8, .oth, [.nf]⟩,
⟨1, 8, .int .i64, [.i .i64]⟩,
⟨1, 8, .int .i64, [.i .i64]⟩,
⟨1, 1, .bool, [.b]⟩,
⟨1, 1, .int .u8, [.i .u8]⟩,
⟨1, 1, .int .u8, [.i .u8]⟩,
⟨4, 24, .st [(0, 2), (1, 3), (2, 4), (3, 6)], [.i .i64, .i .i64, .b, .i .u8]⟩,
⟨4, 24, .st [(0, 2), (1, 3), (2, 4), (3, 6)], [.i .i64, .i .i64, .b, .i .u8]⟩,
⟨1, 16, .str, [.s]⟩,
⟨1, 16, .str, [.s]⟩,
⟨1, 16, .str, [.s]⟩,
⟨1, 8, .int .u64, [.i .u64]⟩,
⟨2, 24, .st [(0, 9), (1, 12)], [.s, .i .u64]⟩,
⟨2, 24, .st [(0, 9), (1, 12)], [.s, .i .u64]⟩,
⟨1, 8, .ptr 333, [.np]⟩,
⟨1, 8, .ptr 336, [.np]⟩,
⟨1, 8, .ptr 343, [.np]⟩,
⟨1, 8, .st [(0, 17)], [.np]⟩,
⟨1, 8, .st [(0, 17)], [.np]⟩,
⟨1, 16, .oth, [.ni]⟩,
⟨1, 4, .int .i32, [.i .i32]⟩,
⟨1, 24, .sl 3, [.sl]⟩,
⟨6, 64, .st [(0, 3), (1, 3), (2, 22), (3, 3), (4, 3), (5, 3)], [.i .i64, .i .i64, .sl, .i .i64, .i .i64, .i .i64]⟩,
⟨6, 64, .st [(0, 3), (1, 3), (2, 22), (3, 3), (4, 3), (5, 3)], [.i .i64, .i .i64, .sl, .i .i64, .i .i64, .i .i64]⟩,
⟨1, 8, .int .i64, [.i .i64]⟩,
⟨1, 0, .oth, []⟩,
⟨1, 8, .oth, [.nf]⟩,
⟨1, 0, .oth, []⟩,
⟨1, 8, .oth, [.nf]⟩,
⟨1, 8, .oth, [.nf]⟩,
⟨1, 8, .oth, [.nf]⟩,
⟨1, 8, .oth, [.nf]⟩,
⟨1, 8, .oth, [.nf]⟩,
⟨1, 8, .oth, [.nf]⟩,
⟨1, 8, .oth, [.nf]⟩,
⟨1, 8, .oth, [.nf]⟩,
⟨1, 8, .oth, [.nf]⟩,
⟨1, 24, .sl 211, [.sl]⟩,
⟨1, 8, .oth, [.nf]⟩,
⟨1, 0, .oth, []⟩,
⟨1, 8, .oth, [.nf]⟩,
⟨1, 8, .oth, [.nf]⟩,
⟨1, 24, .sl 47, [.sl]⟩,
⟨1, 8, .oth, [.nf]⟩,
⟨1, 8, .oth, [.nf]⟩,
⟨1, 8, .oth, [.nf]⟩,
⟨3, 24, .arr 3 3, [.i .i64, .i .i64, .i .i64]⟩,
⟨1, 8, .oth, [.nf]⟩,
⟨1, 8, .oth, [.nf]⟩,
⟨1, 24, .sl 59, [.sl]⟩,
⟨1, 24, .sl 65, [.sl]⟩,
⟨1, 24, .sl 4, [.sl]⟩,
⟨1, 0, .oth, []⟩,
⟨1, 8, .oth, [.nf]⟩,
⟨1, 0, .oth, []⟩,
⟨1, 8, .oth, [.nf]⟩,
⟨1, 8, .oth, [.nf]⟩,
⟨2, 16, .st [(0, 3), (1, 3)], [.i .i64, .i .i64]⟩,
⟨2, 16, .st [(0, 3), (1, 3)], [.i .i64, .i .i64]⟩,
⟨1, 8, .oth, [.nf]⟩,
⟨1, 8, .oth, [.nf]⟩,
⟨1, 8, .oth, [.nf]⟩,
⟨1, 8, .oth, [.nf]⟩,
⟨3, 24, .st [(0, 3), (1, 3), (2, 4)], [.i .i64, .i .i64, .b]⟩,
⟨3, 24, .st [(0, 3), (1, 3), (2, 4)], [.i .i64, .i .i64, .b]⟩,
⟨1, 8, .oth, [.nf]⟩,
⟨1, 8, .oth, [.nf]⟩,
⟨1, 8, .oth, [.nf]⟩,
⟨1, 8, .oth, [.nf]⟩,
⟨8, 80, .st [(0, 3), (1, 3), (2, 3), (3, 3), (4, 3), (5, 3), (6, 3), (7, 22)], [.i .i64, .i .i64, .i .i64, .i .i64, .i .i64, .i .i64, .i .i64, .sl]⟩,
⟨8, 80, .st [(0, 3), (1, 3), (2, 3), (3, 3), (4, 3), (5, 3), (6, 3), (7, 22)], [.i .i64, .i .i64, .i .i64, .i .i64, .i .i64, .i .i64, .i .i64, .sl]⟩,
⟨1, 24, .sl 71, [.sl]⟩,
⟨1, 24, .sl 83, [.sl]⟩,
⟨1, 8, .oth, [.nf]⟩,
⟨8, 80, .st [(0, 3), (1, 3), (2, 3), (3, 3), (4, 3), (5, 3), (6, 3), (7, 22)], [.i .i64, .i .i64, .i .i64, .i .i64, .i .i64, .i .i64, .i .i64, .sl]⟩,
⟨1, 8, .oth, [.nf]⟩,
⟨1, 0, .oth, []⟩,
⟨1, 8, .oth, [.nf]⟩,
⟨1, 8, .oth, [.nf]⟩,
⟨1, 0, .oth, []⟩,
⟨1, 8, .oth, [.nf]⟩,
⟨2, 24, .st [(0, 9), (1, 3)], [.s, .i .i64]⟩,
⟨2, 24, .st [(0, 9), (1, 3)], [.s, .i .i64]⟩,
⟨1, 8, .oth, [.nf]⟩,
⟨1, 8, .oth, [.nf]⟩,
⟨1, 8, .oth, [.nf]⟩,
⟨16, 128, .arr 16 3, List.replicate 16 (.i .i64)⟩,
⟨18, 144, .st [(0, 3), (1, 3), (2, 87)], List.replicate 18 (.i .i64)⟩,
⟨18, 144, .st [(0, 3), (1, 3), (2, 87)], List.replicate 18 (.i .i64)⟩,
⟨1, 0, .oth, []⟩,
⟨1, 8, .oth, [.nf]⟩,
⟨1, 8, .oth, [.nf]⟩,
⟨1, 8, .oth, [.nf]⟩,
⟨1, 0, .oth, []⟩,
⟨1, 8, .oth, [.nf]⟩,
⟨1, 8, .oth, [.nf]⟩,
⟨1, 8, .oth, [.nf]⟩,
⟨1, 8, .oth, [.nf]⟩,
⟨18, 176, .st [(0, 22), (1, 22), (2, 87)], (List.replicate 2 (.sl) ++ List.replicate 16 (.i .i64))⟩,
⟨18, 176, .st [(0, 22), (1, 22), (2, 87)], (List.replicate 2 (.sl) ++ List.replicate 16 (.i .i64))⟩,
⟨1, 8, .oth, [.nf]⟩,
⟨1, 8, .oth, [.nf]⟩,
⟨1, 8, .oth, [.nf]⟩,
⟨1, 8, .oth, [.nf]⟩,
⟨1, 8, .oth, [.nf]⟩,
⟨1, 24, .sl 229, [.sl]⟩,
⟨1, 24, .sl 5, [.sl]⟩,
⟨1, 8, .oth, [.nf]⟩,
⟨1, 0, .oth, []⟩,
⟨1, 8, .oth, [.nf]⟩,
⟨1, 0, .oth, []⟩,
⟨1, 8, .oth, [.nf]⟩,
⟨1, 0, .oth, []⟩,
⟨1, 8, .oth, [.nf]⟩,
⟨1, 8, .oth, [.nf]⟩,
⟨1, 24, .sl 121, [.sl]⟩,
⟨1, 8, .oth, [.nf]⟩,
⟨1, 8, .oth, [.nf]⟩,
⟨1, 8, .oth, [.nf]⟩,
⟨1, 8, .oth, [.nf]⟩,
⟨2, 16, .arr 2 3, [.i .i64, .i .i64]⟩,
⟨1, 8, .oth, [.nf]⟩,
⟨1, 8, .oth, [.nf]⟩,
⟨1, 8, .oth, [.nf]⟩,
⟨1, 8, .oth, [.nf]⟩,
⟨1, 8, .oth, [.nf]⟩,
⟨1, 0, .oth, []⟩,
⟨1, 8, .oth, [.nf]⟩,
⟨1, 0, .oth, []⟩,
⟨1, 8, .oth, [.nf]⟩,
⟨1, 8, .oth, [.nf]⟩,
⟨1, 8, .oth, [.nf]⟩,
⟨6, 48, .st [(0, 3), (1, 3), (2, 3), (3, 3), (4, 3), (5, 3)], [.i .i64, .i .i64, .i .i64, .i .i64, .i .i64, .i .i64]⟩,
⟨6, 48, .st [(0, 3), (1, 3), (2, 3), (3, 3), (4, 3), (5, 3)], [.i .i64, .i .i64, .i .i64, .i .i64, .i .i64, .i .i64]⟩,
⟨1, 8, .oth, [.nf]⟩,
⟨1, 8, .oth, [.nf]⟩,
⟨1, 8, .oth, [.nf]⟩,
⟨1, 8, .oth, [.nf]⟩,
⟨1, 24, .sl 233, [.sl]⟩,
⟨1, 24, .sl 155, [.sl]⟩,
⟨1, 8, .oth, [.nf]⟩,
⟨1, 8, .oth, [.nf]⟩,
⟨1, 0, .oth, []⟩,
⟨1, 8, .oth, [.nf]⟩,
⟨1, 0, .oth, []⟩,
⟨1, 8, .oth, [.nf]⟩,
⟨1, 8, .oth, [.nf]⟩,
⟨1, 8, .oth, [.nf]⟩,
⟨1, 8, .oth, [.nf]⟩,
⟨1, 8, .oth, [.nf]⟩,
⟨1, 8, .oth, [.nf]⟩,
⟨1, 8, .oth, [.nf]⟩,
⟨1, 8, .oth, [.nf]⟩,
⟨2, 16, .st [(0, 3), (1, 3)], [.i .i64, .i .i64]⟩,
⟨2, 16, .st [(0, 3), (1, 3)], [.i .i64, .i .i64]⟩,
⟨1, 8, .oth, [.nf]⟩,
⟨1, 8, .oth, [.nf]⟩,
⟨1, 8, .oth, [.nf]⟩,
⟨1, 24, .sl 166, [.sl]⟩,
⟨1, 8, .ptr 245, [.np]⟩,
⟨1, 8, .oth, [.nf]⟩,
⟨1, 24, .sl 180, [.sl]⟩,
⟨1, 24, .sl 180, [.sl]⟩,
⟨1, 8, .oth, [.nf]⟩,
⟨3, 24, .st [(0, 3), (1, 3), (2, 3)], [.i .i64, .i .i64, .i .i64]⟩,
⟨3, 24, .st [(0, 3), (1, 3), (2, 3)], [.i .i64, .i .i64, .i .i64]⟩,
⟨1, 8, .oth, [.nf]⟩,
⟨1, 8, .oth, [.nf]⟩,
⟨1, 8, .oth, [.nf]⟩,
⟨1, 0, .oth, []⟩,
⟨1, 8, .oth, [.nf]⟩,
⟨1, 8, .oth, [.nf]⟩,
⟨1, 8, .oth, [.nf]⟩,
⟨1, 0, .oth, []⟩,
⟨1, 8, .oth, [.nf]⟩,
⟨1, 0, .oth, []⟩,
⟨1, 8, .oth, [.nf]⟩,
⟨1, 8, .oth, [.nf]⟩,
⟨5, 40, .st [(0, 3), (1, 3), (2, 3), (3, 3), (4, 4)], [.i .i64, .i .i64, .i .i64, .i .i64, .b]⟩,
⟨5, 40, .st [(0, 3), (1, 3), (2, 3), (3, 3), (4, 4)], [.i .i64, .i .i64, .i .i64, .i .i64, .b]⟩,
⟨1, 8, .oth, [.nf]⟩,
⟨1, 8, .oth, [.nf]⟩,
⟨1, 8, .oth, [.nf]⟩,
⟨1, 8, .oth, [.nf]⟩,
⟨1, 24, .sl 202, [.sl]⟩,
⟨1, 8, .ptr 256, [.np]⟩,
⟨1, 8, .oth, [.nf]⟩,
⟨1, 8, .oth, [.nf]⟩,
⟨5, 40, .st [(0, 3), (1, 3), (2, 3), (3, 4), (4, 3)], [.i .i64, .i .i64, .i .i64, .b, .i .i64]⟩,
⟨5, 40, .st [(0, 3), (1, 3), (2, 3), (3, 4), (4, 3)], [.i .i64, .i .i64, .i .i64, .b, .i .i64]⟩,
⟨1, 24, .sl 190, [.sl]⟩,
⟨1, 0, .oth, []⟩,
⟨1, 8, .oth, [.nf]⟩,
⟨1, 8, .ptr 199, [.np]⟩,
⟨1, 24, .sl 200, [.sl]⟩,
⟨8, 64, .arr 8 3, [.i .i64, .i .i64, .i .i64, .i .i64, .i .i64, .i .i64, .i .i64, .i .i64]⟩,
⟨136, 1088, .arr 17 196, List.replicate 136 (.i .i64)⟩,
⟨137, 1112, .st [(0, 195), (1, 197)], (List.replicate 1 (.sl) ++ List.replicate 136 (.i .i64))⟩,
⟨137, 1112, .st [(0, 195), (1, 197)], (List.replicate 1 (.sl) ++ List.replicate 136 (.i .i64))⟩,
⟨5, 40, .st [(0, 3), (1, 3), (2, 3), (3, 4), (4, 3)], [.i .i64, .i .i64, .i .i64, .b, .i .i64]⟩,
⟨9, 72, .st [(0, 3), (1, 3), (2, 3), (3, 3), (4, 200)], [.i .i64, .i .i64, .i .i64, .i .i64, .i .i64, .i .i64, .i .i64, .b, .i .i64]⟩,
⟨9, 72, .st [(0, 3), (1, 3), (2, 3), (3, 3), (4, 200)], [.i .i64, .i .i64, .i .i64, .i .i64, .i .i64, .i .i64, .i .i64, .b, .i .i64]⟩,
⟨1, 8, .oth, [.nf]⟩,
⟨1, 8, .oth, [.nf]⟩,
⟨1, 8, .oth, [.nf]⟩,
⟨1, 8, .oth, [.nf]⟩,
⟨1, 8, .oth, [.nf]⟩,
⟨1, 8, .oth, [.nf]⟩,
⟨1, 8, .int .u64, [.i .u64]⟩,
⟨3, 24, .st [(0, 3), (1, 3), (2, 3)], [.i .i64, .i .i64, .i .i64]⟩,
⟨3, 24, .st [(0, 3), (1, 3), (2, 3)], [.i .i64, .i .i64, .i .i64]⟩,
⟨1, 0, .oth, []⟩,
⟨1, 8, .oth, [.nf]⟩,
⟨1, 8, .oth, [.nf]⟩,
⟨100, 100, .arr 100 4, List.replicate 100 (.b)⟩,
⟨1, 24, .sl 50, [.sl]⟩,
⟨1, 8, .oth, [.nf]⟩,
⟨6, 6, .arr 6 4, [.b, .b, .b, .b, .b, .b]⟩,
⟨1, 8, .oth, [.nf]⟩,
⟨1, 8, .oth, [.nf]⟩,
⟨1, 8, .oth, [.nf]⟩,
⟨1, 8, .oth, [.nf]⟩,
⟨1, 8, .oth, [.nf]⟩,
⟨1, 8, .oth, [.nf]⟩,
⟨1, 8, .oth, [.nf]⟩,
⟨1, 8, .oth, [.nf]⟩,
⟨1, 8, .oth, [.nf]⟩,
⟨2, 16, .st [(0, 3), (1, 3)], [.i .i64, .i .i64]⟩,
⟨2, 16, .st [(0, 3), (1, 3)], [.i .i64, .i .i64]⟩,
⟨1, 8, .oth, [.nf]⟩,
⟨1, 8, .oth, [.nf]⟩,
⟨1, 8, .oth, [.nf]⟩,
⟨2, 16, .st [(0, 3), (1, 3)], [.i .i64, .i .i64]⟩,
⟨1, 8, .oth, [.nf]⟩,
⟨1, 8, .oth, [.nf]⟩,
⟨1, 8, .oth, [.nf]⟩,
⟨1, 8, .oth, [.nf]⟩,
⟨1, 8, .oth, [.nm]⟩,
⟨1, 0, .oth, []⟩,
⟨1, 8, .oth, [.nf]⟩,
⟨4, 32, .st [(0, 3), (1, 3), (2, 3), (3, 3)], [.i .i64, .i .i64, .i .i64, .i .i64]⟩,
⟨4, 32, .st [(0, 3), (1, 3), (2, 3), (3, 3)], [.i .i64, .i .i64, .i .i64, .i .i64]⟩,
⟨68, 544, .arr 17 242, List.replicate 68 (.i .i64)⟩,
⟨68, 544, .st [(0, 243)], List.replicate 68 (.i .i64)⟩,
⟨68, 544, .st [(0, 243)], List.replicate 68 (.i .i64)⟩,
⟨1, 8, .oth, [.nf]⟩,
⟨1, 8, .oth, [.nf]⟩,
⟨1, 8, .oth, [.nf]⟩,
⟨1, 8, .oth, [.nf]⟩,
⟨1, 8, .oth, [.nf]⟩,
⟨1, 8, .oth, [.nf]⟩,
⟨6, 48, .st [(0, 190), (5, 3)], [.i .i64, .i .i64, .i .i64, .b, .i .i64, .i .i64]⟩,
⟨6, 48, .st [(0, 190), (5, 3)], [.i .i64, .i .i64, .i .i64, .b, .i .i64, .i .i64]⟩,
⟨192, 1536, .arr 32 253, (List.replicate 32 [.i .i64, .i .i64, .i .i64, .b, .i .i64, .i .i64]).flatten⟩,
⟨328, 2624, .st [(0, 254), (192, 197)], [.i .i64, .i .i64, .i .i64, .b, .i .i64, .i .i64, .i .i64, .i .i64, .i .i64, .b, .i .i64, .i .i64, .i .i64, .i .i64, .i .i64, .b, .i .i64, .i .i64, .i .i64, .i .i64, .i .i64, .b, .i .i64, .i .i64, .i .i64, .i .i64, .i .i64, .b, .i .i64, .i .i64, .i .i64, .i .i64, .i .i64, .b, .i .i64, .i .i64, .i .i64, .i .i64, .i .i64, .b, .i .i64, .i .i64, .i .i64, .i .i64, .i .i64, .b, .i .i64, .i .i64, .i .i64, .i .i64, .i .i64, .b, .i .i64, .i .i64, .i .i64, .i .i64, .i .i64, .b, .i .i64, .i .i64, .i .i64, .i .i64, .i .i64, .b, .i .i64, .i .i64, .i .i64, .i .i64, .i .i64, .b, .i .i64, .i .i64, .i .i64, .i .i64, .i .i64, .b, .i .i64, .i .i64, .i .i64, .i .i64, .i .i64, .b, .i .i64, .i .i64, .i .i64, .i .i64, .i .i64, .b, .i .i64, .i .i64, .i .i64, .i .i64, .i .i64, .b, .i .i64, .i .i64, .i .i64, .i .i64, .i .i64, .b, .i .i64, .i .i64, .i .i64, .i .i64, .i .i64, .b, .i .i64, .i .i64, .i .i64, .i .i64, .i .i64, .b, .i .i64, .i .i64, .i .i64, .i .i64, .i .i64, .b, .i .i64, .i .i64, .i .i64, .i .i64, .i .i64, .b, .i .i64, .i .i64, .i .i64, .i .i64, .i .i64, .b, .i .i64, .i .i64, .i .i64, .i .i64, .i .i64, .b, .i .i64, .i .i64, .i .i64, .i .i64, .i .i64, .b, .i .i64, .i .i64, .i .i64, .i .i64, .i .i64, .b, .i .i64, .i .i64, .i .i64, .i .i64, .i .i64, .b, .i .i64, .i .i64, .i .i64, .i .i64, .i .i64, .b, .i .i64, .i .i64, .i .i64, .i .i64, .i .i64, .b, .i .i64, .i .i64, .i .i64, .i .i64, .i .i64, .b, .i .i64, .i .i64, .i .i64, .i .i64, .i .i64, .b, .i .i64, .i .i64, .i .i64, .i .i64, .i .i64, .b, .i .i64, .i .i64, .i .i64, .i .i64, .i .i64, .b, .i .i64, .i .i64, .i .i64, .i .i64, .i .i64, .i .i64, .i .i64, .i .i64, .i .i64, .i .i64, .i .i64, .i .i64, .i .i64, .i .i64, .i .i64, .i .i64, .i .i64, .i .i64, .i .i64, .i .i64, .i .i64, .i .i64, .i .i64, .i .i64, .i .i64, .i .i64, .i .i64, .i .i64, .i .i64, .i .i64, .i .i64, .i .i64, .i .i64, .i .i64, .i .i64, .i .i64, .i .i64, .i .i64, .i .i64, .i .i64, .i .i64, .i .i64, .i .i64, .i .i64, .i .i64, .i .i64, .i .i64, .i .i64, .i .i64, .i .i64, .i .i64, .i .i64, .i .i64, .i .i64, .i .i64, .i .i64, .i .i64, .i .i64, .i .i64, .i .i64, .i .i64, .i .i64, .i .i64, .i .i64, .i .i64, .i .i64, .i .i64, .i .i64, .i .i64, .i .i64, .i .i64, .i .i64, .i .i64, .i .i64, .i .i64, .i .i64, .i .i64, .i .i64, .i .i64, .i .i64, .i .i64, .i .i64, .i .i64, .i .i64, .i .i64, .i .i64, .i .i64, .i .i64, .i .i64, .i .i64, .i .i64, .i .i64, .i .i64, .i .i64, .i .i64, .i .i64, .i .i64, .i .i64, .i .i64, .i .i64, .i .i64, .i .i64, .i .i64, .i .i64, .i .i64, .i .i64, .i .i64, .i .i64, .i .i64, .i .i64, .i .i64, .i .i64, .i .i64, .i .i64, .i .i64, .i .i64, .i .i64, .i .i64, .i .i64, .i .i64, .i .i64, .i .i64, .i .i64, .i .i64, .i .i64, .i .i64, .i .i64, .i .i64, .i .i64, .i .i64, .i .i64, .i .i64, .i .i64, .i .i64, .i .i64, .i .i64, .i .i64, .i .i64]⟩,
⟨328, 2624, .st [(0, 254), (192, 197)], [.i .i64, .i .i64, .i .i64, .b, .i .i64, .i .i64, .i .i64, .i .i64, .i .i64, .b, .i .i64, .i .i64, .i .i64, .i .i64, .i .i64, .b, .i .i64, .i .i64, .i .i64, .i .i64, .i .i64, .b, .i .i64, .i .i64, .i .i64, .i .i64, .i .i64, .b, .i .i64, .i .i64, .i .i64, .i .i64, .i .i64, .b, .i .i64, .i .i64, .i .i64, .i .i64, .i .i64, .b, .i .i64, .i .i64, .i .i64, .i .i64, .i .i64, .b, .i .i64, .i .i64, .i .i64, .i .i64, .i .i64, .b, .i .i64, .i .i64, .i .i64, .i .i64, .i .i64, .b, .i .i64, .i .i64, .i .i64, .i .i64, .i .i64, .b, .i .i64, .i .i64, .i .i64, .i .i64, .i .i64, .b, .i .i64, .i .i64, .i .i64, .i .i64, .i .i64, .b, .i .i64, .i .i64, .i .i64, .i .i64, .i .i64, .b, .i .i64, .i .i64, .i .i64, .i .i64, .i .i64, .b, .i .i64, .i .i64, .i .i64, .i .i64, .i .i64, .b, .i .i64, .i .i64, .i .i64, .i .i64, .i .i64, .b, .i .i64, .i .i64, .i .i64, .i .i64, .i .i64, .b, .i .i64, .i .i64, .i .i64, .i .i64, .i .i64, .b, .i .i64, .i .i64, .i .i64, .i .i64, .i .i64, .b, .i .i64, .i .i64, .i .i64, .i .i64, .i .i64, .b, .i .i64, .i .i64, .i .i64, .i .i64, .i .i64, .b, .i .i64, .i .i64, .i .i64, .i .i64, .i .i64, .b, .i .i64, .i .i64, .i .i64, .i .i64, .i .i64, .b, .i .i64, .i .i64, .i .i64, .i .i64, .i .i64, .b, .i .i64, .i .i64, .i .i64, .i .i64, .i .i64, .b, .i .i64, .i .i64, .i .i64, .i .i64, .i .i64, .b, .i .i64, .i .i64, .i .i64, .i .i64, .i .i64, .b, .i .i64, .i .i64, .i .i64, .i .i64, .i .i64, .b, .i .i64, .i .i64, .i .i64, .i .i64, .i .i64, .b, .i .i64, .i .i64, .i .i64, .i .i64, .i .i64, .b, .i .i64, .i .i64, .i .i64, .i .i64, .i .i64, .b, .i .i64, .i .i64, .i .i64, .i .i64, .i .i64, .i .i64, .i .i64, .i .i64, .i .i64, .i .i64, .i .i64, .i .i64, .i .i64, .i .i64, .i .i64, .i .i64, .i .i64, .i .i64, .i .i64, .i .i64, .i .i64, .i .i64, .i .i64, .i .i64, .i .i64, .i .i64, .i .i64, .i .i64, .i .i64, .i .i64, .i .i64, .i .i64, .i .i64, .i .i64, .i .i64, .i .i64, .i .i64, .i .i64, .i .i64, .i .i64, .i .i64, .i .i64, .i .i64, .i .i64, .i .i64, .i .i64, .i .i64, .i .i64, .i .i64, .i .i64, .i .i64, .i .i64, .i .i64, .i .i64, .i .i64, .i .i64, .i .i64, .i .i64, .i .i64, .i .i64, .i .i64, .i .i64, .i .i64, .i .i64, .i .i64, .i .i64, .i .i64, .i .i64, .i .i64, .i .i64, .i .i64, .i .i64, .i .i64, .i .i64, .i .i64, .i .i64, .i .i64, .i .i64, .i .i64, .i .i64, .i .i64, .i .i64, .i .i64, .i .i64, .i .i64, .i .i64, .i .i64, .i .i64, .i .i64, .i .i64, .i .i64, .i .i64, .i .i64, .i .i64, .i .i64, .i .i64, .i .i64, .i .i64, .i .i64, .i .i64, .i .i64, .i .i64, .i .i64, .i .i64, .i .i64, .i .i64, .i .i64, .i .i64, .i .i64, .i .i64, .i .i64, .i .i64, .i .i64, .i .i64, .i .i64, .i .i64, .i .i64, .i .i64, .i .i64, .i .i64, .i .i64, .i .i64, .i .i64, .i .i64, .i .i64, .i .i64, .i .i64, .i .i64, .i .i64, .i .i64, .i .i64, .i .i64, .i .i64, .i .i64, .i .i64, .i .i64, .i .i64, .i .i64]⟩,
⟨1, 0, .oth, []⟩,
⟨1, 8, .oth, [.nf]⟩,
⟨1, 8, .oth, [.nf]⟩,
⟨1, 8, .oth, [.nf]⟩,
⟨1, 0, .oth, []⟩,
⟨1, 8, .oth, [.nf]⟩,
⟨1, 8, .ptr 200, [.np]⟩,
⟨1, 8, .oth, [.nf]⟩,
⟨1, 8, .oth, [.nf]⟩,
⟨1, 0, .oth, []⟩,
⟨1, 8, .oth, [.nf]⟩,
⟨1, 8, .oth, [.nf]⟩,
⟨1, 8, .oth, [.nf]⟩,
⟨1, 8, .int .i64, [.i .i64]⟩,
⟨1, 0, .oth, []⟩,
⟨1, 8, .oth, [.nf]⟩,
⟨1, 8, .oth, [.nf]⟩,
⟨1, 8, .oth, [.nf]⟩,
⟨1, 8, .oth, [.nf]⟩,
⟨1, 8, .oth, [.nf]⟩,
⟨1, 8, .oth, [.nf]⟩,
⟨1, 4, .int .u32, [.i .u32]⟩,
⟨1, 8, .oth, [.nf]⟩,
⟨1, 8, .int .u64, [.i .u64]⟩,
⟨1, 8, .oth, [.nf]⟩,
⟨1, 8, .oth, [.nf]⟩,
⟨1, 0, .oth, []⟩,
⟨1, 8, .oth, [.nf]⟩,
⟨1, 8, .oth, [.nf]⟩,
⟨1, 8, .ptr 288, [.np]⟩,
⟨2, 32, .st [(0, 286), (1, 107)], [.np, .sl]⟩,
⟨2, 32, .st [(0, 286), (1, 107)], [.np, .sl]⟩,
⟨1, 8, .oth, [.nf]⟩,
⟨1, 16, .oth, [.ni]⟩,
⟨1, 16, .oth, [.ni]⟩,
⟨1, 0, .oth, []⟩,
⟨1, 8, .oth, [.nf]⟩,
⟨1, 8, .oth, [.nf]⟩,
⟨1, 8, .oth, [.nf]⟩,
⟨1, 8, .oth, [.nf]⟩,
⟨1, 8, .oth, [.nf]⟩,
⟨1, 8, .oth, [.nf]⟩,
⟨1, 8, .ptr 253, [.np]⟩,
⟨1, 0, .oth, []⟩,
⟨1, 8, .oth, [.nf]⟩,
⟨1, 8, .oth, [.nf]⟩,
⟨1, 8, .oth, [.nf]⟩,
⟨1, 8, .oth, [.nf]⟩,
⟨1, 8, .oth, [.nf]⟩,
⟨1, 8, .int .u64, [.i .u64]⟩,
⟨1, 8, .oth, [.nf]⟩,
⟨1, 8, .oth, [.nf]⟩,
⟨1, 8, .oth, [.nf]⟩,
⟨1, 8, .ptr 3, [.np]⟩,
⟨1, 8, .oth, [.nf]⟩,
⟨1, 0, .oth, []⟩,
⟨1, 8, .oth, [.nf]⟩,
⟨1, 0, .oth, []⟩,
⟨1, 8, .oth, [.nf]⟩,
⟨1, 8, .ptr 5, [.np]⟩,
⟨1, 8, .oth, [.nf]⟩,
⟨1, 8, .oth, [.nf]⟩,
⟨1, 8, .oth, [.nf]⟩,
⟨1, 8, .oth, [.nf]⟩,
⟨1, 8, .oth, [.nf]⟩,
⟨1, 8, .ptr 306, [.np]⟩,
⟨1, 0, .oth, []⟩,
⟨1, 8, .oth, [.nf]⟩,
⟨1, 8, .oth, [.np]⟩,
⟨1, 8, .oth, [.nf]⟩,
⟨1, 8, .oth, [.nf]⟩,
⟨1, 8, .oth, [.nf]⟩,
⟨1, 8, .oth, [.nf]⟩,
⟨1, 8, .oth, [.nf]⟩,
⟨1, 8, .oth, [.nf]⟩,
⟨4, 40, .st [(0, 17), (1, 17), (2, 17), (3, 9)], [.np, .np, .np, .s]⟩,
⟨4, 40, .st [(0, 17), (1, 17), (2, 17), (3, 9)], [.np, .np, .np, .s]⟩,
⟨0, 0, .arr 0 16, []⟩,
⟨0, 0, .st [(0, 334)], []⟩,
⟨0, 0, .st [(0, 334)], []⟩,
⟨1, 1, .int .u8, [.i .u8]⟩,
⟨1, 1, .int .u8, [.i .u8]⟩,
⟨1, 8, .oth, [.nf]⟩,
⟨1, 4, .int .i32, [.i .i32]⟩,
⟨1, 4, .int .i32, [.i .i32]⟩,
⟨11, 48, .st [(0, 12), (1, 12), (2, 278), (3, 337), (4, 5), (5, 5), (6, 338), (7, 339), (8, 316), (9, 340), (10, 341)], [.i .u64, .i .u64, .i .u32, .i .u8, .i .u8, .i .u8, .i .u8, .nf, .np, .i .i32, .i .i32]⟩,
⟨11, 48, .st [(0, 12), (1, 12), (2, 278), (3, 337), (4, 5), (5, 5), (6, 338), (7, 339), (8, 316), (9, 340), (10, 341)], [.i .u64, .i .u64, .i .u32, .i .u8, .i .u8, .i .u8, .i .u8, .nf, .np, .i .i32, .i .i32]⟩]
theorem TTok : TOk Try.prog TT := by unfold TOk; kernel_rfl
theorem mix : Try.prog.follows .mixedOrders = true := by kernel_rfl
structure S_extent_Ext where
  fStart : Int
  fN : Int
def eS_extent_Ext (x : S_extent_Ext) : PV := .agg [.v (.int .i64 x.fStart), .v (.int .i64 x.fN)]
def eqA_2_int (x y : (Fin 2 → Int)) : Bool := (((x 0) == (y 0)) && (((x 1) == (y 1)) && true))
theorem eqA_2_int_ok (x y : (Fin 2 → Int)) : EqA Try.prog 121 [((.int .i64 (x 0))), ((.int .i64 (x 1)))] [((.int .i64 (y 0))), ((.int .i64 (y 1)))] (eqA_2_int x y) := eqA_of TTok (by kernel_rfl) (by kernel_rfl) (by kernel_rfl)
inductive G_ringref3_PointsRight_L1_R where
  | x0 (v_x14 : Int)
  | x1 
def G_ringref3_PointsRight_L1_ex : G_ringref3_PointsRight_L1_R → Ex
  | .x0 _ => .ret
  | .x1  => .exit 0
def G_ringref3_PointsRight_L1_st (v_p10 : (List Int)) : G_ringref3_PointsRight_L1_R → PS
  | .x0 v_x14 => ⟨[dd, dd, .d (.v (.int .i64 v_x14)), dd, dd, dd, dd, dd, dd, dd, dd, dd, dd, dd, dd, dd, dd, dd, dd, dd, dd], []⟩
  | .x1  => ⟨[dd, dd, dd, dd, dd, dd, dd, dd, dd, dd, dd, dd, dd, dd, dd, dd, dd, dd, dd, dd, dd], []⟩
def G_ringref3_PointsRight_L1_hd (v_p10 : (List Int)) (v_x11 : Int) : PS := ⟨[dd, dd, dd, dd, dd, dd, dd, dd, .d (.sl (v_p10.map (eI .i64))), .d (.v (.int .i64 (v_p10.length : Int))), .d (.v (.int .i64 v_x11)), dd, dd, dd, dd, dd, dd, dd, dd, dd, dd], []⟩
def G_ringref3_PointsRight_L1 (n : Nat) (v_p10 : (List Int)) : Nat → Int → Option G_ringref3_PointsRight_L1_R
  | 0, _ => none
  | k + 1, v_x11 =>
    if v_x11 < (v_p10.length : Int) then
     (getI v_p10 v_x11).bind fun (v_y13 : Int) =>
     if v_y13 < 0 then
      some (.x0 1)
     else
      if v_y13 > 255 then
       some (.x0 1)
      else
       G_ringref3_PointsRight_L1 n v_p10 k (wi .i64 (v_x11 + 1))
    else
     some (.x1 )
theorem G_ringref3_PointsRight_L1_ok {Fi : Ex → PS → Prop} (hF : KC 21 Fi) (ks : List Fr) (n : Nat) (v_p10 : (List Int))  : ∀ (k : Nat) (v_x11 : Int) (o : G_ringref3_PointsRight_L1_R), G_ringref3_PointsRight_L1 n v_p10 k v_x11 = some o → RunE Try.prog 21 Fi ks (G_ringref3_PointsRight_L1_ex o) (G_ringref3_PointsRight_L1_st v_p10 o) → RunE Try.prog 21 Fi (.l k (cP (cB (cR (cL (cR (cR (bodyOf Try.f64))))))) :: ks) .normal (G_ringref3_PointsRight_L1_hd v_p10 v_x11)
  | 0, v_x11, o, h, q => by rw [G_ringref3_PointsRight_L1] at h; cases h
  | k + 1, v_x11, o, h, q => by
    rw [G_ringref3_PointsRight_L1] at h
    by_cases h8 : v_x11 < (v_p10.length : Int)
    · rw [if_pos h8] at h
      obtain ⟨v_y13, h12, h⟩ := bind_some h
      by_cases h13 : v_y13 < 0
      · rw [if_pos h13] at h
        cases h
        exact pkk_sound TTok mix hF 19 (hs := [.t true, .y ((eI .i64) v_y13), .c, .t true, .c, .c]) (ts := []) (s := []) (l := [2]) (by kernel_rfl) (by kernel_rfl) (.cons (dt h8) (.cons (getI_ob (f := (eI .i64)) h12) (.cons (dt h13) .nil))) q
      · rw [if_neg h13] at h
        by_cases h14 : v_y13 > 255
        · rw [if_pos h14] at h
          cases h
          exact pkk_sound TTok mix hF 19 (hs := [.t true, .y ((eI .i64) v_y13), .c, .t false, .c, .t true]) (ts := []) (s := []) (l := [2]) (by kernel_rfl) (by kernel_rfl) (.cons (dt h8) (.cons (getI_ob (f := (eI .i64)) h12) (.cons (df h13) (.cons (dt h14) .nil)))) q
        · rw [if_neg h14] at h
          exact pkk_sound TTok mix hF 16 (hs := [.t true, .y ((eI .i64) v_y13), .c, .t false, .c, .t false]) (ts := []) (s := []) (l := [8, 9, 10]) (by kernel_rfl) (by kernel_rfl) (.cons (dt h8) (.cons (getI_ob (f := (eI .i64)) h12) (.cons (df h13) (.cons (df h14) .nil)))) (G_ringref3_PointsRight_L1_ok hF ks n v_p10 k (wi .i64 (v_x11 + 1)) _ h q)
    · rw [if_neg h8] at h
      cases h
      exact pkk_sound TTok mix hF 8 (hs := [.t false]) (ts := []) (s := []) (l := []) (by kernel_rfl) (by kernel_rfl) (.cons (df h8) .nil) q
/- ringhall/ringref3.PointsRight -/
def G_ringref3_PointsRight (n : Nat) (v_p10 : (List Int)) : Option (Int) :=
  if (v_p10.length : Int) > 8 then
   some 2
  else
   (G_ringref3_PointsRight_L1 n v_p10 n 0).bind fun v_o16 => match v_o16 with
   | .x0 v_z17 =>
     some v_z17
   | .x1  =>
     some 0
theorem G_ringref3_PointsRight_ok (n : Nat) (v_p10 : (List Int)) (r : Int) (h : G_ringref3_PointsRight n v_p10 = some r) : Ret Try.prog 64 [(eL (eI .i64)) v_p10] ((eI .i64) r) := by
  refine ret_run (n := 21) (fn := Try.f64) (c := bodyOf Try.f64) (by kernel_rfl) (by kernel_rfl) (by kernel_rfl) (by kernel_rfl) ?_
  have hF : KC 21 (FinR Try.prog Try.f64 ((eI .i64) r)) := FinR.kc' (by kernel_rfl)
  unfold G_ringref3_PointsRight at h
  by_cases h7 : (v_p10.length : Int) > 8
  · rw [if_pos h7] at h
    obtain rfl := Option.some.inj h
    exact pend_sound TTok mix 10 (hs := [.u (.d (.v (.int .i64 (v_p10.length : Int)))), .t true]) (by kernel_rfl) (by kernel_rfl) (by kernel_rfl) (.cons (len_ob (f := (eI .i64)) (l := v_p10)) (.cons (dt h7) .nil))
  · rw [if_neg h7] at h
    obtain ⟨v_o16, h15, h⟩ := bind_some h
    refine pkk_sound TTok mix hF 12 (hs := [.u (.d (.v (.int .i64 (v_p10.length : Int)))), .t false, .u (.d (.v (.int .i64 (v_p10.length : Int)))), .n n]) (ts := []) (s := []) (l := [8, 9, 10]) (by kernel_rfl) (by kernel_rfl) (.cons (len_ob (f := (eI .i64)) (l := v_p10)) (.cons (df h7) (.cons (len_ob (f := (eI .i64)) (l := v_p10)) .nil))) (G_ringref3_PointsRight_L1_ok hF (.b 0 :: .s (cR (cR (cR (bodyOf Try.f64)))) :: []) n v_p10 n 0 _ h15 ?_)
    cases v_o16 with
    | x0 v_z17 =>
      try dsimp only at h
      obtain rfl := Option.some.inj h
      exact pend_sound TTok mix 2 (hs := []) (by kernel_rfl) (by kernel_rfl) (by kernel_rfl) .nil
    | x1  =>
      try dsimp only at h
      obtain rfl := Option.some.inj h
      exact pend_sound TTok mix 4 (hs := []) (by kernel_rfl) (by kernel_rfl) (by kernel_rfl) .nil
inductive G_extent_Right_L1_R where
  | x0 (v_x24 : Int)
  | x1 
def G_extent_Right_L1_ex : G_extent_Right_L1_R → Ex
  | .x0 _ => .ret
  | .x1  => .exit 0
def G_extent_Right_L1_st (v_points20 : (List Int)) : G_extent_Right_L1_R → PS
  | .x0 v_x24 => ⟨[dd, dd, .d (.v (.int .i64 v_x24)), dd, dd, dd, dd, dd, dd, dd, dd, dd, dd, dd, dd, dd, dd, dd, dd, dd, dd], []⟩
  | .x1  => ⟨[dd, dd, dd, dd, dd, dd, dd, dd, dd, dd, dd, dd, dd, dd, dd, dd, dd, dd, dd, dd, dd], []⟩
def G_extent_Right_L1_hd (v_points20 : (List Int)) (v_x21 : Int) : PS := ⟨[dd, dd, dd, dd, dd, dd, dd, dd, .d (.sl (v_points20.map (eI .i64))), .d (.v (.int .i64 (v_points20.length : Int))), .d (.v (.int .i64 v_x21)), dd, dd, dd, dd, dd, dd, dd, dd, dd, dd], []⟩
def G_extent_Right_L1 (n : Nat) (v_points20 : (List Int)) : Nat → Int → Option G_extent_Right_L1_R
  | 0, _ => none
  | k + 1, v_x21 =>
    if v_x21 < (v_points20.length : Int) then
     (getI v_points20 v_x21).bind fun (v_y23 : Int) =>
     if v_y23 < 0 then
      some (.x0 1)
     else
      if v_y23 ≥ 256 then
       some (.x0 1)
      else
       G_extent_Right_L1 n v_points20 k (wi .i64 (v_x21 + 1))
    else
     some (.x1 )
theorem G_extent_Right_L1_ok {Fi : Ex → PS → Prop} (hF : KC 21 Fi) (ks : List Fr) (n : Nat) (v_points20 : (List Int))  : ∀ (k : Nat) (v_x21 : Int) (o : G_extent_Right_L1_R), G_extent_Right_L1 n v_points20 k v_x21 = some o → RunE Try.prog 21 Fi ks (G_extent_Right_L1_ex o) (G_extent_Right_L1_st v_points20 o) → RunE Try.prog 21 Fi (.l k (cP (cB (cR (cL (cR (cR (bodyOf Try.f72))))))) :: ks) .normal (G_extent_Right_L1_hd v_points20 v_x21)
  | 0, v_x21, o, h, q => by rw [G_extent_Right_L1] at h; cases h
  | k + 1, v_x21, o, h, q => by
    rw [G_extent_Right_L1] at h
    by_cases h18 : v_x21 < (v_points20.length : Int)
    · rw [if_pos h18] at h
      obtain ⟨v_y23, h22, h⟩ := bind_some h
      by_cases h23 : v_y23 < 0
      · rw [if_pos h23] at h
        cases h
        exact pkk_sound TTok mix hF 19 (hs := [.t true, .y ((eI .i64) v_y23), .c, .t true, .c, .c]) (ts := []) (s := []) (l := [2]) (by kernel_rfl) (by kernel_rfl) (.cons (dt h18) (.cons (getI_ob (f := (eI .i64)) h22) (.cons (dt h23) .nil))) q
      · rw [if_neg h23] at h
        by_cases h24 : v_y23 ≥ 256
        · rw [if_pos h24] at h
          cases h
          exact pkk_sound TTok mix hF 19 (hs := [.t true, .y ((eI .i64) v_y23), .c, .t false, .c, .t true]) (ts := []) (s := []) (l := [2]) (by kernel_rfl) (by kernel_rfl) (.cons (dt h18) (.cons (getI_ob (f := (eI .i64)) h22) (.cons (df h23) (.cons (dt h24) .nil)))) q
        · rw [if_neg h24] at h
          exact pkk_sound TTok mix hF 16 (hs := [.t true, .y ((eI .i64) v_y23), .c, .t false, .c, .t false]) (ts := []) (s := []) (l := [8, 9, 10]) (by kernel_rfl) (by kernel_rfl) (.cons (dt h18) (.cons (getI_ob (f := (eI .i64)) h22) (.cons (df h23) (.cons (df h24) .nil)))) (G_extent_Right_L1_ok hF ks n v_points20 k (wi .i64 (v_x21 + 1)) _ h q)
    · rw [if_neg h18] at h
      cases h
      exact pkk_sound TTok mix hF 8 (hs := [.t false]) (ts := []) (s := []) (l := []) (by kernel_rfl) (by kernel_rfl) (.cons (df h18) .nil) q
/- ringhall/extent.Right -/
def G_extent_Right (n : Nat) (v_points20 : (List Int)) : Option (Int) :=
  if (v_points20.length : Int) > 8 then
   some 2
  else
   (G_extent_Right_L1 n v_points20 n 0).bind fun v_o26 => match v_o26 with
   | .x0 v_z27 =>
     some v_z27
   | .x1  =>
     some 0
theorem G_extent_Right_ok (n : Nat) (v_points20 : (List Int)) (r : Int) (h : G_extent_Right n v_points20 = some r) : Ret Try.prog 72 [(eL (eI .i64)) v_points20] ((eI .i64) r) := by
  refine ret_run (n := 21) (fn := Try.f72) (c := bodyOf Try.f72) (by kernel_rfl) (by kernel_rfl) (by kernel_rfl) (by kernel_rfl) ?_
  have hF : KC 21 (FinR Try.prog Try.f72 ((eI .i64) r)) := FinR.kc' (by kernel_rfl)
  unfold G_extent_Right at h
  by_cases h17 : (v_points20.length : Int) > 8
  · rw [if_pos h17] at h
    obtain rfl := Option.some.inj h
    exact pend_sound TTok mix 10 (hs := [.u (.d (.v (.int .i64 (v_points20.length : Int)))), .t true]) (by kernel_rfl) (by kernel_rfl) (by kernel_rfl) (.cons (len_ob (f := (eI .i64)) (l := v_points20)) (.cons (dt h17) .nil))
  · rw [if_neg h17] at h
    obtain ⟨v_o26, h25, h⟩ := bind_some h
    refine pkk_sound TTok mix hF 12 (hs := [.u (.d (.v (.int .i64 (v_points20.length : Int)))), .t false, .u (.d (.v (.int .i64 (v_points20.length : Int)))), .n n]) (ts := []) (s := []) (l := [8, 9, 10]) (by kernel_rfl) (by kernel_rfl) (.cons (len_ob (f := (eI .i64)) (l := v_points20)) (.cons (df h17) (.cons (len_ob (f := (eI .i64)) (l := v_points20)) .nil))) (G_extent_Right_L1_ok hF (.b 0 :: .s (cR (cR (cR (bodyOf Try.f72)))) :: []) n v_points20 n 0 _ h25 ?_)
    cases v_o26 with
    | x0 v_z27 =>
      try dsimp only at h
      obtain rfl := Option.some.inj h
      exact pend_sound TTok mix 2 (hs := []) (by kernel_rfl) (by kernel_rfl) (by kernel_rfl) .nil
    | x1  =>
      try dsimp only at h
      obtain rfl := Option.some.inj h
      exact pend_sound TTok mix 4 (hs := []) (by kernel_rfl) (by kernel_rfl) (by kernel_rfl) .nil
/- ringhall/extent.goes -/
def G_extent_goes (n : Nat) (v_x33 : S_extent_Ext) (v_p34 : Int) : Option (Bool) :=
  if v_x33.fStart = 0 then
   some (v_p34 == 0)
  else
   some (v_p34 == (wi .i64 (v_x33.fStart + v_x33.fN)))
theorem G_extent_goes_ok (n : Nat) (v_x33 : S_extent_Ext) (v_p34 : Int) (r : Bool) (h : G_extent_goes n v_x33 v_p34 = some r) : Ret Try.prog 137 [eS_extent_Ext v_x33, (eI .i64) v_p34] (eB r) := by
  refine ret_run (n := 17) (fn := Try.f137) (c := bodyOf Try.f137) (by kernel_rfl) (by kernel_rfl) (by kernel_rfl) (by kernel_rfl) ?_
  have hF : KC 17 (FinR Try.prog Try.f137 (eB r)) := FinR.kc' (by kernel_rfl)
  unfold G_extent_goes at h
  by_cases h35 : v_x33.fStart = 0
  · rw [if_pos h35] at h
    obtain rfl := Option.some.inj h
    exact pend_sound TTok mix 10 (hs := [.c, .t true]) (by kernel_rfl) (by kernel_rfl) (by kernel_rfl) (.cons (bt h35) .nil)
  · rw [if_neg h35] at h
    obtain rfl := Option.some.inj h
    exact pend_sound TTok mix 10 (hs := [.c, .t false, .c, .c]) (by kernel_rfl) (by kernel_rfl) (by kernel_rfl) (.cons (bf h35) .nil)
inductive G_extent_Of_C1_R where
  | x0 (v_w56 : (List S_extent_Ext))
def G_extent_Of_C1_ex : G_extent_Of_C1_R → Ex
  | .x0 _ => .normal
def G_extent_Of_C1_st (v_points19 : (List Int)) (v_x29 : Int) (v_w30 : (List S_extent_Ext)) : G_extent_Of_C1_R → PS
  | .x0 v_w56 => ⟨[dd, dd, dd, dd, dd, .srf 0, dd, dd, dd, dd, dd, dd, dd, dd, .d (.sl (v_points19.map (eI .i64))), .d (.v (.int .i64 (v_points19.length : Int))), .d (.v (.int .i64 v_x29)), dd, dd, dd, dd, dd, dd, dd, dd, dd, dd, dd, dd, dd, dd, dd, dd, dd, dd, dd, dd, dd, dd, dd, dd, dd, dd, dd, dd, dd, dd, dd], [.row 229 2 (v_w56.map eS_extent_Ext)]⟩
def G_extent_Of_C1_hd (v_points19 : (List Int)) (v_x29 : Int) (v_w30 : (List S_extent_Ext))  : PS := ⟨[dd, dd, dd, dd, dd, .srf 0, dd, dd, dd, dd, dd, dd, dd, dd, .d (.sl (v_points19.map (eI .i64))), .d (.v (.int .i64 (v_points19.length : Int))), .d (.v (.int .i64 v_x29)), dd, dd, dd, dd, dd, dd, dd, dd, dd, dd, dd, dd, dd, dd, dd, dd, dd, dd, dd, dd, dd, dd, dd, dd, dd, dd, dd, dd, dd, dd, dd], [.row 229 2 (v_w30.map eS_extent_Ext)]⟩
def G_extent_Of_C1 (n : Nat) (v_points19 : (List Int)) (v_x29 : Int) (v_w30 : (List S_extent_Ext)) : Option G_extent_Of_C1_R :=
  (getI v_points19 v_x29).bind fun (v_y46 : Int) =>
  if (wi .i64 ((v_w30.length : Int) - 1)) ≥ 0 then
   if 0 ≤ (wi .i64 ((v_w30.length : Int) - 1)) ∧ ((wi .i64 ((v_w30.length : Int) - 1))).toNat < v_w30.length then
    (v_w30[((wi .i64 ((v_w30.length : Int) - 1))).toNat]?).bind fun (v_y49 : S_extent_Ext) =>
    (G_extent_goes n v_y49 v_y46).bind fun (v_r50 : (Bool)) =>
    if v_r50 = true then
     if 0 ≤ (wi .i64 ((v_w30.length : Int) - 1)) ∧ ((wi .i64 ((v_w30.length : Int) - 1))).toNat < v_w30.length then
      (v_w30[((wi .i64 ((v_w30.length : Int) - 1))).toNat]?).bind fun (v_y54 : S_extent_Ext) =>
      if 0 ≤ (wi .i64 ((v_w30.length : Int) - 1)) ∧ ((wi .i64 ((v_w30.length : Int) - 1))).toNat < v_w30.length then
       (v_w30[((wi .i64 ((v_w30.length : Int) - 1))).toNat]?).bind fun (v_y55 : S_extent_Ext) =>
       some (.x0 (v_w30.set ((wi .i64 ((v_w30.length : Int) - 1))).toNat (S_extent_Ext.mk v_y55.fStart (wi .i64 (v_y54.fN + 1)))))
      else none
     else none
    else
     (app 16 v_w30 ([(S_extent_Ext.mk v_y46 1)])).bind fun (v_a57 : (List S_extent_Ext)) =>
     some (.x0 v_a57)
   else none
  else
   (app 16 v_w30 ([(S_extent_Ext.mk v_y46 1)])).bind fun (v_a60 : (List S_extent_Ext)) =>
   some (.x0 v_a60)
theorem G_extent_Of_C1_ok {Fi : Ex → PS → Prop} (hF : KC 48 Fi) (ks : List Fr) (n : Nat) (v_points19 : (List Int)) (v_x29 : Int) (v_w30 : (List S_extent_Ext))  (o : G_extent_Of_C1_R) (h : G_extent_Of_C1 n v_points19 v_x29 v_w30 = some o) (q : RunE Try.prog 48 Fi ks (G_extent_Of_C1_ex o) (G_extent_Of_C1_st v_points19 v_x29 v_w30 o)) : RunE Try.prog 48 Fi (.s (cL (cR (cR (cP (cB (cR (cL (cR (cR (cR (bodyOf Try.f65))))))))))) :: ks) .normal (G_extent_Of_C1_hd v_points19 v_x29 v_w30) := by
  unfold G_extent_Of_C1 at h
  obtain ⟨v_y46, h55, h⟩ := bind_some h
  by_cases h60 : (wi .i64 ((v_w30.length : Int) - 1)) ≥ 0
  · rw [if_pos h60] at h
    by_cases h61 : 0 ≤ (wi .i64 ((v_w30.length : Int) - 1)) ∧ ((wi .i64 ((v_w30.length : Int) - 1))).toNat < v_w30.length
    · rw [if_pos h61] at h
      obtain ⟨v_y49, h62, h⟩ := bind_some h
      obtain ⟨v_r50, h63, h⟩ := bind_some h
      by_cases h70 : v_r50 = true
      · rw [if_pos h70] at h
        by_cases h71 : 0 ≤ (wi .i64 ((v_w30.length : Int) - 1)) ∧ ((wi .i64 ((v_w30.length : Int) - 1))).toNat < v_w30.length
        · rw [if_pos h71] at h
          obtain ⟨v_y54, h72, h⟩ := bind_some h
          by_cases h73 : 0 ≤ (wi .i64 ((v_w30.length : Int) - 1)) ∧ ((wi .i64 ((v_w30.length : Int) - 1))).toNat < v_w30.length
          · rw [if_pos h73] at h
            obtain ⟨v_y55, h74, h⟩ := bind_some h
            cases h
            exact pkk_sound TTok mix hF 10 (hs := [.y ((eI .i64) v_y46), .c, .u (.d (.v (.int .i64 (v_w30.length : Int)))), .t true, .c, .c, .c, .y (eS_extent_Ext v_y49), .c, .c, .r (eB v_r50), .t true, .y (eS_extent_Ext v_y54), .w ((v_w30.set ((wi .i64 ((v_w30.length : Int) - 1))).toNat (S_extent_Ext.mk v_y55.fStart (wi .i64 (v_y54.fN + 1)))).map eS_extent_Ext), .y (eS_extent_Ext v_y55)]) (ts := []) (s := [0]) (l := [5, 14, 15, 16]) (by kernel_rfl) (by kernel_rfl) (.cons (getI_ob (f := (eI .i64)) h55) (.cons (len_ob (f := eS_extent_Ext) (l := v_w30)) (.cons (dt h60) (.cons (idx_ob (f := eS_extent_Ext) h61) (.cons (get_ob (f := eS_extent_Ext) h62) (.cons (G_extent_goes_ok n v_y49 v_y46 _ h63) (.cons h70 (.cons (idx_ob (f := eS_extent_Ext) h71) (.cons (get_ob (f := eS_extent_Ext) h72) (.cons (idx_ob (f := eS_extent_Ext) h73) (.cons (get_ob (f := eS_extent_Ext) h74) (.cons (Eq.refl (pcells (.agg [.v (.int .i64 v_y55.fStart), .v (.int .i64 (wi .i64 (v_y54.fN + 1)))]))) (.cons (set_ob (f := eS_extent_Ext) (l := v_w30) (k := ((wi .i64 ((v_w30.length : Int) - 1))).toNat) (z := (S_extent_Ext.mk v_y55.fStart (wi .i64 (v_y54.fN + 1)))) (p := .agg [.v (.int .i64 v_y55.fStart), .v (.int .i64 (wi .i64 (v_y54.fN + 1)))]) rfl) .nil))))))))))))) q
          · rw [if_neg h73] at h; cases h
        · rw [if_neg h71] at h; cases h
      · rw [if_neg h70] at h
        obtain ⟨v_a57, h75, h⟩ := bind_some h
        cases h
        exact pkk_sound TTok mix hF 10 (hs := [.y ((eI .i64) v_y46), .c, .u (.d (.v (.int .i64 (v_w30.length : Int)))), .t true, .c, .c, .c, .y (eS_extent_Ext v_y49), .c, .c, .r (eB v_r50), .t false, .bd, .w (v_a57.map eS_extent_Ext)]) (ts := []) (s := [64]) (l := [5, 14, 15, 16]) (by kernel_rfl) (by kernel_rfl) (.cons (getI_ob (f := (eI .i64)) h55) (.cons (len_ob (f := eS_extent_Ext) (l := v_w30)) (.cons (dt h60) (.cons (idx_ob (f := eS_extent_Ext) h61) (.cons (get_ob (f := eS_extent_Ext) h62) (.cons (G_extent_goes_ok n v_y49 v_y46 _ h63) (.cons (vf h70) (.cons (app_ob (f := eS_extent_Ext) (s := 2) h75 (fun _ => rfl)).1 (.cons (app_ob (f := eS_extent_Ext) (s := 2) h75 (fun _ => rfl)).2.1 (.cons (app_ob (f := eS_extent_Ext) (s := 2) h75 (fun _ => rfl)).2.2.1 (.cons (app_ob (f := eS_extent_Ext) (s := 2) h75 (fun _ => rfl)).2.2.2 .nil))))))))))) q
    · rw [if_neg h61] at h; cases h
  · rw [if_neg h60] at h
    obtain ⟨v_a60, h77, h⟩ := bind_some h
    cases h
    exact pkk_sound TTok mix hF 10 (hs := [.y ((eI .i64) v_y46), .c, .u (.d (.v (.int .i64 (v_w30.length : Int)))), .t false, .c, .c, .c, .c, .c, .c, .bd, .w (v_a60.map eS_extent_Ext)]) (ts := []) (s := [64]) (l := [5, 14, 15, 16]) (by kernel_rfl) (by kernel_rfl) (.cons (getI_ob (f := (eI .i64)) h55) (.cons (len_ob (f := eS_extent_Ext) (l := v_w30)) (.cons (df h60) (.cons (app_ob (f := eS_extent_Ext) (s := 2) h77 (fun _ => rfl)).1 (.cons (app_ob (f := eS_extent_Ext) (s := 2) h77 (fun _ => rfl)).2.1 (.cons (app_ob (f := eS_extent_Ext) (s := 2) h77 (fun _ => rfl)).2.2.1 (.cons (app_ob (f := eS_extent_Ext) (s := 2) h77 (fun _ => rfl)).2.2.2 .nil))))))) q
inductive G_extent_Of_L2_R where
  | x0 (v_w64 : (List S_extent_Ext))
def G_extent_Of_L2_ex : G_extent_Of_L2_R → Ex
  | .x0 _ => .exit 0
def G_extent_Of_L2_st (v_points19 : (List Int)) : G_extent_Of_L2_R → PS
  | .x0 v_w64 => ⟨[dd, dd, dd, dd, dd, .srf 0, dd, dd, dd, dd, dd, dd, dd, dd, dd, dd, dd, dd, dd, dd, dd, dd, dd, dd, dd, dd, dd, dd, dd, dd, dd, dd, dd, dd, dd, dd, dd, dd, dd, dd, dd, dd, dd, dd, dd, dd, dd, dd], [.row 229 2 (v_w64.map eS_extent_Ext)]⟩
def G_extent_Of_L2_hd (v_points19 : (List Int)) (v_x29 : Int) (v_w30 : (List S_extent_Ext)) : PS := ⟨[dd, dd, dd, dd, dd, .srf 0, dd, dd, dd, dd, dd, dd, dd, dd, .d (.sl (v_points19.map (eI .i64))), .d (.v (.int .i64 (v_points19.length : Int))), .d (.v (.int .i64 v_x29)), dd, dd, dd, dd, dd, dd, dd, dd, dd, dd, dd, dd, dd, dd, dd, dd, dd, dd, dd, dd, dd, dd, dd, dd, dd, dd, dd, dd, dd, dd, dd], [.row 229 2 (v_w30.map eS_extent_Ext)]⟩
def G_extent_Of_L2 (n : Nat) (v_points19 : (List Int)) : Nat → Int → (List S_extent_Ext) → Option G_extent_Of_L2_R
  | 0, _, _ => none
  | k + 1, v_x29, v_w30 =>
    if v_x29 < (v_points19.length : Int) then
     (G_extent_Of_C1 n v_points19 v_x29 v_w30).bind fun v_o62 => match v_o62 with
     | .x0 v_z63 =>
       G_extent_Of_L2 n v_points19 k (wi .i64 (v_x29 + 1)) v_z63
    else
     some (.x0 v_w30)
theorem G_extent_Of_L2_ok {Fi : Ex → PS → Prop} (hF : KC 48 Fi) (ks : List Fr) (n : Nat) (v_points19 : (List Int))  : ∀ (k : Nat) (v_x29 : Int) (v_w30 : (List S_extent_Ext)) (o : G_extent_Of_L2_R), G_extent_Of_L2 n v_points19 k v_x29 v_w30 = some o → RunE Try.prog 48 Fi ks (G_extent_Of_L2_ex o) (G_extent_Of_L2_st v_points19 o) → RunE Try.prog 48 Fi (.l k (cP (cB (cR (cL (cR (cR (cR (bodyOf Try.f65)))))))) :: ks) .normal (G_extent_Of_L2_hd v_points19 v_x29 v_w30)
  | 0, v_x29, v_w30, o, h, q => by rw [G_extent_Of_L2] at h; cases h
  | k + 1, v_x29, v_w30, o, h, q => by
    rw [G_extent_Of_L2] at h
    by_cases h29 : v_x29 < (v_points19.length : Int)
    · rw [if_pos h29] at h
      obtain ⟨v_o62, h78, h⟩ := bind_some h
      refine pkk_sound TTok mix hF 7 (hs := [.t true]) (ts := []) (s := [0]) (l := [5, 14, 15, 16]) (by kernel_rfl) (by kernel_rfl) (.cons (dt h29) .nil) (G_extent_Of_C1_ok hF (.s (cR (cR (cR (cP (cB (cR (cL (cR (cR (cR (bodyOf Try.f65))))))))))) :: .l k (cP (cB (cR (cL (cR (cR (cR (bodyOf Try.f65)))))))) :: ks) n v_points19 v_x29 v_w30 _ h78 ?_)
      cases v_o62 with
      | x0 v_z63 =>
        try dsimp only at h
        exact pkk_sound TTok mix hF 1 (hs := []) (ts := []) (s := [0]) (l := [5, 14, 15, 16]) (by kernel_rfl) (by kernel_rfl) .nil (G_extent_Of_L2_ok hF ks n v_points19 k (wi .i64 (v_x29 + 1)) v_z63 _ h q)
    · rw [if_neg h29] at h
      cases h
      exact pkk_sound TTok mix hF 8 (hs := [.t false]) (ts := []) (s := [0]) (l := [5]) (by kernel_rfl) (by kernel_rfl) (.cons (df h29) .nil) q
/- ringhall/extent.Of -/
def G_extent_Of (n : Nat) (v_points19 : (List Int)) : Option ((List S_extent_Ext) × Int) :=
  (G_extent_Right n v_points19).bind fun (v_r28 : (Int)) =>
  if v_r28 = 0 then
   (G_extent_Of_L2 n v_points19 n 0 ([] : List S_extent_Ext)).bind fun v_o65 => match v_o65 with
   | .x0 v_z66 =>
     some (v_z66, 0)
  else
   some (([] : (List S_extent_Ext)), v_r28)
theorem G_extent_Of_ok (n : Nat) (v_points19 : (List Int)) (r : (List S_extent_Ext) × Int) (h : G_extent_Of n v_points19 = some r) : Ret Try.prog 65 [(eL (eI .i64)) v_points19] (.tup [(eL eS_extent_Ext) r.1, (eI .i64) r.2]) := by
  refine ret_run (n := 48) (fn := Try.f65) (c := bodyOf Try.f65) (by kernel_rfl) (by kernel_rfl) (by kernel_rfl) (by kernel_rfl) ?_
  have hF : KC 48 (FinR Try.prog Try.f65 (.tup [(eL eS_extent_Ext) r.1, (eI .i64) r.2])) := FinR.kc' (by kernel_rfl)
  unfold G_extent_Of at h
  obtain ⟨v_r28, h26, h⟩ := bind_some h
  by_cases h28 : v_r28 = 0
  · rw [if_pos h28] at h
    obtain ⟨v_o65, h79, h⟩ := bind_some h
    refine pkk_sound TTok mix hF 16 (hs := [.r ((eI .i64) v_r28), .t false, .u (.d (.v (.int .i64 (v_points19.length : Int)))), .n n]) (ts := [(5, 229, 2)]) (s := [33]) (l := [5, 14, 15, 16]) (by kernel_rfl) (by kernel_rfl) (.cons (G_extent_Right_ok n v_points19 _ h26) (.cons (nf h28) (.cons (len_ob (f := (eI .i64)) (l := v_points19)) .nil))) (G_extent_Of_L2_ok hF (.b 0 :: .s (cR (cR (cR (cR (bodyOf Try.f65))))) :: []) n v_points19 n 0 ([] : List S_extent_Ext) _ h79 ?_)
    cases v_o65 with
    | x0 v_z66 =>
      try dsimp only at h
      obtain rfl := Option.some.inj h
      exact pend_sound TTok mix 4 (hs := []) (by kernel_rfl) (by kernel_rfl) (by kernel_rfl) .nil
  · rw [if_neg h28] at h
    obtain rfl := Option.some.inj h
    exact pend_sound TTok mix 12 (hs := [.r ((eI .i64) v_r28), .t true]) (by kernel_rfl) (by kernel_rfl) (by kernel_rfl) (.cons (G_extent_Right_ok n v_points19 _ h26) (.cons (nt h28) .nil))
inductive G_extent_Pack_L1_R where
  | x0 (v_w79 : (List Int))
def G_extent_Pack_L1_ex : G_extent_Pack_L1_R → Ex
  | .x0 _ => .exit 0
def G_extent_Pack_L1_st (v_r69 : ((List S_extent_Ext) × Int)) : G_extent_Pack_L1_R → PS
  | .x0 v_w79 => ⟨[dd, dd, dd, dd, dd, dd, .srf 0, dd, dd, dd, dd, dd, dd, dd, dd, dd, dd, dd, dd, dd, dd, dd, dd, dd, dd, dd, dd, dd, dd, dd, dd, dd, dd, dd, dd, dd, dd, dd, dd, dd, dd, dd], [.row 5 1 (v_w79.map (eI .u8))]⟩
def G_extent_Pack_L1_hd (v_r69 : ((List S_extent_Ext) × Int)) (v_x71 : Int) (v_w72 : (List Int)) : PS := ⟨[dd, dd, dd, dd, dd, dd, .srf 0, dd, dd, dd, dd, dd, dd, dd, dd, dd, dd, dd, .d (.sl (v_r69.1.map eS_extent_Ext)), .d (.v (.int .i64 (v_r69.1.length : Int))), .d (.v (.int .i64 v_x71)), dd, dd, dd, dd, dd, dd, dd, dd, dd, dd, dd, dd, dd, dd, dd, dd, dd, dd, dd, dd, dd], [.row 5 1 (v_w72.map (eI .u8))]⟩
def G_extent_Pack_L1 (n : Nat) (v_r69 : ((List S_extent_Ext) × Int)) : Nat → Int → (List Int) → Option G_extent_Pack_L1_R
  | 0, _, _ => none
  | k + 1, v_x71, v_w72 =>
    if v_x71 < (v_r69.1.length : Int) then
     (getI v_r69.1 v_x71).bind fun (v_y76 : S_extent_Ext) =>
     if 0 ≤ (wi .i64 (2 * v_x71)) ∧ ((wi .i64 (2 * v_x71))).toNat < v_w72.length then
      (v_w72[((wi .i64 (2 * v_x71))).toNat]?).bind fun (v_y77 : Int) =>
      if 0 ≤ (wi .i64 ((wi .i64 (2 * v_x71)) + 1)) ∧ ((wi .i64 ((wi .i64 (2 * v_x71)) + 1))).toNat < (v_w72.set ((wi .i64 (2 * v_x71))).toNat (wi .u8 v_y76.fStart)).length then
       ((v_w72.set ((wi .i64 (2 * v_x71))).toNat (wi .u8 v_y76.fStart))[((wi .i64 ((wi .i64 (2 * v_x71)) + 1))).toNat]?).bind fun (v_y78 : Int) =>
       G_extent_Pack_L1 n v_r69 k (wi .i64 (v_x71 + 1)) ((v_w72.set ((wi .i64 (2 * v_x71))).toNat (wi .u8 v_y76.fStart)).set ((wi .i64 ((wi .i64 (2 * v_x71)) + 1))).toNat (wi .u8 v_y76.fN))
      else none
     else none
    else
     some (.x0 v_w72)
theorem G_extent_Pack_L1_ok {Fi : Ex → PS → Prop} (hF : KC 42 Fi) (ks : List Fr) (n : Nat) (v_r69 : ((List S_extent_Ext) × Int))  : ∀ (k : Nat) (v_x71 : Int) (v_w72 : (List Int)) (o : G_extent_Pack_L1_R), G_extent_Pack_L1 n v_r69 k v_x71 v_w72 = some o → RunE Try.prog 42 Fi ks (G_extent_Pack_L1_ex o) (G_extent_Pack_L1_st v_r69 o) → RunE Try.prog 42 Fi (.l k (cP (cB (cR (cL (cR (cR (cR (cR (bodyOf Try.f66))))))))) :: ks) .normal (G_extent_Pack_L1_hd v_r69 v_x71 v_w72)
  | 0, v_x71, v_w72, o, h, q => by rw [G_extent_Pack_L1] at h; cases h
  | k + 1, v_x71, v_w72, o, h, q => by
    rw [G_extent_Pack_L1] at h
    by_cases h85 : v_x71 < (v_r69.1.length : Int)
    · rw [if_pos h85] at h
      obtain ⟨v_y76, h91, h⟩ := bind_some h
      by_cases h92 : 0 ≤ (wi .i64 (2 * v_x71)) ∧ ((wi .i64 (2 * v_x71))).toNat < v_w72.length
      · rw [if_pos h92] at h
        obtain ⟨v_y77, h93, h⟩ := bind_some h
        by_cases h94 : 0 ≤ (wi .i64 ((wi .i64 (2 * v_x71)) + 1)) ∧ ((wi .i64 ((wi .i64 (2 * v_x71)) + 1))).toNat < (v_w72.set ((wi .i64 (2 * v_x71))).toNat (wi .u8 v_y76.fStart)).length
        · rw [if_pos h94] at h
          obtain ⟨v_y78, h95, h⟩ := bind_some h
          exact pkk_sound TTok mix hF 13 (hs := [.t true, .y (eS_extent_Ext v_y76), .c, .c, .c, .w ((v_w72.set ((wi .i64 (2 * v_x71))).toNat (wi .u8 v_y76.fStart)).map (eI .u8)), .y ((eI .u8) v_y77), .w (((v_w72.set ((wi .i64 (2 * v_x71))).toNat (wi .u8 v_y76.fStart)).set ((wi .i64 ((wi .i64 (2 * v_x71)) + 1))).toNat (wi .u8 v_y76.fN)).map (eI .u8)), .y ((eI .u8) v_y78)]) (ts := []) (s := [0]) (l := [6, 18, 19, 20]) (by kernel_rfl) (by kernel_rfl) (.cons (dt h85) (.cons (getI_ob (f := eS_extent_Ext) h91) (.cons (show 0 + 2 ≤ 2 by decide) (.cons (idx_ob (f := (eI .u8)) h92) (.cons (get_ob (f := (eI .u8)) h93) (.cons (Eq.refl (pcells (.v (.int .u8 (wi .u8 v_y76.fStart))))) (.cons (set_ob (f := (eI .u8)) (l := v_w72) (k := ((wi .i64 (2 * v_x71))).toNat) (z := (wi .u8 v_y76.fStart)) (p := .v (.int .u8 (wi .u8 v_y76.fStart))) rfl) (.cons (idx_ob (f := (eI .u8)) h94) (.cons (get_ob (f := (eI .u8)) h95) (.cons (Eq.refl (pcells (.v (.int .u8 (wi .u8 v_y76.fN))))) (.cons (set_ob (f := (eI .u8)) (l := (v_w72.set ((wi .i64 (2 * v_x71))).toNat (wi .u8 v_y76.fStart))) (k := ((wi .i64 ((wi .i64 (2 * v_x71)) + 1))).toNat) (z := (wi .u8 v_y76.fN)) (p := .v (.int .u8 (wi .u8 v_y76.fN))) rfl) .nil))))))))))) (G_extent_Pack_L1_ok hF ks n v_r69 k (wi .i64 (v_x71 + 1)) ((v_w72.set ((wi .i64 (2 * v_x71))).toNat (wi .u8 v_y76.fStart)).set ((wi .i64 ((wi .i64 (2 * v_x71)) + 1))).toNat (wi .u8 v_y76.fN)) _ h q)
        · rw [if_neg h94] at h; cases h
      · rw [if_neg h92] at h; cases h
    · rw [if_neg h85] at h
      cases h
      exact pkk_sound TTok mix hF 8 (hs := [.t false]) (ts := []) (s := [0]) (l := [6]) (by kernel_rfl) (by kernel_rfl) (.cons (df h85) .nil) q
/- ringhall/extent.Pack -/
def G_extent_Pack (n : Nat) (v_points68 : (List Int)) : Option ((List Int) × Int) :=
  (G_extent_Of n v_points68).bind fun (v_r69 : ((List S_extent_Ext) × Int)) =>
  if v_r69.2 = 0 then
   (mkL 1 0 16).bind fun (v_m70 : (List Int)) =>
   (G_extent_Pack_L1 n v_r69 n 0 v_m70).bind fun v_o80 => match v_o80 with
   | .x0 v_z81 =>
     some (v_z81, 0)
  else
   some (([] : (List Int)), v_r69.2)
theorem G_extent_Pack_ok (n : Nat) (v_points68 : (List Int)) (r : (List Int) × Int) (h : G_extent_Pack n v_points68 = some r) : Ret Try.prog 66 [(eL (eI .i64)) v_points68] (.tup [(eL (eI .u8)) r.1, (eI .i64) r.2]) := by
  refine ret_run (n := 42) (fn := Try.f66) (c := bodyOf Try.f66) (by kernel_rfl) (by kernel_rfl) (by kernel_rfl) (by kernel_rfl) ?_
  have hF : KC 42 (FinR Try.prog Try.f66 (.tup [(eL (eI .u8)) r.1, (eI .i64) r.2])) := FinR.kc' (by kernel_rfl)
  unfold G_extent_Pack at h
  obtain ⟨v_r69, h81, h⟩ := bind_some h
  by_cases h83 : v_r69.2 = 0
  · rw [if_pos h83] at h
    obtain ⟨v_m70, h84, h⟩ := bind_some h
    obtain ⟨v_o80, h96, h⟩ := bind_some h
    refine pkk_sound TTok mix hF 16 (hs := [.r (.tup [(eL eS_extent_Ext) v_r69.1, (eI .i64) v_r69.2]), .t false, .w (v_m70.map (eI .u8)), .u (.d (.v (.int .i64 (v_r69.1.length : Int)))), .n n]) (ts := []) (s := [33]) (l := [6, 18, 19, 20]) (by kernel_rfl) (by kernel_rfl) (.cons (G_extent_Of_ok n v_points68 _ h81) (.cons (nf h83) (.cons (mkL_ob (f := (eI .u8)) (p := .v (.int .u8 0)) h84 rfl).1 (.cons (mkL_ob (f := (eI .u8)) (p := .v (.int .u8 0)) h84 rfl).2.1 (.cons (mkL_ob (f := (eI .u8)) (p := .v (.int .u8 0)) h84 rfl).2.2.1 (.cons (mkL_ob (f := (eI .u8)) (p := .v (.int .u8 0)) h84 rfl).2.2.2.1 (.cons (mkL_ob (f := (eI .u8)) (p := .v (.int .u8 0)) h84 rfl).2.2.2.2 (.cons (len_ob (f := eS_extent_Ext) (l := v_r69.1)) .nil)))))))) (G_extent_Pack_L1_ok hF (.b 0 :: .s (cR (cR (cR (cR (cR (bodyOf Try.f66)))))) :: []) n v_r69 n 0 v_m70 _ h96 ?_)
    cases v_o80 with
    | x0 v_z81 =>
      try dsimp only at h
      obtain rfl := Option.some.inj h
      exact pend_sound TTok mix 4 (hs := []) (by kernel_rfl) (by kernel_rfl) (by kernel_rfl) .nil
  · rw [if_neg h83] at h
    obtain rfl := Option.some.inj h
    exact pend_sound TTok mix 12 (hs := [.r (.tup [(eL eS_extent_Ext) v_r69.1, (eI .i64) v_r69.2]), .t true]) (by kernel_rfl) (by kernel_rfl) (by kernel_rfl) (.cons (G_extent_Of_ok n v_points68 _ h81) (.cons (nt h83) .nil))
inductive G_extent_Points_C1_R where
  | x0 (v_x87 : Bool) (v_w88 : (List Int))
def G_extent_Points_C1_ex : G_extent_Points_C1_R → Ex
  | .x0 _ _ => .normal
def G_extent_Points_C1_st (v_l83 : (List S_extent_Ext)) (v_x84 : Int) (v_w85 : (List Int)) (v_y86 : S_extent_Ext) : G_extent_Points_C1_R → PS
  | .x0 v_x87 v_w88 => ⟨[dd, dd, dd, dd, .srf 0, dd, .ref 1 0, dd, .d (.sl (v_l83.map eS_extent_Ext)), .d (.v (.int .i64 (v_l83.length : Int))), .d (.v (.int .i64 v_x84)), dd, dd, dd, dd, dd, dd, dd, dd, dd, dd, dd, dd, dd, dd, dd, dd, dd, dd, dd, dd, dd, dd, dd, dd, dd, dd, dd, dd, dd, dd, dd, dd, dd, .d (.v (.bool v_x87)), dd, dd, dd, dd, dd, dd, dd, dd, dd, dd, dd, dd, dd, dd, dd, dd, dd, dd, dd, dd, dd], [.row 3 1 (v_w88.map (eI .i64)), .box [.d (.v (.int .i64 v_y86.fStart)), .d (.v (.int .i64 v_y86.fN))]]⟩
def G_extent_Points_C1_hd (v_l83 : (List S_extent_Ext)) (v_x84 : Int) (v_w85 : (List Int)) (v_y86 : S_extent_Ext)  : PS := ⟨[dd, dd, dd, dd, .srf 0, dd, .ref 1 0, dd, .d (.sl (v_l83.map eS_extent_Ext)), .d (.v (.int .i64 (v_l83.length : Int))), .d (.v (.int .i64 v_x84)), dd, dd, dd, dd, dd, dd, dd, dd, dd, dd, dd, dd, dd, dd, dd, dd, dd, dd, dd, dd, dd, dd, dd, dd, dd, dd, dd, dd, dd, dd, dd, dd, dd, dd, dd, dd, dd, dd, dd, dd, dd, dd, dd, dd, dd, dd, dd, dd, dd, dd, dd, dd, dd, dd, dd], [.row 3 1 (v_w85.map (eI .i64)), .box [.d (.v (.int .i64 v_y86.fStart)), .d (.v (.int .i64 v_y86.fN))]]⟩
def G_extent_Points_C1 (n : Nat) (v_l83 : (List S_extent_Ext)) (v_x84 : Int) (v_w85 : (List Int)) (v_y86 : S_extent_Ext) : Option G_extent_Points_C1_R :=
  if v_y86.fStart < 0 then
   some (.x0 true v_w85)
  else
   if v_y86.fStart ≥ 256 then
    some (.x0 true v_w85)
   else
    if v_y86.fN < 1 then
     some (.x0 true v_w85)
    else
     if v_y86.fN > 8 then
      some (.x0 true v_w85)
     else
      if v_y86.fStart > 0 then
       some (.x0 (decide ((wi .i64 (v_y86.fStart + v_y86.fN)) > 256)) v_w85)
      else
       some (.x0 false v_w85)
theorem G_extent_Points_C1_ok {Fi : Ex → PS → Prop} (hF : KC 66 Fi) (ks : List Fr) (n : Nat) (v_l83 : (List S_extent_Ext)) (v_x84 : Int) (v_w85 : (List Int)) (v_y86 : S_extent_Ext)  (o : G_extent_Points_C1_R) (h : G_extent_Points_C1 n v_l83 v_x84 v_w85 v_y86 = some o) (q : RunE Try.prog 66 Fi ks (G_extent_Points_C1_ex o) (G_extent_Points_C1_st v_l83 v_x84 v_w85 v_y86 o)) : RunE Try.prog 66 Fi (.s (cL (cL (cR (cB (cL (cR (cR (cP (cB (cR (cL (cR (cR (bodyOf Try.f67)))))))))))))) :: ks) .normal (G_extent_Points_C1_hd v_l83 v_x84 v_w85 v_y86) := by
  unfold G_extent_Points_C1 at h
  by_cases h105 : v_y86.fStart < 0
  · rw [if_pos h105] at h
    cases h
    exact pkk_sound TTok mix hF 1 (hs := [.c, .t true, .c, .c, .c, .c, .c, .c, .c, .c, .c, .c, .c, .c, .c]) (ts := []) (s := [0, 1]) (l := [4, 6, 8, 9, 10, 44]) (by kernel_rfl) (by kernel_rfl) (.cons (dt h105) .nil) q
  · rw [if_neg h105] at h
    by_cases h106 : v_y86.fStart ≥ 256
    · rw [if_pos h106] at h
      cases h
      exact pkk_sound TTok mix hF 1 (hs := [.c, .t false, .c, .c, .c, .t true, .c, .c, .c, .c, .c, .c, .c, .c, .c, .c]) (ts := []) (s := [0, 1]) (l := [4, 6, 8, 9, 10, 44]) (by kernel_rfl) (by kernel_rfl) (.cons (df h105) (.cons (dt h106) .nil)) q
    · rw [if_neg h106] at h
      by_cases h107 : v_y86.fN < 1
      · rw [if_pos h107] at h
        cases h
        exact pkk_sound TTok mix hF 1 (hs := [.c, .t false, .c, .c, .c, .t false, .c, .c, .c, .t true, .c, .c, .c, .c, .c, .c, .c]) (ts := []) (s := [0, 1]) (l := [4, 6, 8, 9, 10, 44]) (by kernel_rfl) (by kernel_rfl) (.cons (df h105) (.cons (df h106) (.cons (dt h107) .nil))) q
      · rw [if_neg h107] at h
        by_cases h108 : v_y86.fN > 8
        · rw [if_pos h108] at h
          cases h
          exact pkk_sound TTok mix hF 1 (hs := [.c, .t false, .c, .c, .c, .t false, .c, .c, .c, .t false, .c, .c, .c, .t true, .c, .c, .c, .c]) (ts := []) (s := [0, 1]) (l := [4, 6, 8, 9, 10, 44]) (by kernel_rfl) (by kernel_rfl) (.cons (df h105) (.cons (df h106) (.cons (df h107) (.cons (dt h108) .nil)))) q
        · rw [if_neg h108] at h
          by_cases h109 : v_y86.fStart > 0
          · rw [if_pos h109] at h
            cases h
            exact pkk_sound TTok mix hF 1 (hs := [.c, .t false, .c, .c, .c, .t false, .c, .c, .c, .t false, .c, .c, .c, .t false, .c, .c, .c, .c, .t true, .c, .c, .c, .c, .c, .c, .c, .c]) (ts := []) (s := [0, 1]) (l := [4, 6, 8, 9, 10, 44]) (by kernel_rfl) (by kernel_rfl) (.cons (df h105) (.cons (df h106) (.cons (df h107) (.cons (df h108) (.cons (dt h109) .nil))))) q
          · rw [if_neg h109] at h
            cases h
            exact pkk_sound TTok mix hF 1 (hs := [.c, .t false, .c, .c, .c, .t false, .c, .c, .c, .t false, .c, .c, .c, .t false, .c, .c, .c, .c, .t false, .c, .c, .c, .c, .c, .c]) (ts := []) (s := [0, 1]) (l := [4, 6, 8, 9, 10, 44]) (by kernel_rfl) (by kernel_rfl) (.cons (df h105) (.cons (df h106) (.cons (df h107) (.cons (df h108) (.cons (df h109) .nil))))) q
inductive G_extent_Points_L2_R where
  | x0 (v_w109 : (List Int))
def G_extent_Points_L2_ex : G_extent_Points_L2_R → Ex
  | .x0 _ => .exit 2
def G_extent_Points_L2_st (v_l83 : (List S_extent_Ext)) (v_x84 : Int) (v_y86 : S_extent_Ext) : G_extent_Points_L2_R → PS
  | .x0 v_w109 => ⟨[dd, dd, dd, dd, .srf 0, dd, dd, dd, .d (.sl (v_l83.map eS_extent_Ext)), .d (.v (.int .i64 (v_l83.length : Int))), .d (.v (.int .i64 v_x84)), dd, dd, dd, dd, dd, dd, dd, dd, dd, dd, dd, dd, dd, dd, dd, dd, dd, dd, dd, dd, dd, dd, dd, dd, dd, dd, dd, dd, dd, dd, dd, dd, dd, dd, dd, dd, dd, dd, dd, dd, dd, dd, dd, dd, dd, dd, dd, dd, dd, dd, dd, dd, dd, dd, dd], [.row 3 1 (v_w109.map (eI .i64))]⟩
def G_extent_Points_L2_hd (v_l83 : (List S_extent_Ext)) (v_x84 : Int) (v_y86 : S_extent_Ext) (v_x103 : Int) (v_w104 : (List Int)) : PS := ⟨[dd, dd, dd, dd, .srf 0, dd, .ref 1 0, dd, .d (.sl (v_l83.map eS_extent_Ext)), .d (.v (.int .i64 (v_l83.length : Int))), .d (.v (.int .i64 v_x84)), dd, dd, dd, dd, dd, dd, dd, dd, dd, dd, dd, dd, dd, dd, dd, dd, dd, dd, dd, dd, dd, dd, dd, dd, dd, dd, dd, dd, dd, dd, dd, dd, dd, dd, dd, .d (.v (.int .i64 v_y86.fN)), .d (.v (.int .i64 v_x103)), dd, dd, dd, dd, dd, dd, dd, dd, dd, dd, dd, dd, dd, dd, dd, dd, dd, dd], [.row 3 1 (v_w104.map (eI .i64)), .box [.d (.v (.int .i64 v_y86.fStart)), .d (.v (.int .i64 v_y86.fN))]]⟩
def G_extent_Points_L2 (n : Nat) (v_l83 : (List S_extent_Ext)) (v_x84 : Int) (v_y86 : S_extent_Ext) : Nat → Int → (List Int) → Option G_extent_Points_L2_R
  | 0, _, _ => none
  | k + 1, v_x103, v_w104 =>
    if v_x103 < v_y86.fN then
     if v_y86.fStart = 0 then
      (app 8 v_w104 ([(wi .i64 (v_y86.fStart + 0))])).bind fun (v_a107 : (List Int)) =>
      G_extent_Points_L2 n v_l83 v_x84 v_y86 k (wi .i64 (v_x103 + 1)) v_a107
     else
      (app 8 v_w104 ([(wi .i64 (v_y86.fStart + v_x103))])).bind fun (v_a108 : (List Int)) =>
      G_extent_Points_L2 n v_l83 v_x84 v_y86 k (wi .i64 (v_x103 + 1)) v_a108
    else
     some (.x0 v_w104)
theorem G_extent_Points_L2_ok {Fi : Ex → PS → Prop} (hF : KC 66 Fi) (ks : List Fr) (n : Nat) (v_l83 : (List S_extent_Ext)) (v_x84 : Int) (v_y86 : S_extent_Ext)  : ∀ (k : Nat) (v_x103 : Int) (v_w104 : (List Int)) (o : G_extent_Points_L2_R), G_extent_Points_L2 n v_l83 v_x84 v_y86 k v_x103 v_w104 = some o → RunE Try.prog 66 Fi ks (G_extent_Points_L2_ex o) (G_extent_Points_L2_st v_l83 v_x84 v_y86 o) → RunE Try.prog 66 Fi (.l k (cP (cB (cR (cL (cR (cR (cB (cL (cR (cR (cP (cB (cR (cL (cR (cR (bodyOf Try.f67))))))))))))))))) :: ks) .normal (G_extent_Points_L2_hd v_l83 v_x84 v_y86 v_x103 v_w104)
  | 0, v_x103, v_w104, o, h, q => by rw [G_extent_Points_L2] at h; cases h
  | k + 1, v_x103, v_w104, o, h, q => by
    rw [G_extent_Points_L2] at h
    by_cases h112 : v_x103 < v_y86.fN
    · rw [if_pos h112] at h
      by_cases h116 : v_y86.fStart = 0
      · rw [if_pos h116] at h
        obtain ⟨v_a107, h117, h⟩ := bind_some h
        exact pkk_sound TTok mix hF 18 (hs := [.t true, .c, .t true, .c, .bd, .w (v_a107.map (eI .i64))]) (ts := []) (s := [41, 1]) (l := [4, 6, 8, 9, 10, 46, 47]) (by kernel_rfl) (by kernel_rfl) (.cons (dt h112) (.cons (bt h116) (.cons (app_ob (f := (eI .i64)) (s := 1) h117 (fun _ => rfl)).1 (.cons (app_ob (f := (eI .i64)) (s := 1) h117 (fun _ => rfl)).2.1 (.cons (app_ob (f := (eI .i64)) (s := 1) h117 (fun _ => rfl)).2.2.1 (.cons (app_ob (f := (eI .i64)) (s := 1) h117 (fun _ => rfl)).2.2.2 .nil)))))) (G_extent_Points_L2_ok hF ks n v_l83 v_x84 v_y86 k (wi .i64 (v_x103 + 1)) v_a107 _ h q)
      · rw [if_neg h116] at h
        obtain ⟨v_a108, h118, h⟩ := bind_some h
        exact pkk_sound TTok mix hF 18 (hs := [.t true, .c, .t false, .c, .bd, .w (v_a108.map (eI .i64))]) (ts := []) (s := [38, 1]) (l := [4, 6, 8, 9, 10, 46, 47]) (by kernel_rfl) (by kernel_rfl) (.cons (dt h112) (.cons (bf h116) (.cons (app_ob (f := (eI .i64)) (s := 1) h118 (fun _ => rfl)).1 (.cons (app_ob (f := (eI .i64)) (s := 1) h118 (fun _ => rfl)).2.1 (.cons (app_ob (f := (eI .i64)) (s := 1) h118 (fun _ => rfl)).2.2.1 (.cons (app_ob (f := (eI .i64)) (s := 1) h118 (fun _ => rfl)).2.2.2 .nil)))))) (G_extent_Points_L2_ok hF ks n v_l83 v_x84 v_y86 k (wi .i64 (v_x103 + 1)) v_a108 _ h q)
    · rw [if_neg h112] at h
      cases h
      exact pkk_sound TTok mix hF 8 (hs := [.t false]) (ts := []) (s := [0]) (l := [4, 8, 9, 10]) (by kernel_rfl) (by kernel_rfl) (.cons (df h112) .nil) q
inductive G_extent_Points_L3_R where
  | x0 (v_x102 : Int)
  | x1 (v_w113 : (List Int))
def G_extent_Points_L3_ex : G_extent_Points_L3_R → Ex
  | .x0 _ => .ret
  | .x1 _ => .exit 0
def G_extent_Points_L3_st (v_l83 : (List S_extent_Ext)) : G_extent_Points_L3_R → PS
  | .x0 v_x102 => ⟨[dd, dd, .d (vnil), .d (.v (.int .i64 v_x102)), dd, dd, dd, dd, dd, dd, dd, dd, dd, dd, dd, dd, dd, dd, dd, dd, dd, dd, dd, dd, dd, dd, dd, dd, dd, dd, dd, dd, dd, dd, dd, dd, dd, dd, dd, dd, dd, dd, dd, dd, dd, dd, dd, dd, dd, dd, dd, dd, dd, dd, dd, dd, dd, dd, dd, dd, dd, dd, dd, dd, dd, dd], []⟩
  | .x1 v_w113 => ⟨[dd, dd, dd, dd, .srf 0, dd, dd, dd, dd, dd, dd, dd, dd, dd, dd, dd, dd, dd, dd, dd, dd, dd, dd, dd, dd, dd, dd, dd, dd, dd, dd, dd, dd, dd, dd, dd, dd, dd, dd, dd, dd, dd, dd, dd, dd, dd, dd, dd, dd, dd, dd, dd, dd, dd, dd, dd, dd, dd, dd, dd, dd, dd, dd, dd, dd, dd], [.row 3 1 (v_w113.map (eI .i64))]⟩
def G_extent_Points_L3_hd (v_l83 : (List S_extent_Ext)) (v_x84 : Int) (v_w85 : (List Int)) : PS := ⟨[dd, dd, dd, dd, .srf 0, dd, dd, dd, .d (.sl (v_l83.map eS_extent_Ext)), .d (.v (.int .i64 (v_l83.length : Int))), .d (.v (.int .i64 v_x84)), dd, dd, dd, dd, dd, dd, dd, dd, dd, dd, dd, dd, dd, dd, dd, dd, dd, dd, dd, dd, dd, dd, dd, dd, dd, dd, dd, dd, dd, dd, dd, dd, dd, dd, dd, dd, dd, dd, dd, dd, dd, dd, dd, dd, dd, dd, dd, dd, dd, dd, dd, dd, dd, dd, dd], [.row 3 1 (v_w85.map (eI .i64))]⟩
def G_extent_Points_L3 (n : Nat) (v_l83 : (List S_extent_Ext)) : Nat → Int → (List Int) → Option G_extent_Points_L3_R
  | 0, _, _ => none
  | k + 1, v_x84, v_w85 =>
    if v_x84 < (v_l83.length : Int) then
     (getI v_l83 v_x84).bind fun (v_y86 : S_extent_Ext) =>
     (G_extent_Points_C1 n v_l83 v_x84 v_w85 v_y86).bind fun v_o99 => match v_o99 with
     | .x0 v_z100 v_z101 =>
       if v_z100 = true then
        some (.x0 1)
       else
        (G_extent_Points_L2 n v_l83 v_x84 v_y86 n 0 v_z101).bind fun v_o110 => match v_o110 with
        | .x0 v_z111 =>
          if (v_z111.length : Int) > 8 then
           some (.x0 2)
          else
           G_extent_Points_L3 n v_l83 k (wi .i64 (v_x84 + 1)) v_z111
    else
     some (.x1 v_w85)
theorem G_extent_Points_L3_ok {Fi : Ex → PS → Prop} (hF : KC 66 Fi) (ks : List Fr) (n : Nat) (v_l83 : (List S_extent_Ext))  : ∀ (k : Nat) (v_x84 : Int) (v_w85 : (List Int)) (o : G_extent_Points_L3_R), G_extent_Points_L3 n v_l83 k v_x84 v_w85 = some o → RunE Try.prog 66 Fi ks (G_extent_Points_L3_ex o) (G_extent_Points_L3_st v_l83 o) → RunE Try.prog 66 Fi (.l k (cP (cB (cR (cL (cR (cR (bodyOf Try.f67))))))) :: ks) .normal (G_extent_Points_L3_hd v_l83 v_x84 v_w85)
  | 0, v_x84, v_w85, o, h, q => by rw [G_extent_Points_L3] at h; cases h
  | k + 1, v_x84, v_w85, o, h, q => by
    rw [G_extent_Points_L3] at h
    by_cases h98 : v_x84 < (v_l83.length : Int)
    · rw [if_pos h98] at h
      obtain ⟨v_y86, h99, h⟩ := bind_some h
      obtain ⟨v_o99, h110, h⟩ := bind_some h
      refine pkk_sound TTok mix hF 12 (hs := [.t true, .y (eS_extent_Ext v_y86), .c]) (ts := []) (s := [0, 10]) (l := [4, 6, 8, 9, 10]) (by kernel_rfl) (by kernel_rfl) (.cons (dt h98) (.cons (getI_ob (f := eS_extent_Ext) h99) (.cons (show 0 + 2 ≤ 2 by decide) .nil))) (G_extent_Points_C1_ok hF (.s (cR (cL (cR (cB (cL (cR (cR (cP (cB (cR (cL (cR (cR (bodyOf Try.f67)))))))))))))) :: .s (cR (cR (cB (cL (cR (cR (cP (cB (cR (cL (cR (cR (bodyOf Try.f67))))))))))))) :: .b 1 :: .s (cR (cR (cR (cP (cB (cR (cL (cR (cR (bodyOf Try.f67)))))))))) :: .l k (cP (cB (cR (cL (cR (cR (bodyOf Try.f67))))))) :: ks) n v_l83 v_x84 v_w85 v_y86 _ h110 ?_)
      cases v_o99 with
      | x0 v_z100 v_z101 =>
        try dsimp only at h
        by_cases h111 : v_z100 = true
        · rw [if_pos h111] at h
          cases h
          exact pkk_sound TTok mix hF 8 (hs := [.t true]) (ts := []) (s := []) (l := [2, 3]) (by kernel_rfl) (by kernel_rfl) (.cons h111 .nil) q
        · rw [if_neg h111] at h
          obtain ⟨v_o110, h119, h⟩ := bind_some h
          refine pkk_sound TTok mix hF 7 (hs := [.t false, .c, .n n]) (ts := []) (s := [0, 1]) (l := [4, 6, 8, 9, 10, 46, 47]) (by kernel_rfl) (by kernel_rfl) (.cons (vf h111) .nil) (G_extent_Points_L2_ok hF (.b 2 :: .s (cR (cR (cR (cB (cL (cR (cR (cP (cB (cR (cL (cR (cR (bodyOf Try.f67)))))))))))))) :: .b 1 :: .s (cR (cR (cR (cP (cB (cR (cL (cR (cR (bodyOf Try.f67)))))))))) :: .l k (cP (cB (cR (cL (cR (cR (bodyOf Try.f67))))))) :: ks) n v_l83 v_x84 v_y86 n 0 v_z101 _ h119 ?_)
          cases v_o110 with
          | x0 v_z111 =>
            try dsimp only at h
            by_cases h120 : (v_z111.length : Int) > 8
            · rw [if_pos h120] at h
              cases h
              exact pkk_sound TTok mix hF 10 (hs := [.u (.d (.v (.int .i64 (v_z111.length : Int)))), .t true]) (ts := []) (s := []) (l := [2, 3]) (by kernel_rfl) (by kernel_rfl) (.cons (len_ob (f := (eI .i64)) (l := v_z111)) (.cons (dt h120) .nil)) q
            · rw [if_neg h120] at h
              exact pkk_sound TTok mix hF 7 (hs := [.u (.d (.v (.int .i64 (v_z111.length : Int)))), .t false]) (ts := []) (s := [0]) (l := [4, 8, 9, 10]) (by kernel_rfl) (by kernel_rfl) (.cons (len_ob (f := (eI .i64)) (l := v_z111)) (.cons (df h120) .nil)) (G_extent_Points_L3_ok hF ks n v_l83 k (wi .i64 (v_x84 + 1)) v_z111 _ h q)
    · rw [if_neg h98] at h
      cases h
      exact pkk_sound TTok mix hF 8 (hs := [.t false]) (ts := []) (s := [0]) (l := [4]) (by kernel_rfl) (by kernel_rfl) (.cons (df h98) .nil) q
/- ringhall/extent.Points -/
def G_extent_Points (n : Nat) (v_l83 : (List S_extent_Ext)) : Option ((List Int) × Int) :=
  (G_extent_Points_L3 n v_l83 n 0 ([] : List Int)).bind fun v_o114 => match v_o114 with
  | .x0 v_z115 =>
    some (([] : (List Int)), v_z115)
  | .x1 v_z116 =>
    some (v_z116, 0)
theorem G_extent_Points_ok (n : Nat) (v_l83 : (List S_extent_Ext)) (r : (List Int) × Int) (h : G_extent_Points n v_l83 = some r) : Ret Try.prog 67 [(eL eS_extent_Ext) v_l83] (.tup [(eL (eI .i64)) r.1, (eI .i64) r.2]) := by
  refine ret_run (n := 66) (fn := Try.f67) (c := bodyOf Try.f67) (by kernel_rfl) (by kernel_rfl) (by kernel_rfl) (by kernel_rfl) ?_
  have hF : KC 66 (FinR Try.prog Try.f67 (.tup [(eL (eI .i64)) r.1, (eI .i64) r.2])) := FinR.kc' (by kernel_rfl)
  unfold G_extent_Points at h
  obtain ⟨v_o114, h121, h⟩ := bind_some h
  refine pkk_sound TTok mix hF 9 (hs := [.u (.d (.v (.int .i64 (v_l83.length : Int)))), .n n]) (ts := [(4, 3, 1)]) (s := [18]) (l := [4, 8, 9, 10]) (by kernel_rfl) (by kernel_rfl) (.cons (len_ob (f := eS_extent_Ext) (l := v_l83)) .nil) (G_extent_Points_L3_ok hF (.b 0 :: .s (cR (cR (cR (bodyOf Try.f67)))) :: []) n v_l83 n 0 ([] : List Int) _ h121 ?_)
  cases v_o114 with
  | x0 v_z115 =>
    try dsimp only at h
    obtain rfl := Option.some.inj h
    exact pend_sound TTok mix 2 (hs := []) (by kernel_rfl) (by kernel_rfl) (by kernel_rfl) .nil
  | x1 v_z116 =>
    try dsimp only at h
    obtain rfl := Option.some.inj h
    exact pend_sound TTok mix 4 (hs := []) (by kernel_rfl) (by kernel_rfl) (by kernel_rfl) .nil
inductive G_ringlaw3_runs_L1_R where
  | x0 (v_w125 : (List (Fin 2 → Int)))
def G_ringlaw3_runs_L1_ex : G_ringlaw3_runs_L1_R → Ex
  | .x0 _ => .exit 0
def G_ringlaw3_runs_L1_st (v_l118 : (List S_extent_Ext)) : G_ringlaw3_runs_L1_R → PS
  | .x0 v_w125 => ⟨[dd, dd, dd, .srf 0, dd, dd, dd, dd, dd, dd, dd, dd, dd, dd, dd, dd, dd, dd, dd, dd, dd, dd], [.row 121 2 (v_w125.map (fun x => PV.agg [.v (.int .i64 (x 0)), .v (.int .i64 (x 1))]))]⟩
def G_ringlaw3_runs_L1_hd (v_l118 : (List S_extent_Ext)) (v_x119 : Int) (v_w120 : (List (Fin 2 → Int))) : PS := ⟨[dd, dd, dd, .srf 0, dd, dd, .d (.sl (v_l118.map eS_extent_Ext)), .d (.v (.int .i64 (v_l118.length : Int))), .d (.v (.int .i64 v_x119)), dd, dd, dd, dd, dd, dd, dd, dd, dd, dd, dd, dd, dd], [.row 121 2 (v_w120.map (fun x => PV.agg [.v (.int .i64 (x 0)), .v (.int .i64 (x 1))]))]⟩
def G_ringlaw3_runs_L1 (n : Nat) (v_l118 : (List S_extent_Ext)) : Nat → Int → (List (Fin 2 → Int)) → Option G_ringlaw3_runs_L1_R
  | 0, _, _ => none
  | k + 1, v_x119, v_w120 =>
    if v_x119 < (v_l118.length : Int) then
     (getI v_l118 v_x119).bind fun (v_y123 : S_extent_Ext) =>
     (app 16 v_w120 ([(fun i : Fin 2 => [v_y123.fStart, v_y123.fN].get i)])).bind fun (v_a124 : (List (Fin 2 → Int))) =>
     G_ringlaw3_runs_L1 n v_l118 k (wi .i64 (v_x119 + 1)) v_a124
    else
     some (.x0 v_w120)
theorem G_ringlaw3_runs_L1_ok {Fi : Ex → PS → Prop} (hF : KC 22 Fi) (ks : List Fr) (n : Nat) (v_l118 : (List S_extent_Ext))  : ∀ (k : Nat) (v_x119 : Int) (v_w120 : (List (Fin 2 → Int))) (o : G_ringlaw3_runs_L1_R), G_ringlaw3_runs_L1 n v_l118 k v_x119 v_w120 = some o → RunE Try.prog 22 Fi ks (G_ringlaw3_runs_L1_ex o) (G_ringlaw3_runs_L1_st v_l118 o) → RunE Try.prog 22 Fi (.l k (cP (cB (cR (cL (cR (cR (bodyOf Try.f69))))))) :: ks) .normal (G_ringlaw3_runs_L1_hd v_l118 v_x119 v_w120)
  | 0, v_x119, v_w120, o, h, q => by rw [G_ringlaw3_runs_L1] at h; cases h
  | k + 1, v_x119, v_w120, o, h, q => by
    rw [G_ringlaw3_runs_L1] at h
    by_cases h123 : v_x119 < (v_l118.length : Int)
    · rw [if_pos h123] at h
      obtain ⟨v_y123, h126, h⟩ := bind_some h
      obtain ⟨v_a124, h127, h⟩ := bind_some h
      exact pkk_sound TTok mix hF 13 (hs := [.t true, .y (eS_extent_Ext v_y123), .c, .c, .c, .bd, .w (v_a124.map (fun x => PV.agg [.v (.int .i64 (x 0)), .v (.int .i64 (x 1))]))]) (ts := []) (s := [37]) (l := [3, 6, 7, 8]) (by kernel_rfl) (by kernel_rfl) (.cons (dt h123) (.cons (getI_ob (f := eS_extent_Ext) h126) (.cons (show 0 + 2 ≤ 2 by decide) (.cons (app_ob (f := (fun x => PV.agg [.v (.int .i64 (x 0)), .v (.int .i64 (x 1))])) (s := 2) h127 (fun _ => rfl)).1 (.cons (app_ob (f := (fun x => PV.agg [.v (.int .i64 (x 0)), .v (.int .i64 (x 1))])) (s := 2) h127 (fun _ => rfl)).2.1 (.cons (app_ob (f := (fun x => PV.agg [.v (.int .i64 (x 0)), .v (.int .i64 (x 1))])) (s := 2) h127 (fun _ => rfl)).2.2.1 (.cons (app_ob (f := (fun x => PV.agg [.v (.int .i64 (x 0)), .v (.int .i64 (x 1))])) (s := 2) h127 (fun _ => rfl)).2.2.2 .nil))))))) (G_ringlaw3_runs_L1_ok hF ks n v_l118 k (wi .i64 (v_x119 + 1)) v_a124 _ h q)
    · rw [if_neg h123] at h
      cases h
      exact pkk_sound TTok mix hF 8 (hs := [.t false]) (ts := []) (s := [0]) (l := [3]) (by kernel_rfl) (by kernel_rfl) (.cons (df h123) .nil) q
/- ringhall/ringlaw3.runs -/
def G_ringlaw3_runs (n : Nat) (v_l118 : (List S_extent_Ext)) : Option ((List (Fin 2 → Int))) :=
  (G_ringlaw3_runs_L1 n v_l118 n 0 ([] : List (Fin 2 → Int))).bind fun v_o126 => match v_o126 with
  | .x0 v_z127 =>
    some v_z127
theorem G_ringlaw3_runs_ok (n : Nat) (v_l118 : (List S_extent_Ext)) (r : (List (Fin 2 → Int))) (h : G_ringlaw3_runs n v_l118 = some r) : Ret Try.prog 69 [(eL eS_extent_Ext) v_l118] ((eL (fun x => PV.agg [.v (.int .i64 (x 0)), .v (.int .i64 (x 1))])) r) := by
  refine ret_run (n := 22) (fn := Try.f69) (c := bodyOf Try.f69) (by kernel_rfl) (by kernel_rfl) (by kernel_rfl) (by kernel_rfl) ?_
  have hF : KC 22 (FinR Try.prog Try.f69 ((eL (fun x => PV.agg [.v (.int .i64 (x 0)), .v (.int .i64 (x 1))])) r)) := FinR.kc' (by kernel_rfl)
  unfold G_ringlaw3_runs at h
  obtain ⟨v_o126, h128, h⟩ := bind_some h
  refine pkk_sound TTok mix hF 9 (hs := [.u (.d (.v (.int .i64 (v_l118.length : Int)))), .n n]) (ts := [(3, 121, 2)]) (s := [15]) (l := [3, 6, 7, 8]) (by kernel_rfl) (by kernel_rfl) (.cons (len_ob (f := eS_extent_Ext) (l := v_l118)) .nil) (G_ringlaw3_runs_L1_ok hF (.b 0 :: .s (cR (cR (cR (bodyOf Try.f69)))) :: []) n v_l118 n 0 ([] : List (Fin 2 → Int)) _ h128 ?_)
  cases v_o126 with
  | x0 v_z127 =>
    try dsimp only at h
    obtain rfl := Option.some.inj h
    exact pend_sound TTok mix 4 (hs := []) (by kernel_rfl) (by kernel_rfl) (by kernel_rfl) .nil
inductive G_ringref3_Unruns_C1_R where
  | x0 (v_x133 : Bool) (v_w134 : (List Int))
def G_ringref3_Unruns_C1_ex : G_ringref3_Unruns_C1_R → Ex
  | .x0 _ _ => .normal
def G_ringref3_Unruns_C1_st (v_l129 : (List (Fin 2 → Int))) (v_x130 : Int) (v_w131 : (List Int)) (v_y132 : (Fin 2 → Int)) : G_ringref3_Unruns_C1_R → PS
  | .x0 v_x133 v_w134 => ⟨[dd, dd, dd, dd, .srf 0, dd, .ref 1 0, dd, .d (.sl (v_l129.map (fun x => PV.agg [.v (.int .i64 (x 0)), .v (.int .i64 (x 1))]))), .d (.v (.int .i64 (v_l129.length : Int))), .d (.v (.int .i64 v_x130)), dd, dd, dd, dd, dd, dd, dd, dd, dd, dd, dd, dd, dd, dd, dd, dd, dd, dd, dd, dd, dd, dd, dd, dd, dd, dd, dd, dd, dd, dd, dd, dd, dd, .d (.v (.bool v_x133)), dd, dd, dd, dd, dd, dd, dd, dd, dd, dd, dd, dd, dd, dd, dd, dd, dd, dd, dd, dd, dd, dd, dd, dd], [.row 3 1 (v_w134.map (eI .i64)), .box [.d (.v (.int .i64 (v_y132 0))), .d (.v (.int .i64 (v_y132 1)))]]⟩
def G_ringref3_Unruns_C1_hd (v_l129 : (List (Fin 2 → Int))) (v_x130 : Int) (v_w131 : (List Int)) (v_y132 : (Fin 2 → Int))  : PS := ⟨[dd, dd, dd, dd, .srf 0, dd, .ref 1 0, dd, .d (.sl (v_l129.map (fun x => PV.agg [.v (.int .i64 (x 0)), .v (.int .i64 (x 1))]))), .d (.v (.int .i64 (v_l129.length : Int))), .d (.v (.int .i64 v_x130)), dd, dd, dd, dd, dd, dd, dd, dd, dd, dd, dd, dd, dd, dd, dd, dd, dd, dd, dd, dd, dd, dd, dd, dd, dd, dd, dd, dd, dd, dd, dd, dd, dd, dd, dd, dd, dd, dd, dd, dd, dd, dd, dd, dd, dd, dd, dd, dd, dd, dd, dd, dd, dd, dd, dd, dd, dd, dd], [.row 3 1 (v_w131.map (eI .i64)), .box [.d (.v (.int .i64 (v_y132 0))), .d (.v (.int .i64 (v_y132 1)))]]⟩
def G_ringref3_Unruns_C1 (n : Nat) (v_l129 : (List (Fin 2 → Int))) (v_x130 : Int) (v_w131 : (List Int)) (v_y132 : (Fin 2 → Int)) : Option G_ringref3_Unruns_C1_R :=
  if (v_y132 0) < 0 then
   some (.x0 true v_w131)
  else
   if (v_y132 0) > 255 then
    some (.x0 true v_w131)
   else
    if (v_y132 1) < 1 then
     some (.x0 true v_w131)
    else
     if (v_y132 1) > 8 then
      some (.x0 true v_w131)
     else
      if (v_y132 0) > 0 then
       some (.x0 (decide ((wi .i64 ((v_y132 0) + (v_y132 1))) > 256)) v_w131)
      else
       some (.x0 false v_w131)
theorem G_ringref3_Unruns_C1_ok {Fi : Ex → PS → Prop} (hF : KC 69 Fi) (ks : List Fr) (n : Nat) (v_l129 : (List (Fin 2 → Int))) (v_x130 : Int) (v_w131 : (List Int)) (v_y132 : (Fin 2 → Int))  (o : G_ringref3_Unruns_C1_R) (h : G_ringref3_Unruns_C1 n v_l129 v_x130 v_w131 v_y132 = some o) (q : RunE Try.prog 69 Fi ks (G_ringref3_Unruns_C1_ex o) (G_ringref3_Unruns_C1_st v_l129 v_x130 v_w131 v_y132 o)) : RunE Try.prog 69 Fi (.s (cL (cL (cR (cB (cL (cR (cR (cP (cB (cR (cL (cR (cR (bodyOf Try.f68)))))))))))))) :: ks) .normal (G_ringref3_Unruns_C1_hd v_l129 v_x130 v_w131 v_y132) := by
  unfold G_ringref3_Unruns_C1 at h
  by_cases h137 : (v_y132 0) < 0
  · rw [if_pos h137] at h
    cases h
    exact pkk_sound TTok mix hF 1 (hs := [.c, .t true, .c, .c, .c, .c, .c, .c, .c, .c, .c, .c, .c, .c, .c]) (ts := []) (s := [0, 1]) (l := [4, 6, 8, 9, 10, 44]) (by kernel_rfl) (by kernel_rfl) (.cons (show (0 : Int) ≤ 0 ∧ (0 : Int) < 2 by decide) (.cons (dt h137) .nil)) q
  · rw [if_neg h137] at h
    by_cases h138 : (v_y132 0) > 255
    · rw [if_pos h138] at h
      cases h
      exact pkk_sound TTok mix hF 1 (hs := [.c, .t false, .c, .c, .c, .t true, .c, .c, .c, .c, .c, .c, .c, .c, .c, .c]) (ts := []) (s := [0, 1]) (l := [4, 6, 8, 9, 10, 44]) (by kernel_rfl) (by kernel_rfl) (.cons (show (0 : Int) ≤ 0 ∧ (0 : Int) < 2 by decide) (.cons (df h137) (.cons (show (0 : Int) ≤ 0 ∧ (0 : Int) < 2 by decide) (.cons (dt h138) .nil)))) q
    · rw [if_neg h138] at h
      by_cases h139 : (v_y132 1) < 1
      · rw [if_pos h139] at h
        cases h
        exact pkk_sound TTok mix hF 1 (hs := [.c, .t false, .c, .c, .c, .t false, .c, .c, .c, .t true, .c, .c, .c, .c, .c, .c, .c]) (ts := []) (s := [0, 1]) (l := [4, 6, 8, 9, 10, 44]) (by kernel_rfl) (by kernel_rfl) (.cons (show (0 : Int) ≤ 0 ∧ (0 : Int) < 2 by decide) (.cons (df h137) (.cons (show (0 : Int) ≤ 0 ∧ (0 : Int) < 2 by decide) (.cons (df h138) (.cons (show (0 : Int) ≤ 1 ∧ (1 : Int) < 2 by decide) (.cons (dt h139) .nil)))))) q
      · rw [if_neg h139] at h
        by_cases h140 : (v_y132 1) > 8
        · rw [if_pos h140] at h
          cases h
          exact pkk_sound TTok mix hF 1 (hs := [.c, .t false, .c, .c, .c, .t false, .c, .c, .c, .t false, .c, .c, .c, .t true, .c, .c, .c, .c]) (ts := []) (s := [0, 1]) (l := [4, 6, 8, 9, 10, 44]) (by kernel_rfl) (by kernel_rfl) (.cons (show (0 : Int) ≤ 0 ∧ (0 : Int) < 2 by decide) (.cons (df h137) (.cons (show (0 : Int) ≤ 0 ∧ (0 : Int) < 2 by decide) (.cons (df h138) (.cons (show (0 : Int) ≤ 1 ∧ (1 : Int) < 2 by decide) (.cons (df h139) (.cons (show (0 : Int) ≤ 1 ∧ (1 : Int) < 2 by decide) (.cons (dt h140) .nil)))))))) q
        · rw [if_neg h140] at h
          by_cases h141 : (v_y132 0) > 0
          · rw [if_pos h141] at h
            cases h
            exact pkk_sound TTok mix hF 1 (hs := [.c, .t false, .c, .c, .c, .t false, .c, .c, .c, .t false, .c, .c, .c, .t false, .c, .c, .c, .c, .t true, .c, .c, .c, .c, .c, .c, .c, .c]) (ts := []) (s := [0, 1]) (l := [4, 6, 8, 9, 10, 44]) (by kernel_rfl) (by kernel_rfl) (.cons (show (0 : Int) ≤ 0 ∧ (0 : Int) < 2 by decide) (.cons (df h137) (.cons (show (0 : Int) ≤ 0 ∧ (0 : Int) < 2 by decide) (.cons (df h138) (.cons (show (0 : Int) ≤ 1 ∧ (1 : Int) < 2 by decide) (.cons (df h139) (.cons (show (0 : Int) ≤ 1 ∧ (1 : Int) < 2 by decide) (.cons (df h140) (.cons (show (0 : Int) ≤ 0 ∧ (0 : Int) < 2 by decide) (.cons (dt h141) (.cons (show (0 : Int) ≤ 0 ∧ (0 : Int) < 2 by decide) (.cons (show (0 : Int) ≤ 1 ∧ (1 : Int) < 2 by decide) .nil)))))))))))) q
          · rw [if_neg h141] at h
            cases h
            exact pkk_sound TTok mix hF 1 (hs := [.c, .t false, .c, .c, .c, .t false, .c, .c, .c, .t false, .c, .c, .c, .t false, .c, .c, .c, .c, .t false, .c, .c, .c, .c, .c, .c]) (ts := []) (s := [0, 1]) (l := [4, 6, 8, 9, 10, 44]) (by kernel_rfl) (by kernel_rfl) (.cons (show (0 : Int) ≤ 0 ∧ (0 : Int) < 2 by decide) (.cons (df h137) (.cons (show (0 : Int) ≤ 0 ∧ (0 : Int) < 2 by decide) (.cons (df h138) (.cons (show (0 : Int) ≤ 1 ∧ (1 : Int) < 2 by decide) (.cons (df h139) (.cons (show (0 : Int) ≤ 1 ∧ (1 : Int) < 2 by decide) (.cons (df h140) (.cons (show (0 : Int) ≤ 0 ∧ (0 : Int) < 2 by decide) (.cons (df h141) .nil)))))))))) q
inductive G_ringref3_Unruns_L2_R where
  | x0 (v_w159 : (List Int))
def G_ringref3_Unruns_L2_ex : G_ringref3_Unruns_L2_R → Ex
  | .x0 _ => .exit 2
def G_ringref3_Unruns_L2_st (v_l129 : (List (Fin 2 → Int))) (v_x130 : Int) (v_y132 : (Fin 2 → Int)) : G_ringref3_Unruns_L2_R → PS
  | .x0 v_w159 => ⟨[dd, dd, dd, dd, .srf 0, dd, dd, dd, .d (.sl (v_l129.map (fun x => PV.agg [.v (.int .i64 (x 0)), .v (.int .i64 (x 1))]))), .d (.v (.int .i64 (v_l129.length : Int))), .d (.v (.int .i64 v_x130)), dd, dd, dd, dd, dd, dd, dd, dd, dd, dd, dd, dd, dd, dd, dd, dd, dd, dd, dd, dd, dd, dd, dd, dd, dd, dd, dd, dd, dd, dd, dd, dd, dd, dd, dd, dd, dd, dd, dd, dd, dd, dd, dd, dd, dd, dd, dd, dd, dd, dd, dd, dd, dd, dd, dd, dd, dd, dd], [.row 3 1 (v_w159.map (eI .i64))]⟩
def G_ringref3_Unruns_L2_hd (v_l129 : (List (Fin 2 → Int))) (v_x130 : Int) (v_y132 : (Fin 2 → Int)) (v_x149 : Int) (v_w150 : (List Int)) : PS := ⟨[dd, dd, dd, dd, .srf 0, dd, .ref 1 0, dd, .d (.sl (v_l129.map (fun x => PV.agg [.v (.int .i64 (x 0)), .v (.int .i64 (x 1))]))), .d (.v (.int .i64 (v_l129.length : Int))), .d (.v (.int .i64 v_x130)), dd, dd, dd, dd, dd, dd, dd, dd, dd, dd, dd, dd, dd, dd, dd, dd, dd, dd, dd, dd, dd, dd, dd, dd, dd, dd, dd, dd, dd, dd, dd, dd, dd, dd, dd, .d (.v (.int .i64 (v_y132 1))), .d (.v (.int .i64 v_x149)), dd, dd, dd, dd, dd, dd, dd, dd, dd, dd, dd, dd, dd, dd, dd, dd, dd, dd, dd, dd, dd], [.row 3 1 (v_w150.map (eI .i64)), .box [.d (.v (.int .i64 (v_y132 0))), .d (.v (.int .i64 (v_y132 1)))]]⟩
def G_ringref3_Unruns_L2 (n : Nat) (v_l129 : (List (Fin 2 → Int))) (v_x130 : Int) (v_y132 : (Fin 2 → Int)) : Nat → Int → (List Int) → Option G_ringref3_Unruns_L2_R
  | 0, _, _ => none
  | k + 1, v_x149, v_w150 =>
    if v_x149 < (v_y132 1) then
     if (v_y132 0) = 0 then
      (app 8 v_w150 ([0])).bind fun (v_a157 : (List Int)) =>
      G_ringref3_Unruns_L2 n v_l129 v_x130 v_y132 k (wi .i64 (v_x149 + 1)) v_a157
     else
      (app 8 v_w150 ([(wi .i64 ((v_y132 0) + v_x149))])).bind fun (v_a158 : (List Int)) =>
      G_ringref3_Unruns_L2 n v_l129 v_x130 v_y132 k (wi .i64 (v_x149 + 1)) v_a158
    else
     some (.x0 v_w150)
theorem G_ringref3_Unruns_L2_ok {Fi : Ex → PS → Prop} (hF : KC 69 Fi) (ks : List Fr) (n : Nat) (v_l129 : (List (Fin 2 → Int))) (v_x130 : Int) (v_y132 : (Fin 2 → Int))  : ∀ (k : Nat) (v_x149 : Int) (v_w150 : (List Int)) (o : G_ringref3_Unruns_L2_R), G_ringref3_Unruns_L2 n v_l129 v_x130 v_y132 k v_x149 v_w150 = some o → RunE Try.prog 69 Fi ks (G_ringref3_Unruns_L2_ex o) (G_ringref3_Unruns_L2_st v_l129 v_x130 v_y132 o) → RunE Try.prog 69 Fi (.l k (cP (cB (cR (cL (cR (cR (cB (cL (cR (cR (cP (cB (cR (cL (cR (cR (bodyOf Try.f68))))))))))))))))) :: ks) .normal (G_ringref3_Unruns_L2_hd v_l129 v_x130 v_y132 v_x149 v_w150)
  | 0, v_x149, v_w150, o, h, q => by rw [G_ringref3_Unruns_L2] at h; cases h
  | k + 1, v_x149, v_w150, o, h, q => by
    rw [G_ringref3_Unruns_L2] at h
    by_cases h144 : v_x149 < (v_y132 1)
    · rw [if_pos h144] at h
      by_cases h154 : (v_y132 0) = 0
      · rw [if_pos h154] at h
        obtain ⟨v_a157, h155, h⟩ := bind_some h
        exact pkk_sound TTok mix hF 16 (hs := [.t true, .c, .t true, .bd, .w (v_a157.map (eI .i64))]) (ts := []) (s := [26, 1]) (l := [4, 6, 8, 9, 10, 46, 47]) (by kernel_rfl) (by kernel_rfl) (.cons (dt h144) (.cons (show (0 : Int) ≤ 0 ∧ (0 : Int) < 2 by decide) (.cons (bt h154) (.cons (app_ob (f := (eI .i64)) (s := 1) h155 (fun _ => rfl)).1 (.cons (app_ob (f := (eI .i64)) (s := 1) h155 (fun _ => rfl)).2.1 (.cons (app_ob (f := (eI .i64)) (s := 1) h155 (fun _ => rfl)).2.2.1 (.cons (app_ob (f := (eI .i64)) (s := 1) h155 (fun _ => rfl)).2.2.2 .nil))))))) (G_ringref3_Unruns_L2_ok hF ks n v_l129 v_x130 v_y132 k (wi .i64 (v_x149 + 1)) v_a157 _ h q)
      · rw [if_neg h154] at h
        obtain ⟨v_a158, h156, h⟩ := bind_some h
        exact pkk_sound TTok mix hF 16 (hs := [.t true, .c, .t false, .c, .bd, .w (v_a158.map (eI .i64))]) (ts := []) (s := [38, 1]) (l := [4, 6, 8, 9, 10, 46, 47]) (by kernel_rfl) (by kernel_rfl) (.cons (dt h144) (.cons (show (0 : Int) ≤ 0 ∧ (0 : Int) < 2 by decide) (.cons (bf h154) (.cons (show (0 : Int) ≤ 0 ∧ (0 : Int) < 2 by decide) (.cons (app_ob (f := (eI .i64)) (s := 1) h156 (fun _ => rfl)).1 (.cons (app_ob (f := (eI .i64)) (s := 1) h156 (fun _ => rfl)).2.1 (.cons (app_ob (f := (eI .i64)) (s := 1) h156 (fun _ => rfl)).2.2.1 (.cons (app_ob (f := (eI .i64)) (s := 1) h156 (fun _ => rfl)).2.2.2 .nil)))))))) (G_ringref3_Unruns_L2_ok hF ks n v_l129 v_x130 v_y132 k (wi .i64 (v_x149 + 1)) v_a158 _ h q)
    · rw [if_neg h144] at h
      cases h
      exact pkk_sound TTok mix hF 8 (hs := [.t false]) (ts := []) (s := [0]) (l := [4, 8, 9, 10]) (by kernel_rfl) (by kernel_rfl) (.cons (df h144) .nil) q
inductive G_ringref3_Unruns_L3_R where
  | x0 (v_x148 : Int)
  | x1 (v_w163 : (List Int))
def G_ringref3_Unruns_L3_ex : G_ringref3_Unruns_L3_R → Ex
  | .x0 _ => .ret
  | .x1 _ => .exit 0
def G_ringref3_Unruns_L3_st (v_l129 : (List (Fin 2 → Int))) : G_ringref3_Unruns_L3_R → PS
  | .x0 v_x148 => ⟨[dd, dd, .d (vnil), .d (.v (.int .i64 v_x148)), dd, dd, dd, dd, dd, dd, dd, dd, dd, dd, dd, dd, dd, dd, dd, dd, dd, dd, dd, dd, dd, dd, dd, dd, dd, dd, dd, dd, dd, dd, dd, dd, dd, dd, dd, dd, dd, dd, dd, dd, dd, dd, dd, dd, dd, dd, dd, dd, dd, dd, dd, dd, dd, dd, dd, dd, dd, dd, dd, dd, dd, dd, dd, dd, dd], []⟩
  | .x1 v_w163 => ⟨[dd, dd, dd, dd, .srf 0, dd, dd, dd, dd, dd, dd, dd, dd, dd, dd, dd, dd, dd, dd, dd, dd, dd, dd, dd, dd, dd, dd, dd, dd, dd, dd, dd, dd, dd, dd, dd, dd, dd, dd, dd, dd, dd, dd, dd, dd, dd, dd, dd, dd, dd, dd, dd, dd, dd, dd, dd, dd, dd, dd, dd, dd, dd, dd, dd, dd, dd, dd, dd, dd], [.row 3 1 (v_w163.map (eI .i64))]⟩
def G_ringref3_Unruns_L3_hd (v_l129 : (List (Fin 2 → Int))) (v_x130 : Int) (v_w131 : (List Int)) : PS := ⟨[dd, dd, dd, dd, .srf 0, dd, dd, dd, .d (.sl (v_l129.map (fun x => PV.agg [.v (.int .i64 (x 0)), .v (.int .i64 (x 1))]))), .d (.v (.int .i64 (v_l129.length : Int))), .d (.v (.int .i64 v_x130)), dd, dd, dd, dd, dd, dd, dd, dd, dd, dd, dd, dd, dd, dd, dd, dd, dd, dd, dd, dd, dd, dd, dd, dd, dd, dd, dd, dd, dd, dd, dd, dd, dd, dd, dd, dd, dd, dd, dd, dd, dd, dd, dd, dd, dd, dd, dd, dd, dd, dd, dd, dd, dd, dd, dd, dd, dd, dd], [.row 3 1 (v_w131.map (eI .i64))]⟩
def G_ringref3_Unruns_L3 (n : Nat) (v_l129 : (List (Fin 2 → Int))) : Nat → Int → (List Int) → Option G_ringref3_Unruns_L3_R
  | 0, _, _ => none
  | k + 1, v_x130, v_w131 =>
    if v_x130 < (v_l129.length : Int) then
     (getI v_l129 v_x130).bind fun (v_y132 : (Fin 2 → Int)) =>
     (G_ringref3_Unruns_C1 n v_l129 v_x130 v_w131 v_y132).bind fun v_o145 => match v_o145 with
     | .x0 v_z146 v_z147 =>
       if v_z146 = true then
        some (.x0 1)
       else
        (G_ringref3_Unruns_L2 n v_l129 v_x130 v_y132 n 0 v_z147).bind fun v_o160 => match v_o160 with
        | .x0 v_z161 =>
          if (v_z161.length : Int) > 8 then
           some (.x0 2)
          else
           G_ringref3_Unruns_L3 n v_l129 k (wi .i64 (v_x130 + 1)) v_z161
    else
     some (.x1 v_w131)
theorem G_ringref3_Unruns_L3_ok {Fi : Ex → PS → Prop} (hF : KC 69 Fi) (ks : List Fr) (n : Nat) (v_l129 : (List (Fin 2 → Int)))  : ∀ (k : Nat) (v_x130 : Int) (v_w131 : (List Int)) (o : G_ringref3_Unruns_L3_R), G_ringref3_Unruns_L3 n v_l129 k v_x130 v_w131 = some o → RunE Try.prog 69 Fi ks (G_ringref3_Unruns_L3_ex o) (G_ringref3_Unruns_L3_st v_l129 o) → RunE Try.prog 69 Fi (.l k (cP (cB (cR (cL (cR (cR (bodyOf Try.f68))))))) :: ks) .normal (G_ringref3_Unruns_L3_hd v_l129 v_x130 v_w131)
  | 0, v_x130, v_w131, o, h, q => by rw [G_ringref3_Unruns_L3] at h; cases h
  | k + 1, v_x130, v_w131, o, h, q => by
    rw [G_ringref3_Unruns_L3] at h
    by_cases h130 : v_x130 < (v_l129.length : Int)
    · rw [if_pos h130] at h
      obtain ⟨v_y132, h131, h⟩ := bind_some h
      obtain ⟨v_o145, h142, h⟩ := bind_some h
      refine pkk_sound TTok mix hF 12 (hs := [.t true, .y ((fun x => PV.agg [.v (.int .i64 (x 0)), .v (.int .i64 (x 1))]) v_y132), .c]) (ts := []) (s := [0, 10]) (l := [4, 6, 8, 9, 10]) (by kernel_rfl) (by kernel_rfl) (.cons (dt h130) (.cons (getI_ob (f := (fun x => PV.agg [.v (.int .i64 (x 0)), .v (.int .i64 (x 1))])) h131) (.cons (show 0 + 2 ≤ 2 by decide) .nil))) (G_ringref3_Unruns_C1_ok hF (.s (cR (cL (cR (cB (cL (cR (cR (cP (cB (cR (cL (cR (cR (bodyOf Try.f68)))))))))))))) :: .s (cR (cR (cB (cL (cR (cR (cP (cB (cR (cL (cR (cR (bodyOf Try.f68))))))))))))) :: .b 1 :: .s (cR (cR (cR (cP (cB (cR (cL (cR (cR (bodyOf Try.f68)))))))))) :: .l k (cP (cB (cR (cL (cR (cR (bodyOf Try.f68))))))) :: ks) n v_l129 v_x130 v_w131 v_y132 _ h142 ?_)
      cases v_o145 with
      | x0 v_z146 v_z147 =>
        try dsimp only at h
        by_cases h143 : v_z146 = true
        · rw [if_pos h143] at h
          cases h
          exact pkk_sound TTok mix hF 8 (hs := [.t true]) (ts := []) (s := []) (l := [2, 3]) (by kernel_rfl) (by kernel_rfl) (.cons h143 .nil) q
        · rw [if_neg h143] at h
          obtain ⟨v_o160, h157, h⟩ := bind_some h
          refine pkk_sound TTok mix hF 7 (hs := [.t false, .c, .n n]) (ts := []) (s := [0, 1]) (l := [4, 6, 8, 9, 10, 46, 47]) (by kernel_rfl) (by kernel_rfl) (.cons (vf h143) (.cons (show (0 : Int) ≤ 1 ∧ (1 : Int) < 2 by decide) .nil)) (G_ringref3_Unruns_L2_ok hF (.b 2 :: .s (cR (cR (cR (cB (cL (cR (cR (cP (cB (cR (cL (cR (cR (bodyOf Try.f68)))))))))))))) :: .b 1 :: .s (cR (cR (cR (cP (cB (cR (cL (cR (cR (bodyOf Try.f68)))))))))) :: .l k (cP (cB (cR (cL (cR (cR (bodyOf Try.f68))))))) :: ks) n v_l129 v_x130 v_y132 n 0 v_z147 _ h157 ?_)
          cases v_o160 with
          | x0 v_z161 =>
            try dsimp only at h
            by_cases h158 : (v_z161.length : Int) > 8
            · rw [if_pos h158] at h
              cases h
              exact pkk_sound TTok mix hF 10 (hs := [.u (.d (.v (.int .i64 (v_z161.length : Int)))), .t true]) (ts := []) (s := []) (l := [2, 3]) (by kernel_rfl) (by kernel_rfl) (.cons (len_ob (f := (eI .i64)) (l := v_z161)) (.cons (dt h158) .nil)) q
            · rw [if_neg h158] at h
              exact pkk_sound TTok mix hF 7 (hs := [.u (.d (.v (.int .i64 (v_z161.length : Int)))), .t false]) (ts := []) (s := [0]) (l := [4, 8, 9, 10]) (by kernel_rfl) (by kernel_rfl) (.cons (len_ob (f := (eI .i64)) (l := v_z161)) (.cons (df h158) .nil)) (G_ringref3_Unruns_L3_ok hF ks n v_l129 k (wi .i64 (v_x130 + 1)) v_z161 _ h q)
    · rw [if_neg h130] at h
      cases h
      exact pkk_sound TTok mix hF 8 (hs := [.t false]) (ts := []) (s := [0]) (l := [4]) (by kernel_rfl) (by kernel_rfl) (.cons (df h130) .nil) q
/- ringhall/ringref3.Unruns -/
def G_ringref3_Unruns (n : Nat) (v_l129 : (List (Fin 2 → Int))) : Option ((List Int) × Int) :=
  (G_ringref3_Unruns_L3 n v_l129 n 0 ([] : List Int)).bind fun v_o164 => match v_o164 with
  | .x0 v_z165 =>
    some (([] : (List Int)), v_z165)
  | .x1 v_z166 =>
    some (v_z166, 0)
theorem G_ringref3_Unruns_ok (n : Nat) (v_l129 : (List (Fin 2 → Int))) (r : (List Int) × Int) (h : G_ringref3_Unruns n v_l129 = some r) : Ret Try.prog 68 [(eL (fun x => PV.agg [.v (.int .i64 (x 0)), .v (.int .i64 (x 1))])) v_l129] (.tup [(eL (eI .i64)) r.1, (eI .i64) r.2]) := by
  refine ret_run (n := 69) (fn := Try.f68) (c := bodyOf Try.f68) (by kernel_rfl) (by kernel_rfl) (by kernel_rfl) (by kernel_rfl) ?_
  have hF : KC 69 (FinR Try.prog Try.f68 (.tup [(eL (eI .i64)) r.1, (eI .i64) r.2])) := FinR.kc' (by kernel_rfl)
  unfold G_ringref3_Unruns at h
  obtain ⟨v_o164, h159, h⟩ := bind_some h
  refine pkk_sound TTok mix hF 9 (hs := [.u (.d (.v (.int .i64 (v_l129.length : Int)))), .n n]) (ts := [(4, 3, 1)]) (s := [18]) (l := [4, 8, 9, 10]) (by kernel_rfl) (by kernel_rfl) (.cons (len_ob (f := (fun x => PV.agg [.v (.int .i64 (x 0)), .v (.int .i64 (x 1))])) (l := v_l129)) .nil) (G_ringref3_Unruns_L3_ok hF (.b 0 :: .s (cR (cR (cR (bodyOf Try.f68)))) :: []) n v_l129 n 0 ([] : List Int) _ h159 ?_)
  cases v_o164 with
  | x0 v_z165 =>
    try dsimp only at h
    obtain rfl := Option.some.inj h
    exact pend_sound TTok mix 2 (hs := []) (by kernel_rfl) (by kernel_rfl) (by kernel_rfl) .nil
  | x1 v_z166 =>
    try dsimp only at h
    obtain rfl := Option.some.inj h
    exact pend_sound TTok mix 4 (hs := []) (by kernel_rfl) (by kernel_rfl) (by kernel_rfl) .nil
inductive G_extent_Unpack_L1_R where
  | x0 (v_w179 : (List S_extent_Ext))
def G_extent_Unpack_L1_ex : G_extent_Unpack_L1_R → Ex
  | .x0 _ => .exit 0
def G_extent_Unpack_L1_st (v_b168 : (List Int)) : G_extent_Unpack_L1_R → PS
  | .x0 v_w179 => ⟨[.d (.sl (v_b168.map (eI .u8))), dd, dd, dd, .srf 0, dd, dd, dd, dd, dd, dd, dd, dd, dd, dd, dd, dd, dd, dd, dd, dd, dd, dd, dd, dd, dd, dd, dd, dd, dd, dd, dd, dd, dd, dd, dd, dd, dd, dd, dd, dd, dd, dd, dd, dd, dd, dd, dd, dd, dd, dd, dd, dd, dd, dd, dd, dd, dd, dd, dd, dd, dd, dd], [.row 229 2 (v_w179.map eS_extent_Ext)]⟩
def G_extent_Unpack_L1_hd (v_b168 : (List Int)) (v_i169 : Int) (v_w170 : (List S_extent_Ext)) : PS := ⟨[.d (.sl (v_b168.map (eI .u8))), dd, dd, dd, .srf 0, .d (.v (.int .i64 v_i169)), dd, dd, dd, dd, dd, dd, dd, dd, dd, dd, dd, dd, dd, dd, dd, dd, dd, dd, dd, dd, dd, dd, dd, dd, dd, dd, dd, dd, dd, dd, dd, dd, dd, dd, dd, dd, dd, dd, dd, dd, dd, dd, dd, dd, dd, dd, dd, dd, dd, dd, dd, dd, dd, dd, dd, dd, dd], [.row 229 2 (v_w170.map eS_extent_Ext)]⟩
def G_extent_Unpack_L1 (n : Nat) (v_b168 : (List Int)) : Nat → Int → (List S_extent_Ext) → Option G_extent_Unpack_L1_R
  | 0, _, _ => none
  | k + 1, v_i169, v_w170 =>
    if v_i169 < (v_b168.length : Int) then
     (getI v_b168 (wi .i64 (v_i169 + 1))).bind fun (v_y172 : Int) =>
     if v_y172 > 0 then
      (getI v_b168 v_i169).bind fun (v_y176 : Int) =>
      (getI v_b168 (wi .i64 (v_i169 + 1))).bind fun (v_y177 : Int) =>
      (app 16 v_w170 ([(S_extent_Ext.mk (wi .i64 v_y176) (wi .i64 v_y177))])).bind fun (v_a178 : (List S_extent_Ext)) =>
      G_extent_Unpack_L1 n v_b168 k (wi .i64 (v_i169 + 2)) v_a178
     else
      some (.x0 v_w170)
    else
     some (.x0 v_w170)
theorem G_extent_Unpack_L1_ok {Fi : Ex → PS → Prop} (hF : KC 63 Fi) (ks : List Fr) (n : Nat) (v_b168 : (List Int))  : ∀ (k : Nat) (v_i169 : Int) (v_w170 : (List S_extent_Ext)) (o : G_extent_Unpack_L1_R), G_extent_Unpack_L1 n v_b168 k v_i169 v_w170 = some o → RunE Try.prog 63 Fi ks (G_extent_Unpack_L1_ex o) (G_extent_Unpack_L1_st v_b168 o) → RunE Try.prog 63 Fi (.l k (cP (cB (cR (cL (cR (cR (cR (bodyOf Try.f70)))))))) :: ks) .normal (G_extent_Unpack_L1_hd v_b168 v_i169 v_w170)
  | 0, v_i169, v_w170, o, h, q => by rw [G_extent_Unpack_L1] at h; cases h
  | k + 1, v_i169, v_w170, o, h, q => by
    rw [G_extent_Unpack_L1] at h
    by_cases h164 : v_i169 < (v_b168.length : Int)
    · rw [if_pos h164] at h
      obtain ⟨v_y172, h165, h⟩ := bind_some h
      by_cases h166 : v_y172 > 0
      · rw [if_pos h166] at h
        obtain ⟨v_y176, h170, h⟩ := bind_some h
        obtain ⟨v_y177, h171, h⟩ := bind_some h
        obtain ⟨v_a178, h172, h⟩ := bind_some h
        exact pkk_sound TTok mix hF 11 (hs := [.u (.d (.v (.int .i64 (v_b168.length : Int)))), .t true, .c, .c, .c, .y ((eI .u8) v_y172), .c, .c, .c, .t true, .y ((eI .u8) v_y176), .c, .y ((eI .u8) v_y177), .c, .bd, .w (v_a178.map eS_extent_Ext)]) (ts := []) (s := [79]) (l := [0, 4, 5]) (by kernel_rfl) (by kernel_rfl) (.cons (len_ob (f := (eI .u8)) (l := v_b168)) (.cons (dt h164) (.cons (getI_ob (f := (eI .u8)) h165) (.cons (dt h166) (.cons (getI_ob (f := (eI .u8)) h170) (.cons (getI_ob (f := (eI .u8)) h171) (.cons (app_ob (f := eS_extent_Ext) (s := 2) h172 (fun _ => rfl)).1 (.cons (app_ob (f := eS_extent_Ext) (s := 2) h172 (fun _ => rfl)).2.1 (.cons (app_ob (f := eS_extent_Ext) (s := 2) h172 (fun _ => rfl)).2.2.1 (.cons (app_ob (f := eS_extent_Ext) (s := 2) h172 (fun _ => rfl)).2.2.2 .nil)))))))))) (G_extent_Unpack_L1_ok hF ks n v_b168 k (wi .i64 (v_i169 + 2)) v_a178 _ h q)
      · rw [if_neg h166] at h
        cases h
        exact pkk_sound TTok mix hF 8 (hs := [.u (.d (.v (.int .i64 (v_b168.length : Int)))), .t true, .c, .c, .c, .y ((eI .u8) v_y172), .c, .c, .c, .t false]) (ts := []) (s := [0]) (l := [0, 4]) (by kernel_rfl) (by kernel_rfl) (.cons (len_ob (f := (eI .u8)) (l := v_b168)) (.cons (dt h164) (.cons (getI_ob (f := (eI .u8)) h165) (.cons (df h166) .nil)))) q
    · rw [if_neg h164] at h
      cases h
      exact pkk_sound TTok mix hF 8 (hs := [.u (.d (.v (.int .i64 (v_b168.length : Int)))), .t false, .c, .c, .c, .c, .c, .c]) (ts := []) (s := [0]) (l := [0, 4]) (by kernel_rfl) (by kernel_rfl) (.cons (len_ob (f := (eI .u8)) (l := v_b168)) (.cons (df h164) .nil)) q
/- ringhall/extent.Unpack -/
def G_extent_Unpack (n : Nat) (v_b168 : (List Int)) : Option ((List Int) × Int) :=
  if (v_b168.length : Int) = 16 then
   (G_extent_Unpack_L1 n v_b168 n 0 ([] : List S_extent_Ext)).bind fun v_o181 => match v_o181 with
   | .x0 v_z182 =>
     (G_extent_Points n v_z182).bind fun (v_r183 : ((List Int) × Int)) =>
     if v_r183.2 = 0 then
      (G_extent_Pack n v_r183.1).bind fun (v_r184 : ((List Int) × Int)) =>
      if v_r184.2 = 0 then
       if (!((b2s v_r184.1).toList == (b2s v_b168).toList)) = true then
        some (([] : (List Int)), 3)
       else
        some (v_r183.1, 0)
      else
       some (([] : (List Int)), 3)
     else
      some (([] : (List Int)), 3)
  else
   some (([] : (List Int)), 3)
theorem G_extent_Unpack_ok (n : Nat) (v_b168 : (List Int)) (r : (List Int) × Int) (h : G_extent_Unpack n v_b168 = some r) : Ret Try.prog 70 [(eL (eI .u8)) v_b168] (.tup [(eL (eI .i64)) r.1, (eI .i64) r.2]) := by
  refine ret_run (n := 63) (fn := Try.f70) (c := bodyOf Try.f70) (by kernel_rfl) (by kernel_rfl) (by kernel_rfl) (by kernel_rfl) ?_
  have hF : KC 63 (FinR Try.prog Try.f70 (.tup [(eL (eI .i64)) r.1, (eI .i64) r.2])) := FinR.kc' (by kernel_rfl)
  unfold G_extent_Unpack at h
  by_cases h161 : (v_b168.length : Int) = 16
  · rw [if_pos h161] at h
    obtain ⟨v_o181, h173, h⟩ := bind_some h
    refine pkk_sound TTok mix hF 14 (hs := [.u (.d (.v (.int .i64 (v_b168.length : Int)))), .t false, .n n]) (ts := [(4, 229, 2)]) (s := [21]) (l := [0, 4, 5]) (by kernel_rfl) (by kernel_rfl) (.cons (len_ob (f := (eI .u8)) (l := v_b168)) (.cons (nf h161) .nil)) (G_extent_Unpack_L1_ok hF (.b 0 :: .s (cR (cR (cR (cR (bodyOf Try.f70))))) :: []) n v_b168 n 0 ([] : List S_extent_Ext) _ h173 ?_)
    cases v_o181 with
    | x0 v_z182 =>
      try dsimp only at h
      obtain ⟨v_r183, h174, h⟩ := bind_some h
      by_cases h175 : v_r183.2 = 0
      · rw [if_pos h175] at h
        obtain ⟨v_r184, h176, h⟩ := bind_some h
        by_cases h178 : v_r184.2 = 0
        · rw [if_pos h178] at h
          by_cases h179 : (!((b2s v_r184.1).toList == (b2s v_b168).toList)) = true
          · rw [if_pos h179] at h
            obtain rfl := Option.some.inj h
            exact pend_sound TTok mix 19 (hs := [.dl 2, .fz 0, .r (.tup [(eL (eI .i64)) v_r183.1, (eI .i64) v_r183.2]), .t false, .r (.tup [(eL (eI .u8)) v_r184.1, (eI .i64) v_r184.2]), .t false, .c, .e 61 [] (.d (.v (.string (b2s v_r184.1)))) [], .c, .c, .e 67 [] (.d (.v (.string (b2s v_b168)))) [], .c, .t true]) (by kernel_rfl) (by kernel_rfl) (by kernel_rfl) (.cons (G_extent_Points_ok n v_z182 _ h174) (.cons (nf h175) (.cons (G_extent_Pack_ok n v_r183.1 _ h176) (.cons (nf h178) (.cons (xb2sD (L := v_r184.1) (P := Try.prog) (T := TT) (src := 107) (dst := 9) (e := 5) (s := 1) (x := (.tmp 56)) (by kernel_rfl) (by kernel_rfl) (by kernel_rfl)) (.cons (xb2sD (L := v_b168) (P := Try.prog) (T := TT) (src := 107) (dst := 9) (e := 5) (s := 1) (x := (.tmp 58)) (by kernel_rfl) (by kernel_rfl) (by kernel_rfl)) (.cons h179 .nil)))))))
          · rw [if_neg h179] at h
            obtain rfl := Option.some.inj h
            exact pend_sound TTok mix 19 (hs := [.dl 2, .fz 0, .r (.tup [(eL (eI .i64)) v_r183.1, (eI .i64) v_r183.2]), .t false, .r (.tup [(eL (eI .u8)) v_r184.1, (eI .i64) v_r184.2]), .t false, .c, .e 61 [] (.d (.v (.string (b2s v_r184.1)))) [], .c, .c, .e 67 [] (.d (.v (.string (b2s v_b168)))) [], .c, .t false]) (by kernel_rfl) (by kernel_rfl) (by kernel_rfl) (.cons (G_extent_Points_ok n v_z182 _ h174) (.cons (nf h175) (.cons (G_extent_Pack_ok n v_r183.1 _ h176) (.cons (nf h178) (.cons (xb2sD (L := v_r184.1) (P := Try.prog) (T := TT) (src := 107) (dst := 9) (e := 5) (s := 1) (x := (.tmp 56)) (by kernel_rfl) (by kernel_rfl) (by kernel_rfl)) (.cons (xb2sD (L := v_b168) (P := Try.prog) (T := TT) (src := 107) (dst := 9) (e := 5) (s := 1) (x := (.tmp 58)) (by kernel_rfl) (by kernel_rfl) (by kernel_rfl)) (.cons (vf h179) .nil)))))))
        · rw [if_neg h178] at h
          obtain rfl := Option.some.inj h
          exact pend_sound TTok mix 19 (hs := [.dl 2, .fz 0, .r (.tup [(eL (eI .i64)) v_r183.1, (eI .i64) v_r183.2]), .t false, .r (.tup [(eL (eI .u8)) v_r184.1, (eI .i64) v_r184.2]), .t true, .c, .c, .c, .c, .c]) (by kernel_rfl) (by kernel_rfl) (by kernel_rfl) (.cons (G_extent_Points_ok n v_z182 _ h174) (.cons (nf h175) (.cons (G_extent_Pack_ok n v_r183.1 _ h176) (.cons (nt h178) .nil))))
      · rw [if_neg h175] at h
        obtain rfl := Option.some.inj h
        exact pend_sound TTok mix 12 (hs := [.dl 2, .fz 0, .r (.tup [(eL (eI .i64)) v_r183.1, (eI .i64) v_r183.2]), .t true]) (by kernel_rfl) (by kernel_rfl) (by kernel_rfl) (.cons (G_extent_Points_ok n v_z182 _ h174) (.cons (nt h175) .nil))
  · rw [if_neg h161] at h
    obtain rfl := Option.some.inj h
    exact pend_sound TTok mix 10 (hs := [.u (.d (.v (.int .i64 (v_b168.length : Int)))), .t true]) (by kernel_rfl) (by kernel_rfl) (by kernel_rfl) (.cons (len_ob (f := (eI .u8)) (l := v_b168)) (.cons (nt h161) .nil))
inductive G_ringref3_Runs_C1_R where
  | x0 (v_x218 : Bool) (v_w219 : (List (Fin 2 → Int)))
def G_ringref3_Runs_C1_ex : G_ringref3_Runs_C1_R → Ex
  | .x0 _ _ => .normal
def G_ringref3_Runs_C1_st (v_p203 : (List Int)) (v_i204 : Int) (v_k206 : Int) (v_w207 : (List (Fin 2 → Int))) : G_ringref3_Runs_C1_R → PS
  | .x0 v_x218 v_w219 => ⟨[.d (.sl (v_p203.map (eI .i64))), dd, dd, .srf 0, .d (.v (.int .i64 v_i204)), .d (.v (.int .i64 v_k206)), dd, dd, dd, dd, dd, dd, dd, dd, dd, dd, dd, dd, dd, dd, dd, dd, dd, dd, dd, dd, dd, dd, dd, dd, dd, dd, dd, dd, dd, dd, dd, dd, dd, dd, dd, dd, dd, dd, dd, dd, dd, dd, dd, dd, dd, .d (.v (.bool v_x218)), dd, dd, dd, dd, dd, dd, dd, dd, dd, dd, dd, dd, dd, dd, dd], [.row 121 2 (v_w219.map (fun x => PV.agg [.v (.int .i64 (x 0)), .v (.int .i64 (x 1))]))]⟩
def G_ringref3_Runs_C1_hd (v_p203 : (List Int)) (v_i204 : Int) (v_k206 : Int) (v_w207 : (List (Fin 2 → Int)))  : PS := ⟨[.d (.sl (v_p203.map (eI .i64))), dd, dd, .srf 0, .d (.v (.int .i64 v_i204)), .d (.v (.int .i64 v_k206)), dd, dd, dd, dd, dd, dd, dd, dd, dd, dd, dd, dd, dd, dd, dd, dd, dd, dd, dd, dd, dd, dd, dd, dd, dd, dd, dd, dd, dd, dd, dd, dd, dd, dd, dd, dd, dd, dd, dd, dd, dd, dd, dd, dd, dd, dd, dd, dd, dd, dd, dd, dd, dd, dd, dd, dd, dd, dd, dd, dd, dd], [.row 121 2 (v_w207.map (fun x => PV.agg [.v (.int .i64 (x 0)), .v (.int .i64 (x 1))]))]⟩
def G_ringref3_Runs_C1 (n : Nat) (v_p203 : (List Int)) (v_i204 : Int) (v_k206 : Int) (v_w207 : (List (Fin 2 → Int))) : Option G_ringref3_Runs_C1_R :=
  if v_k206 < (v_p203.length : Int) then
   (getI v_p203 v_i204).bind fun (v_y216 : Int) =>
   if v_y216 = 0 then
    (getI v_p203 v_k206).bind fun (v_y217 : Int) =>
    if v_y217 = 0 then
     some (.x0 true v_w207)
    else
     (getI v_p203 v_i204).bind fun (v_y220 : Int) =>
     if v_y220 = 0 then
      some (.x0 false v_w207)
     else
      (getI v_p203 v_k206).bind fun (v_y221 : Int) =>
      (getI v_p203 v_i204).bind fun (v_y222 : Int) =>
      some (.x0 (v_y221 == (wi .i64 ((wi .i64 (v_y222 + v_k206)) - v_i204))) v_w207)
   else
    (getI v_p203 v_i204).bind fun (v_y227 : Int) =>
    if v_y227 = 0 then
     some (.x0 false v_w207)
    else
     (getI v_p203 v_k206).bind fun (v_y228 : Int) =>
     (getI v_p203 v_i204).bind fun (v_y229 : Int) =>
     some (.x0 (v_y228 == (wi .i64 ((wi .i64 (v_y229 + v_k206)) - v_i204))) v_w207)
  else
   some (.x0 false v_w207)
theorem G_ringref3_Runs_C1_ok {Fi : Ex → PS → Prop} (hF : KC 67 Fi) (ks : List Fr) (n : Nat) (v_p203 : (List Int)) (v_i204 : Int) (v_k206 : Int) (v_w207 : (List (Fin 2 → Int)))  (o : G_ringref3_Runs_C1_R) (h : G_ringref3_Runs_C1 n v_p203 v_i204 v_k206 v_w207 = some o) (q : RunE Try.prog 67 Fi ks (G_ringref3_Runs_C1_ex o) (G_ringref3_Runs_C1_st v_p203 v_i204 v_k206 v_w207 o)) : RunE Try.prog 67 Fi (.s (cL (cL (cP (cB (cL (cR (cB (cR (cP (cB (cR (cL (cR (cR (bodyOf Try.f74))))))))))))))) :: ks) .normal (G_ringref3_Runs_C1_hd v_p203 v_i204 v_k206 v_w207) := by
  unfold G_ringref3_Runs_C1 at h
  by_cases h210 : v_k206 < (v_p203.length : Int)
  · rw [if_pos h210] at h
    obtain ⟨v_y216, h211, h⟩ := bind_some h
    by_cases h212 : v_y216 = 0
    · rw [if_pos h212] at h
      obtain ⟨v_y217, h213, h⟩ := bind_some h
      by_cases h214 : v_y217 = 0
      · rw [if_pos h214] at h
        cases h
        exact pkk_sound TTok mix hF 1 (hs := [.u (.d (.v (.int .i64 (v_p203.length : Int)))), .t true, .c, .c, .y ((eI .i64) v_y216), .c, .c, .c, .c, .t true, .c, .c, .y ((eI .i64) v_y217), .c, .c, .c, .c, .c, .t true, .c, .c, .c, .c, .c, .c, .c]) (ts := []) (s := [0]) (l := [0, 3, 4, 5, 51]) (by kernel_rfl) (by kernel_rfl) (.cons (len_ob (f := (eI .i64)) (l := v_p203)) (.cons (dt h210) (.cons (getI_ob (f := (eI .i64)) h211) (.cons (bt h212) (.cons (getI_ob (f := (eI .i64)) h213) (.cons (bt h214) .nil)))))) q
      · rw [if_neg h214] at h
        obtain ⟨v_y220, h215, h⟩ := bind_some h
        by_cases h216 : v_y220 = 0
        · rw [if_pos h216] at h
          cases h
          exact pkk_sound TTok mix hF 1 (hs := [.u (.d (.v (.int .i64 (v_p203.length : Int)))), .t true, .c, .c, .y ((eI .i64) v_y216), .c, .c, .c, .c, .t true, .c, .c, .y ((eI .i64) v_y217), .c, .c, .c, .c, .c, .t false, .c, .c, .y ((eI .i64) v_y220), .c, .c, .c, .c, .t false, .c, .c, .c, .c, .c, .c, .c, .c, .c, .c, .c, .c, .c, .c]) (ts := []) (s := [0]) (l := [0, 3, 4, 5, 51]) (by kernel_rfl) (by kernel_rfl) (.cons (len_ob (f := (eI .i64)) (l := v_p203)) (.cons (dt h210) (.cons (getI_ob (f := (eI .i64)) h211) (.cons (bt h212) (.cons (getI_ob (f := (eI .i64)) h213) (.cons (bf h214) (.cons (getI_ob (f := (eI .i64)) h215) (.cons (nf h216) .nil)))))))) q
        · rw [if_neg h216] at h
          obtain ⟨v_y221, h217, h⟩ := bind_some h
          obtain ⟨v_y222, h218, h⟩ := bind_some h
          cases h
          exact pkk_sound TTok mix hF 1 (hs := [.u (.d (.v (.int .i64 (v_p203.length : Int)))), .t true, .c, .c, .y ((eI .i64) v_y216), .c, .c, .c, .c, .t true, .c, .c, .y ((eI .i64) v_y217), .c, .c, .c, .c, .c, .t false, .c, .c, .y ((eI .i64) v_y220), .c, .c, .c, .c, .t true, .c, .c, .y ((eI .i64) v_y221), .c, .c, .c, .c, .c, .y ((eI .i64) v_y222), .c, .c, .c, .c, .c, .c, .c, .c, .c]) (ts := []) (s := [0]) (l := [0, 3, 4, 5, 51]) (by kernel_rfl) (by kernel_rfl) (.cons (len_ob (f := (eI .i64)) (l := v_p203)) (.cons (dt h210) (.cons (getI_ob (f := (eI .i64)) h211) (.cons (bt h212) (.cons (getI_ob (f := (eI .i64)) h213) (.cons (bf h214) (.cons (getI_ob (f := (eI .i64)) h215) (.cons (nt h216) (.cons (getI_ob (f := (eI .i64)) h217) (.cons (getI_ob (f := (eI .i64)) h218) .nil)))))))))) q
    · rw [if_neg h212] at h
      obtain ⟨v_y227, h219, h⟩ := bind_some h
      by_cases h220 : v_y227 = 0
      · rw [if_pos h220] at h
        cases h
        exact pkk_sound TTok mix hF 1 (hs := [.u (.d (.v (.int .i64 (v_p203.length : Int)))), .t true, .c, .c, .y ((eI .i64) v_y216), .c, .c, .c, .c, .t false, .c, .c, .c, .c, .c, .c, .c, .c, .c, .y ((eI .i64) v_y227), .c, .c, .c, .c, .t false, .c, .c, .c, .c, .c, .c, .c, .c, .c, .c, .c, .c, .c, .c]) (ts := []) (s := [0]) (l := [0, 3, 4, 5, 51]) (by kernel_rfl) (by kernel_rfl) (.cons (len_ob (f := (eI .i64)) (l := v_p203)) (.cons (dt h210) (.cons (getI_ob (f := (eI .i64)) h211) (.cons (bf h212) (.cons (getI_ob (f := (eI .i64)) h219) (.cons (nf h220) .nil)))))) q
      · rw [if_neg h220] at h
        obtain ⟨v_y228, h221, h⟩ := bind_some h
        obtain ⟨v_y229, h222, h⟩ := bind_some h
        cases h
        exact pkk_sound TTok mix hF 1 (hs := [.u (.d (.v (.int .i64 (v_p203.length : Int)))), .t true, .c, .c, .y ((eI .i64) v_y216), .c, .c, .c, .c, .t false, .c, .c, .c, .c, .c, .c, .c, .c, .c, .y ((eI .i64) v_y227), .c, .c, .c, .c, .t true, .c, .c, .y ((eI .i64) v_y228), .c, .c, .c, .c, .c, .y ((eI .i64) v_y229), .c, .c, .c, .c, .c, .c, .c, .c, .c]) (ts := []) (s := [0]) (l := [0, 3, 4, 5, 51]) (by kernel_rfl) (by kernel_rfl) (.cons (len_ob (f := (eI .i64)) (l := v_p203)) (.cons (dt h210) (.cons (getI_ob (f := (eI .i64)) h211) (.cons (bf h212) (.cons (getI_ob (f := (eI .i64)) h219) (.cons (nt h220) (.cons (getI_ob (f := (eI .i64)) h221) (.cons (getI_ob (f := (eI .i64)) h222) .nil)))))))) q
  · rw [if_neg h210] at h
    cases h
    exact pkk_sound TTok mix hF 1 (hs := [.u (.d (.v (.int .i64 (v_p203.length : Int)))), .t false, .c, .c, .c, .c, .c, .c, .c, .c]) (ts := []) (s := [0]) (l := [0, 3, 4, 5, 51]) (by kernel_rfl) (by kernel_rfl) (.cons (len_ob (f := (eI .i64)) (l := v_p203)) (.cons (df h210) .nil)) q
inductive G_ringref3_Runs_L2_R where
  | x0 (v_k239 : Int) (v_w240 : (List (Fin 2 → Int)))
def G_ringref3_Runs_L2_ex : G_ringref3_Runs_L2_R → Ex
  | .x0 _ _ => .exit 2
def G_ringref3_Runs_L2_st (v_p203 : (List Int)) (v_i204 : Int) : G_ringref3_Runs_L2_R → PS
  | .x0 v_k239 v_w240 => ⟨[.d (.sl (v_p203.map (eI .i64))), dd, dd, .srf 0, .d (.v (.int .i64 v_i204)), .d (.v (.int .i64 v_k239)), dd, dd, dd, dd, dd, dd, dd, dd, dd, dd, dd, dd, dd, dd, dd, dd, dd, dd, dd, dd, dd, dd, dd, dd, dd, dd, dd, dd, dd, dd, dd, dd, dd, dd, dd, dd, dd, dd, dd, dd, dd, dd, dd, dd, dd, dd, dd, dd, dd, dd, dd, dd, dd, dd, dd, dd, dd, dd, dd, dd, dd], [.row 121 2 (v_w240.map (fun x => PV.agg [.v (.int .i64 (x 0)), .v (.int .i64 (x 1))]))]⟩
def G_ringref3_Runs_L2_hd (v_p203 : (List Int)) (v_i204 : Int) (v_k206 : Int) (v_w207 : (List (Fin 2 → Int))) : PS := ⟨[.d (.sl (v_p203.map (eI .i64))), dd, dd, .srf 0, .d (.v (.int .i64 v_i204)), .d (.v (.int .i64 v_k206)), dd, dd, dd, dd, dd, dd, dd, dd, dd, dd, dd, dd, dd, dd, dd, dd, dd, dd, dd, dd, dd, dd, dd, dd, dd, dd, dd, dd, dd, dd, dd, dd, dd, dd, dd, dd, dd, dd, dd, dd, dd, dd, dd, dd, dd, dd, dd, dd, dd, dd, dd, dd, dd, dd, dd, dd, dd, dd, dd, dd, dd], [.row 121 2 (v_w207.map (fun x => PV.agg [.v (.int .i64 (x 0)), .v (.int .i64 (x 1))]))]⟩
def G_ringref3_Runs_L2 (n : Nat) (v_p203 : (List Int)) (v_i204 : Int) : Nat → Int → (List (Fin 2 → Int)) → Option G_ringref3_Runs_L2_R
  | 0, _, _ => none
  | k + 1, v_k206, v_w207 =>
    (G_ringref3_Runs_C1 n v_p203 v_i204 v_k206 v_w207).bind fun v_o236 => match v_o236 with
    | .x0 v_z237 v_z238 =>
      if v_z237 = true then
       G_ringref3_Runs_L2 n v_p203 v_i204 k (wi .i64 (v_k206 + 1)) v_z238
      else
       some (.x0 v_k206 v_z238)
theorem G_ringref3_Runs_L2_ok {Fi : Ex → PS → Prop} (hF : KC 67 Fi) (ks : List Fr) (n : Nat) (v_p203 : (List Int)) (v_i204 : Int)  : ∀ (k : Nat) (v_k206 : Int) (v_w207 : (List (Fin 2 → Int))) (o : G_ringref3_Runs_L2_R), G_ringref3_Runs_L2 n v_p203 v_i204 k v_k206 v_w207 = some o → RunE Try.prog 67 Fi ks (G_ringref3_Runs_L2_ex o) (G_ringref3_Runs_L2_st v_p203 v_i204 o) → RunE Try.prog 67 Fi (.l k (cP (cB (cL (cR (cB (cR (cP (cB (cR (cL (cR (cR (bodyOf Try.f74))))))))))))) :: ks) .normal (G_ringref3_Runs_L2_hd v_p203 v_i204 v_k206 v_w207)
  | 0, v_k206, v_w207, o, h, q => by rw [G_ringref3_Runs_L2] at h; cases h
  | k + 1, v_k206, v_w207, o, h, q => by
    rw [G_ringref3_Runs_L2] at h
    obtain ⟨v_o236, h223, h⟩ := bind_some h
    refine pkk_sound TTok mix hF 3 (hs := []) (ts := []) (s := [0]) (l := [0, 3, 4, 5]) (by kernel_rfl) (by kernel_rfl) .nil (G_ringref3_Runs_C1_ok hF (.s (cR (cL (cP (cB (cL (cR (cB (cR (cP (cB (cR (cL (cR (cR (bodyOf Try.f74))))))))))))))) :: .s (cR (cP (cB (cL (cR (cB (cR (cP (cB (cR (cL (cR (cR (bodyOf Try.f74)))))))))))))) :: .l k (cP (cB (cL (cR (cB (cR (cP (cB (cR (cL (cR (cR (bodyOf Try.f74))))))))))))) :: ks) n v_p203 v_i204 v_k206 v_w207 _ h223 ?_)
    cases v_o236 with
    | x0 v_z237 v_z238 =>
      try dsimp only at h
      by_cases h224 : v_z237 = true
      · rw [if_pos h224] at h
        exact pkk_sound TTok mix hF 5 (hs := [.t true]) (ts := []) (s := [0]) (l := [0, 3, 4, 5]) (by kernel_rfl) (by kernel_rfl) (.cons h224 .nil) (G_ringref3_Runs_L2_ok hF ks n v_p203 v_i204 k (wi .i64 (v_k206 + 1)) v_z238 _ h q)
      · rw [if_neg h224] at h
        cases h
        exact pkk_sound TTok mix hF 4 (hs := [.t false]) (ts := []) (s := [0]) (l := [0, 3, 4, 5]) (by kernel_rfl) (by kernel_rfl) (.cons (vf h224) .nil) q
inductive G_ringref3_Runs_L3_R where
  | x0 (v_w246 : (List (Fin 2 → Int)))
def G_ringref3_Runs_L3_ex : G_ringref3_Runs_L3_R → Ex
  | .x0 _ => .exit 0
def G_ringref3_Runs_L3_st (v_p203 : (List Int)) : G_ringref3_Runs_L3_R → PS
  | .x0 v_w246 => ⟨[dd, dd, dd, .srf 0, dd, dd, dd, dd, dd, dd, dd, dd, dd, dd, dd, dd, dd, dd, dd, dd, dd, dd, dd, dd, dd, dd, dd, dd, dd, dd, dd, dd, dd, dd, dd, dd, dd, dd, dd, dd, dd, dd, dd, dd, dd, dd, dd, dd, dd, dd, dd, dd, dd, dd, dd, dd, dd, dd, dd, dd, dd, dd, dd, dd, dd, dd, dd], [.row 121 2 (v_w246.map (fun x => PV.agg [.v (.int .i64 (x 0)), .v (.int .i64 (x 1))]))]⟩
def G_ringref3_Runs_L3_hd (v_p203 : (List Int)) (v_i204 : Int) (v_w205 : (List (Fin 2 → Int))) : PS := ⟨[.d (.sl (v_p203.map (eI .i64))), dd, dd, .srf 0, .d (.v (.int .i64 v_i204)), dd, dd, dd, dd, dd, dd, dd, dd, dd, dd, dd, dd, dd, dd, dd, dd, dd, dd, dd, dd, dd, dd, dd, dd, dd, dd, dd, dd, dd, dd, dd, dd, dd, dd, dd, dd, dd, dd, dd, dd, dd, dd, dd, dd, dd, dd, dd, dd, dd, dd, dd, dd, dd, dd, dd, dd, dd, dd, dd, dd, dd, dd], [.row 121 2 (v_w205.map (fun x => PV.agg [.v (.int .i64 (x 0)), .v (.int .i64 (x 1))]))]⟩
def G_ringref3_Runs_L3 (n : Nat) (v_p203 : (List Int)) : Nat → Int → (List (Fin 2 → Int)) → Option G_ringref3_Runs_L3_R
  | 0, _, _ => none
  | k + 1, v_i204, v_w205 =>
    if v_i204 < (v_p203.length : Int) then
     (G_ringref3_Runs_L2 n v_p203 v_i204 n (wi .i64 (v_i204 + 1)) v_w205).bind fun v_o241 => match v_o241 with
     | .x0 v_z242 v_z243 =>
       (getI v_p203 v_i204).bind fun (v_y244 : Int) =>
       (app 16 v_z243 ([(fun i : Fin 2 => [v_y244, (wi .i64 (v_z242 - v_i204))].get i)])).bind fun (v_a245 : (List (Fin 2 → Int))) =>
       G_ringref3_Runs_L3 n v_p203 k v_z242 v_a245
    else
     some (.x0 v_w205)
theorem G_ringref3_Runs_L3_ok {Fi : Ex → PS → Prop} (hF : KC 67 Fi) (ks : List Fr) (n : Nat) (v_p203 : (List Int))  : ∀ (k : Nat) (v_i204 : Int) (v_w205 : (List (Fin 2 → Int))) (o : G_ringref3_Runs_L3_R), G_ringref3_Runs_L3 n v_p203 k v_i204 v_w205 = some o → RunE Try.prog 67 Fi ks (G_ringref3_Runs_L3_ex o) (G_ringref3_Runs_L3_st v_p203 o) → RunE Try.prog 67 Fi (.l k (cP (cB (cR (cL (cR (cR (bodyOf Try.f74))))))) :: ks) .normal (G_ringref3_Runs_L3_hd v_p203 v_i204 v_w205)
  | 0, v_i204, v_w205, o, h, q => by rw [G_ringref3_Runs_L3] at h; cases h
  | k + 1, v_i204, v_w205, o, h, q => by
    rw [G_ringref3_Runs_L3] at h
    by_cases h196 : v_i204 < (v_p203.length : Int)
    · rw [if_pos h196] at h
      obtain ⟨v_o241, h225, h⟩ := bind_some h
      refine pkk_sound TTok mix hF 12 (hs := [.u (.d (.v (.int .i64 (v_p203.length : Int)))), .t true, .n n]) (ts := []) (s := [0]) (l := [0, 3, 4, 5]) (by kernel_rfl) (by kernel_rfl) (.cons (len_ob (f := (eI .i64)) (l := v_p203)) (.cons (dt h196) .nil)) (G_ringref3_Runs_L2_ok hF (.b 2 :: .s (cR (cR (cB (cR (cP (cB (cR (cL (cR (cR (bodyOf Try.f74))))))))))) :: .b 1 :: .l k (cP (cB (cR (cL (cR (cR (bodyOf Try.f74))))))) :: ks) n v_p203 v_i204 n (wi .i64 (v_i204 + 1)) v_w205 _ h225 ?_)
      cases v_o241 with
      | x0 v_z242 v_z243 =>
        try dsimp only at h
        obtain ⟨v_y244, h226, h⟩ := bind_some h
        obtain ⟨v_a245, h227, h⟩ := bind_some h
        exact pkk_sound TTok mix hF 5 (hs := [.y ((eI .i64) v_y244), .c, .bd, .w (v_a245.map (fun x => PV.agg [.v (.int .i64 (x 0)), .v (.int .i64 (x 1))]))]) (ts := []) (s := [31]) (l := [0, 3, 4]) (by kernel_rfl) (by kernel_rfl) (.cons (getI_ob (f := (eI .i64)) h226) (.cons (app_ob (f := (fun x => PV.agg [.v (.int .i64 (x 0)), .v (.int .i64 (x 1))])) (s := 2) h227 (fun _ => rfl)).1 (.cons (app_ob (f := (fun x => PV.agg [.v (.int .i64 (x 0)), .v (.int .i64 (x 1))])) (s := 2) h227 (fun _ => rfl)).2.1 (.cons (app_ob (f := (fun x => PV.agg [.v (.int .i64 (x 0)), .v (.int .i64 (x 1))])) (s := 2) h227 (fun _ => rfl)).2.2.1 (.cons (app_ob (f := (fun x => PV.agg [.v (.int .i64 (x 0)), .v (.int .i64 (x 1))])) (s := 2) h227 (fun _ => rfl)).2.2.2 .nil))))) (G_ringref3_Runs_L3_ok hF ks n v_p203 k v_z242 v_a245 _ h q)
    · rw [if_neg h196] at h
      cases h
      exact pkk_sound TTok mix hF 8 (hs := [.u (.d (.v (.int .i64 (v_p203.length : Int)))), .t false]) (ts := []) (s := [0]) (l := [3]) (by kernel_rfl) (by kernel_rfl) (.cons (len_ob (f := (eI .i64)) (l := v_p203)) (.cons (df h196) .nil)) q
/- ringhall/ringref3.Runs -/
def G_ringref3_Runs (n : Nat) (v_p203 : (List Int)) : Option ((List (Fin 2 → Int))) :=
  (G_ringref3_Runs_L3 n v_p203 n 0 ([] : List (Fin 2 → Int))).bind fun v_o247 => match v_o247 with
  | .x0 v_z248 =>
    some v_z248
theorem G_ringref3_Runs_ok (n : Nat) (v_p203 : (List Int)) (r : (List (Fin 2 → Int))) (h : G_ringref3_Runs n v_p203 = some r) : Ret Try.prog 74 [(eL (eI .i64)) v_p203] ((eL (fun x => PV.agg [.v (.int .i64 (x 0)), .v (.int .i64 (x 1))])) r) := by
  refine ret_run (n := 67) (fn := Try.f74) (c := bodyOf Try.f74) (by kernel_rfl) (by kernel_rfl) (by kernel_rfl) (by kernel_rfl) ?_
  have hF : KC 67 (FinR Try.prog Try.f74 ((eL (fun x => PV.agg [.v (.int .i64 (x 0)), .v (.int .i64 (x 1))])) r)) := FinR.kc' (by kernel_rfl)
  unfold G_ringref3_Runs at h
  obtain ⟨v_o247, h228, h⟩ := bind_some h
  refine pkk_sound TTok mix hF 9 (hs := [.n n]) (ts := [(3, 121, 2)]) (s := [9]) (l := [0, 3, 4]) (by kernel_rfl) (by kernel_rfl) .nil (G_ringref3_Runs_L3_ok hF (.b 0 :: .s (cR (cR (cR (bodyOf Try.f74)))) :: []) n v_p203 n 0 ([] : List (Fin 2 → Int)) _ h228 ?_)
  cases v_o247 with
  | x0 v_z248 =>
    try dsimp only at h
    obtain rfl := Option.some.inj h
    exact pend_sound TTok mix 4 (hs := []) (by kernel_rfl) (by kernel_rfl) (by kernel_rfl) .nil
def G_strings_Repeat (n : Nat) (s : ByteArray) (c : Int) : Option ByteArray := if 0 ≤ c ∧ c ≤ 9223372036854775807 ∧ s.size * c.toNat ≤ 140737488355328 then some ⟨(Lib.repeatL s.data.toList c.toNat).toArray⟩ else none
theorem G_strings_Repeat_ok (n : Nat) (s : ByteArray) (c : Int) (r : ByteArray) (h : G_strings_Repeat n s c = some r) : Ret Try.prog 138 [eS s, eI .i64 c] (eS r) := by
  unfold G_strings_Repeat at h
  split at h
  · rename_i q
    obtain ⟨q1, q2, q3⟩ := q
    obtain rfl := Option.some.inj h
    obtain ⟨c, rfl⟩ := Int.eq_ofNat_of_zero_le q1
    refine ⟨⟨Try.f138, by kernel_rfl, by kernel_rfl, by kernel_rfl⟩, fun ow w vs _ hv => ?_⟩
    simp only [RT, R, eS, eI] at hv
    obtain ⟨_, _, rfl, ⟨rfl, _⟩, _, _, rfl, ⟨rfl, _⟩, rfl⟩ := hv
    refine (Try.strings_Repeat s c w (by omega) (by simpa using q3)).mono ?_
    rintro e w' ⟨rfl, hb⟩
    exact ⟨_, rfl, hb, rfl, rfl⟩
  · cases h
inductive G_ringref3_PointsPack_L1_R where
  | x0 (v_s256 : ByteArray)
def G_ringref3_PointsPack_L1_ex : G_ringref3_PointsPack_L1_R → Ex
  | .x0 _ => .exit 0
def G_ringref3_PointsPack_L1_st (v_r249 : ((List (Fin 2 → Int)))) : G_ringref3_PointsPack_L1_R → PS
  | .x0 v_s256 => ⟨[dd, dd, dd, .d (.v (.string v_s256)), dd, dd, dd, dd, dd, dd, dd, dd, dd, dd, dd, dd, dd, dd, dd, dd, dd, dd, dd, dd, dd, dd, dd, dd, dd, dd], []⟩
def G_ringref3_PointsPack_L1_hd (v_r249 : ((List (Fin 2 → Int)))) (v_s250 : ByteArray) (v_x251 : Int) : PS := ⟨[dd, dd, dd, .d (.v (.string v_s250)), dd, dd, dd, .d (.sl (v_r249.map (fun x => PV.agg [.v (.int .i64 (x 0)), .v (.int .i64 (x 1))]))), .d (.v (.int .i64 (v_r249.length : Int))), .d (.v (.int .i64 v_x251)), dd, dd, dd, dd, dd, dd, dd, dd, dd, dd, dd, dd, dd, dd, dd, dd, dd, dd, dd, dd], []⟩
def G_ringref3_PointsPack_L1 (n : Nat) (v_r249 : ((List (Fin 2 → Int)))) : Nat → ByteArray → Int → Option G_ringref3_PointsPack_L1_R
  | 0, _, _ => none
  | k + 1, v_s250, v_x251 =>
    if v_x251 < (v_r249.length : Int) then
     (getI v_r249 v_x251).bind fun (v_y254 : (Fin 2 → Int)) =>
     (catS v_s250 (b2s ([(wi .u8 (v_y254 0)), (wi .u8 (v_y254 1))]))).bind fun (v_s255 : ByteArray) =>
     G_ringref3_PointsPack_L1 n v_r249 k v_s255 (wi .i64 (v_x251 + 1))
    else
     some (.x0 v_s250)
theorem G_ringref3_PointsPack_L1_ok {Fi : Ex → PS → Prop} (hF : KC 30 Fi) (ks : List Fr) (n : Nat) (v_r249 : ((List (Fin 2 → Int))))  : ∀ (k : Nat) (v_s250 : ByteArray) (v_x251 : Int) (o : G_ringref3_PointsPack_L1_R), G_ringref3_PointsPack_L1 n v_r249 k v_s250 v_x251 = some o → RunE Try.prog 30 Fi ks (G_ringref3_PointsPack_L1_ex o) (G_ringref3_PointsPack_L1_st v_r249 o) → RunE Try.prog 30 Fi (.l k (cP (cB (cR (cL (cR (cR (bodyOf Try.f75))))))) :: ks) .normal (G_ringref3_PointsPack_L1_hd v_r249 v_s250 v_x251)
  | 0, v_s250, v_x251, o, h, q => by rw [G_ringref3_PointsPack_L1] at h; cases h
  | k + 1, v_s250, v_x251, o, h, q => by
    rw [G_ringref3_PointsPack_L1] at h
    by_cases h230 : v_x251 < (v_r249.length : Int)
    · rw [if_pos h230] at h
      obtain ⟨v_y254, h233, h⟩ := bind_some h
      obtain ⟨v_s255, h234, h⟩ := bind_some h
      exact pkk_sound TTok mix hF 13 (hs := [.t true, .y ((fun x => PV.agg [.v (.int .i64 (x 0)), .v (.int .i64 (x 1))]) v_y254), .c, .c, .c, .w ([(wi .u8 (v_y254 0)), (wi .u8 (v_y254 1))].map (eI .u8)), .e 39 [36] (.d (.v (.string (b2s ([(wi .u8 (v_y254 0)), (wi .u8 (v_y254 1))]))))) [], .e 42 [] (.d (.v (.string v_s255))) []]) (ts := []) (s := []) (l := [3, 7, 8, 9]) (by kernel_rfl) (by kernel_rfl) (.cons (dt h230) (.cons (getI_ob (f := (fun x => PV.agg [.v (.int .i64 (x 0)), .v (.int .i64 (x 1))])) h233) (.cons (show 0 + 2 ≤ 2 by decide) (.cons (show (0 : Int) ≤ 0 ∧ (0 : Int) < 2 by decide) (.cons (show (0 : Int) ≤ 1 ∧ (1 : Int) < 2 by decide) (.cons (Eq.refl ([(wi .u8 (v_y254 0)), (wi .u8 (v_y254 1))].map (eI .u8))) (.cons (xb2sR (l := 36) (L := [(wi .u8 (v_y254 0)), (wi .u8 (v_y254 1))]) (P := Try.prog) (T := TT) (src := 107) (dst := 9) (e := 5) (s := 1) (x := (.tmp 20)) (by kernel_rfl) (by kernel_rfl) (by kernel_rfl)) (.cons (xcatS (P := Try.prog) (T := TT) (t := 9) (ty' := 9) (x := (.tmp 13)) (y := (.tmp 21)) (p := v_s250) (q := (b2s ([(wi .u8 (v_y254 0)), (wi .u8 (v_y254 1))]))) (r := v_s255) h234) .nil)))))))) (G_ringref3_PointsPack_L1_ok hF ks n v_r249 k v_s255 (wi .i64 (v_x251 + 1)) _ h q)
    · rw [if_neg h230] at h
      cases h
      exact pkk_sound TTok mix hF 8 (hs := [.t false]) (ts := []) (s := []) (l := [3]) (by kernel_rfl) (by kernel_rfl) (.cons (df h230) .nil) q
/- ringhall/ringref3.PointsPack -/
def G_ringref3_PointsPack (n : Nat) (v_p202 : (List Int)) : Option (ByteArray) :=
  (G_ringref3_Runs n v_p202).bind fun (v_r249 : ((List (Fin 2 → Int)))) =>
  (G_ringref3_PointsPack_L1 n v_r249 n (ByteArray.mk #[]) 0).bind fun v_o257 => match v_o257 with
  | .x0 v_z258 =>
    (G_strings_Repeat n (ByteArray.mk #[0]) (wi .i64 (16 - (v_z258.size : Int)))).bind fun (v_r259 : (ByteArray)) =>
    (catS v_z258 v_r259).bind fun (v_s260 : ByteArray) =>
    some v_s260
theorem G_ringref3_PointsPack_ok (n : Nat) (v_p202 : (List Int)) (r : ByteArray) (h : G_ringref3_PointsPack n v_p202 = some r) : Ret Try.prog 75 [(eL (eI .i64)) v_p202] (eS r) := by
  refine ret_run (n := 30) (fn := Try.f75) (c := bodyOf Try.f75) (by kernel_rfl) (by kernel_rfl) (by kernel_rfl) (by kernel_rfl) ?_
  have hF : KC 30 (FinR Try.prog Try.f75 (eS r)) := FinR.kc' (by kernel_rfl)
  unfold G_ringref3_PointsPack at h
  obtain ⟨v_r249, h229, h⟩ := bind_some h
  obtain ⟨v_o257, h235, h⟩ := bind_some h
  refine pkk_sound TTok mix hF 9 (hs := [.r ((eL (fun x => PV.agg [.v (.int .i64 (x 0)), .v (.int .i64 (x 1))])) v_r249), .u (.d (.v (.int .i64 (v_r249.length : Int)))), .n n]) (ts := []) (s := []) (l := [3, 7, 8, 9]) (by kernel_rfl) (by kernel_rfl) (.cons (G_ringref3_Runs_ok n v_p202 _ h229) (.cons (len_ob (f := (fun x => PV.agg [.v (.int .i64 (x 0)), .v (.int .i64 (x 1))])) (l := v_r249)) .nil)) (G_ringref3_PointsPack_L1_ok hF (.b 0 :: .s (cR (cR (cR (bodyOf Try.f75)))) :: []) n v_r249 n (ByteArray.mk #[]) 0 _ h235 ?_)
  cases v_o257 with
  | x0 v_z258 =>
    try dsimp only at h
    obtain ⟨v_r259, h236, h⟩ := bind_some h
    obtain ⟨v_s260, h237, h⟩ := bind_some h
    obtain rfl := Option.some.inj h
    exact pend_sound TTok mix 4 (hs := [.r (eS v_r259), .e 15 [] (.d (.v (.string v_s260))) []]) (by kernel_rfl) (by kernel_rfl) (by kernel_rfl) (.cons (G_strings_Repeat_ok n (ByteArray.mk #[0]) (wi .i64 (16 - (v_z258.size : Int))) _ h236) (.cons (xcatS (P := Try.prog) (T := TT) (t := 9) (ty' := 9) (x := (.tmp 24)) (y := (.tmp 28)) (p := v_z258) (q := v_r259) (r := v_s260) h237) .nil))
inductive G_ringref3_PointsUnpack_L1_R where
  | x0 (v_w194 : (List (Fin 2 → Int)))
def G_ringref3_PointsUnpack_L1_ex : G_ringref3_PointsUnpack_L1_R → Ex
  | .x0 _ => .exit 0
def G_ringref3_PointsUnpack_L1_st (v_s186 : ByteArray) : G_ringref3_PointsUnpack_L1_R → PS
  | .x0 v_w194 => ⟨[.d (.v (.string v_s186)), dd, dd, dd, .srf 0, dd, dd, dd, dd, dd, dd, dd, dd, dd, dd, dd, dd, dd, dd, dd, dd, dd, dd, dd, dd, dd, dd, dd, dd, dd, dd, dd, dd, dd, dd, dd, dd, dd, dd, dd, dd, dd, dd, dd, dd, dd, dd], [.row 121 2 (v_w194.map (fun x => PV.agg [.v (.int .i64 (x 0)), .v (.int .i64 (x 1))]))]⟩
def G_ringref3_PointsUnpack_L1_hd (v_s186 : ByteArray) (v_i187 : Int) (v_w188 : (List (Fin 2 → Int))) : PS := ⟨[.d (.v (.string v_s186)), dd, dd, dd, .srf 0, .d (.v (.int .i64 v_i187)), dd, dd, dd, dd, dd, dd, dd, dd, dd, dd, dd, dd, dd, dd, dd, dd, dd, dd, dd, dd, dd, dd, dd, dd, dd, dd, dd, dd, dd, dd, dd, dd, dd, dd, dd, dd, dd, dd, dd, dd, dd], [.row 121 2 (v_w188.map (fun x => PV.agg [.v (.int .i64 (x 0)), .v (.int .i64 (x 1))]))]⟩
def G_ringref3_PointsUnpack_L1 (n : Nat) (v_s186 : ByteArray) : Nat → Int → (List (Fin 2 → Int)) → Option G_ringref3_PointsUnpack_L1_R
  | 0, _, _ => none
  | k + 1, v_i187, v_w188 =>
    if v_i187 < 16 then
     (getS v_s186 (wi .i64 (v_i187 + 1))).bind fun (v_y193 : Int) =>
     if v_y193 = 0 then
      some (.x0 v_w188)
     else
      (getS v_s186 v_i187).bind fun (v_y195 : Int) =>
      (getS v_s186 (wi .i64 (v_i187 + 1))).bind fun (v_y196 : Int) =>
      (app 16 v_w188 ([(fun i : Fin 2 => [(wi .i64 v_y195), (wi .i64 v_y196)].get i)])).bind fun (v_a197 : (List (Fin 2 → Int))) =>
      G_ringref3_PointsUnpack_L1 n v_s186 k (wi .i64 (v_i187 + 2)) v_a197
    else
     some (.x0 v_w188)
theorem G_ringref3_PointsUnpack_L1_ok {Fi : Ex → PS → Prop} (hF : KC 47 Fi) (ks : List Fr) (n : Nat) (v_s186 : ByteArray)  : ∀ (k : Nat) (v_i187 : Int) (v_w188 : (List (Fin 2 → Int))) (o : G_ringref3_PointsUnpack_L1_R), G_ringref3_PointsUnpack_L1 n v_s186 k v_i187 v_w188 = some o → RunE Try.prog 47 Fi ks (G_ringref3_PointsUnpack_L1_ex o) (G_ringref3_PointsUnpack_L1_st v_s186 o) → RunE Try.prog 47 Fi (.l k (cP (cB (cR (cL (cR (cR (cR (bodyOf Try.f71)))))))) :: ks) .normal (G_ringref3_PointsUnpack_L1_hd v_s186 v_i187 v_w188)
  | 0, v_i187, v_w188, o, h, q => by rw [G_ringref3_PointsUnpack_L1] at h; cases h
  | k + 1, v_i187, v_w188, o, h, q => by
    rw [G_ringref3_PointsUnpack_L1] at h
    by_cases h182 : v_i187 < 16
    · rw [if_pos h182] at h
      obtain ⟨v_y193, h188, h⟩ := bind_some h
      by_cases h189 : v_y193 = 0
      · rw [if_pos h189] at h
        cases h
        exact pkk_sound TTok mix hF 17 (hs := [.t true, .l (.d (.v (.int .u8 v_y193))), .t true]) (ts := []) (s := [0]) (l := [0, 4]) (by kernel_rfl) (by kernel_rfl) (.cons (dt h182) (.cons (getS_ob h188) (.cons (bt h189) .nil))) q
      · rw [if_neg h189] at h
        obtain ⟨v_y195, h190, h⟩ := bind_some h
        obtain ⟨v_y196, h191, h⟩ := bind_some h
        obtain ⟨v_a197, h192, h⟩ := bind_some h
        exact pkk_sound TTok mix hF 16 (hs := [.t true, .l (.d (.v (.int .u8 v_y193))), .t false, .l (.d (.v (.int .u8 v_y195))), .l (.d (.v (.int .u8 v_y196))), .bd, .w (v_a197.map (fun x => PV.agg [.v (.int .i64 (x 0)), .v (.int .i64 (x 1))]))]) (ts := []) (s := [58]) (l := [0, 4, 5]) (by kernel_rfl) (by kernel_rfl) (.cons (dt h182) (.cons (getS_ob h188) (.cons (bf h189) (.cons (getS_ob h190) (.cons (getS_ob h191) (.cons (app_ob (f := (fun x => PV.agg [.v (.int .i64 (x 0)), .v (.int .i64 (x 1))])) (s := 2) h192 (fun _ => rfl)).1 (.cons (app_ob (f := (fun x => PV.agg [.v (.int .i64 (x 0)), .v (.int .i64 (x 1))])) (s := 2) h192 (fun _ => rfl)).2.1 (.cons (app_ob (f := (fun x => PV.agg [.v (.int .i64 (x 0)), .v (.int .i64 (x 1))])) (s := 2) h192 (fun _ => rfl)).2.2.1 (.cons (app_ob (f := (fun x => PV.agg [.v (.int .i64 (x 0)), .v (.int .i64 (x 1))])) (s := 2) h192 (fun _ => rfl)).2.2.2 .nil))))))))) (G_ringref3_PointsUnpack_L1_ok hF ks n v_s186 k (wi .i64 (v_i187 + 2)) v_a197 _ h q)
    · rw [if_neg h182] at h
      cases h
      exact pkk_sound TTok mix hF 8 (hs := [.t false]) (ts := []) (s := [0]) (l := [0, 4]) (by kernel_rfl) (by kernel_rfl) (.cons (df h182) .nil) q
/- ringhall/ringref3.PointsUnpack -/
def G_ringref3_PointsUnpack (n : Nat) (v_s186 : ByteArray) : Option ((List Int) × Int) :=
  if (v_s186.size : Int) = 16 then
   (G_ringref3_PointsUnpack_L1 n v_s186 n 0 ([] : List (Fin 2 → Int))).bind fun v_o199 => match v_o199 with
   | .x0 v_z200 =>
     (G_ringref3_Unruns n v_z200).bind fun (v_r201 : ((List Int) × Int)) =>
     if v_r201.2 = 0 then
      (G_ringref3_PointsPack n v_r201.1).bind fun (v_r262 : (ByteArray)) =>
      if (!(v_r262.toList == v_s186.toList)) = true then
       some (([] : (List Int)), 3)
      else
       some (v_r201.1, 0)
     else
      some (([] : (List Int)), 3)
  else
   some (([] : (List Int)), 3)
theorem G_ringref3_PointsUnpack_ok (n : Nat) (v_s186 : ByteArray) (r : (List Int) × Int) (h : G_ringref3_PointsUnpack n v_s186 = some r) : Ret Try.prog 71 [eS v_s186] (.tup [(eL (eI .i64)) r.1, (eI .i64) r.2]) := by
  refine ret_run (n := 47) (fn := Try.f71) (c := bodyOf Try.f71) (by kernel_rfl) (by kernel_rfl) (by kernel_rfl) (by kernel_rfl) ?_
  have hF : KC 47 (FinR Try.prog Try.f71 (.tup [(eL (eI .i64)) r.1, (eI .i64) r.2])) := FinR.kc' (by kernel_rfl)
  unfold G_ringref3_PointsUnpack at h
  by_cases h181 : (v_s186.size : Int) = 16
  · rw [if_pos h181] at h
    obtain ⟨v_o199, h193, h⟩ := bind_some h
    refine pkk_sound TTok mix hF 14 (hs := [.t false, .n n]) (ts := [(4, 121, 2)]) (s := [21]) (l := [0, 4, 5]) (by kernel_rfl) (by kernel_rfl) (.cons (nf h181) .nil) (G_ringref3_PointsUnpack_L1_ok hF (.b 0 :: .s (cR (cR (cR (cR (bodyOf Try.f71))))) :: []) n v_s186 n 0 ([] : List (Fin 2 → Int)) _ h193 ?_)
    cases v_o199 with
    | x0 v_z200 =>
      try dsimp only at h
      obtain ⟨v_r201, h194, h⟩ := bind_some h
      by_cases h239 : v_r201.2 = 0
      · rw [if_pos h239] at h
        obtain ⟨v_r262, h240, h⟩ := bind_some h
        by_cases h241 : (!(v_r262.toList == v_s186.toList)) = true
        · rw [if_pos h241] at h
          obtain rfl := Option.some.inj h
          exact pend_sound TTok mix 12 (hs := [.dl 2, .fz 0, .r (.tup [(eL (eI .i64)) v_r201.1, (eI .i64) v_r201.2]), .t false, .c, .r (eS v_r262), .c, .c, .t true]) (by kernel_rfl) (by kernel_rfl) (by kernel_rfl) (.cons (G_ringref3_Unruns_ok n v_z200 _ h194) (.cons (nf h239) (.cons (G_ringref3_PointsPack_ok n v_r201.1 _ h240) (.cons h241 .nil))))
        · rw [if_neg h241] at h
          obtain rfl := Option.some.inj h
          exact pend_sound TTok mix 12 (hs := [.dl 2, .fz 0, .r (.tup [(eL (eI .i64)) v_r201.1, (eI .i64) v_r201.2]), .t false, .c, .r (eS v_r262), .c, .c, .t false]) (by kernel_rfl) (by kernel_rfl) (by kernel_rfl) (.cons (G_ringref3_Unruns_ok n v_z200 _ h194) (.cons (nf h239) (.cons (G_ringref3_PointsPack_ok n v_r201.1 _ h240) (.cons (vf h241) .nil))))
      · rw [if_neg h239] at h
        obtain rfl := Option.some.inj h
        exact pend_sound TTok mix 12 (hs := [.dl 2, .fz 0, .r (.tup [(eL (eI .i64)) v_r201.1, (eI .i64) v_r201.2]), .t true, .c, .c, .c, .c]) (by kernel_rfl) (by kernel_rfl) (by kernel_rfl) (.cons (G_ringref3_Unruns_ok n v_z200 _ h194) (.cons (nt h239) .nil))
  · rw [if_neg h181] at h
    obtain rfl := Option.some.inj h
    exact pend_sound TTok mix 10 (hs := [.t true]) (by kernel_rfl) (by kernel_rfl) (by kernel_rfl) (.cons (nt h181) .nil)
inductive G_slices_Equal_int_int_L1_R where
  | x0 (v_x272 : Bool)
  | x1 
def G_slices_Equal_int_int_L1_ex : G_slices_Equal_int_int_L1_R → Ex
  | .x0 _ => .ret
  | .x1  => .exit 0
def G_slices_Equal_int_int_L1_st (v_s265 : (List Int)) (v_s266 : (List Int)) : G_slices_Equal_int_int_L1_R → PS
  | .x0 v_x272 => ⟨[dd, dd, dd, dd, .d (.v (.bool v_x272)), dd, dd, dd, dd, dd, dd, dd, dd, dd, dd, dd, dd, dd, dd, dd, dd, dd, dd, dd, dd, dd], []⟩
  | .x1  => ⟨[dd, dd, dd, dd, dd, dd, dd, dd, dd, dd, dd, dd, dd, dd, dd, dd, dd, dd, dd, dd, dd, dd, dd, dd, dd, dd], []⟩
def G_slices_Equal_int_int_L1_hd (v_s265 : (List Int)) (v_s266 : (List Int)) (v_x267 : Int) : PS := ⟨[.d (.sl (v_s265.map (eI .i64))), .d (.sl (v_s266.map (eI .i64))), dd, dd, dd, dd, dd, dd, dd, dd, dd, dd, .d (.v (.int .i64 (v_s265.length : Int))), .d (.v (.int .i64 v_x267)), dd, dd, dd, dd, dd, dd, dd, dd, dd, dd, dd, dd], []⟩
def G_slices_Equal_int_int_L1 (n : Nat) (v_s265 : (List Int)) (v_s266 : (List Int)) : Nat → Int → Option G_slices_Equal_int_int_L1_R
  | 0, _ => none
  | k + 1, v_x267 =>
    if v_x267 < (v_s265.length : Int) then
     (getI v_s265 v_x267).bind fun (v_y270 : Int) =>
     (getI v_s266 v_x267).bind fun (v_y271 : Int) =>
     if v_y270 = v_y271 then
      G_slices_Equal_int_int_L1 n v_s265 v_s266 k (wi .i64 (v_x267 + 1))
     else
      some (.x0 false)
    else
     some (.x1 )
theorem G_slices_Equal_int_int_L1_ok {Fi : Ex → PS → Prop} (hF : KC 26 Fi) (ks : List Fr) (n : Nat) (v_s265 : (List Int)) (v_s266 : (List Int))  : ∀ (k : Nat) (v_x267 : Int) (o : G_slices_Equal_int_int_L1_R), G_slices_Equal_int_int_L1 n v_s265 v_s266 k v_x267 = some o → RunE Try.prog 26 Fi ks (G_slices_Equal_int_int_L1_ex o) (G_slices_Equal_int_int_L1_st v_s265 v_s266 o) → RunE Try.prog 26 Fi (.l k (cP (cB (cR (cL (cR (cR (bodyOf Try.f43))))))) :: ks) .normal (G_slices_Equal_int_int_L1_hd v_s265 v_s266 v_x267)
  | 0, v_x267, o, h, q => by rw [G_slices_Equal_int_int_L1] at h; cases h
  | k + 1, v_x267, o, h, q => by
    rw [G_slices_Equal_int_int_L1] at h
    by_cases h249 : v_x267 < (v_s265.length : Int)
    · rw [if_pos h249] at h
      obtain ⟨v_y270, h253, h⟩ := bind_some h
      obtain ⟨v_y271, h254, h⟩ := bind_some h
      by_cases h255 : v_y270 = v_y271
      · rw [if_pos h255] at h
        exact pkk_sound TTok mix hF 16 (hs := [.t true, .y ((eI .i64) v_y270), .c, .y ((eI .i64) v_y271), .c, .t false]) (ts := []) (s := []) (l := [0, 1, 12, 13]) (by kernel_rfl) (by kernel_rfl) (.cons (dt h249) (.cons (getI_ob (f := (eI .i64)) h253) (.cons (getI_ob (f := (eI .i64)) h254) (.cons (nf h255) .nil)))) (G_slices_Equal_int_int_L1_ok hF ks n v_s265 v_s266 k (wi .i64 (v_x267 + 1)) _ h q)
      · rw [if_neg h255] at h
        cases h
        exact pkk_sound TTok mix hF 19 (hs := [.t true, .y ((eI .i64) v_y270), .c, .y ((eI .i64) v_y271), .c, .t true]) (ts := []) (s := []) (l := [4]) (by kernel_rfl) (by kernel_rfl) (.cons (dt h249) (.cons (getI_ob (f := (eI .i64)) h253) (.cons (getI_ob (f := (eI .i64)) h254) (.cons (nt h255) .nil)))) q
    · rw [if_neg h249] at h
      cases h
      exact pkk_sound TTok mix hF 8 (hs := [.t false]) (ts := []) (s := []) (l := []) (by kernel_rfl) (by kernel_rfl) (.cons (df h249) .nil) q
/- slices.Equal[[]int,int] -/
def G_slices_Equal_int_int (n : Nat) (v_s265 : (List Int)) (v_s266 : (List Int)) : Option (Bool) :=
  if (v_s265.length : Int) = (v_s266.length : Int) then
   (G_slices_Equal_int_int_L1 n v_s265 v_s266 n 0).bind fun v_o273 => match v_o273 with
   | .x0 v_z274 =>
     some v_z274
   | .x1  =>
     some true
  else
   some false
theorem G_slices_Equal_int_int_ok (n : Nat) (v_s265 : (List Int)) (v_s266 : (List Int)) (r : Bool) (h : G_slices_Equal_int_int n v_s265 v_s266 = some r) : Ret Try.prog 43 [(eL (eI .i64)) v_s265, (eL (eI .i64)) v_s266] (eB r) := by
  refine ret_run (n := 26) (fn := Try.f43) (c := bodyOf Try.f43) (by kernel_rfl) (by kernel_rfl) (by kernel_rfl) (by kernel_rfl) ?_
  have hF : KC 26 (FinR Try.prog Try.f43 (eB r)) := FinR.kc' (by kernel_rfl)
  unfold G_slices_Equal_int_int at h
  by_cases h248 : (v_s265.length : Int) = (v_s266.length : Int)
  · rw [if_pos h248] at h
    obtain ⟨v_o273, h256, h⟩ := bind_some h
    refine pkk_sound TTok mix hF 12 (hs := [.u (.d (.v (.int .i64 (v_s265.length : Int)))), .u (.d (.v (.int .i64 (v_s266.length : Int)))), .t false, .u (.d (.v (.int .i64 (v_s265.length : Int)))), .n n]) (ts := []) (s := []) (l := [0, 1, 12, 13]) (by kernel_rfl) (by kernel_rfl) (.cons (len_ob (f := (eI .i64)) (l := v_s265)) (.cons (len_ob (f := (eI .i64)) (l := v_s266)) (.cons (nf h248) (.cons (len_ob (f := (eI .i64)) (l := v_s265)) .nil)))) (G_slices_Equal_int_int_L1_ok hF (.b 0 :: .s (cR (cR (cR (bodyOf Try.f43)))) :: []) n v_s265 v_s266 n 0 _ h256 ?_)
    cases v_o273 with
    | x0 v_z274 =>
      try dsimp only at h
      obtain rfl := Option.some.inj h
      exact pend_sound TTok mix 2 (hs := []) (by kernel_rfl) (by kernel_rfl) (by kernel_rfl) .nil
    | x1  =>
      try dsimp only at h
      obtain rfl := Option.some.inj h
      exact pend_sound TTok mix 4 (hs := []) (by kernel_rfl) (by kernel_rfl) (by kernel_rfl) .nil
  · rw [if_neg h248] at h
    obtain rfl := Option.some.inj h
    exact pend_sound TTok mix 10 (hs := [.u (.d (.v (.int .i64 (v_s265.length : Int)))), .u (.d (.v (.int .i64 (v_s266.length : Int)))), .t true]) (by kernel_rfl) (by kernel_rfl) (by kernel_rfl) (.cons (len_ob (f := (eI .i64)) (l := v_s265)) (.cons (len_ob (f := (eI .i64)) (l := v_s266)) (.cons (nt h248) .nil)))
inductive G_slices_Equal_2_int_2_int_L1_R where
  | x0 (v_x304 : Bool)
  | x1 
def G_slices_Equal_2_int_2_int_L1_ex : G_slices_Equal_2_int_2_int_L1_R → Ex
  | .x0 _ => .ret
  | .x1  => .exit 0
def G_slices_Equal_2_int_2_int_L1_st (v_s297 : (List (Fin 2 → Int))) (v_s298 : (List (Fin 2 → Int))) : G_slices_Equal_2_int_2_int_L1_R → PS
  | .x0 v_x304 => ⟨[dd, dd, dd, dd, .d (.v (.bool v_x304)), dd, dd, dd, dd, dd, dd, dd, dd, dd, dd, dd, dd, dd, dd, dd, dd, dd, dd, dd, dd, dd], []⟩
  | .x1  => ⟨[dd, dd, dd, dd, dd, dd, dd, dd, dd, dd, dd, dd, dd, dd, dd, dd, dd, dd, dd, dd, dd, dd, dd, dd, dd, dd], []⟩
def G_slices_Equal_2_int_2_int_L1_hd (v_s297 : (List (Fin 2 → Int))) (v_s298 : (List (Fin 2 → Int))) (v_x299 : Int) : PS := ⟨[.d (.sl (v_s297.map (fun x => PV.agg [.v (.int .i64 (x 0)), .v (.int .i64 (x 1))]))), .d (.sl (v_s298.map (fun x => PV.agg [.v (.int .i64 (x 0)), .v (.int .i64 (x 1))]))), dd, dd, dd, dd, dd, dd, dd, dd, dd, dd, .d (.v (.int .i64 (v_s297.length : Int))), .d (.v (.int .i64 v_x299)), dd, dd, dd, dd, dd, dd, dd, dd, dd, dd, dd, dd], []⟩
def G_slices_Equal_2_int_2_int_L1 (n : Nat) (v_s297 : (List (Fin 2 → Int))) (v_s298 : (List (Fin 2 → Int))) : Nat → Int → Option G_slices_Equal_2_int_2_int_L1_R
  | 0, _ => none
  | k + 1, v_x299 =>
    if v_x299 < (v_s297.length : Int) then
     (getI v_s297 v_x299).bind fun (v_y302 : (Fin 2 → Int)) =>
     (getI v_s298 v_x299).bind fun (v_y303 : (Fin 2 → Int)) =>
     if (eqRes .neq (eqA_2_int v_y302 v_y303)) = true then
      some (.x0 false)
     else
      G_slices_Equal_2_int_2_int_L1 n v_s297 v_s298 k (wi .i64 (v_x299 + 1))
    else
     some (.x1 )
theorem G_slices_Equal_2_int_2_int_L1_ok {Fi : Ex → PS → Prop} (hF : KC 26 Fi) (ks : List Fr) (n : Nat) (v_s297 : (List (Fin 2 → Int))) (v_s298 : (List (Fin 2 → Int)))  : ∀ (k : Nat) (v_x299 : Int) (o : G_slices_Equal_2_int_2_int_L1_R), G_slices_Equal_2_int_2_int_L1 n v_s297 v_s298 k v_x299 = some o → RunE Try.prog 26 Fi ks (G_slices_Equal_2_int_2_int_L1_ex o) (G_slices_Equal_2_int_2_int_L1_st v_s297 v_s298 o) → RunE Try.prog 26 Fi (.l k (cP (cB (cR (cL (cR (cR (bodyOf Try.f73))))))) :: ks) .normal (G_slices_Equal_2_int_2_int_L1_hd v_s297 v_s298 v_x299)
  | 0, v_x299, o, h, q => by rw [G_slices_Equal_2_int_2_int_L1] at h; cases h
  | k + 1, v_x299, o, h, q => by
    rw [G_slices_Equal_2_int_2_int_L1] at h
    by_cases h286 : v_x299 < (v_s297.length : Int)
    · rw [if_pos h286] at h
      obtain ⟨v_y302, h290, h⟩ := bind_some h
      obtain ⟨v_y303, h291, h⟩ := bind_some h
      by_cases h292 : (eqRes .neq (eqA_2_int v_y302 v_y303)) = true
      · rw [if_pos h292] at h
        cases h
        exact pkk_sound TTok mix hF 19 (hs := [.t true, .y ((fun x => PV.agg [.v (.int .i64 (x 0)), .v (.int .i64 (x 1))]) v_y302), .y ((fun x => PV.agg [.v (.int .i64 (x 0)), .v (.int .i64 (x 1))]) v_y303), .q (eqA_2_int v_y302 v_y303), .t true]) (ts := []) (s := []) (l := [4]) (by kernel_rfl) (by kernel_rfl) (.cons (dt h286) (.cons (getI_ob (f := (fun x => PV.agg [.v (.int .i64 (x 0)), .v (.int .i64 (x 1))])) h290) (.cons (getI_ob (f := (fun x => PV.agg [.v (.int .i64 (x 0)), .v (.int .i64 (x 1))])) h291) (.cons (eqA_2_int_ok v_y302 v_y303) (.cons h292 .nil))))) q
      · rw [if_neg h292] at h
        exact pkk_sound TTok mix hF 16 (hs := [.t true, .y ((fun x => PV.agg [.v (.int .i64 (x 0)), .v (.int .i64 (x 1))]) v_y302), .y ((fun x => PV.agg [.v (.int .i64 (x 0)), .v (.int .i64 (x 1))]) v_y303), .q (eqA_2_int v_y302 v_y303), .t false]) (ts := []) (s := []) (l := [0, 1, 12, 13]) (by kernel_rfl) (by kernel_rfl) (.cons (dt h286) (.cons (getI_ob (f := (fun x => PV.agg [.v (.int .i64 (x 0)), .v (.int .i64 (x 1))])) h290) (.cons (getI_ob (f := (fun x => PV.agg [.v (.int .i64 (x 0)), .v (.int .i64 (x 1))])) h291) (.cons (eqA_2_int_ok v_y302 v_y303) (.cons (vf h292) .nil))))) (G_slices_Equal_2_int_2_int_L1_ok hF ks n v_s297 v_s298 k (wi .i64 (v_x299 + 1)) _ h q)
    · rw [if_neg h286] at h
      cases h
      exact pkk_sound TTok mix hF 8 (hs := [.t false]) (ts := []) (s := []) (l := []) (by kernel_rfl) (by kernel_rfl) (.cons (df h286) .nil) q
/- slices.Equal[[][2]int,[2]int] -/
def G_slices_Equal_2_int_2_int (n : Nat) (v_s297 : (List (Fin 2 → Int))) (v_s298 : (List (Fin 2 → Int))) : Option (Bool) :=
  if (v_s297.length : Int) = (v_s298.length : Int) then
   (G_slices_Equal_2_int_2_int_L1 n v_s297 v_s298 n 0).bind fun v_o305 => match v_o305 with
   | .x0 v_z306 =>
     some v_z306
   | .x1  =>
     some true
  else
   some false
theorem G_slices_Equal_2_int_2_int_ok (n : Nat) (v_s297 : (List (Fin 2 → Int))) (v_s298 : (List (Fin 2 → Int))) (r : Bool) (h : G_slices_Equal_2_int_2_int n v_s297 v_s298 = some r) : Ret Try.prog 73 [(eL (fun x => PV.agg [.v (.int .i64 (x 0)), .v (.int .i64 (x 1))])) v_s297, (eL (fun x => PV.agg [.v (.int .i64 (x 0)), .v (.int .i64 (x 1))])) v_s298] (eB r) := by
  refine ret_run (n := 26) (fn := Try.f73) (c := bodyOf Try.f73) (by kernel_rfl) (by kernel_rfl) (by kernel_rfl) (by kernel_rfl) ?_
  have hF : KC 26 (FinR Try.prog Try.f73 (eB r)) := FinR.kc' (by kernel_rfl)
  unfold G_slices_Equal_2_int_2_int at h
  by_cases h285 : (v_s297.length : Int) = (v_s298.length : Int)
  · rw [if_pos h285] at h
    obtain ⟨v_o305, h293, h⟩ := bind_some h
    refine pkk_sound TTok mix hF 12 (hs := [.u (.d (.v (.int .i64 (v_s297.length : Int)))), .u (.d (.v (.int .i64 (v_s298.length : Int)))), .t false, .u (.d (.v (.int .i64 (v_s297.length : Int)))), .n n]) (ts := []) (s := []) (l := [0, 1, 12, 13]) (by kernel_rfl) (by kernel_rfl) (.cons (len_ob (f := (fun x => PV.agg [.v (.int .i64 (x 0)), .v (.int .i64 (x 1))])) (l := v_s297)) (.cons (len_ob (f := (fun x => PV.agg [.v (.int .i64 (x 0)), .v (.int .i64 (x 1))])) (l := v_s298)) (.cons (nf h285) (.cons (len_ob (f := (fun x => PV.agg [.v (.int .i64 (x 0)), .v (.int .i64 (x 1))])) (l := v_s297)) .nil)))) (G_slices_Equal_2_int_2_int_L1_ok hF (.b 0 :: .s (cR (cR (cR (bodyOf Try.f73)))) :: []) n v_s297 v_s298 n 0 _ h293 ?_)
    cases v_o305 with
    | x0 v_z306 =>
      try dsimp only at h
      obtain rfl := Option.some.inj h
      exact pend_sound TTok mix 2 (hs := []) (by kernel_rfl) (by kernel_rfl) (by kernel_rfl) .nil
    | x1  =>
      try dsimp only at h
      obtain rfl := Option.some.inj h
      exact pend_sound TTok mix 4 (hs := []) (by kernel_rfl) (by kernel_rfl) (by kernel_rfl) .nil
  · rw [if_neg h285] at h
    obtain rfl := Option.some.inj h
    exact pend_sound TTok mix 10 (hs := [.u (.d (.v (.int .i64 (v_s297.length : Int)))), .u (.d (.v (.int .i64 (v_s298.length : Int)))), .t true]) (by kernel_rfl) (by kernel_rfl) (by kernel_rfl) (.cons (len_ob (f := (fun x => PV.agg [.v (.int .i64 (x 0)), .v (.int .i64 (x 1))])) (l := v_s297)) (.cons (len_ob (f := (fun x => PV.agg [.v (.int .i64 (x 0)), .v (.int .i64 (x 1))])) (l := v_s298)) (.cons (nt h285) .nil)))
inductive G_extent_At_L1_R where
  | x0 (v_x315 : Int)
  | x1 
def G_extent_At_L1_ex : G_extent_At_L1_R → Ex
  | .x0 _ => .ret
  | .x1  => .exit 0
def G_extent_At_L1_st (v_l309 : (List S_extent_Ext)) : G_extent_At_L1_R → PS
  | .x0 v_x315 => ⟨[dd, dd, dd, dd, .d (.v (.int .i64 v_x315)), dd, dd, dd, dd, dd, dd, dd, dd, dd, dd, dd, dd, dd, dd, dd, dd, dd, dd, dd, dd, dd, dd, dd, dd, dd, dd], []⟩
  | .x1  => ⟨[dd, dd, dd, dd, dd, dd, dd, dd, dd, dd, dd, dd, dd, dd, dd, dd, dd, dd, dd, dd, dd, dd, dd, dd, dd, dd, dd, dd, dd, dd, dd], []⟩
def G_extent_At_L1_hd (v_l309 : (List S_extent_Ext)) (v_block311 : Int) (v_x312 : Int) : PS := ⟨[dd, .d (.v (.int .i64 v_block311)), dd, dd, dd, dd, dd, dd, dd, .d (.sl (v_l309.map eS_extent_Ext)), .d (.v (.int .i64 (v_l309.length : Int))), .d (.v (.int .i64 v_x312)), dd, dd, dd, dd, dd, dd, dd, dd, dd, dd, dd, dd, dd, dd, dd, dd, dd, dd, dd], []⟩
def G_extent_At_L1 (n : Nat) (v_l309 : (List S_extent_Ext)) : Nat → Int → Int → Option G_extent_At_L1_R
  | 0, _, _ => none
  | k + 1, v_block311, v_x312 =>
    if v_x312 < (v_l309.length : Int) then
     (getI v_l309 v_x312).bind fun (v_y314 : S_extent_Ext) =>
     if v_block311 < v_y314.fN then
      if v_y314.fStart = 0 then
       some (.x0 0)
      else
       some (.x0 (wi .i64 (v_y314.fStart + v_block311)))
     else
      G_extent_At_L1 n v_l309 k (wi .i64 (v_block311 - v_y314.fN)) (wi .i64 (v_x312 + 1))
    else
     some (.x1 )
theorem G_extent_At_L1_ok {Fi : Ex → PS → Prop} (hF : KC 31 Fi) (ks : List Fr) (n : Nat) (v_l309 : (List S_extent_Ext))  : ∀ (k : Nat) (v_block311 : Int) (v_x312 : Int) (o : G_extent_At_L1_R), G_extent_At_L1 n v_l309 k v_block311 v_x312 = some o → RunE Try.prog 31 Fi ks (G_extent_At_L1_ex o) (G_extent_At_L1_st v_l309 o) → RunE Try.prog 31 Fi (.l k (cP (cB (cR (cL (cR (cR (bodyOf Try.f76))))))) :: ks) .normal (G_extent_At_L1_hd v_l309 v_block311 v_x312)
  | 0, v_block311, v_x312, o, h, q => by rw [G_extent_At_L1] at h; cases h
  | k + 1, v_block311, v_x312, o, h, q => by
    rw [G_extent_At_L1] at h
    by_cases h299 : v_x312 < (v_l309.length : Int)
    · rw [if_pos h299] at h
      obtain ⟨v_y314, h305, h⟩ := bind_some h
      by_cases h308 : v_block311 < v_y314.fN
      · rw [if_pos h308] at h
        by_cases h309 : v_y314.fStart = 0
        · rw [if_pos h309] at h
          cases h
          exact pkk_sound TTok mix hF 26 (hs := [.t true, .y (eS_extent_Ext v_y314), .c, .c, .t true, .c, .t true]) (ts := []) (s := []) (l := [4]) (by kernel_rfl) (by kernel_rfl) (.cons (dt h299) (.cons (getI_ob (f := eS_extent_Ext) h305) (.cons (show 0 + 2 ≤ 2 by decide) (.cons (dt h308) (.cons (bt h309) .nil))))) q
        · rw [if_neg h309] at h
          cases h
          exact pkk_sound TTok mix hF 26 (hs := [.t true, .y (eS_extent_Ext v_y314), .c, .c, .t true, .c, .t false, .c]) (ts := []) (s := []) (l := [4]) (by kernel_rfl) (by kernel_rfl) (.cons (dt h299) (.cons (getI_ob (f := eS_extent_Ext) h305) (.cons (show 0 + 2 ≤ 2 by decide) (.cons (dt h308) (.cons (bf h309) .nil))))) q
      · rw [if_neg h308] at h
        exact pkk_sound TTok mix hF 18 (hs := [.t true, .y (eS_extent_Ext v_y314), .c, .c, .t false, .c]) (ts := []) (s := []) (l := [1, 9, 10, 11]) (by kernel_rfl) (by kernel_rfl) (.cons (dt h299) (.cons (getI_ob (f := eS_extent_Ext) h305) (.cons (show 0 + 2 ≤ 2 by decide) (.cons (df h308) .nil)))) (G_extent_At_L1_ok hF ks n v_l309 k (wi .i64 (v_block311 - v_y314.fN)) (wi .i64 (v_x312 + 1)) _ h q)
    · rw [if_neg h299] at h
      cases h
      exact pkk_sound TTok mix hF 8 (hs := [.t false]) (ts := []) (s := []) (l := []) (by kernel_rfl) (by kernel_rfl) (.cons (df h299) .nil) q
/- ringhall/extent.At -/
def G_extent_At (n : Nat) (v_l309 : (List S_extent_Ext)) (v_block310 : Int) : Option (Int) :=
  if v_block310 < 0 then
   some 0
  else
   (G_extent_At_L1 n v_l309 n v_block310 0).bind fun v_o317 => match v_o317 with
   | .x0 v_z318 =>
     some v_z318
   | .x1  =>
     some 0
theorem G_extent_At_ok (n : Nat) (v_l309 : (List S_extent_Ext)) (v_block310 : Int) (r : Int) (h : G_extent_At n v_l309 v_block310 = some r) : Ret Try.prog 76 [(eL eS_extent_Ext) v_l309, (eI .i64) v_block310] ((eI .i64) r) := by
  refine ret_run (n := 31) (fn := Try.f76) (c := bodyOf Try.f76) (by kernel_rfl) (by kernel_rfl) (by kernel_rfl) (by kernel_rfl) ?_
  have hF : KC 31 (FinR Try.prog Try.f76 ((eI .i64) r)) := FinR.kc' (by kernel_rfl)
  unfold G_extent_At at h
  by_cases h298 : v_block310 < 0
  · rw [if_pos h298] at h
    obtain rfl := Option.some.inj h
    exact pend_sound TTok mix 10 (hs := [.t true]) (by kernel_rfl) (by kernel_rfl) (by kernel_rfl) (.cons (dt h298) .nil)
  · rw [if_neg h298] at h
    obtain ⟨v_o317, h310, h⟩ := bind_some h
    refine pkk_sound TTok mix hF 12 (hs := [.t false, .u (.d (.v (.int .i64 (v_l309.length : Int)))), .n n]) (ts := []) (s := []) (l := [1, 9, 10, 11]) (by kernel_rfl) (by kernel_rfl) (.cons (df h298) (.cons (len_ob (f := eS_extent_Ext) (l := v_l309)) .nil)) (G_extent_At_L1_ok hF (.b 0 :: .s (cR (cR (cR (bodyOf Try.f76)))) :: []) n v_l309 n v_block310 0 _ h310 ?_)
    cases v_o317 with
    | x0 v_z318 =>
      try dsimp only at h
      obtain rfl := Option.some.inj h
      exact pend_sound TTok mix 2 (hs := []) (by kernel_rfl) (by kernel_rfl) (by kernel_rfl) .nil
    | x1  =>
      try dsimp only at h
      obtain rfl := Option.some.inj h
      exact pend_sound TTok mix 4 (hs := []) (by kernel_rfl) (by kernel_rfl) (by kernel_rfl) .nil
inductive G_ringlaw3_ExtentTurns_C1_R where
  | x0 (v_x5 : Bool)
def G_ringlaw3_ExtentTurns_C1_ex : G_ringlaw3_ExtentTurns_C1_R → Ex
  | .x0 _ => .normal
def G_ringlaw3_ExtentTurns_C1_st (v_points1 : (List Int)) (v_l2 : (List S_extent_Ext)) (v_b3 : (List Int)) (v_block4 : Int) : G_ringlaw3_ExtentTurns_C1_R → PS
  | .x0 v_x5 => ⟨[.d (.sl (v_points1.map (eI .i64))), .d (.sl (v_l2.map eS_extent_Ext)), .d (.sl (v_b3.map (eI .u8))), .d (.v (.int .i64 v_block4)), dd, dd, dd, dd, dd, dd, dd, dd, dd, dd, dd, dd, dd, dd, dd, dd, dd, dd, dd, dd, dd, dd, dd, dd, dd, dd, dd, dd, dd, dd, dd, .d (.v (.bool v_x5)), dd, dd, dd, dd, dd, dd, dd, dd, dd, dd, dd, dd, dd, dd, dd, dd, dd, dd, dd, dd, dd, dd, dd, dd, dd, dd, dd, dd, dd, dd, dd, dd, dd, dd, dd, dd, dd, dd, dd, dd, dd, dd, dd, dd, dd, dd, dd, dd, dd, dd, dd, dd, dd, dd, dd, dd, dd, dd, dd, dd, dd, dd, dd, dd, dd, dd, dd, dd, dd, dd, dd, dd, dd, dd, dd, dd, dd, dd, dd, dd, dd, dd, dd, dd, dd, dd, dd, dd, dd, dd, dd, dd, dd, dd, dd, dd, dd, dd, dd, dd, dd, dd, dd, dd, dd, dd, dd, dd, dd, dd, dd], []⟩
def G_ringlaw3_ExtentTurns_C1_hd (v_points1 : (List Int)) (v_l2 : (List S_extent_Ext)) (v_b3 : (List Int)) (v_block4 : Int)  : PS := ⟨[.d (.sl (v_points1.map (eI .i64))), .d (.sl (v_l2.map eS_extent_Ext)), .d (.sl (v_b3.map (eI .u8))), .d (.v (.int .i64 v_block4)), dd, dd, dd, dd, dd, dd, dd, dd, dd, dd, dd, dd, dd, dd, dd, dd, dd, dd, dd, dd, dd, dd, dd, dd, dd, dd, dd, dd, dd, dd, dd, dd, dd, dd, dd, dd, dd, dd, dd, dd, dd, dd, dd, dd, dd, dd, dd, dd, dd, dd, dd, dd, dd, dd, dd, dd, dd, dd, dd, dd, dd, dd, dd, dd, dd, dd, dd, dd, dd, dd, dd, dd, dd, dd, dd, dd, dd, dd, dd, dd, dd, dd, dd, dd, dd, dd, dd, dd, dd, dd, dd, dd, dd, dd, dd, dd, dd, dd, dd, dd, dd, dd, dd, dd, dd, dd, dd, dd, dd, dd, dd, dd, dd, dd, dd, dd, dd, dd, dd, dd, dd, dd, dd, dd, dd, dd, dd, dd, dd, dd, dd, dd, dd, dd, dd, dd, dd, dd, dd, dd, dd, dd, dd], []⟩
def G_ringlaw3_ExtentTurns_C1 (n : Nat) (v_points1 : (List Int)) (v_l2 : (List S_extent_Ext)) (v_b3 : (List Int)) (v_block4 : Int) : Option G_ringlaw3_ExtentTurns_C1_R :=
  if (v_points1.length : Int) > 30 then
   some (.x0 true)
  else
   if (v_l2.length : Int) > 30 then
    some (.x0 true)
   else
    some (.x0 (decide ((v_b3.length : Int) > 40)))
theorem G_ringlaw3_ExtentTurns_C1_ok {Fi : Ex → PS → Prop} (hF : KC 147 Fi) (ks : List Fr) (n : Nat) (v_points1 : (List Int)) (v_l2 : (List S_extent_Ext)) (v_b3 : (List Int)) (v_block4 : Int)  (o : G_ringlaw3_ExtentTurns_C1_R) (h : G_ringlaw3_ExtentTurns_C1 n v_points1 v_l2 v_b3 v_block4 = some o) (q : RunE Try.prog 147 Fi ks (G_ringlaw3_ExtentTurns_C1_ex o) (G_ringlaw3_ExtentTurns_C1_st v_points1 v_l2 v_b3 v_block4 o)) : RunE Try.prog 147 Fi (.s (cL (cL (cR (bodyOf Try.f8)))) :: ks) .normal (G_ringlaw3_ExtentTurns_C1_hd v_points1 v_l2 v_b3 v_block4) := by
  unfold G_ringlaw3_ExtentTurns_C1 at h
  by_cases h3 : (v_points1.length : Int) > 30
  · rw [if_pos h3] at h
    cases h
    exact pkk_sound TTok mix hF 1 (hs := [.u (.d (.v (.int .i64 (v_points1.length : Int)))), .t true, .c, .c, .c, .c, .c]) (ts := []) (s := []) (l := [0, 1, 2, 3, 35]) (by kernel_rfl) (by kernel_rfl) (.cons (len_ob (f := (eI .i64)) (l := v_points1)) (.cons (dt h3) .nil)) q
  · rw [if_neg h3] at h
    by_cases h4 : (v_l2.length : Int) > 30
    · rw [if_pos h4] at h
      cases h
      exact pkk_sound TTok mix hF 1 (hs := [.u (.d (.v (.int .i64 (v_points1.length : Int)))), .t false, .c, .u (.d (.v (.int .i64 (v_l2.length : Int)))), .c, .t true, .c, .c]) (ts := []) (s := []) (l := [0, 1, 2, 3, 35]) (by kernel_rfl) (by kernel_rfl) (.cons (len_ob (f := (eI .i64)) (l := v_points1)) (.cons (df h3) (.cons (len_ob (f := eS_extent_Ext) (l := v_l2)) (.cons (dt h4) .nil)))) q
    · rw [if_neg h4] at h
      cases h
      exact pkk_sound TTok mix hF 1 (hs := [.u (.d (.v (.int .i64 (v_points1.length : Int)))), .t false, .c, .u (.d (.v (.int .i64 (v_l2.length : Int)))), .c, .t false, .c, .u (.d (.v (.int .i64 (v_b3.length : Int)))), .c]) (ts := []) (s := []) (l := [0, 1, 2, 3, 35]) (by kernel_rfl) (by kernel_rfl) (.cons (len_ob (f := (eI .i64)) (l := v_points1)) (.cons (df h3) (.cons (len_ob (f := eS_extent_Ext) (l := v_l2)) (.cons (df h4) (.cons (len_ob (f := (eI .u8)) (l := v_b3)) .nil))))) q
inductive G_ringlaw3_ExtentTurns_C2_R where
  | x0 (v_x278 : Bool)
def G_ringlaw3_ExtentTurns_C2_ex : G_ringlaw3_ExtentTurns_C2_R → Ex
  | .x0 _ => .normal
def G_ringlaw3_ExtentTurns_C2_st (v_points1 : (List Int)) (v_block4 : Int) (v_r18 : (Int)) (v_r67 : ((List S_extent_Ext) × Int)) (v_r82 : ((List Int) × Int)) (v_r117 : ((List Int) × Int)) (v_r167 : ((List Int) × Int)) (v_r185 : ((List Int) × Int)) (v_r263 : ((List Int) × Int)) : G_ringlaw3_ExtentTurns_C2_R → PS
  | .x0 v_x278 => ⟨[.d (.sl (v_points1.map (eI .i64))), dd, dd, .d (.v (.int .i64 v_block4)), dd, dd, dd, dd, dd, .d (.v (.int .i64 v_r18)), .d (.sl (v_r67.1.map eS_extent_Ext)), dd, .d (.sl (v_r82.1.map (eI .u8))), dd, dd, dd, dd, dd, dd, dd, dd, dd, dd, dd, dd, dd, dd, dd, dd, dd, dd, dd, dd, dd, dd, dd, dd, dd, dd, dd, dd, dd, dd, dd, dd, dd, dd, dd, dd, dd, dd, dd, dd, dd, dd, dd, dd, dd, dd, dd, dd, dd, dd, dd, dd, dd, dd, dd, dd, dd, dd, dd, dd, dd, dd, dd, dd, dd, dd, dd, dd, dd, dd, dd, dd, dd, dd, dd, dd, dd, dd, dd, dd, dd, dd, dd, dd, dd, dd, dd, dd, dd, dd, dd, dd, .d (.v (.bool v_x278)), dd, dd, dd, dd, dd, dd, dd, dd, dd, dd, dd, dd, dd, dd, dd, dd, dd, dd, dd, dd, dd, dd, dd, dd, dd, dd, dd, dd, dd, dd, dd, dd, dd, dd, dd, dd, dd, dd, dd, dd, dd], []⟩
def G_ringlaw3_ExtentTurns_C2_hd (v_points1 : (List Int)) (v_block4 : Int) (v_r18 : (Int)) (v_r67 : ((List S_extent_Ext) × Int)) (v_r82 : ((List Int) × Int)) (v_r117 : ((List Int) × Int)) (v_r167 : ((List Int) × Int)) (v_r185 : ((List Int) × Int)) (v_r263 : ((List Int) × Int))  : PS := ⟨[.d (.sl (v_points1.map (eI .i64))), dd, dd, .d (.v (.int .i64 v_block4)), dd, dd, dd, dd, dd, .d (.v (.int .i64 v_r18)), .d (.sl (v_r67.1.map eS_extent_Ext)), .d (.v (.int .i64 v_r67.2)), .d (.sl (v_r82.1.map (eI .u8))), .d (.v (.int .i64 v_r82.2)), .d (.sl (v_r117.1.map (eI .i64))), .d (.v (.int .i64 v_r117.2)), .d (.sl (v_r167.1.map (eI .i64))), .d (.v (.int .i64 v_r167.2)), .d (.sl (v_r185.1.map (eI .i64))), .d (.v (.int .i64 v_r185.2)), .d (.sl (v_r263.1.map (eI .i64))), .d (.v (.int .i64 v_r263.2)), dd, dd, dd, dd, dd, dd, dd, dd, dd, dd, dd, dd, dd, dd, dd, dd, dd, dd, dd, dd, dd, dd, dd, dd, dd, dd, dd, dd, dd, dd, dd, dd, dd, dd, dd, dd, dd, dd, dd, dd, dd, dd, dd, dd, dd, dd, dd, dd, dd, dd, dd, dd, dd, dd, dd, dd, dd, dd, dd, dd, dd, dd, dd, dd, dd, dd, dd, dd, dd, dd, dd, dd, dd, dd, dd, dd, dd, dd, dd, dd, dd, dd, dd, dd, dd, dd, dd, dd, dd, dd, dd, dd, dd, dd, dd, dd, dd, dd, dd, dd, dd, dd, dd, dd, dd, dd, dd, dd, dd, dd, dd, dd, dd, dd, dd, dd, dd, dd, dd, dd, dd, dd, dd, dd, dd], []⟩
def G_ringlaw3_ExtentTurns_C2 (n : Nat) (v_points1 : (List Int)) (v_block4 : Int) (v_r18 : (Int)) (v_r67 : ((List S_extent_Ext) × Int)) (v_r82 : ((List Int) × Int)) (v_r117 : ((List Int) × Int)) (v_r167 : ((List Int) × Int)) (v_r185 : ((List Int) × Int)) (v_r263 : ((List Int) × Int)) : Option G_ringlaw3_ExtentTurns_C2_R :=
  (G_extent_Right n v_points1).bind fun (v_r277 : (Int)) =>
  if v_r277 = v_r18 then
   if v_r67.2 = v_r18 then
    if v_r82.2 = v_r18 then
     if v_r117.2 = v_r167.2 then
      (G_slices_Equal_int_int n v_r117.1 v_r167.1).bind fun (v_r282 : (Bool)) =>
      if v_r282 = true then
       if v_r185.2 = v_r263.2 then
        (G_slices_Equal_int_int n v_r185.1 v_r263.1).bind fun (v_r285 : (Bool)) =>
        some (.x0 (!v_r285))
       else
        some (.x0 true)
      else
       some (.x0 true)
     else
      some (.x0 true)
    else
     some (.x0 true)
   else
    some (.x0 true)
  else
   some (.x0 true)
theorem G_ringlaw3_ExtentTurns_C2_ok {Fi : Ex → PS → Prop} (hF : KC 147 Fi) (ks : List Fr) (n : Nat) (v_points1 : (List Int)) (v_block4 : Int) (v_r18 : (Int)) (v_r67 : ((List S_extent_Ext) × Int)) (v_r82 : ((List Int) × Int)) (v_r117 : ((List Int) × Int)) (v_r167 : ((List Int) × Int)) (v_r185 : ((List Int) × Int)) (v_r263 : ((List Int) × Int))  (o : G_ringlaw3_ExtentTurns_C2_R) (h : G_ringlaw3_ExtentTurns_C2 n v_points1 v_block4 v_r18 v_r67 v_r82 v_r117 v_r167 v_r185 v_r263 = some o) (q : RunE Try.prog 147 Fi ks (G_ringlaw3_ExtentTurns_C2_ex o) (G_ringlaw3_ExtentTurns_C2_st v_points1 v_block4 v_r18 v_r67 v_r82 v_r117 v_r167 v_r185 v_r263 o)) : RunE Try.prog 147 Fi (.s (cL (cL (cR (cR (cR (cR (cR (cR (cR (cR (cR (bodyOf Try.f8)))))))))))) :: ks) .normal (G_ringlaw3_ExtentTurns_C2_hd v_points1 v_block4 v_r18 v_r67 v_r82 v_r117 v_r167 v_r185 v_r263) := by
  unfold G_ringlaw3_ExtentTurns_C2 at h
  obtain ⟨v_r277, h261, h⟩ := bind_some h
  by_cases h262 : v_r277 = v_r18
  · rw [if_pos h262] at h
    by_cases h263 : v_r67.2 = v_r18
    · rw [if_pos h263] at h
      by_cases h264 : v_r82.2 = v_r18
      · rw [if_pos h264] at h
        by_cases h265 : v_r117.2 = v_r167.2
        · rw [if_pos h265] at h
          obtain ⟨v_r282, h266, h⟩ := bind_some h
          by_cases h267 : v_r282 = true
          · rw [if_pos h267] at h
            by_cases h268 : v_r185.2 = v_r263.2
            · rw [if_pos h268] at h
              obtain ⟨v_r285, h269, h⟩ := bind_some h
              cases h
              exact pkk_sound TTok mix hF 1 (hs := [.r ((eI .i64) v_r277), .t false, .c, .c, .t false, .c, .c, .t false, .c, .c, .t false, .c, .c, .r (eB v_r282), .c, .t false, .c, .c, .t false, .c, .c, .r (eB v_r285), .c]) (ts := []) (s := []) (l := [0, 3, 9, 10, 12, 105]) (by kernel_rfl) (by kernel_rfl) (.cons (G_extent_Right_ok n v_points1 _ h261) (.cons (nf h262) (.cons (nf h263) (.cons (nf h264) (.cons (nf h265) (.cons (G_slices_Equal_int_int_ok n v_r117.1 v_r167.1 _ h266) (.cons (bnf h267) (.cons (nf h268) (.cons (G_slices_Equal_int_int_ok n v_r185.1 v_r263.1 _ h269) .nil))))))))) q
            · rw [if_neg h268] at h
              cases h
              exact pkk_sound TTok mix hF 1 (hs := [.r ((eI .i64) v_r277), .t false, .c, .c, .t false, .c, .c, .t false, .c, .c, .t false, .c, .c, .r (eB v_r282), .c, .t false, .c, .c, .t true, .c, .c, .c]) (ts := []) (s := []) (l := [0, 3, 9, 10, 12, 105]) (by kernel_rfl) (by kernel_rfl) (.cons (G_extent_Right_ok n v_points1 _ h261) (.cons (nf h262) (.cons (nf h263) (.cons (nf h264) (.cons (nf h265) (.cons (G_slices_Equal_int_int_ok n v_r117.1 v_r167.1 _ h266) (.cons (bnf h267) (.cons (nt h268) .nil)))))))) q
          · rw [if_neg h267] at h
            cases h
            exact pkk_sound TTok mix hF 1 (hs := [.r ((eI .i64) v_r277), .t false, .c, .c, .t false, .c, .c, .t false, .c, .c, .t false, .c, .c, .r (eB v_r282), .c, .t true, .c, .c, .c, .c, .c, .c]) (ts := []) (s := []) (l := [0, 3, 9, 10, 12, 105]) (by kernel_rfl) (by kernel_rfl) (.cons (G_extent_Right_ok n v_points1 _ h261) (.cons (nf h262) (.cons (nf h263) (.cons (nf h264) (.cons (nf h265) (.cons (G_slices_Equal_int_int_ok n v_r117.1 v_r167.1 _ h266) (.cons (bnt (vf h267)) .nil))))))) q
        · rw [if_neg h265] at h
          cases h
          exact pkk_sound TTok mix hF 1 (hs := [.r ((eI .i64) v_r277), .t false, .c, .c, .t false, .c, .c, .t false, .c, .c, .t true, .c, .c, .c, .c, .c, .c, .c, .c, .c, .c]) (ts := []) (s := []) (l := [0, 3, 9, 10, 12, 105]) (by kernel_rfl) (by kernel_rfl) (.cons (G_extent_Right_ok n v_points1 _ h261) (.cons (nf h262) (.cons (nf h263) (.cons (nf h264) (.cons (nt h265) .nil))))) q
      · rw [if_neg h264] at h
        cases h
        exact pkk_sound TTok mix hF 1 (hs := [.r ((eI .i64) v_r277), .t false, .c, .c, .t false, .c, .c, .t true, .c, .c, .c, .c, .c, .c, .c, .c, .c, .c, .c, .c, .c]) (ts := []) (s := []) (l := [0, 3, 9, 10, 12, 105]) (by kernel_rfl) (by kernel_rfl) (.cons (G_extent_Right_ok n v_points1 _ h261) (.cons (nf h262) (.cons (nf h263) (.cons (nt h264) .nil)))) q
    · rw [if_neg h263] at h
      cases h
      exact pkk_sound TTok mix hF 1 (hs := [.r ((eI .i64) v_r277), .t false, .c, .c, .t true, .c, .c, .c, .c, .c, .c, .c, .c, .c, .c, .c, .c, .c, .c, .c, .c]) (ts := []) (s := []) (l := [0, 3, 9, 10, 12, 105]) (by kernel_rfl) (by kernel_rfl) (.cons (G_extent_Right_ok n v_points1 _ h261) (.cons (nf h262) (.cons (nt h263) .nil))) q
  · rw [if_neg h262] at h
    cases h
    exact pkk_sound TTok mix hF 1 (hs := [.r ((eI .i64) v_r277), .t true, .c, .c, .c, .c, .c, .c, .c, .c, .c, .c, .c, .c, .c, .c, .c, .c, .c, .c, .c]) (ts := []) (s := []) (l := [0, 3, 9, 10, 12, 105]) (by kernel_rfl) (by kernel_rfl) (.cons (G_extent_Right_ok n v_points1 _ h261) (.cons (nt h262) .nil)) q
inductive G_ringlaw3_ExtentTurns_C3_R where
  | x0 (v_x289 : Bool)
def G_ringlaw3_ExtentTurns_C3_ex : G_ringlaw3_ExtentTurns_C3_R → Ex
  | .x0 _ => .normal
def G_ringlaw3_ExtentTurns_C3_st (v_points1 : (List Int)) (v_block4 : Int) (v_r67 : ((List S_extent_Ext) × Int)) (v_r82 : ((List Int) × Int)) : G_ringlaw3_ExtentTurns_C3_R → PS
  | .x0 v_x289 => ⟨[.d (.sl (v_points1.map (eI .i64))), dd, dd, .d (.v (.int .i64 v_block4)), dd, dd, dd, dd, dd, dd, .d (.sl (v_r67.1.map eS_extent_Ext)), dd, .d (.sl (v_r82.1.map (eI .u8))), dd, dd, dd, dd, dd, dd, dd, dd, dd, .d (.v (.int .i64 0)), dd, dd, dd, dd, dd, dd, dd, dd, dd, dd, dd, dd, dd, dd, dd, dd, dd, dd, dd, dd, dd, dd, dd, dd, dd, dd, dd, dd, dd, dd, dd, dd, dd, dd, dd, dd, dd, dd, dd, dd, dd, dd, dd, dd, dd, dd, dd, dd, dd, dd, dd, dd, dd, dd, dd, dd, dd, dd, dd, dd, dd, dd, dd, dd, dd, dd, dd, dd, dd, dd, dd, dd, dd, dd, dd, dd, dd, dd, dd, dd, dd, dd, dd, dd, dd, dd, dd, dd, dd, dd, dd, dd, dd, dd, dd, dd, dd, dd, dd, dd, .d (.v (.bool v_x289)), dd, dd, dd, dd, dd, dd, dd, dd, dd, dd, dd, dd, dd, dd, dd, dd, dd, dd, dd, dd, dd, dd, dd], []⟩
def G_ringlaw3_ExtentTurns_C3_hd (v_points1 : (List Int)) (v_block4 : Int) (v_r67 : ((List S_extent_Ext) × Int)) (v_r82 : ((List Int) × Int))  : PS := ⟨[.d (.sl (v_points1.map (eI .i64))), dd, dd, .d (.v (.int .i64 v_block4)), dd, dd, dd, dd, dd, dd, .d (.sl (v_r67.1.map eS_extent_Ext)), dd, .d (.sl (v_r82.1.map (eI .u8))), dd, dd, dd, dd, dd, dd, dd, dd, dd, .d (.v (.int .i64 0)), dd, dd, dd, dd, dd, dd, dd, dd, dd, dd, dd, dd, dd, dd, dd, dd, dd, dd, dd, dd, dd, dd, dd, dd, dd, dd, dd, dd, dd, dd, dd, dd, dd, dd, dd, dd, dd, dd, dd, dd, dd, dd, dd, dd, dd, dd, dd, dd, dd, dd, dd, dd, dd, dd, dd, dd, dd, dd, dd, dd, dd, dd, dd, dd, dd, dd, dd, dd, dd, dd, dd, dd, dd, dd, dd, dd, dd, dd, dd, dd, dd, dd, dd, dd, dd, dd, dd, dd, dd, dd, dd, dd, dd, dd, dd, dd, dd, dd, dd, dd, dd, dd, dd, dd, dd, dd, dd, dd, dd, dd, dd, dd, dd, dd, dd, dd, dd, dd, dd, dd, dd, dd, dd, dd], []⟩
def G_ringlaw3_ExtentTurns_C3 (n : Nat) (v_points1 : (List Int)) (v_block4 : Int) (v_r67 : ((List S_extent_Ext) × Int)) (v_r82 : ((List Int) × Int)) : Option G_ringlaw3_ExtentTurns_C3_R :=
  if v_block4 ≥ 0 then
   some (.x0 (decide (v_block4 < (v_points1.length : Int))))
  else
   some (.x0 false)
theorem G_ringlaw3_ExtentTurns_C3_ok {Fi : Ex → PS → Prop} (hF : KC 147 Fi) (ks : List Fr) (n : Nat) (v_points1 : (List Int)) (v_block4 : Int) (v_r67 : ((List S_extent_Ext) × Int)) (v_r82 : ((List Int) × Int))  (o : G_ringlaw3_ExtentTurns_C3_R) (h : G_ringlaw3_ExtentTurns_C3 n v_points1 v_block4 v_r67 v_r82 = some o) (q : RunE Try.prog 147 Fi ks (G_ringlaw3_ExtentTurns_C3_ex o) (G_ringlaw3_ExtentTurns_C3_st v_points1 v_block4 v_r67 v_r82 o)) : RunE Try.prog 147 Fi (.s (cL (cL (cR (cR (cR (cR (cR (cR (cR (cR (cR (cR (cR (cR (bodyOf Try.f8))))))))))))))) :: ks) .normal (G_ringlaw3_ExtentTurns_C3_hd v_points1 v_block4 v_r67 v_r82) := by
  unfold G_ringlaw3_ExtentTurns_C3 at h
  by_cases h277 : v_block4 ≥ 0
  · rw [if_pos h277] at h
    cases h
    exact pkk_sound TTok mix hF 1 (hs := [.t true, .c, .c, .u (.d (.v (.int .i64 (v_points1.length : Int)))), .c]) (ts := []) (s := []) (l := [0, 3, 10, 12, 22, 123]) (by kernel_rfl) (by kernel_rfl) (.cons (dt h277) (.cons (len_ob (f := (eI .i64)) (l := v_points1)) .nil)) q
  · rw [if_neg h277] at h
    cases h
    exact pkk_sound TTok mix hF 1 (hs := [.t false, .c, .c, .c]) (ts := []) (s := []) (l := [0, 3, 10, 12, 22, 123]) (by kernel_rfl) (by kernel_rfl) (.cons (df h277) .nil) q
inductive G_ringlaw3_ExtentTurns_C4_R where
  | x0 (v_x325 : Bool)
def G_ringlaw3_ExtentTurns_C4_ex : G_ringlaw3_ExtentTurns_C4_R → Ex
  | .x0 _ => .normal
def G_ringlaw3_ExtentTurns_C4_st (v_points1 : (List Int)) (v_block4 : Int) (v_r67 : ((List S_extent_Ext) × Int)) (v_r82 : ((List Int) × Int)) (v_y294 : Int) : G_ringlaw3_ExtentTurns_C4_R → PS
  | .x0 v_x325 => ⟨[dd, dd, dd, dd, dd, dd, dd, dd, .d (.v (.bool v_x325)), dd, dd, dd, dd, dd, dd, dd, dd, dd, dd, dd, dd, dd, dd, dd, dd, dd, dd, dd, dd, dd, dd, dd, dd, dd, dd, dd, dd, dd, dd, dd, dd, dd, dd, dd, dd, dd, dd, dd, dd, dd, dd, dd, dd, dd, dd, dd, dd, dd, dd, dd, dd, dd, dd, dd, dd, dd, dd, dd, dd, dd, dd, dd, dd, dd, dd, dd, dd, dd, dd, dd, dd, dd, dd, dd, dd, dd, dd, dd, dd, dd, dd, dd, dd, dd, dd, dd, dd, dd, dd, dd, dd, dd, dd, dd, dd, dd, dd, dd, dd, dd, dd, dd, dd, dd, dd, dd, dd, dd, dd, dd, dd, dd, dd, dd, dd, dd, dd, dd, dd, dd, dd, dd, dd, dd, dd, dd, dd, dd, dd, dd, dd, dd, dd, dd, dd, dd, dd], []⟩
def G_ringlaw3_ExtentTurns_C4_hd (v_points1 : (List Int)) (v_block4 : Int) (v_r67 : ((List S_extent_Ext) × Int)) (v_r82 : ((List Int) × Int)) (v_y294 : Int)  : PS := ⟨[.d (.sl (v_points1.map (eI .i64))), dd, dd, .d (.v (.int .i64 v_block4)), dd, dd, dd, dd, dd, dd, .d (.sl (v_r67.1.map eS_extent_Ext)), dd, .d (.sl (v_r82.1.map (eI .u8))), dd, dd, dd, dd, dd, dd, dd, dd, dd, .d (.v (.int .i64 v_y294)), dd, dd, dd, dd, dd, dd, dd, dd, dd, dd, dd, dd, dd, dd, dd, dd, dd, dd, dd, dd, dd, dd, dd, dd, dd, dd, dd, dd, dd, dd, dd, dd, dd, dd, dd, dd, dd, dd, dd, dd, dd, dd, dd, dd, dd, dd, dd, dd, dd, dd, dd, dd, dd, dd, dd, dd, dd, dd, dd, dd, dd, dd, dd, dd, dd, dd, dd, dd, dd, dd, dd, dd, dd, dd, dd, dd, dd, dd, dd, dd, dd, dd, dd, dd, dd, dd, dd, dd, dd, dd, dd, dd, dd, dd, dd, dd, dd, dd, dd, dd, dd, dd, dd, dd, dd, dd, dd, dd, dd, dd, dd, dd, dd, dd, dd, dd, dd, dd, dd, dd, dd, dd, dd, dd], []⟩
def G_ringlaw3_ExtentTurns_C4 (n : Nat) (v_points1 : (List Int)) (v_block4 : Int) (v_r67 : ((List S_extent_Ext) × Int)) (v_r82 : ((List Int) × Int)) (v_y294 : Int) : Option G_ringlaw3_ExtentTurns_C4_R :=
  (G_ringlaw3_runs n v_r67.1).bind fun (v_r320 : ((List (Fin 2 → Int)))) =>
  (G_ringref3_Runs n v_points1).bind fun (v_r321 : ((List (Fin 2 → Int)))) =>
  (G_slices_Equal_2_int_2_int n v_r320 v_r321).bind fun (v_r322 : (Bool)) =>
  if v_r322 = true then
   (G_ringref3_PointsPack n v_points1).bind fun (v_r323 : (ByteArray)) =>
   if ((b2s v_r82.1).toList == v_r323.toList) = true then
    (G_extent_At n v_r67.1 v_block4).bind fun (v_r324 : (Int)) =>
    some (.x0 (v_r324 == v_y294))
   else
    some (.x0 false)
  else
   some (.x0 false)
theorem G_ringlaw3_ExtentTurns_C4_ok {Fi : Ex → PS → Prop} (hF : KC 147 Fi) (ks : List Fr) (n : Nat) (v_points1 : (List Int)) (v_block4 : Int) (v_r67 : ((List S_extent_Ext) × Int)) (v_r82 : ((List Int) × Int)) (v_y294 : Int)  (o : G_ringlaw3_ExtentTurns_C4_R) (h : G_ringlaw3_ExtentTurns_C4 n v_points1 v_block4 v_r67 v_r82 v_y294 = some o) (q : RunE Try.prog 147 Fi ks (G_ringlaw3_ExtentTurns_C4_ex o) (G_ringlaw3_ExtentTurns_C4_st v_points1 v_block4 v_r67 v_r82 v_y294 o)) : RunE Try.prog 147 Fi (.s (cL (cR (cR (cR (cR (cR (cR (cR (cR (cR (cR (cR (cR (cR (bodyOf Try.f8))))))))))))))) :: ks) .normal (G_ringlaw3_ExtentTurns_C4_hd v_points1 v_block4 v_r67 v_r82 v_y294) := by
  unfold G_ringlaw3_ExtentTurns_C4 at h
  obtain ⟨v_r320, h312, h⟩ := bind_some h
  obtain ⟨v_r321, h313, h⟩ := bind_some h
  obtain ⟨v_r322, h314, h⟩ := bind_some h
  by_cases h315 : v_r322 = true
  · rw [if_pos h315] at h
    obtain ⟨v_r323, h316, h⟩ := bind_some h
    by_cases h317 : ((b2s v_r82.1).toList == v_r323.toList) = true
    · rw [if_pos h317] at h
      obtain ⟨v_r324, h318, h⟩ := bind_some h
      cases h
      exact pkk_sound TTok mix hF 1 (hs := [.r ((eL (fun x => PV.agg [.v (.int .i64 (x 0)), .v (.int .i64 (x 1))])) v_r320), .r ((eL (fun x => PV.agg [.v (.int .i64 (x 0)), .v (.int .i64 (x 1))])) v_r321), .r (eB v_r322), .t true, .c, .e 21 [] (.d (.v (.string (b2s v_r82.1)))) [], .c, .c, .r (eS v_r323), .c, .t true, .c, .c, .r ((eI .i64) v_r324), .c, .c]) (ts := []) (s := []) (l := [8]) (by kernel_rfl) (by kernel_rfl) (.cons (G_ringlaw3_runs_ok n v_r67.1 _ h312) (.cons (G_ringref3_Runs_ok n v_points1 _ h313) (.cons (G_slices_Equal_2_int_2_int_ok n v_r320 v_r321 _ h314) (.cons h315 (.cons (xb2sD (L := v_r82.1) (P := Try.prog) (T := TT) (src := 107) (dst := 9) (e := 5) (s := 1) (x := (.tmp 134)) (by kernel_rfl) (by kernel_rfl) (by kernel_rfl)) (.cons (G_ringref3_PointsPack_ok n v_points1 _ h316) (.cons h317 (.cons (G_extent_At_ok n v_r67.1 v_block4 _ h318) .nil)))))))) q
    · rw [if_neg h317] at h
      cases h
      exact pkk_sound TTok mix hF 1 (hs := [.r ((eL (fun x => PV.agg [.v (.int .i64 (x 0)), .v (.int .i64 (x 1))])) v_r320), .r ((eL (fun x => PV.agg [.v (.int .i64 (x 0)), .v (.int .i64 (x 1))])) v_r321), .r (eB v_r322), .t true, .c, .e 21 [] (.d (.v (.string (b2s v_r82.1)))) [], .c, .c, .r (eS v_r323), .c, .t false, .c, .c, .c, .c]) (ts := []) (s := []) (l := [8]) (by kernel_rfl) (by kernel_rfl) (.cons (G_ringlaw3_runs_ok n v_r67.1 _ h312) (.cons (G_ringref3_Runs_ok n v_points1 _ h313) (.cons (G_slices_Equal_2_int_2_int_ok n v_r320 v_r321 _ h314) (.cons h315 (.cons (xb2sD (L := v_r82.1) (P := Try.prog) (T := TT) (src := 107) (dst := 9) (e := 5) (s := 1) (x := (.tmp 134)) (by kernel_rfl) (by kernel_rfl) (by kernel_rfl)) (.cons (G_ringref3_PointsPack_ok n v_points1 _ h316) (.cons (vf h317) .nil))))))) q
  · rw [if_neg h315] at h
    cases h
    exact pkk_sound TTok mix hF 1 (hs := [.r ((eL (fun x => PV.agg [.v (.int .i64 (x 0)), .v (.int .i64 (x 1))])) v_r320), .r ((eL (fun x => PV.agg [.v (.int .i64 (x 0)), .v (.int .i64 (x 1))])) v_r321), .r (eB v_r322), .t false, .c, .c, .c, .c, .c, .c, .c, .c, .c]) (ts := []) (s := []) (l := [8]) (by kernel_rfl) (by kernel_rfl) (.cons (G_ringlaw3_runs_ok n v_r67.1 _ h312) (.cons (G_ringref3_Runs_ok n v_points1 _ h313) (.cons (G_slices_Equal_2_int_2_int_ok n v_r320 v_r321 _ h314) (.cons (vf h315) .nil)))) q
inductive G_ringlaw3_ExtentTurns_C5_R where
  | x0 (v_x340 : Bool)
def G_ringlaw3_ExtentTurns_C5_ex : G_ringlaw3_ExtentTurns_C5_R → Ex
  | .x0 _ => .normal
def G_ringlaw3_ExtentTurns_C5_st (v_points1 : (List Int)) (v_block4 : Int) (v_r67 : ((List S_extent_Ext) × Int)) (v_r82 : ((List Int) × Int)) : G_ringlaw3_ExtentTurns_C5_R → PS
  | .x0 v_x340 => ⟨[dd, dd, dd, dd, dd, dd, dd, dd, .d (.v (.bool v_x340)), dd, dd, dd, dd, dd, dd, dd, dd, dd, dd, dd, dd, dd, dd, dd, dd, dd, dd, dd, dd, dd, dd, dd, dd, dd, dd, dd, dd, dd, dd, dd, dd, dd, dd, dd, dd, dd, dd, dd, dd, dd, dd, dd, dd, dd, dd, dd, dd, dd, dd, dd, dd, dd, dd, dd, dd, dd, dd, dd, dd, dd, dd, dd, dd, dd, dd, dd, dd, dd, dd, dd, dd, dd, dd, dd, dd, dd, dd, dd, dd, dd, dd, dd, dd, dd, dd, dd, dd, dd, dd, dd, dd, dd, dd, dd, dd, dd, dd, dd, dd, dd, dd, dd, dd, dd, dd, dd, dd, dd, dd, dd, dd, dd, dd, dd, dd, dd, dd, dd, dd, dd, dd, dd, dd, dd, dd, dd, dd, dd, dd, dd, dd, dd, dd, dd, dd, dd, dd], []⟩
def G_ringlaw3_ExtentTurns_C5_hd (v_points1 : (List Int)) (v_block4 : Int) (v_r67 : ((List S_extent_Ext) × Int)) (v_r82 : ((List Int) × Int))  : PS := ⟨[.d (.sl (v_points1.map (eI .i64))), dd, dd, .d (.v (.int .i64 v_block4)), dd, dd, dd, dd, dd, dd, .d (.sl (v_r67.1.map eS_extent_Ext)), dd, .d (.sl (v_r82.1.map (eI .u8))), dd, dd, dd, dd, dd, dd, dd, dd, dd, .d (.v (.int .i64 0)), dd, dd, dd, dd, dd, dd, dd, dd, dd, dd, dd, dd, dd, dd, dd, dd, dd, dd, dd, dd, dd, dd, dd, dd, dd, dd, dd, dd, dd, dd, dd, dd, dd, dd, dd, dd, dd, dd, dd, dd, dd, dd, dd, dd, dd, dd, dd, dd, dd, dd, dd, dd, dd, dd, dd, dd, dd, dd, dd, dd, dd, dd, dd, dd, dd, dd, dd, dd, dd, dd, dd, dd, dd, dd, dd, dd, dd, dd, dd, dd, dd, dd, dd, dd, dd, dd, dd, dd, dd, dd, dd, dd, dd, dd, dd, dd, dd, dd, dd, dd, dd, dd, dd, dd, dd, dd, dd, dd, dd, dd, dd, dd, dd, dd, dd, dd, dd, dd, dd, dd, dd, dd, dd, dd], []⟩
def G_ringlaw3_ExtentTurns_C5 (n : Nat) (v_points1 : (List Int)) (v_block4 : Int) (v_r67 : ((List S_extent_Ext) × Int)) (v_r82 : ((List Int) × Int)) : Option G_ringlaw3_ExtentTurns_C5_R :=
  (G_ringlaw3_runs n v_r67.1).bind fun (v_r335 : ((List (Fin 2 → Int)))) =>
  (G_ringref3_Runs n v_points1).bind fun (v_r336 : ((List (Fin 2 → Int)))) =>
  (G_slices_Equal_2_int_2_int n v_r335 v_r336).bind fun (v_r337 : (Bool)) =>
  if v_r337 = true then
   (G_ringref3_PointsPack n v_points1).bind fun (v_r338 : (ByteArray)) =>
   if ((b2s v_r82.1).toList == v_r338.toList) = true then
    (G_extent_At n v_r67.1 v_block4).bind fun (v_r339 : (Int)) =>
    some (.x0 (v_r339 == 0))
   else
    some (.x0 false)
  else
   some (.x0 false)
theorem G_ringlaw3_ExtentTurns_C5_ok {Fi : Ex → PS → Prop} (hF : KC 147 Fi) (ks : List Fr) (n : Nat) (v_points1 : (List Int)) (v_block4 : Int) (v_r67 : ((List S_extent_Ext) × Int)) (v_r82 : ((List Int) × Int))  (o : G_ringlaw3_ExtentTurns_C5_R) (h : G_ringlaw3_ExtentTurns_C5 n v_points1 v_block4 v_r67 v_r82 = some o) (q : RunE Try.prog 147 Fi ks (G_ringlaw3_ExtentTurns_C5_ex o) (G_ringlaw3_ExtentTurns_C5_st v_points1 v_block4 v_r67 v_r82 o)) : RunE Try.prog 147 Fi (.s (cL (cR (cR (cR (cR (cR (cR (cR (cR (cR (cR (cR (cR (cR (bodyOf Try.f8))))))))))))))) :: ks) .normal (G_ringlaw3_ExtentTurns_C5_hd v_points1 v_block4 v_r67 v_r82) := by
  unfold G_ringlaw3_ExtentTurns_C5 at h
  obtain ⟨v_r335, h327, h⟩ := bind_some h
  obtain ⟨v_r336, h328, h⟩ := bind_some h
  obtain ⟨v_r337, h329, h⟩ := bind_some h
  by_cases h330 : v_r337 = true
  · rw [if_pos h330] at h
    obtain ⟨v_r338, h331, h⟩ := bind_some h
    by_cases h332 : ((b2s v_r82.1).toList == v_r338.toList) = true
    · rw [if_pos h332] at h
      obtain ⟨v_r339, h333, h⟩ := bind_some h
      cases h
      exact pkk_sound TTok mix hF 1 (hs := [.r ((eL (fun x => PV.agg [.v (.int .i64 (x 0)), .v (.int .i64 (x 1))])) v_r335), .r ((eL (fun x => PV.agg [.v (.int .i64 (x 0)), .v (.int .i64 (x 1))])) v_r336), .r (eB v_r337), .t true, .c, .e 21 [] (.d (.v (.string (b2s v_r82.1)))) [], .c, .c, .r (eS v_r338), .c, .t true, .c, .c, .r ((eI .i64) v_r339), .c, .c]) (ts := []) (s := []) (l := [8]) (by kernel_rfl) (by kernel_rfl) (.cons (G_ringlaw3_runs_ok n v_r67.1 _ h327) (.cons (G_ringref3_Runs_ok n v_points1 _ h328) (.cons (G_slices_Equal_2_int_2_int_ok n v_r335 v_r336 _ h329) (.cons h330 (.cons (xb2sD (L := v_r82.1) (P := Try.prog) (T := TT) (src := 107) (dst := 9) (e := 5) (s := 1) (x := (.tmp 134)) (by kernel_rfl) (by kernel_rfl) (by kernel_rfl)) (.cons (G_ringref3_PointsPack_ok n v_points1 _ h331) (.cons h332 (.cons (G_extent_At_ok n v_r67.1 v_block4 _ h333) .nil)))))))) q
    · rw [if_neg h332] at h
      cases h
      exact pkk_sound TTok mix hF 1 (hs := [.r ((eL (fun x => PV.agg [.v (.int .i64 (x 0)), .v (.int .i64 (x 1))])) v_r335), .r ((eL (fun x => PV.agg [.v (.int .i64 (x 0)), .v (.int .i64 (x 1))])) v_r336), .r (eB v_r337), .t true, .c, .e 21 [] (.d (.v (.string (b2s v_r82.1)))) [], .c, .c, .r (eS v_r338), .c, .t false, .c, .c, .c, .c]) (ts := []) (s := []) (l := [8]) (by kernel_rfl) (by kernel_rfl) (.cons (G_ringlaw3_runs_ok n v_r67.1 _ h327) (.cons (G_ringref3_Runs_ok n v_points1 _ h328) (.cons (G_slices_Equal_2_int_2_int_ok n v_r335 v_r336 _ h329) (.cons h330 (.cons (xb2sD (L := v_r82.1) (P := Try.prog) (T := TT) (src := 107) (dst := 9) (e := 5) (s := 1) (x := (.tmp 134)) (by kernel_rfl) (by kernel_rfl) (by kernel_rfl)) (.cons (G_ringref3_PointsPack_ok n v_points1 _ h331) (.cons (vf h332) .nil))))))) q
  · rw [if_neg h330] at h
    cases h
    exact pkk_sound TTok mix hF 1 (hs := [.r ((eL (fun x => PV.agg [.v (.int .i64 (x 0)), .v (.int .i64 (x 1))])) v_r335), .r ((eL (fun x => PV.agg [.v (.int .i64 (x 0)), .v (.int .i64 (x 1))])) v_r336), .r (eB v_r337), .t false, .c, .c, .c, .c, .c, .c, .c, .c, .c]) (ts := []) (s := []) (l := [8]) (by kernel_rfl) (by kernel_rfl) (.cons (G_ringlaw3_runs_ok n v_r67.1 _ h327) (.cons (G_ringref3_Runs_ok n v_points1 _ h328) (.cons (G_slices_Equal_2_int_2_int_ok n v_r335 v_r336 _ h329) (.cons (vf h330) .nil)))) q
/- ringhall/ringlaw3.ExtentTurns -/
def G_ringlaw3_ExtentTurns (n : Nat) (v_points1 : (List Int)) (v_l2 : (List S_extent_Ext)) (v_b3 : (List Int)) (v_block4 : Int) : Option (Bool) :=
  (G_ringlaw3_ExtentTurns_C1 n v_points1 v_l2 v_b3 v_block4).bind fun v_o8 => match v_o8 with
  | .x0 v_z9 =>
    if v_z9 = true then
     some true
    else
     (G_ringref3_PointsRight n v_points1).bind fun (v_r18 : (Int)) =>
     (G_extent_Of n v_points1).bind fun (v_r67 : ((List S_extent_Ext) × Int)) =>
     (G_extent_Pack n v_points1).bind fun (v_r82 : ((List Int) × Int)) =>
     (G_extent_Points n v_l2).bind fun (v_r117 : ((List Int) × Int)) =>
     (G_ringlaw3_runs n v_l2).bind fun (v_r128 : ((List (Fin 2 → Int)))) =>
     (G_ringref3_Unruns n v_r128).bind fun (v_r167 : ((List Int) × Int)) =>
     (G_extent_Unpack n v_b3).bind fun (v_r185 : ((List Int) × Int)) =>
     (G_ringref3_PointsUnpack n (b2s v_b3)).bind fun (v_r263 : ((List Int) × Int)) =>
     (G_ringlaw3_ExtentTurns_C2 n v_points1 v_block4 v_r18 v_r67 v_r82 v_r117 v_r167 v_r185 v_r263).bind fun v_o287 => match v_o287 with
     | .x0 v_z288 =>
       if v_z288 = true then
        some false
       else
        if v_r18 = 0 then
         (G_ringlaw3_ExtentTurns_C3 n v_points1 v_block4 v_r67 v_r82).bind fun v_o291 => match v_o291 with
         | .x0 v_z292 =>
           if v_z292 = true then
            (getI v_points1 v_block4).bind fun (v_y294 : Int) =>
            (G_ringlaw3_ExtentTurns_C4 n v_points1 v_block4 v_r67 v_r82 v_y294).bind fun v_o328 => match v_o328 with
            | .x0 v_z329 =>
              some v_z329
           else
            (G_ringlaw3_ExtentTurns_C5 n v_points1 v_block4 v_r67 v_r82).bind fun v_o343 => match v_o343 with
            | .x0 v_z344 =>
              some v_z344
        else
         if (v_r67.1.length : Int) = 0 then
          some ((v_r82.1.length : Int) == 0)
         else
          some false
theorem G_ringlaw3_ExtentTurns_ok (n : Nat) (v_points1 : (List Int)) (v_l2 : (List S_extent_Ext)) (v_b3 : (List Int)) (v_block4 : Int) (r : Bool) (h : G_ringlaw3_ExtentTurns n v_points1 v_l2 v_b3 v_block4 = some r) : Ret Try.prog 8 [(eL (eI .i64)) v_points1, (eL eS_extent_Ext) v_l2, (eL (eI .u8)) v_b3, (eI .i64) v_block4] (eB r) := by
  refine ret_run (n := 147) (fn := Try.f8) (c := bodyOf Try.f8) (by kernel_rfl) (by kernel_rfl) (by kernel_rfl) (by kernel_rfl) ?_
  have hF : KC 147 (FinR Try.prog Try.f8 (eB r)) := FinR.kc' (by kernel_rfl)
  unfold G_ringlaw3_ExtentTurns at h
  obtain ⟨v_o8, h5, h⟩ := bind_some h
  refine pkk_sound TTok mix hF 4 (hs := []) (ts := []) (s := []) (l := [0, 1, 2, 3]) (by kernel_rfl) (by kernel_rfl) .nil (G_ringlaw3_ExtentTurns_C1_ok hF (.s (cR (cL (cR (bodyOf Try.f8)))) :: .s (cR (cR (bodyOf Try.f8))) :: []) n v_points1 v_l2 v_b3 v_block4 _ h5 ?_)
  cases v_o8 with
  | x0 v_z9 =>
    try dsimp only at h
    by_cases h6 : v_z9 = true
    · rw [if_pos h6] at h
      obtain rfl := Option.some.inj h
      exact pend_sound TTok mix 5 (hs := [.t true]) (by kernel_rfl) (by kernel_rfl) (by kernel_rfl) (.cons h6 .nil)
    · rw [if_neg h6] at h
      obtain ⟨v_r18, h16, h⟩ := bind_some h
      obtain ⟨v_r67, h80, h⟩ := bind_some h
      obtain ⟨v_r82, h97, h⟩ := bind_some h
      obtain ⟨v_r117, h122, h⟩ := bind_some h
      obtain ⟨v_r128, h129, h⟩ := bind_some h
      obtain ⟨v_r167, h160, h⟩ := bind_some h
      obtain ⟨v_r185, h180, h⟩ := bind_some h
      obtain ⟨v_r263, h242, h⟩ := bind_some h
      obtain ⟨v_o287, h270, h⟩ := bind_some h
      refine pkk_sound TTok mix hF 18 (hs := [.t false, .r ((eI .i64) v_r18), .r (.tup [(eL eS_extent_Ext) v_r67.1, (eI .i64) v_r67.2]), .r (.tup [(eL (eI .u8)) v_r82.1, (eI .i64) v_r82.2]), .r (.tup [(eL (eI .i64)) v_r117.1, (eI .i64) v_r117.2]), .r ((eL (fun x => PV.agg [.v (.int .i64 (x 0)), .v (.int .i64 (x 1))])) v_r128), .r (.tup [(eL (eI .i64)) v_r167.1, (eI .i64) v_r167.2]), .r (.tup [(eL (eI .i64)) v_r185.1, (eI .i64) v_r185.2]), .e 120 [] (.d (.v (.string (b2s v_b3)))) [], .r (.tup [(eL (eI .i64)) v_r263.1, (eI .i64) v_r263.2])]) (ts := []) (s := []) (l := [0, 3, 9, 10, 11, 12, 13, 14, 15, 16, 17, 18, 19, 20, 21]) (by kernel_rfl) (by kernel_rfl) (.cons (vf h6) (.cons (G_ringref3_PointsRight_ok n v_points1 _ h16) (.cons (G_extent_Of_ok n v_points1 _ h80) (.cons (G_extent_Pack_ok n v_points1 _ h97) (.cons (G_extent_Points_ok n v_l2 _ h122) (.cons (G_ringlaw3_runs_ok n v_l2 _ h129) (.cons (G_ringref3_Unruns_ok n v_r128 _ h160) (.cons (G_extent_Unpack_ok n v_b3 _ h180) (.cons (xb2sD (L := v_b3) (P := Try.prog) (T := TT) (src := 107) (dst := 9) (e := 5) (s := 1) (x := (.tmp 65)) (by kernel_rfl) (by kernel_rfl) (by kernel_rfl)) (.cons (G_ringref3_PointsUnpack_ok n (b2s v_b3) _ h242) .nil)))))))))) (G_ringlaw3_ExtentTurns_C2_ok hF (.s (cR (cL (cR (cR (cR (cR (cR (cR (cR (cR (cR (bodyOf Try.f8)))))))))))) :: .s (cR (cR (cR (cR (cR (cR (cR (cR (cR (cR (bodyOf Try.f8))))))))))) :: []) n v_points1 v_block4 v_r18 v_r67 v_r82 v_r117 v_r167 v_r185 v_r263 _ h270 ?_)
      cases v_o287 with
      | x0 v_z288 =>
        try dsimp only at h
        by_cases h271 : v_z288 = true
        · rw [if_pos h271] at h
          obtain rfl := Option.some.inj h
          exact pend_sound TTok mix 5 (hs := [.t true]) (by kernel_rfl) (by kernel_rfl) (by kernel_rfl) (.cons h271 .nil)
        · rw [if_neg h271] at h
          by_cases h274 : v_r18 = 0
          · rw [if_pos h274] at h
            obtain ⟨v_o291, h278, h⟩ := bind_some h
            refine pkk_sound TTok mix hF 11 (hs := [.t false, .t false]) (ts := []) (s := []) (l := [0, 3, 10, 12, 22]) (by kernel_rfl) (by kernel_rfl) (.cons (vf h271) (.cons (nf h274) .nil)) (G_ringlaw3_ExtentTurns_C3_ok hF (.s (cR (cL (cR (cR (cR (cR (cR (cR (cR (cR (cR (cR (cR (cR (bodyOf Try.f8))))))))))))))) :: .s (cR (cR (cR (cR (cR (cR (cR (cR (cR (cR (cR (cR (cR (bodyOf Try.f8)))))))))))))) :: []) n v_points1 v_block4 v_r67 v_r82 _ h278 ?_)
            cases v_o291 with
            | x0 v_z292 =>
              try dsimp only at h
              by_cases h281 : v_z292 = true
              · rw [if_pos h281] at h
                obtain ⟨v_y294, h282, h⟩ := bind_some h
                obtain ⟨v_o328, h319, h⟩ := bind_some h
                refine pkk_sound TTok mix hF 3 (hs := [.t true, .y ((eI .i64) v_y294), .c]) (ts := []) (s := []) (l := [0, 3, 10, 12, 22]) (by kernel_rfl) (by kernel_rfl) (.cons h281 (.cons (getI_ob (f := (eI .i64)) h282) .nil)) (G_ringlaw3_ExtentTurns_C4_ok hF (.s (cR (cR (cR (cR (cR (cR (cR (cR (cR (cR (cR (cR (cR (cR (bodyOf Try.f8))))))))))))))) :: []) n v_points1 v_block4 v_r67 v_r82 v_y294 _ h319 ?_)
                cases v_o328 with
                | x0 v_z329 =>
                  try dsimp only at h
                  obtain rfl := Option.some.inj h
                  exact pend_sound TTok mix 1 (hs := []) (by kernel_rfl) (by kernel_rfl) (by kernel_rfl) .nil
              · rw [if_neg h281] at h
                obtain ⟨v_o343, h334, h⟩ := bind_some h
                refine pkk_sound TTok mix hF 3 (hs := [.t false]) (ts := []) (s := []) (l := [0, 3, 10, 12, 22]) (by kernel_rfl) (by kernel_rfl) (.cons (vf h281) .nil) (G_ringlaw3_ExtentTurns_C5_ok hF (.s (cR (cR (cR (cR (cR (cR (cR (cR (cR (cR (cR (cR (cR (cR (bodyOf Try.f8))))))))))))))) :: []) n v_points1 v_block4 v_r67 v_r82 _ h334 ?_)
                cases v_o343 with
                | x0 v_z344 =>
                  try dsimp only at h
                  obtain rfl := Option.some.inj h
                  exact pend_sound TTok mix 1 (hs := []) (by kernel_rfl) (by kernel_rfl) (by kernel_rfl) .nil
          · rw [if_neg h274] at h
            by_cases h275 : (v_r67.1.length : Int) = 0
            · rw [if_pos h275] at h
              obtain rfl := Option.some.inj h
              exact pend_sound TTok mix 10 (hs := [.t false, .t true, .u (.d (.v (.int .i64 (v_r67.1.length : Int)))), .t true, .c, .u (.d (.v (.int .i64 (v_r82.1.length : Int)))), .c]) (by kernel_rfl) (by kernel_rfl) (by kernel_rfl) (.cons (vf h271) (.cons (nt h274) (.cons (len_ob (f := eS_extent_Ext) (l := v_r67.1)) (.cons (bt h275) (.cons (len_ob (f := (eI .u8)) (l := v_r82.1)) .nil)))))
            · rw [if_neg h275] at h
              obtain rfl := Option.some.inj h
              exact pend_sound TTok mix 10 (hs := [.t false, .t true, .u (.d (.v (.int .i64 (v_r67.1.length : Int)))), .t false, .c, .c]) (by kernel_rfl) (by kernel_rfl) (by kernel_rfl) (.cons (vf h271) (.cons (nt h274) (.cons (len_ob (f := eS_extent_Ext) (l := v_r67.1)) (.cons (bf h275) .nil))))
def okS_extent_Ext (x : S_extent_Ext) : Prop := (fun a => (Lit.int .i64 a).wf = true) x.fStart ∧ (fun a => (Lit.int .i64 a).wf = true) x.fN ∧ True
theorem brS_extent_Ext : Br (.pair (.int .i64) (.pair (.int .i64) .unit)) (fun x : S_extent_Ext => [.v (.int .i64 x.fStart), .v (.int .i64 x.fN)]) okS_extent_Ext := br_map (br_pair (br_int .i64) (br_pair (br_int .i64) br_unit)) (fun p => S_extent_Ext.mk p.1 p.2.1) (fun p h => ⟨rfl, h⟩)
theorem ExtentTurns_walk (H : ∀ (a0 : (List Int)) (a1 : (List S_extent_Ext)) (a2 : (List Int)) (a3 : Int), (okL 8 (fun a => (Lit.int .i64 a).wf = true)) a0 → (okL 16 okS_extent_Ext) a1 → (okL 1 (fun a => (Lit.int .u8 a).wf = true)) a2 → (fun a => (Lit.int .i64 a).wf = true) a3 → ∃ n, G_ringlaw3_ExtentTurns n a0 a1 a2 a3 = some true) (w : World) (v0 : Value) (v1 : Value) (v2 : Value) (v3 : Value) (h0 : rep.Arg w (.slice 8 (.int .i64)) v0) (h1 : rep.Arg w (.slice 16 (.pair (.int .i64) (.pair (.int .i64) .unit))) v1) (h2 : rep.Arg w (.slice 1 (.int .u8)) v2) (h3 : rep.Arg w (.int .i64) v3) : Calls Try.prog 8 #[v0, v1, v2, v3] w (help.Ret (.bool true) w) := by
  obtain ⟨a0, o0, r0⟩ := arg_one (br_slice (f := (eI .i64)) (ok := (fun a => (Lit.int .i64 a).wf = true)) (br_int .i64) (fun _ => rfl) (by decide)) (by rfl) h0
  obtain ⟨a1, o1, r1⟩ := arg_one (br_slice (f := eS_extent_Ext) (ok := okS_extent_Ext) brS_extent_Ext (fun _ => rfl) (by decide)) (by rfl) h1
  obtain ⟨a2, o2, r2⟩ := arg_one (br_slice (f := (eI .u8)) (ok := (fun a => (Lit.int .u8 a).wf = true)) (br_int .u8) (fun _ => rfl) (by decide)) (by rfl) h2
  obtain ⟨a3, o3, r3⟩ := arg_one (br_int .i64) (by rfl) h3
  obtain ⟨n, hn⟩ := H a0 a1 a2 a3 o0 o1 o2 o3
  exact walk_of (G_ringlaw3_ExtentTurns_ok n a0 a1 a2 a3 true hn) (RT_cons r0 (RT_cons r1 (RT_cons r2 (RT_cons r3 RT_nil))))
/- FRAME ExtentTurns; ringhall/ringlaw3.ExtentTurns; (.slice 8 (.int .i64)) | (.slice 16 (.pair (.int .i64) (.pair (.int .i64) .unit))) | (.slice 1 (.int .u8)) | (.int .i64); .slice none 0 0 | .slice none 0 0 | .slice none 0 0 | .int .i64 0 -/
end Go.Proofs.Ytjjjaakefnnbpaa.pv
