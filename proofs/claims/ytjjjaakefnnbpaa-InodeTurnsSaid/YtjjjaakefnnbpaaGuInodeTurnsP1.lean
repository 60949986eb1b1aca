/- What the functions compute, as functions over plain data, with their contracts: written by gen.py. -/
import Derived.Test.YtjjjaakefnnbpaaProg
import Derived.Test.YtjjjaakefnnbpaaQr
import Derived.Test.YtjjjaakefnnbpaaShelf
import Derived.Test.YtjjjaakefnnbpaaSg
set_option maxRecDepth 100000
set_option linter.all false
namespace Go.Proofs.Ytjjjaakefnnbpaa.pv
open Go.RowKit
def TT : List TI := [
⟨1, 0, .oth, []⟩,
⟨1, 8, .oth, [.nf]⟩,
⟨1, 8, .int .i64, [.i .i64]⟩,
⟨1, 8, .int .i64, [.i .i64]⟩,
⟨1, 1, .bool, [.b]⟩,
⟨1, 1, .int .u8, [.i .u8]⟩,
⟨1, 1, .int .u8, [.i .u8]⟩,
⟨4, 24, .st [(0, 2), (1, 3), (2, 4), (3, 6)], [.i .i64, .i .i64, .b, .i .u8]⟩,
⟨4, 24, .st [(0, 2), (1, 3), (2, 4), (3, 6)], [.i .i64, .i .i64, .b, .i .u8]⟩,
⟨1, 16, .str, [.s]⟩,
⟨1, 16, .str, [.s]⟩,
⟨1, 16, .str, [.s]⟩,
⟨1, 8, .int .u64, [.i .u64]⟩,
⟨2, 24, .st [(0, 9), (1, 12)], [.s, .i .u64]⟩,
⟨2, 24, .st [(0, 9), (1, 12)], [.s, .i .u64]⟩,
⟨1, 8, .ptr 333, [.np]⟩,
⟨1, 8, .ptr 336, [.np]⟩,
⟨1, 8, .ptr 343, [.np]⟩,
⟨1, 8, .st [(0, 17)], [.np]⟩,
⟨1, 8, .st [(0, 17)], [.np]⟩,
⟨1, 16, .oth, [.ni]⟩,
⟨1, 4, .int .i32, [.i .i32]⟩,
⟨1, 24, .sl 3, [.sl]⟩,
⟨6, 64, .st [(0, 3), (1, 3), (2, 22), (3, 3), (4, 3), (5, 3)], [.i .i64, .i .i64, .sl, .i .i64, .i .i64, .i .i64]⟩,
⟨6, 64, .st [(0, 3), (1, 3), (2, 22), (3, 3), (4, 3), (5, 3)], [.i .i64, .i .i64, .sl, .i .i64, .i .i64, .i .i64]⟩,
⟨1, 8, .int .i64, [.i .i64]⟩,
⟨1, 0, .oth, []⟩,
⟨1, 8, .oth, [.nf]⟩,
⟨1, 0, .oth, []⟩,
⟨1, 8, .oth, [.nf]⟩,
⟨1, 8, .oth, [.nf]⟩,
⟨1, 8, .oth, [.nf]⟩,
⟨1, 8, .oth, [.nf]⟩,
⟨1, 8, .oth, [.nf]⟩,
⟨1, 8, .oth, [.nf]⟩,
⟨1, 8, .oth, [.nf]⟩,
⟨1, 8, .oth, [.nf]⟩,
⟨1, 8, .oth, [.nf]⟩,
⟨1, 24, .sl 211, [.sl]⟩,
⟨1, 8, .oth, [.nf]⟩,
⟨1, 0, .oth, []⟩,
⟨1, 8, .oth, [.nf]⟩,
⟨1, 8, .oth, [.nf]⟩,
⟨1, 24, .sl 47, [.sl]⟩,
⟨1, 8, .oth, [.nf]⟩,
⟨1, 8, .oth, [.nf]⟩,
⟨1, 8, .oth, [.nf]⟩,
⟨3, 24, .arr 3 3, [.i .i64, .i .i64, .i .i64]⟩,
⟨1, 8, .oth, [.nf]⟩,
⟨1, 8, .oth, [.nf]⟩,
⟨1, 24, .sl 59, [.sl]⟩,
⟨1, 24, .sl 65, [.sl]⟩,
⟨1, 24, .sl 4, [.sl]⟩,
⟨1, 0, .oth, []⟩,
⟨1, 8, .oth, [.nf]⟩,
⟨1, 0, .oth, []⟩,
⟨1, 8, .oth, [.nf]⟩,
⟨1, 8, .oth, [.nf]⟩,
⟨2, 16, .st [(0, 3), (1, 3)], [.i .i64, .i .i64]⟩,
⟨2, 16, .st [(0, 3), (1, 3)], [.i .i64, .i .i64]⟩,
⟨1, 8, .oth, [.nf]⟩,
⟨1, 8, .oth, [.nf]⟩,
⟨1, 8, .oth, [.nf]⟩,
⟨1, 8, .oth, [.nf]⟩,
⟨3, 24, .st [(0, 3), (1, 3), (2, 4)], [.i .i64, .i .i64, .b]⟩,
⟨3, 24, .st [(0, 3), (1, 3), (2, 4)], [.i .i64, .i .i64, .b]⟩,
⟨1, 8, .oth, [.nf]⟩,
⟨1, 8, .oth, [.nf]⟩,
⟨1, 8, .oth, [.nf]⟩,
⟨1, 8, .oth, [.nf]⟩,
⟨8, 80, .st [(0, 3), (1, 3), (2, 3), (3, 3), (4, 3), (5, 3), (6, 3), (7, 22)], [.i .i64, .i .i64, .i .i64, .i .i64, .i .i64, .i .i64, .i .i64, .sl]⟩,
⟨8, 80, .st [(0, 3), (1, 3), (2, 3), (3, 3), (4, 3), (5, 3), (6, 3), (7, 22)], [.i .i64, .i .i64, .i .i64, .i .i64, .i .i64, .i .i64, .i .i64, .sl]⟩,
⟨1, 24, .sl 71, [.sl]⟩,
⟨1, 24, .sl 83, [.sl]⟩,
⟨1, 8, .oth, [.nf]⟩,
⟨8, 80, .st [(0, 3), (1, 3), (2, 3), (3, 3), (4, 3), (5, 3), (6, 3), (7, 22)], [.i .i64, .i .i64, .i .i64, .i .i64, .i .i64, .i .i64, .i .i64, .sl]⟩,
⟨1, 8, .oth, [.nf]⟩,
⟨1, 0, .oth, []⟩,
⟨1, 8, .oth, [.nf]⟩,
⟨1, 8, .oth, [.nf]⟩,
⟨1, 0, .oth, []⟩,
⟨1, 8, .oth, [.nf]⟩,
⟨2, 24, .st [(0, 9), (1, 3)], [.s, .i .i64]⟩,
⟨2, 24, .st [(0, 9), (1, 3)], [.s, .i .i64]⟩,
⟨1, 8, .oth, [.nf]⟩,
⟨1, 8, .oth, [.nf]⟩,
⟨1, 8, .oth, [.nf]⟩,
⟨16, 128, .arr 16 3, List.replicate 16 (.i .i64)⟩,
⟨18, 144, .st [(0, 3), (1, 3), (2, 87)], List.replicate 18 (.i .i64)⟩,
⟨18, 144, .st [(0, 3), (1, 3), (2, 87)], List.replicate 18 (.i .i64)⟩,
⟨1, 0, .oth, []⟩,
⟨1, 8, .oth, [.nf]⟩,
⟨1, 8, .oth, [.nf]⟩,
⟨1, 8, .oth, [.nf]⟩,
⟨1, 0, .oth, []⟩,
⟨1, 8, .oth, [.nf]⟩,
⟨1, 8, .oth, [.nf]⟩,
⟨1, 8, .oth, [.nf]⟩,
⟨1, 8, .oth, [.nf]⟩,
⟨18, 176, .st [(0, 22), (1, 22), (2, 87)], (List.replicate 2 (.sl) ++ List.replicate 16 (.i .i64))⟩,
⟨18, 176, .st [(0, 22), (1, 22), (2, 87)], (List.replicate 2 (.sl) ++ List.replicate 16 (.i .i64))⟩,
⟨1, 8, .oth, [.nf]⟩,
⟨1, 8, .oth, [.nf]⟩,
⟨1, 8, .oth, [.nf]⟩,
⟨1, 8, .oth, [.nf]⟩,
⟨1, 8, .oth, [.nf]⟩,
⟨1, 24, .sl 229, [.sl]⟩,
⟨1, 24, .sl 5, [.sl]⟩,
⟨1, 8, .oth, [.nf]⟩,
⟨1, 0, .oth, []⟩,
⟨1, 8, .oth, [.nf]⟩,
⟨1, 0, .oth, []⟩,
⟨1, 8, .oth, [.nf]⟩,
⟨1, 0, .oth, []⟩,
⟨1, 8, .oth, [.nf]⟩,
⟨1, 8, .oth, [.nf]⟩,
⟨1, 24, .sl 121, [.sl]⟩,
⟨1, 8, .oth, [.nf]⟩,
⟨1, 8, .oth, [.nf]⟩,
⟨1, 8, .oth, [.nf]⟩,
⟨1, 8, .oth, [.nf]⟩,
⟨2, 16, .arr 2 3, [.i .i64, .i .i64]⟩,
⟨1, 8, .oth, [.nf]⟩,
⟨1, 8, .oth, [.nf]⟩,
⟨1, 8, .oth, [.nf]⟩,
⟨1, 8, .oth, [.nf]⟩,
⟨1, 8, .oth, [.nf]⟩,
⟨1, 0, .oth, []⟩,
⟨1, 8, .oth, [.nf]⟩,
⟨1, 0, .oth, []⟩,
⟨1, 8, .oth, [.nf]⟩,
⟨1, 8, .oth, [.nf]⟩,
⟨1, 8, .oth, [.nf]⟩,
⟨6, 48, .st [(0, 3), (1, 3), (2, 3), (3, 3), (4, 3), (5, 3)], [.i .i64, .i .i64, .i .i64, .i .i64, .i .i64, .i .i64]⟩,
⟨6, 48, .st [(0, 3), (1, 3), (2, 3), (3, 3), (4, 3), (5, 3)], [.i .i64, .i .i64, .i .i64, .i .i64, .i .i64, .i .i64]⟩,
⟨1, 8, .oth, [.nf]⟩,
⟨1, 8, .oth, [.nf]⟩,
⟨1, 8, .oth, [.nf]⟩,
⟨1, 8, .oth, [.nf]⟩,
⟨1, 24, .sl 233, [.sl]⟩,
⟨1, 24, .sl 155, [.sl]⟩,
⟨1, 8, .oth, [.nf]⟩,
⟨1, 8, .oth, [.nf]⟩,
⟨1, 0, .oth, []⟩,
⟨1, 8, .oth, [.nf]⟩,
⟨1, 0, .oth, []⟩,
⟨1, 8, .oth, [.nf]⟩,
⟨1, 8, .oth, [.nf]⟩,
⟨1, 8, .oth, [.nf]⟩,
⟨1, 8, .oth, [.nf]⟩,
⟨1, 8, .oth, [.nf]⟩,
⟨1, 8, .oth, [.nf]⟩,
⟨1, 8, .oth, [.nf]⟩,
⟨1, 8, .oth, [.nf]⟩,
⟨2, 16, .st [(0, 3), (1, 3)], [.i .i64, .i .i64]⟩,
⟨2, 16, .st [(0, 3), (1, 3)], [.i .i64, .i .i64]⟩,
⟨1, 8, .oth, [.nf]⟩,
⟨1, 8, .oth, [.nf]⟩,
⟨1, 8, .oth, [.nf]⟩,
⟨1, 24, .sl 166, [.sl]⟩,
⟨1, 8, .ptr 245, [.np]⟩,
⟨1, 8, .oth, [.nf]⟩,
⟨1, 24, .sl 180, [.sl]⟩,
⟨1, 24, .sl 180, [.sl]⟩,
⟨1, 8, .oth, [.nf]⟩,
⟨3, 24, .st [(0, 3), (1, 3), (2, 3)], [.i .i64, .i .i64, .i .i64]⟩,
⟨3, 24, .st [(0, 3), (1, 3), (2, 3)], [.i .i64, .i .i64, .i .i64]⟩,
⟨1, 8, .oth, [.nf]⟩,
⟨1, 8, .oth, [.nf]⟩,
⟨1, 8, .oth, [.nf]⟩,
⟨1, 0, .oth, []⟩,
⟨1, 8, .oth, [.nf]⟩,
⟨1, 8, .oth, [.nf]⟩,
⟨1, 8, .oth, [.nf]⟩,
⟨1, 0, .oth, []⟩,
⟨1, 8, .oth, [.nf]⟩,
⟨1, 0, .oth, []⟩,
⟨1, 8, .oth, [.nf]⟩,
⟨1, 8, .oth, [.nf]⟩,
⟨5, 40, .st [(0, 3), (1, 3), (2, 3), (3, 3), (4, 4)], [.i .i64, .i .i64, .i .i64, .i .i64, .b]⟩,
⟨5, 40, .st [(0, 3), (1, 3), (2, 3), (3, 3), (4, 4)], [.i .i64, .i .i64, .i .i64, .i .i64, .b]⟩,
⟨1, 8, .oth, [.nf]⟩,
⟨1, 8, .oth, [.nf]⟩,
⟨1, 8, .oth, [.nf]⟩,
⟨1, 8, .oth, [.nf]⟩,
⟨1, 24, .sl 202, [.sl]⟩,
⟨1, 8, .ptr 256, [.np]⟩,
⟨1, 8, .oth, [.nf]⟩,
⟨1, 8, .oth, [.nf]⟩,
⟨5, 40, .st [(0, 3), (1, 3), (2, 3), (3, 4), (4, 3)], [.i .i64, .i .i64, .i .i64, .b, .i .i64]⟩,
⟨5, 40, .st [(0, 3), (1, 3), (2, 3), (3, 4), (4, 3)], [.i .i64, .i .i64, .i .i64, .b, .i .i64]⟩,
⟨1, 24, .sl 190, [.sl]⟩,
⟨1, 0, .oth, []⟩,
⟨1, 8, .oth, [.nf]⟩,
⟨1, 8, .ptr 199, [.np]⟩,
⟨1, 24, .sl 200, [.sl]⟩,
⟨8, 64, .arr 8 3, [.i .i64, .i .i64, .i .i64, .i .i64, .i .i64, .i .i64, .i .i64, .i .i64]⟩,
⟨136, 1088, .arr 17 196, List.replicate 136 (.i .i64)⟩,
⟨137, 1112, .st [(0, 195), (1, 197)], (List.replicate 1 (.sl) ++ List.replicate 136 (.i .i64))⟩,
⟨137, 1112, .st [(0, 195), (1, 197)], (List.replicate 1 (.sl) ++ List.replicate 136 (.i .i64))⟩,
⟨5, 40, .st [(0, 3), (1, 3), (2, 3), (3, 4), (4, 3)], [.i .i64, .i .i64, .i .i64, .b, .i .i64]⟩,
⟨9, 72, .st [(0, 3), (1, 3), (2, 3), (3, 3), (4, 200)], [.i .i64, .i .i64, .i .i64, .i .i64, .i .i64, .i .i64, .i .i64, .b, .i .i64]⟩,
⟨9, 72, .st [(0, 3), (1, 3), (2, 3), (3, 3), (4, 200)], [.i .i64, .i .i64, .i .i64, .i .i64, .i .i64, .i .i64, .i .i64, .b, .i .i64]⟩,
⟨1, 8, .oth, [.nf]⟩,
⟨1, 8, .oth, [.nf]⟩,
⟨1, 8, .oth, [.nf]⟩,
⟨1, 8, .oth, [.nf]⟩,
⟨1, 8, .oth, [.nf]⟩,
⟨1, 8, .oth, [.nf]⟩,
⟨1, 8, .int .u64, [.i .u64]⟩,
⟨3, 24, .st [(0, 3), (1, 3), (2, 3)], [.i .i64, .i .i64, .i .i64]⟩,
⟨3, 24, .st [(0, 3), (1, 3), (2, 3)], [.i .i64, .i .i64, .i .i64]⟩,
⟨1, 0, .oth, []⟩,
⟨1, 8, .oth, [.nf]⟩,
⟨1, 8, .oth, [.nf]⟩,
⟨100, 100, .arr 100 4, List.replicate 100 (.b)⟩,
⟨1, 24, .sl 50, [.sl]⟩,
⟨1, 8, .oth, [.nf]⟩,
⟨6, 6, .arr 6 4, [.b, .b, .b, .b, .b, .b]⟩,
⟨1, 8, .oth, [.nf]⟩,
⟨1, 8, .oth, [.nf]⟩,
⟨1, 8, .oth, [.nf]⟩,
⟨1, 8, .oth, [.nf]⟩,
⟨1, 8, .oth, [.nf]⟩,
⟨1, 8, .oth, [.nf]⟩,
⟨1, 8, .oth, [.nf]⟩,
⟨1, 8, .oth, [.nf]⟩,
⟨1, 8, .oth, [.nf]⟩,
⟨2, 16, .st [(0, 3), (1, 3)], [.i .i64, .i .i64]⟩,
⟨2, 16, .st [(0, 3), (1, 3)], [.i .i64, .i .i64]⟩,
⟨1, 8, .oth, [.nf]⟩,
⟨1, 8, .oth, [.nf]⟩,
⟨1, 8, .oth, [.nf]⟩,
⟨2, 16, .st [(0, 3), (1, 3)], [.i .i64, .i .i64]⟩,
⟨1, 8, .oth, [.nf]⟩,
⟨1, 8, .oth, [.nf]⟩,
⟨1, 8, .oth, [.nf]⟩,
⟨1, 8, .oth, [.nf]⟩,
⟨1, 8, .oth, [.nm]⟩,
⟨1, 0, .oth, []⟩,
⟨1, 8, .oth, [.nf]⟩,
⟨4, 32, .st [(0, 3), (1, 3), (2, 3), (3, 3)], [.i .i64, .i .i64, .i .i64, .i .i64]⟩,
⟨4, 32, .st [(0, 3), (1, 3), (2, 3), (3, 3)], [.i .i64, .i .i64, .i .i64, .i .i64]⟩,
⟨68, 544, .arr 17 242, List.replicate 68 (.i .i64)⟩,
⟨68, 544, .st [(0, 243)], List.replicate 68 (.i .i64)⟩,
⟨68, 544, .st [(0, 243)], List.replicate 68 (.i .i64)⟩,
⟨1, 8, .oth, [.nf]⟩,
⟨1, 8, .oth, [.nf]⟩,
⟨1, 8, .oth, [.nf]⟩,
⟨1, 8, .oth, [.nf]⟩,
⟨1, 8, .oth, [.nf]⟩,
⟨1, 8, .oth, [.nf]⟩,
⟨6, 48, .st [(0, 190), (5, 3)], [.i .i64, .i .i64, .i .i64, .b, .i .i64, .i .i64]⟩,
⟨6, 48, .st [(0, 190), (5, 3)], [.i .i64, .i .i64, .i .i64, .b, .i .i64, .i .i64]⟩,
⟨192, 1536, .arr 32 253, (List.replicate 32 [.i .i64, .i .i64, .i .i64, .b, .i .i64, .i .i64]).flatten⟩,
⟨328, 2624, .st [(0, 254), (192, 197)], [.i .i64, .i .i64, .i .i64, .b, .i .i64, .i .i64, .i .i64, .i .i64, .i .i64, .b, .i .i64, .i .i64, .i .i64, .i .i64, .i .i64, .b, .i .i64, .i .i64, .i .i64, .i .i64, .i .i64, .b, .i .i64, .i .i64, .i .i64, .i .i64, .i .i64, .b, .i .i64, .i .i64, .i .i64, .i .i64, .i .i64, .b, .i .i64, .i .i64, .i .i64, .i .i64, .i .i64, .b, .i .i64, .i .i64, .i .i64, .i .i64, .i .i64, .b, .i .i64, .i .i64, .i .i64, .i .i64, .i .i64, .b, .i .i64, .i .i64, .i .i64, .i .i64, .i .i64, .b, .i .i64, .i .i64, .i .i64, .i .i64, .i .i64, .b, .i .i64, .i .i64, .i .i64, .i .i64, .i .i64, .b, .i .i64, .i .i64, .i .i64, .i .i64, .i .i64, .b, .i .i64, .i .i64, .i .i64, .i .i64, .i .i64, .b, .i .i64, .i .i64, .i .i64, .i .i64, .i .i64, .b, .i .i64, .i .i64, .i .i64, .i .i64, .i .i64, .b, .i .i64, .i .i64, .i .i64, .i .i64, .i .i64, .b, .i .i64, .i .i64, .i .i64, .i .i64, .i .i64, .b, .i .i64, .i .i64, .i .i64, .i .i64, .i .i64, .b, .i .i64, .i .i64, .i .i64, .i .i64, .i .i64, .b, .i .i64, .i .i64, .i .i64, .i .i64, .i .i64, .b, .i .i64, .i .i64, .i .i64, .i .i64, .i .i64, .b, .i .i64, .i .i64, .i .i64, .i .i64, .i .i64, .b, .i .i64, .i .i64, .i .i64, .i .i64, .i .i64, .b, .i .i64, .i .i64, .i .i64, .i .i64, .i .i64, .b, .i .i64, .i .i64, .i .i64, .i .i64, .i .i64, .b, .i .i64, .i .i64, .i .i64, .i .i64, .i .i64, .b, .i .i64, .i .i64, .i .i64, .i .i64, .i .i64, .b, .i .i64, .i .i64, .i .i64, .i .i64, .i .i64, .b, .i .i64, .i .i64, .i .i64, .i .i64, .i .i64, .b, .i .i64, .i .i64, .i .i64, .i .i64, .i .i64, .b, .i .i64, .i .i64, .i .i64, .i .i64, .i .i64, .b, .i .i64, .i .i64, .i .i64, .i .i64, .i .i64, .i .i64, .i .i64, .i .i64, .i .i64, .i .i64, .i .i64, .i .i64, .i .i64, .i .i64, .i .i64, .i .i64, .i .i64, .i .i64, .i .i64, .i .i64, .i .i64, .i .i64, .i .i64, .i .i64, .i .i64, .i .i64, .i .i64, .i .i64, .i .i64, .i .i64, .i .i64, .i .i64, .i .i64, .i .i64, .i .i64, .i .i64, .i .i64, .i .i64, .i .i64, .i .i64, .i .i64, .i .i64, .i .i64, .i .i64, .i .i64, .i .i64, .i .i64, .i .i64, .i .i64, .i .i64, .i .i64, .i .i64, .i .i64, .i .i64, .i .i64, .i .i64, .i .i64, .i .i64, .i .i64, .i .i64, .i .i64, .i .i64, .i .i64, .i .i64, .i .i64, .i .i64, .i .i64, .i .i64, .i .i64, .i .i64, .i .i64, .i .i64, .i .i64, .i .i64, .i .i64, .i .i64, .i .i64, .i .i64, .i .i64, .i .i64, .i .i64, .i .i64, .i .i64, .i .i64, .i .i64, .i .i64, .i .i64, .i .i64, .i .i64, .i .i64, .i .i64, .i .i64, .i .i64, .i .i64, .i .i64, .i .i64, .i .i64, .i .i64, .i .i64, .i .i64, .i .i64, .i .i64, .i .i64, .i .i64, .i .i64, .i .i64, .i .i64, .i .i64, .i .i64, .i .i64, .i .i64, .i .i64, .i .i64, .i .i64, .i .i64, .i .i64, .i .i64, .i .i64, .i .i64, .i .i64, .i .i64, .i .i64, .i .i64, .i .i64, .i .i64, .i .i64, .i .i64, .i .i64, .i .i64, .i .i64, .i .i64, .i .i64, .i .i64, .i .i64, .i .i64, .i .i64, .i .i64, .i .i64]⟩,
⟨328, 2624, .st [(0, 254), (192, 197)], [.i .i64, .i .i64, .i .i64, .b, .i .i64, .i .i64, .i .i64, .i .i64, .i .i64, .b, .i .i64, .i .i64, .i .i64, .i .i64, .i .i64, .b, .i .i64, .i .i64, .i .i64, .i .i64, .i .i64, .b, .i .i64, .i .i64, .i .i64, .i .i64, .i .i64, .b, .i .i64, .i .i64, .i .i64, .i .i64, .i .i64, .b, .i .i64, .i .i64, .i .i64, .i .i64, .i .i64, .b, .i .i64, .i .i64, .i .i64, .i .i64, .i .i64, .b, .i .i64, .i .i64, .i .i64, .i .i64, .i .i64, .b, .i .i64, .i .i64, .i .i64, .i .i64, .i .i64, .b, .i .i64, .i .i64, .i .i64, .i .i64, .i .i64, .b, .i .i64, .i .i64, .i .i64, .i .i64, .i .i64, .b, .i .i64, .i .i64, .i .i64, .i .i64, .i .i64, .b, .i .i64, .i .i64, .i .i64, .i .i64, .i .i64, .b, .i .i64, .i .i64, .i .i64, .i .i64, .i .i64, .b, .i .i64, .i .i64, .i .i64, .i .i64, .i .i64, .b, .i .i64, .i .i64, .i .i64, .i .i64, .i .i64, .b, .i .i64, .i .i64, .i .i64, .i .i64, .i .i64, .b, .i .i64, .i .i64, .i .i64, .i .i64, .i .i64, .b, .i .i64, .i .i64, .i .i64, .i .i64, .i .i64, .b, .i .i64, .i .i64, .i .i64, .i .i64, .i .i64, .b, .i .i64, .i .i64, .i .i64, .i .i64, .i .i64, .b, .i .i64, .i .i64, .i .i64, .i .i64, .i .i64, .b, .i .i64, .i .i64, .i .i64, .i .i64, .i .i64, .b, .i .i64, .i .i64, .i .i64, .i .i64, .i .i64, .b, .i .i64, .i .i64, .i .i64, .i .i64, .i .i64, .b, .i .i64, .i .i64, .i .i64, .i .i64, .i .i64, .b, .i .i64, .i .i64, .i .i64, .i .i64, .i .i64, .b, .i .i64, .i .i64, .i .i64, .i .i64, .i .i64, .b, .i .i64, .i .i64, .i .i64, .i .i64, .i .i64, .b, .i .i64, .i .i64, .i .i64, .i .i64, .i .i64, .b, .i .i64, .i .i64, .i .i64, .i .i64, .i .i64, .b, .i .i64, .i .i64, .i .i64, .i .i64, .i .i64, .i .i64, .i .i64, .i .i64, .i .i64, .i .i64, .i .i64, .i .i64, .i .i64, .i .i64, .i .i64, .i .i64, .i .i64, .i .i64, .i .i64, .i .i64, .i .i64, .i .i64, .i .i64, .i .i64, .i .i64, .i .i64, .i .i64, .i .i64, .i .i64, .i .i64, .i .i64, .i .i64, .i .i64, .i .i64, .i .i64, .i .i64, .i .i64, .i .i64, .i .i64, .i .i64, .i .i64, .i .i64, .i .i64, .i .i64, .i .i64, .i .i64, .i .i64, .i .i64, .i .i64, .i .i64, .i .i64, .i .i64, .i .i64, .i .i64, .i .i64, .i .i64, .i .i64, .i .i64, .i .i64, .i .i64, .i .i64, .i .i64, .i .i64, .i .i64, .i .i64, .i .i64, .i .i64, .i .i64, .i .i64, .i .i64, .i .i64, .i .i64, .i .i64, .i .i64, .i .i64, .i .i64, .i .i64, .i .i64, .i .i64, .i .i64, .i .i64, .i .i64, .i .i64, .i .i64, .i .i64, .i .i64, .i .i64, .i .i64, .i .i64, .i .i64, .i .i64, .i .i64, .i .i64, .i .i64, .i .i64, .i .i64, .i .i64, .i .i64, .i .i64, .i .i64, .i .i64, .i .i64, .i .i64, .i .i64, .i .i64, .i .i64, .i .i64, .i .i64, .i .i64, .i .i64, .i .i64, .i .i64, .i .i64, .i .i64, .i .i64, .i .i64, .i .i64, .i .i64, .i .i64, .i .i64, .i .i64, .i .i64, .i .i64, .i .i64, .i .i64, .i .i64, .i .i64, .i .i64, .i .i64, .i .i64, .i .i64, .i .i64, .i .i64, .i .i64, .i .i64, .i .i64, .i .i64, .i .i64]⟩,
⟨1, 0, .oth, []⟩,
⟨1, 8, .oth, [.nf]⟩,
⟨1, 8, .oth, [.nf]⟩,
⟨1, 8, .oth, [.nf]⟩,
⟨1, 0, .oth, []⟩,
⟨1, 8, .oth, [.nf]⟩,
⟨1, 8, .ptr 200, [.np]⟩,
⟨1, 8, .oth, [.nf]⟩,
⟨1, 8, .oth, [.nf]⟩,
⟨1, 0, .oth, []⟩,
⟨1, 8, .oth, [.nf]⟩,
⟨1, 8, .oth, [.nf]⟩,
⟨1, 8, .oth, [.nf]⟩,
⟨1, 8, .int .i64, [.i .i64]⟩,
⟨1, 0, .oth, []⟩,
⟨1, 8, .oth, [.nf]⟩,
⟨1, 8, .oth, [.nf]⟩,
⟨1, 8, .oth, [.nf]⟩,
⟨1, 8, .oth, [.nf]⟩,
⟨1, 8, .oth, [.nf]⟩,
⟨1, 8, .oth, [.nf]⟩,
⟨1, 4, .int .u32, [.i .u32]⟩,
⟨1, 8, .oth, [.nf]⟩,
⟨1, 8, .int .u64, [.i .u64]⟩,
⟨1, 8, .oth, [.nf]⟩,
⟨1, 8, .oth, [.nf]⟩,
⟨1, 0, .oth, []⟩,
⟨1, 8, .oth, [.nf]⟩,
⟨1, 8, .oth, [.nf]⟩,
⟨1, 8, .ptr 288, [.np]⟩,
⟨2, 32, .st [(0, 286), (1, 107)], [.np, .sl]⟩,
⟨2, 32, .st [(0, 286), (1, 107)], [.np, .sl]⟩,
⟨1, 8, .oth, [.nf]⟩,
⟨1, 16, .oth, [.ni]⟩,
⟨1, 16, .oth, [.ni]⟩,
⟨1, 0, .oth, []⟩,
⟨1, 8, .oth, [.nf]⟩,
⟨1, 8, .oth, [.nf]⟩,
⟨1, 8, .oth, [.nf]⟩,
⟨1, 8, .oth, [.nf]⟩,
⟨1, 8, .oth, [.nf]⟩,
⟨1, 8, .oth, [.nf]⟩,
⟨1, 8, .ptr 253, [.np]⟩,
⟨1, 0, .oth, []⟩,
⟨1, 8, .oth, [.nf]⟩,
⟨1, 8, .oth, [.nf]⟩,
⟨1, 8, .oth, [.nf]⟩,
⟨1, 8, .oth, [.nf]⟩,
⟨1, 8, .oth, [.nf]⟩,
⟨1, 8, .int .u64, [.i .u64]⟩,
⟨1, 8, .oth, [.nf]⟩,
⟨1, 8, .oth, [.nf]⟩,
⟨1, 8, .oth, [.nf]⟩,
⟨1, 8, .ptr 3, [.np]⟩,
⟨1, 8, .oth, [.nf]⟩,
⟨1, 0, .oth, []⟩,
⟨1, 8, .oth, [.nf]⟩,
⟨1, 0, .oth, []⟩,
⟨1, 8, .oth, [.nf]⟩,
⟨1, 8, .ptr 5, [.np]⟩,
⟨1, 8, .oth, [.nf]⟩,
⟨1, 8, .oth, [.nf]⟩,
⟨1, 8, .oth, [.nf]⟩,
⟨1, 8, .oth, [.nf]⟩,
⟨1, 8, .oth, [.nf]⟩,
⟨1, 8, .ptr 306, [.np]⟩,
⟨1, 0, .oth, []⟩,
⟨1, 8, .oth, [.nf]⟩,
⟨1, 8, .oth, [.np]⟩,
⟨1, 8, .oth, [.nf]⟩,
⟨1, 8, .oth, [.nf]⟩,
⟨1, 8, .oth, [.nf]⟩,
⟨1, 8, .oth, [.nf]⟩,
⟨1, 8, .oth, [.nf]⟩,
⟨1, 8, .oth, [.nf]⟩,
⟨4, 40, .st [(0, 17), (1, 17), (2, 17), (3, 9)], [.np, .np, .np, .s]⟩,
⟨4, 40, .st [(0, 17), (1, 17), (2, 17), (3, 9)], [.np, .np, .np, .s]⟩,
⟨0, 0, .arr 0 16, []⟩,
⟨0, 0, .st [(0, 334)], []⟩,
⟨0, 0, .st [(0, 334)], []⟩,
⟨1, 1, .int .u8, [.i .u8]⟩,
⟨1, 1, .int .u8, [.i .u8]⟩,
⟨1, 8, .oth, [.nf]⟩,
⟨1, 4, .int .i32, [.i .i32]⟩,
⟨1, 4, .int .i32, [.i .i32]⟩,
⟨11, 48, .st [(0, 12), (1, 12), (2, 278), (3, 337), (4, 5), (5, 5), (6, 338), (7, 339), (8, 316), (9, 340), (10, 341)], [.i .u64, .i .u64, .i .u32, .i .u8, .i .u8, .i .u8, .i .u8, .nf, .np, .i .i32, .i .i32]⟩,
⟨11, 48, .st [(0, 12), (1, 12), (2, 278), (3, 337), (4, 5), (5, 5), (6, 338), (7, 339), (8, 316), (9, 340), (10, 341)], [.i .u64, .i .u64, .i .u32, .i .u8, .i .u8, .i .u8, .i .u8, .nf, .np, .i .i32, .i .i32]⟩]
theorem TTok : TOk Try.prog TT := by unfold TOk; kernel_rfl
theorem mix : Try.prog.follows .mixedOrders = true := by kernel_rfl
structure S_inode_Node where
  fKind : Int
  fMode : Int
  fUser : Int
  fGroup : Int
  fSize : Int
  fLinks : Int
  fUp : Int
  fPoints : (List Int)
def eS_inode_Node (x : S_inode_Node) : PV := .agg [.v (.int .i64 x.fKind), .v (.int .i64 x.fMode), .v (.int .i64 x.fUser), .v (.int .i64 x.fGroup), .v (.int .i64 x.fSize), .v (.int .i64 x.fLinks), .v (.int .i64 x.fUp), .sl (x.fPoints.map (eI .i64))]
structure S_ringref3_Node where
  fKind : Int
  fMode : Int
  fUser : Int
  fGroup : Int
  fSize : Int
  fLinks : Int
  fUp : Int
  fPoints : (List Int)
def eS_ringref3_Node (x : S_ringref3_Node) : PV := .agg [.v (.int .i64 x.fKind), .v (.int .i64 x.fMode), .v (.int .i64 x.fUser), .v (.int .i64 x.fGroup), .v (.int .i64 x.fSize), .v (.int .i64 x.fLinks), .v (.int .i64 x.fUp), .sl (x.fPoints.map (eI .i64))]
structure S_extent_Ext where
  fStart : Int
  fN : Int
def eS_extent_Ext (x : S_extent_Ext) : PV := .agg [.v (.int .i64 x.fStart), .v (.int .i64 x.fN)]
structure S_api_Stat where
  fKind : Int
  fMode : Int
  fUser : Int
  fGroup : Int
  fSize : Int
  fLinks : Int
def eS_api_Stat (x : S_api_Stat) : PV := .agg [.v (.int .i64 x.fKind), .v (.int .i64 x.fMode), .v (.int .i64 x.fUser), .v (.int .i64 x.fGroup), .v (.int .i64 x.fSize), .v (.int .i64 x.fLinks)]
def eqS_api_Stat (x y : S_api_Stat) : Bool := ((x.fKind == y.fKind) && ((x.fMode == y.fMode) && ((x.fUser == y.fUser) && ((x.fGroup == y.fGroup) && ((x.fSize == y.fSize) && ((x.fLinks == y.fLinks) && true))))))
theorem eqS_api_Stat_ok (x y : S_api_Stat) : EqA Try.prog 134 [((.int .i64 x.fKind)), ((.int .i64 x.fMode)), ((.int .i64 x.fUser)), ((.int .i64 x.fGroup)), ((.int .i64 x.fSize)), ((.int .i64 x.fLinks))] [((.int .i64 y.fKind)), ((.int .i64 y.fMode)), ((.int .i64 y.fUser)), ((.int .i64 y.fGroup)), ((.int .i64 y.fSize)), ((.int .i64 y.fLinks))] (eqS_api_Stat x y) := eqA_of TTok (by kernel_rfl) (by kernel_rfl) (by kernel_rfl)
/- ringhall/ringlaw3.node -/
def G_ringlaw3_node (n : Nat) (v_n4 : S_inode_Node) : Option (S_ringref3_Node) :=
  some (S_ringref3_Node.mk v_n4.fKind v_n4.fMode v_n4.fUser v_n4.fGroup v_n4.fSize v_n4.fLinks v_n4.fUp v_n4.fPoints)
theorem G_ringlaw3_node_ok (n : Nat) (v_n4 : S_inode_Node) (r : S_ringref3_Node) (h : G_ringlaw3_node n v_n4 = some r) : Ret Try.prog 45 [eS_inode_Node v_n4] (eS_ringref3_Node r) := by
  refine ret_run (n := 20) (fn := Try.f45) (c := bodyOf Try.f45) (by kernel_rfl) (by kernel_rfl) (by kernel_rfl) (by kernel_rfl) ?_
  have hF : KC 20 (FinR Try.prog Try.f45 (eS_ringref3_Node r)) := FinR.kc' (by kernel_rfl)
  unfold G_ringlaw3_node at h
  obtain rfl := Option.some.inj h
  exact pend_sound TTok mix 5 (hs := [.c, .c, .c, .c, .c, .c, .c, .c, .c]) (by kernel_rfl) (by kernel_rfl) (by kernel_rfl) (.cons (show 0 + 8 ≤ 8 by decide) .nil)
/- ringhall/ringref3.within -/
def G_ringref3_within (n : Nat) (v_n11 : Int) (v_low12 : Int) (v_high13 : Int) : Option (Bool) :=
  if v_low12 ≤ v_n11 then
   some (decide (v_n11 ≤ v_high13))
  else
   some false
theorem G_ringref3_within_ok (n : Nat) (v_n11 : Int) (v_low12 : Int) (v_high13 : Int) (r : Bool) (h : G_ringref3_within n v_n11 v_low12 v_high13 = some r) : Ret Try.prog 129 [(eI .i64) v_n11, (eI .i64) v_low12, (eI .i64) v_high13] (eB r) := by
  refine ret_run (n := 15) (fn := Try.f129) (c := bodyOf Try.f129) (by kernel_rfl) (by kernel_rfl) (by kernel_rfl) (by kernel_rfl) ?_
  have hF : KC 15 (FinR Try.prog Try.f129 (eB r)) := FinR.kc' (by kernel_rfl)
  unfold G_ringref3_within at h
  by_cases h13 : v_low12 ≤ v_n11
  · rw [if_pos h13] at h
    obtain rfl := Option.some.inj h
    exact pend_sound TTok mix 5 (hs := [.t true, .c, .c]) (by kernel_rfl) (by kernel_rfl) (by kernel_rfl) (.cons (dt h13) .nil)
  · rw [if_neg h13] at h
    obtain rfl := Option.some.inj h
    exact pend_sound TTok mix 5 (hs := [.t false, .c, .c]) (by kernel_rfl) (by kernel_rfl) (by kernel_rfl) (.cons (df h13) .nil)
inductive G_ringref3_PointsRight_L1_R where
  | x0 (v_x43 : Int)
  | x1 
def G_ringref3_PointsRight_L1_ex : G_ringref3_PointsRight_L1_R → Ex
  | .x0 _ => .ret
  | .x1  => .exit 0
def G_ringref3_PointsRight_L1_st (v_p39 : (List Int)) : G_ringref3_PointsRight_L1_R → PS
  | .x0 v_x43 => ⟨[dd, dd, .d (.v (.int .i64 v_x43)), dd, dd, dd, dd, dd, dd, dd, dd, dd, dd, dd, dd, dd, dd, dd, dd, dd, dd], []⟩
  | .x1  => ⟨[dd, dd, dd, dd, dd, dd, dd, dd, dd, dd, dd, dd, dd, dd, dd, dd, dd, dd, dd, dd, dd], []⟩
def G_ringref3_PointsRight_L1_hd (v_p39 : (List Int)) (v_x40 : Int) : PS := ⟨[dd, dd, dd, dd, dd, dd, dd, dd, .d (.sl (v_p39.map (eI .i64))), .d (.v (.int .i64 (v_p39.length : Int))), .d (.v (.int .i64 v_x40)), dd, dd, dd, dd, dd, dd, dd, dd, dd, dd], []⟩
def G_ringref3_PointsRight_L1 (n : Nat) (v_p39 : (List Int)) : Nat → Int → Option G_ringref3_PointsRight_L1_R
  | 0, _ => none
  | k + 1, v_x40 =>
    if v_x40 < (v_p39.length : Int) then
     (getI v_p39 v_x40).bind fun (v_y42 : Int) =>
     if v_y42 < 0 then
      some (.x0 1)
     else
      if v_y42 > 255 then
       some (.x0 1)
      else
       G_ringref3_PointsRight_L1 n v_p39 k (wi .i64 (v_x40 + 1))
    else
     some (.x1 )
theorem G_ringref3_PointsRight_L1_ok {Fi : Ex → PS → Prop} (hF : KC 21 Fi) (ks : List Fr) (n : Nat) (v_p39 : (List Int))  : ∀ (k : Nat) (v_x40 : Int) (o : G_ringref3_PointsRight_L1_R), G_ringref3_PointsRight_L1 n v_p39 k v_x40 = some o → RunE Try.prog 21 Fi ks (G_ringref3_PointsRight_L1_ex o) (G_ringref3_PointsRight_L1_st v_p39 o) → RunE Try.prog 21 Fi (.l k (cP (cB (cR (cL (cR (cR (bodyOf Try.f64))))))) :: ks) .normal (G_ringref3_PointsRight_L1_hd v_p39 v_x40)
  | 0, v_x40, o, h, q => by rw [G_ringref3_PointsRight_L1] at h; cases h
  | k + 1, v_x40, o, h, q => by
    rw [G_ringref3_PointsRight_L1] at h
    by_cases h45 : v_x40 < (v_p39.length : Int)
    · rw [if_pos h45] at h
      obtain ⟨v_y42, h49, h⟩ := bind_some h
      by_cases h50 : v_y42 < 0
      · rw [if_pos h50] at h
        cases h
        exact pkk_sound TTok mix hF 19 (hs := [.t true, .y ((eI .i64) v_y42), .c, .t true, .c, .c]) (ts := []) (s := []) (l := [2]) (by kernel_rfl) (by kernel_rfl) (.cons (dt h45) (.cons (getI_ob (f := (eI .i64)) h49) (.cons (dt h50) .nil))) q
      · rw [if_neg h50] at h
        by_cases h51 : v_y42 > 255
        · rw [if_pos h51] at h
          cases h
          exact pkk_sound TTok mix hF 19 (hs := [.t true, .y ((eI .i64) v_y42), .c, .t false, .c, .t true]) (ts := []) (s := []) (l := [2]) (by kernel_rfl) (by kernel_rfl) (.cons (dt h45) (.cons (getI_ob (f := (eI .i64)) h49) (.cons (df h50) (.cons (dt h51) .nil)))) q
        · rw [if_neg h51] at h
          exact pkk_sound TTok mix hF 16 (hs := [.t true, .y ((eI .i64) v_y42), .c, .t false, .c, .t false]) (ts := []) (s := []) (l := [8, 9, 10]) (by kernel_rfl) (by kernel_rfl) (.cons (dt h45) (.cons (getI_ob (f := (eI .i64)) h49) (.cons (df h50) (.cons (df h51) .nil)))) (G_ringref3_PointsRight_L1_ok hF ks n v_p39 k (wi .i64 (v_x40 + 1)) _ h q)
    · rw [if_neg h45] at h
      cases h
      exact pkk_sound TTok mix hF 8 (hs := [.t false]) (ts := []) (s := []) (l := []) (by kernel_rfl) (by kernel_rfl) (.cons (df h45) .nil) q
/- ringhall/ringref3.PointsRight -/
def G_ringref3_PointsRight (n : Nat) (v_p39 : (List Int)) : Option (Int) :=
  if (v_p39.length : Int) > 8 then
   some 2
  else
   (G_ringref3_PointsRight_L1 n v_p39 n 0).bind fun v_o45 => match v_o45 with
   | .x0 v_z46 =>
     some v_z46
   | .x1  =>
     some 0
theorem G_ringref3_PointsRight_ok (n : Nat) (v_p39 : (List Int)) (r : Int) (h : G_ringref3_PointsRight n v_p39 = some r) : Ret Try.prog 64 [(eL (eI .i64)) v_p39] ((eI .i64) r) := by
  refine ret_run (n := 21) (fn := Try.f64) (c := bodyOf Try.f64) (by kernel_rfl) (by kernel_rfl) (by kernel_rfl) (by kernel_rfl) ?_
  have hF : KC 21 (FinR Try.prog Try.f64 ((eI .i64) r)) := FinR.kc' (by kernel_rfl)
  unfold G_ringref3_PointsRight at h
  by_cases h44 : (v_p39.length : Int) > 8
  · rw [if_pos h44] at h
    obtain rfl := Option.some.inj h
    exact pend_sound TTok mix 10 (hs := [.u (.d (.v (.int .i64 (v_p39.length : Int)))), .t true]) (by kernel_rfl) (by kernel_rfl) (by kernel_rfl) (.cons (len_ob (f := (eI .i64)) (l := v_p39)) (.cons (dt h44) .nil))
  · rw [if_neg h44] at h
    obtain ⟨v_o45, h52, h⟩ := bind_some h
    refine pkk_sound TTok mix hF 12 (hs := [.u (.d (.v (.int .i64 (v_p39.length : Int)))), .t false, .u (.d (.v (.int .i64 (v_p39.length : Int)))), .n n]) (ts := []) (s := []) (l := [8, 9, 10]) (by kernel_rfl) (by kernel_rfl) (.cons (len_ob (f := (eI .i64)) (l := v_p39)) (.cons (df h44) (.cons (len_ob (f := (eI .i64)) (l := v_p39)) .nil))) (G_ringref3_PointsRight_L1_ok hF (.b 0 :: .s (cR (cR (cR (bodyOf Try.f64)))) :: []) n v_p39 n 0 _ h52 ?_)
    cases v_o45 with
    | x0 v_z46 =>
      try dsimp only at h
      obtain rfl := Option.some.inj h
      exact pend_sound TTok mix 2 (hs := []) (by kernel_rfl) (by kernel_rfl) (by kernel_rfl) .nil
    | x1  =>
      try dsimp only at h
      obtain rfl := Option.some.inj h
      exact pend_sound TTok mix 4 (hs := []) (by kernel_rfl) (by kernel_rfl) (by kernel_rfl) .nil
inductive G_ringref3_Blocks_L1_R where
  | x0 (v_k51 : Int)
def G_ringref3_Blocks_L1_ex : G_ringref3_Blocks_L1_R → Ex
  | .x0 _ => .exit 0
def G_ringref3_Blocks_L1_st  : G_ringref3_Blocks_L1_R → PS
  | .x0 v_k51 => ⟨[dd, dd, dd, .d (.v (.int .i64 v_k51)), dd, dd, dd, dd, dd, dd, dd], []⟩
def G_ringref3_Blocks_L1_hd  (v_n49 : Int) (v_k50 : Int) : PS := ⟨[.d (.v (.int .i64 v_n49)), dd, dd, .d (.v (.int .i64 v_k50)), dd, dd, dd, dd, dd, dd, dd], []⟩
def G_ringref3_Blocks_L1 (n : Nat)  : Nat → Int → Int → Option G_ringref3_Blocks_L1_R
  | 0, _, _ => none
  | k + 1, v_n49, v_k50 =>
    if v_n49 > 0 then
     G_ringref3_Blocks_L1 n  k (wi .i64 (v_n49 - 64)) (wi .i64 (v_k50 + 1))
    else
     some (.x0 v_k50)
theorem G_ringref3_Blocks_L1_ok {Fi : Ex → PS → Prop} (hF : KC 11 Fi) (ks : List Fr) (n : Nat)   : ∀ (k : Nat) (v_n49 : Int) (v_k50 : Int) (o : G_ringref3_Blocks_L1_R), G_ringref3_Blocks_L1 n  k v_n49 v_k50 = some o → RunE Try.prog 11 Fi ks (G_ringref3_Blocks_L1_ex o) (G_ringref3_Blocks_L1_st  o) → RunE Try.prog 11 Fi (.l k (cP (cB (cL (cR (cR (bodyOf Try.f82)))))) :: ks) .normal (G_ringref3_Blocks_L1_hd  v_n49 v_k50)
  | 0, v_n49, v_k50, o, h, q => by rw [G_ringref3_Blocks_L1] at h; cases h
  | k + 1, v_n49, v_k50, o, h, q => by
    rw [G_ringref3_Blocks_L1] at h
    by_cases h55 : v_n49 > 0
    · rw [if_pos h55] at h
      exact pkk_sound TTok mix hF 11 (hs := [.t true]) (ts := []) (s := []) (l := [0, 3]) (by kernel_rfl) (by kernel_rfl) (.cons (dt h55) .nil) (G_ringref3_Blocks_L1_ok hF ks n  k (wi .i64 (v_n49 - 64)) (wi .i64 (v_k50 + 1)) _ h q)
    · rw [if_neg h55] at h
      cases h
      exact pkk_sound TTok mix hF 8 (hs := [.t false]) (ts := []) (s := []) (l := [3]) (by kernel_rfl) (by kernel_rfl) (.cons (df h55) .nil) q
/- ringhall/ringref3.Blocks -/
def G_ringref3_Blocks (n : Nat) (v_n48 : Int) : Option (Int) :=
  (G_ringref3_Blocks_L1 n  n v_n48 0).bind fun v_o52 => match v_o52 with
  | .x0 v_z53 =>
    some v_z53
theorem G_ringref3_Blocks_ok (n : Nat) (v_n48 : Int) (r : Int) (h : G_ringref3_Blocks n v_n48 = some r) : Ret Try.prog 82 [(eI .i64) v_n48] ((eI .i64) r) := by
  refine ret_run (n := 11) (fn := Try.f82) (c := bodyOf Try.f82) (by kernel_rfl) (by kernel_rfl) (by kernel_rfl) (by kernel_rfl) ?_
  have hF : KC 11 (FinR Try.prog Try.f82 ((eI .i64) r)) := FinR.kc' (by kernel_rfl)
  unfold G_ringref3_Blocks at h
  obtain ⟨v_o52, h56, h⟩ := bind_some h
  refine pkk_sound TTok mix hF 7 (hs := [.n n]) (ts := []) (s := []) (l := [0, 3]) (by kernel_rfl) (by kernel_rfl) .nil (G_ringref3_Blocks_L1_ok hF (.b 0 :: .s (cR (cR (cR (bodyOf Try.f82)))) :: []) n  n v_n48 0 _ h56 ?_)
  cases v_o52 with
  | x0 v_z53 =>
    try dsimp only at h
    obtain rfl := Option.some.inj h
    exact pend_sound TTok mix 4 (hs := []) (by kernel_rfl) (by kernel_rfl) (by kernel_rfl) .nil
inductive G_ringref3_NodeRight_C1_R where
  | x0 (v_x7 : Bool)
def G_ringref3_NodeRight_C1_ex : G_ringref3_NodeRight_C1_R → Ex
  | .x0 _ => .normal
def G_ringref3_NodeRight_C1_st (v_n6 : S_ringref3_Node) : G_ringref3_NodeRight_C1_R → PS
  | .x0 v_x7 => ⟨[dd, dd, dd, dd, dd, dd, dd, dd, dd, dd, dd, dd, dd, dd, dd, dd, dd, dd, dd, dd, dd, dd, dd, dd, dd, dd, dd, dd, dd, dd, .d (.v (.bool v_x7)), dd, dd, dd, dd, dd, dd, dd, dd, dd, dd, dd, dd, dd, dd, dd, dd, dd, dd, dd, dd, dd, dd, dd, dd, dd, dd, dd, dd, dd, dd, dd, dd, dd, dd, dd, dd, dd, dd, dd, dd, dd, dd, dd, dd, dd, dd, dd, dd, dd, dd, dd, dd, dd, dd, dd, dd, dd, dd, dd, dd, dd, dd], []⟩
def G_ringref3_NodeRight_C1_hd (v_n6 : S_ringref3_Node)  : PS := ⟨[dd, .ref 0 0, dd, dd, dd, dd, dd, dd, dd, dd, dd, dd, dd, dd, dd, dd, dd, dd, dd, dd, dd, dd, dd, dd, dd, dd, dd, dd, dd, dd, dd, dd, dd, dd, dd, dd, dd, dd, dd, dd, dd, dd, dd, dd, dd, dd, dd, dd, dd, dd, dd, dd, dd, dd, dd, dd, dd, dd, dd, dd, dd, dd, dd, dd, dd, dd, dd, dd, dd, dd, dd, dd, dd, dd, dd, dd, dd, dd, dd, dd, dd, dd, dd, dd, dd, dd, dd, dd, dd, dd, dd, dd, dd], [.box [.d (.v (.int .i64 v_n6.fKind)), .d (.v (.int .i64 v_n6.fMode)), .d (.v (.int .i64 v_n6.fUser)), .d (.v (.int .i64 v_n6.fGroup)), .d (.v (.int .i64 v_n6.fSize)), .d (.v (.int .i64 v_n6.fLinks)), .d (.v (.int .i64 v_n6.fUp)), .d (.sl (v_n6.fPoints.map (eI .i64)))]]⟩
def G_ringref3_NodeRight_C1 (n : Nat) (v_n6 : S_ringref3_Node) : Option G_ringref3_NodeRight_C1_R :=
  if (bits .or .i64 (bits .or .i64 (bits .or .i64 (bits .or .i64 (bits .or .i64 v_n6.fMode v_n6.fUser) v_n6.fGroup) v_n6.fSize) v_n6.fLinks) v_n6.fUp) = 0 then
   some (.x0 (decide ((v_n6.fPoints.length : Int) > 0)))
  else
   some (.x0 true)
theorem G_ringref3_NodeRight_C1_ok {Fi : Ex → PS → Prop} (hF : KC 93 Fi) (ks : List Fr) (n : Nat) (v_n6 : S_ringref3_Node)  (o : G_ringref3_NodeRight_C1_R) (h : G_ringref3_NodeRight_C1 n v_n6 = some o) (q : RunE Try.prog 93 Fi ks (G_ringref3_NodeRight_C1_ex o) (G_ringref3_NodeRight_C1_st v_n6 o)) : RunE Try.prog 93 Fi (.s (cL (cL (cT (cR (cL (cR (bodyOf Try.f44))))))) :: ks) .normal (G_ringref3_NodeRight_C1_hd v_n6) := by
  unfold G_ringref3_NodeRight_C1 at h
  by_cases h10 : (bits .or .i64 (bits .or .i64 (bits .or .i64 (bits .or .i64 (bits .or .i64 v_n6.fMode v_n6.fUser) v_n6.fGroup) v_n6.fSize) v_n6.fLinks) v_n6.fUp) = 0
  · rw [if_pos h10] at h
    cases h
    exact pkk_sound TTok mix hF 1 (hs := [.c, .c, .c, .c, .c, .c, .t false, .c, .c, .c, .u (.d (.v (.int .i64 (v_n6.fPoints.length : Int)))), .c]) (ts := []) (s := []) (l := [30]) (by kernel_rfl) (by kernel_rfl) (.cons (nf h10) (.cons (len_ob (f := (eI .i64)) (l := v_n6.fPoints)) .nil)) q
  · rw [if_neg h10] at h
    cases h
    exact pkk_sound TTok mix hF 1 (hs := [.c, .c, .c, .c, .c, .c, .t true, .c, .c, .c]) (ts := []) (s := []) (l := [30]) (by kernel_rfl) (by kernel_rfl) (.cons (nt h10) .nil) q
inductive G_ringref3_NodeRight_C2_R where
  | x0 (v_x20 : Bool)
def G_ringref3_NodeRight_C2_ex : G_ringref3_NodeRight_C2_R → Ex
  | .x0 _ => .normal
def G_ringref3_NodeRight_C2_st (v_n6 : S_ringref3_Node) : G_ringref3_NodeRight_C2_R → PS
  | .x0 v_x20 => ⟨[dd, .ref 0 0, dd, dd, dd, dd, dd, dd, dd, dd, dd, dd, dd, dd, dd, dd, dd, dd, dd, dd, dd, dd, dd, dd, dd, dd, dd, dd, dd, dd, dd, dd, dd, dd, dd, dd, dd, dd, dd, dd, dd, dd, dd, dd, dd, dd, dd, dd, dd, dd, dd, dd, dd, dd, dd, dd, dd, dd, .d (.v (.bool v_x20)), dd, dd, dd, dd, dd, dd, dd, dd, dd, dd, dd, dd, dd, dd, dd, dd, dd, dd, dd, dd, dd, dd, dd, dd, dd, dd, dd, dd, dd, dd, dd, dd, dd, dd], [.box [.d (.v (.int .i64 v_n6.fKind)), .d (.v (.int .i64 v_n6.fMode)), .d (.v (.int .i64 v_n6.fUser)), .d (.v (.int .i64 v_n6.fGroup)), .d (.v (.int .i64 v_n6.fSize)), .d (.v (.int .i64 v_n6.fLinks)), .d (.v (.int .i64 v_n6.fUp)), .d (.sl (v_n6.fPoints.map (eI .i64)))]]⟩
def G_ringref3_NodeRight_C2_hd (v_n6 : S_ringref3_Node)  : PS := ⟨[dd, .ref 0 0, dd, dd, dd, dd, dd, dd, dd, dd, dd, dd, dd, dd, dd, dd, dd, dd, dd, dd, dd, dd, dd, dd, dd, dd, dd, dd, dd, dd, dd, dd, dd, dd, dd, dd, dd, dd, dd, dd, dd, dd, dd, dd, dd, dd, dd, dd, dd, dd, dd, dd, dd, dd, dd, dd, dd, dd, dd, dd, dd, dd, dd, dd, dd, dd, dd, dd, dd, dd, dd, dd, dd, dd, dd, dd, dd, dd, dd, dd, dd, dd, dd, dd, dd, dd, dd, dd, dd, dd, dd, dd, dd], [.box [.d (.v (.int .i64 v_n6.fKind)), .d (.v (.int .i64 v_n6.fMode)), .d (.v (.int .i64 v_n6.fUser)), .d (.v (.int .i64 v_n6.fGroup)), .d (.v (.int .i64 v_n6.fSize)), .d (.v (.int .i64 v_n6.fLinks)), .d (.v (.int .i64 v_n6.fUp)), .d (.sl (v_n6.fPoints.map (eI .i64)))]]⟩
def G_ringref3_NodeRight_C2 (n : Nat) (v_n6 : S_ringref3_Node) : Option G_ringref3_NodeRight_C2_R :=
  (G_ringref3_within n v_n6.fKind 0 3).bind fun (v_r19 : (Bool)) =>
  if v_r19 = true then
   (G_ringref3_within n v_n6.fMode 0 511).bind fun (v_r21 : (Bool)) =>
   if v_r21 = true then
    (G_ringref3_within n v_n6.fUser 0 255).bind fun (v_r23 : (Bool)) =>
    if v_r23 = true then
     (G_ringref3_within n v_n6.fGroup 0 255).bind fun (v_r25 : (Bool)) =>
     if v_r25 = true then
      (G_ringref3_within n v_n6.fLinks 0 200).bind fun (v_r27 : (Bool)) =>
      some (.x0 (!v_r27))
     else
      some (.x0 true)
    else
     some (.x0 true)
   else
    some (.x0 true)
  else
   some (.x0 true)
theorem G_ringref3_NodeRight_C2_ok {Fi : Ex → PS → Prop} (hF : KC 93 Fi) (ks : List Fr) (n : Nat) (v_n6 : S_ringref3_Node)  (o : G_ringref3_NodeRight_C2_R) (h : G_ringref3_NodeRight_C2 n v_n6 = some o) (q : RunE Try.prog 93 Fi ks (G_ringref3_NodeRight_C2_ex o) (G_ringref3_NodeRight_C2_st v_n6 o)) : RunE Try.prog 93 Fi (.s (cL (cL (cR (cR (bodyOf Try.f44))))) :: ks) .normal (G_ringref3_NodeRight_C2_hd v_n6) := by
  unfold G_ringref3_NodeRight_C2 at h
  obtain ⟨v_r19, h23, h⟩ := bind_some h
  by_cases h24 : v_r19 = true
  · rw [if_pos h24] at h
    obtain ⟨v_r21, h25, h⟩ := bind_some h
    by_cases h26 : v_r21 = true
    · rw [if_pos h26] at h
      obtain ⟨v_r23, h27, h⟩ := bind_some h
      by_cases h28 : v_r23 = true
      · rw [if_pos h28] at h
        obtain ⟨v_r25, h29, h⟩ := bind_some h
        by_cases h30 : v_r25 = true
        · rw [if_pos h30] at h
          obtain ⟨v_r27, h31, h⟩ := bind_some h
          cases h
          exact pkk_sound TTok mix hF 1 (hs := [.c, .r (eB v_r19), .t false, .c, .c, .c, .r (eB v_r21), .c, .t false, .c, .c, .c, .r (eB v_r23), .c, .t false, .c, .c, .c, .r (eB v_r25), .c, .t false, .c, .c, .c, .r (eB v_r27), .c]) (ts := []) (s := [0]) (l := [1, 58]) (by kernel_rfl) (by kernel_rfl) (.cons (G_ringref3_within_ok n v_n6.fKind 0 3 _ h23) (.cons (bnf h24) (.cons (G_ringref3_within_ok n v_n6.fMode 0 511 _ h25) (.cons (bnf h26) (.cons (G_ringref3_within_ok n v_n6.fUser 0 255 _ h27) (.cons (bnf h28) (.cons (G_ringref3_within_ok n v_n6.fGroup 0 255 _ h29) (.cons (bnf h30) (.cons (G_ringref3_within_ok n v_n6.fLinks 0 200 _ h31) .nil))))))))) q
        · rw [if_neg h30] at h
          cases h
          exact pkk_sound TTok mix hF 1 (hs := [.c, .r (eB v_r19), .t false, .c, .c, .c, .r (eB v_r21), .c, .t false, .c, .c, .c, .r (eB v_r23), .c, .t false, .c, .c, .c, .r (eB v_r25), .c, .t true, .c, .c, .c]) (ts := []) (s := [0]) (l := [1, 58]) (by kernel_rfl) (by kernel_rfl) (.cons (G_ringref3_within_ok n v_n6.fKind 0 3 _ h23) (.cons (bnf h24) (.cons (G_ringref3_within_ok n v_n6.fMode 0 511 _ h25) (.cons (bnf h26) (.cons (G_ringref3_within_ok n v_n6.fUser 0 255 _ h27) (.cons (bnf h28) (.cons (G_ringref3_within_ok n v_n6.fGroup 0 255 _ h29) (.cons (bnt (vf h30)) .nil)))))))) q
      · rw [if_neg h28] at h
        cases h
        exact pkk_sound TTok mix hF 1 (hs := [.c, .r (eB v_r19), .t false, .c, .c, .c, .r (eB v_r21), .c, .t false, .c, .c, .c, .r (eB v_r23), .c, .t true, .c, .c, .c, .c, .c, .c, .c]) (ts := []) (s := [0]) (l := [1, 58]) (by kernel_rfl) (by kernel_rfl) (.cons (G_ringref3_within_ok n v_n6.fKind 0 3 _ h23) (.cons (bnf h24) (.cons (G_ringref3_within_ok n v_n6.fMode 0 511 _ h25) (.cons (bnf h26) (.cons (G_ringref3_within_ok n v_n6.fUser 0 255 _ h27) (.cons (bnt (vf h28)) .nil)))))) q
    · rw [if_neg h26] at h
      cases h
      exact pkk_sound TTok mix hF 1 (hs := [.c, .r (eB v_r19), .t false, .c, .c, .c, .r (eB v_r21), .c, .t true, .c, .c, .c, .c, .c, .c, .c, .c, .c, .c, .c]) (ts := []) (s := [0]) (l := [1, 58]) (by kernel_rfl) (by kernel_rfl) (.cons (G_ringref3_within_ok n v_n6.fKind 0 3 _ h23) (.cons (bnf h24) (.cons (G_ringref3_within_ok n v_n6.fMode 0 511 _ h25) (.cons (bnt (vf h26)) .nil)))) q
  · rw [if_neg h24] at h
    cases h
    exact pkk_sound TTok mix hF 1 (hs := [.c, .r (eB v_r19), .t true, .c, .c, .c, .c, .c, .c, .c, .c, .c, .c, .c, .c, .c, .c, .c]) (ts := []) (s := [0]) (l := [1, 58]) (by kernel_rfl) (by kernel_rfl) (.cons (G_ringref3_within_ok n v_n6.fKind 0 3 _ h23) (.cons (bnt (vf h24)) .nil)) q
inductive G_ringref3_NodeRight_C3_R where
  | x0 (v_x34 : Bool)
def G_ringref3_NodeRight_C3_ex : G_ringref3_NodeRight_C3_R → Ex
  | .x0 _ => .normal
def G_ringref3_NodeRight_C3_st (v_n6 : S_ringref3_Node) : G_ringref3_NodeRight_C3_R → PS
  | .x0 v_x34 => ⟨[dd, .ref 0 0, dd, dd, dd, dd, dd, dd, dd, dd, dd, dd, dd, dd, dd, dd, dd, dd, dd, dd, dd, dd, dd, dd, dd, dd, dd, dd, dd, dd, dd, dd, dd, dd, dd, dd, dd, dd, dd, dd, dd, dd, dd, dd, dd, dd, dd, dd, dd, dd, dd, dd, dd, dd, dd, dd, dd, dd, dd, dd, dd, dd, dd, dd, dd, dd, dd, dd, dd, dd, dd, dd, dd, dd, dd, dd, dd, dd, dd, .d (.v (.bool v_x34)), dd, dd, dd, dd, dd, dd, dd, dd, dd, dd, dd, dd, dd], [.box [.d (.v (.int .i64 v_n6.fKind)), .d (.v (.int .i64 v_n6.fMode)), .d (.v (.int .i64 v_n6.fUser)), .d (.v (.int .i64 v_n6.fGroup)), .d (.v (.int .i64 v_n6.fSize)), .d (.v (.int .i64 v_n6.fLinks)), .d (.v (.int .i64 v_n6.fUp)), .d (.sl (v_n6.fPoints.map (eI .i64)))]]⟩
def G_ringref3_NodeRight_C3_hd (v_n6 : S_ringref3_Node)  : PS := ⟨[dd, .ref 0 0, dd, dd, dd, dd, dd, dd, dd, dd, dd, dd, dd, dd, dd, dd, dd, dd, dd, dd, dd, dd, dd, dd, dd, dd, dd, dd, dd, dd, dd, dd, dd, dd, dd, dd, dd, dd, dd, dd, dd, dd, dd, dd, dd, dd, dd, dd, dd, dd, dd, dd, dd, dd, dd, dd, dd, dd, dd, dd, dd, dd, dd, dd, dd, dd, dd, dd, dd, dd, dd, dd, dd, dd, dd, dd, dd, dd, dd, dd, dd, dd, dd, dd, dd, dd, dd, dd, dd, dd, dd, dd, dd], [.box [.d (.v (.int .i64 v_n6.fKind)), .d (.v (.int .i64 v_n6.fMode)), .d (.v (.int .i64 v_n6.fUser)), .d (.v (.int .i64 v_n6.fGroup)), .d (.v (.int .i64 v_n6.fSize)), .d (.v (.int .i64 v_n6.fLinks)), .d (.v (.int .i64 v_n6.fUp)), .d (.sl (v_n6.fPoints.map (eI .i64)))]]⟩
def G_ringref3_NodeRight_C3 (n : Nat) (v_n6 : S_ringref3_Node) : Option G_ringref3_NodeRight_C3_R :=
  (G_ringref3_within n v_n6.fUp 1 32).bind fun (v_r33 : (Bool)) =>
  if (eqRes .neq ((v_n6.fKind == 2) == v_r33)) = true then
   some (.x0 true)
  else
   if v_n6.fKind = 2 then
    some (.x0 false)
   else
    some (.x0 (v_n6.fUp != 0))
theorem G_ringref3_NodeRight_C3_ok {Fi : Ex → PS → Prop} (hF : KC 93 Fi) (ks : List Fr) (n : Nat) (v_n6 : S_ringref3_Node)  (o : G_ringref3_NodeRight_C3_R) (h : G_ringref3_NodeRight_C3 n v_n6 = some o) (q : RunE Try.prog 93 Fi ks (G_ringref3_NodeRight_C3_ex o) (G_ringref3_NodeRight_C3_st v_n6 o)) : RunE Try.prog 93 Fi (.s (cL (cL (cR (cR (cR (cR (bodyOf Try.f44))))))) :: ks) .normal (G_ringref3_NodeRight_C3_hd v_n6) := by
  unfold G_ringref3_NodeRight_C3 at h
  obtain ⟨v_r33, h39, h⟩ := bind_some h
  by_cases h40 : (eqRes .neq ((v_n6.fKind == 2) == v_r33)) = true
  · rw [if_pos h40] at h
    cases h
    exact pkk_sound TTok mix hF 1 (hs := [.c, .c, .r (eB v_r33), .t true, .c, .c, .c, .c]) (ts := []) (s := [0]) (l := [1, 79]) (by kernel_rfl) (by kernel_rfl) (.cons (G_ringref3_within_ok n v_n6.fUp 1 32 _ h39) (.cons h40 .nil)) q
  · rw [if_neg h40] at h
    by_cases h41 : v_n6.fKind = 2
    · rw [if_pos h41] at h
      cases h
      exact pkk_sound TTok mix hF 1 (hs := [.c, .c, .r (eB v_r33), .t false, .c, .c, .c, .c, .t false, .c, .c, .c]) (ts := []) (s := [0]) (l := [1, 79]) (by kernel_rfl) (by kernel_rfl) (.cons (G_ringref3_within_ok n v_n6.fUp 1 32 _ h39) (.cons (vf h40) (.cons (nf h41) .nil))) q
    · rw [if_neg h41] at h
      cases h
      exact pkk_sound TTok mix hF 1 (hs := [.c, .c, .r (eB v_r33), .t false, .c, .c, .c, .c, .t true, .c, .c, .c, .c]) (ts := []) (s := [0]) (l := [1, 79]) (by kernel_rfl) (by kernel_rfl) (.cons (G_ringref3_within_ok n v_n6.fUp 1 32 _ h39) (.cons (vf h40) (.cons (nt h41) .nil))) q
/- ringhall/ringref3.NodeRight -/
def G_ringref3_NodeRight (n : Nat) (v_n6 : S_ringref3_Node) : Option (Int) :=
  if v_n6.fKind = 0 then
   (G_ringref3_NodeRight_C1 n v_n6).bind fun v_o9 => match v_o9 with
   | .x0 v_z10 =>
     if v_z10 = true then
      some 3
     else
      some 0
  else
   (G_ringref3_NodeRight_C2 n v_n6).bind fun v_o29 => match v_o29 with
   | .x0 v_z30 =>
     if v_z30 = true then
      some 1
     else
      (G_ringref3_within n v_n6.fSize 0 512).bind fun (v_r31 : (Bool)) =>
      if v_r31 = true then
       (G_ringref3_NodeRight_C3 n v_n6).bind fun v_o37 => match v_o37 with
       | .x0 v_z38 =>
         if v_z38 = true then
          some 12
         else
          (G_ringref3_PointsRight n v_n6.fPoints).bind fun (v_r47 : (Int)) =>
          if v_r47 = 0 then
           (G_ringref3_Blocks n v_n6.fSize).bind fun (v_r54 : (Int)) =>
           if (v_n6.fPoints.length : Int) = v_r54 then
            some 0
           else
            some 3
          else
           some v_r47
      else
       some 2
theorem G_ringref3_NodeRight_ok (n : Nat) (v_n6 : S_ringref3_Node) (r : Int) (h : G_ringref3_NodeRight n v_n6 = some r) : Ret Try.prog 44 [eS_ringref3_Node v_n6] ((eI .i64) r) := by
  refine ret_run (n := 93) (fn := Try.f44) (c := bodyOf Try.f44) (by kernel_rfl) (by kernel_rfl) (by kernel_rfl) (by kernel_rfl) ?_
  have hF : KC 93 (FinR Try.prog Try.f44 ((eI .i64) r)) := FinR.kc' (by kernel_rfl)
  unfold G_ringref3_NodeRight at h
  by_cases h8 : v_n6.fKind = 0
  · rw [if_pos h8] at h
    obtain ⟨v_o9, h11, h⟩ := bind_some h
    refine pkk_sound TTok mix hF 8 (hs := [.c, .t true]) (ts := []) (s := [0]) (l := [1]) (by kernel_rfl) (by kernel_rfl) (.cons (bt h8) .nil) (G_ringref3_NodeRight_C1_ok hF (.s (cR (cL (cT (cR (cL (cR (bodyOf Try.f44))))))) :: .s (cR (cT (cR (cL (cR (bodyOf Try.f44)))))) :: .s (cR (cR (bodyOf Try.f44))) :: []) n v_n6 _ h11 ?_)
    cases v_o9 with
    | x0 v_z10 =>
      try dsimp only at h
      by_cases h12 : v_z10 = true
      · rw [if_pos h12] at h
        obtain rfl := Option.some.inj h
        exact pend_sound TTok mix 6 (hs := [.t true]) (by kernel_rfl) (by kernel_rfl) (by kernel_rfl) (.cons h12 .nil)
      · rw [if_neg h12] at h
        obtain rfl := Option.some.inj h
        exact pend_sound TTok mix 6 (hs := [.t false]) (by kernel_rfl) (by kernel_rfl) (by kernel_rfl) (.cons (vf h12) .nil)
  · rw [if_neg h8] at h
    obtain ⟨v_o29, h32, h⟩ := bind_some h
    refine pkk_sound TTok mix hF 9 (hs := [.c, .t false]) (ts := []) (s := [0]) (l := [1]) (by kernel_rfl) (by kernel_rfl) (.cons (bf h8) .nil) (G_ringref3_NodeRight_C2_ok hF (.s (cR (cL (cR (cR (bodyOf Try.f44))))) :: .s (cR (cR (cR (bodyOf Try.f44)))) :: []) n v_n6 _ h32 ?_)
    cases v_o29 with
    | x0 v_z30 =>
      try dsimp only at h
      by_cases h33 : v_z30 = true
      · rw [if_pos h33] at h
        obtain rfl := Option.some.inj h
        exact pend_sound TTok mix 5 (hs := [.t true]) (by kernel_rfl) (by kernel_rfl) (by kernel_rfl) (.cons h33 .nil)
      · rw [if_neg h33] at h
        obtain ⟨v_r31, h34, h⟩ := bind_some h
        by_cases h35 : v_r31 = true
        · rw [if_pos h35] at h
          obtain ⟨v_o37, h42, h⟩ := bind_some h
          refine pkk_sound TTok mix hF 9 (hs := [.t false, .c, .r (eB v_r31), .t false]) (ts := []) (s := [0]) (l := [1]) (by kernel_rfl) (by kernel_rfl) (.cons (vf h33) (.cons (G_ringref3_within_ok n v_n6.fSize 0 512 _ h34) (.cons (bnf h35) .nil))) (G_ringref3_NodeRight_C3_ok hF (.s (cR (cL (cR (cR (cR (cR (bodyOf Try.f44))))))) :: .s (cR (cR (cR (cR (cR (bodyOf Try.f44)))))) :: []) n v_n6 _ h42 ?_)
          cases v_o37 with
          | x0 v_z38 =>
            try dsimp only at h
            by_cases h43 : v_z38 = true
            · rw [if_pos h43] at h
              obtain rfl := Option.some.inj h
              exact pend_sound TTok mix 5 (hs := [.t true]) (by kernel_rfl) (by kernel_rfl) (by kernel_rfl) (.cons h43 .nil)
            · rw [if_neg h43] at h
              obtain ⟨v_r47, h53, h⟩ := bind_some h
              by_cases h54 : v_r47 = 0
              · rw [if_pos h54] at h
                obtain ⟨v_r54, h57, h⟩ := bind_some h
                by_cases h58 : (v_n6.fPoints.length : Int) = v_r54
                · rw [if_pos h58] at h
                  obtain rfl := Option.some.inj h
                  exact pend_sound TTok mix 17 (hs := [.t false, .c, .r ((eI .i64) v_r47), .t false, .c, .u (.d (.v (.int .i64 (v_n6.fPoints.length : Int)))), .c, .r ((eI .i64) v_r54), .t false]) (by kernel_rfl) (by kernel_rfl) (by kernel_rfl) (.cons (vf h43) (.cons (G_ringref3_PointsRight_ok n v_n6.fPoints _ h53) (.cons (nf h54) (.cons (len_ob (f := (eI .i64)) (l := v_n6.fPoints)) (.cons (G_ringref3_Blocks_ok n v_n6.fSize _ h57) (.cons (nf h58) .nil))))))
                · rw [if_neg h58] at h
                  obtain rfl := Option.some.inj h
                  exact pend_sound TTok mix 17 (hs := [.t false, .c, .r ((eI .i64) v_r47), .t false, .c, .u (.d (.v (.int .i64 (v_n6.fPoints.length : Int)))), .c, .r ((eI .i64) v_r54), .t true]) (by kernel_rfl) (by kernel_rfl) (by kernel_rfl) (.cons (vf h43) (.cons (G_ringref3_PointsRight_ok n v_n6.fPoints _ h53) (.cons (nf h54) (.cons (len_ob (f := (eI .i64)) (l := v_n6.fPoints)) (.cons (G_ringref3_Blocks_ok n v_n6.fSize _ h57) (.cons (nt h58) .nil))))))
              · rw [if_neg h54] at h
                obtain rfl := Option.some.inj h
                exact pend_sound TTok mix 12 (hs := [.t false, .c, .r ((eI .i64) v_r47), .t true]) (by kernel_rfl) (by kernel_rfl) (by kernel_rfl) (.cons (vf h43) (.cons (G_ringref3_PointsRight_ok n v_n6.fPoints _ h53) (.cons (nt h54) .nil)))
        · rw [if_neg h35] at h
          obtain rfl := Option.some.inj h
          exact pend_sound TTok mix 10 (hs := [.t false, .c, .r (eB v_r31), .t true]) (by kernel_rfl) (by kernel_rfl) (by kernel_rfl) (.cons (vf h33) (.cons (G_ringref3_within_ok n v_n6.fSize 0 512 _ h34) (.cons (bnt (vf h35)) .nil)))
inductive G_extent_Right_L1_R where
  | x0 (v_x140 : Int)
  | x1 
def G_extent_Right_L1_ex : G_extent_Right_L1_R → Ex
  | .x0 _ => .ret
  | .x1  => .exit 0
def G_extent_Right_L1_st (v_points136 : (List Int)) : G_extent_Right_L1_R → PS
  | .x0 v_x140 => ⟨[dd, dd, .d (.v (.int .i64 v_x140)), dd, dd, dd, dd, dd, dd, dd, dd, dd, dd, dd, dd, dd, dd, dd, dd, dd, dd], []⟩
  | .x1  => ⟨[dd, dd, dd, dd, dd, dd, dd, dd, dd, dd, dd, dd, dd, dd, dd, dd, dd, dd, dd, dd, dd], []⟩
def G_extent_Right_L1_hd (v_points136 : (List Int)) (v_x137 : Int) : PS := ⟨[dd, dd, dd, dd, dd, dd, dd, dd, .d (.sl (v_points136.map (eI .i64))), .d (.v (.int .i64 (v_points136.length : Int))), .d (.v (.int .i64 v_x137)), dd, dd, dd, dd, dd, dd, dd, dd, dd, dd], []⟩
def G_extent_Right_L1 (n : Nat) (v_points136 : (List Int)) : Nat → Int → Option G_extent_Right_L1_R
  | 0, _ => none
  | k + 1, v_x137 =>
    if v_x137 < (v_points136.length : Int) then
     (getI v_points136 v_x137).bind fun (v_y139 : Int) =>
     if v_y139 < 0 then
      some (.x0 1)
     else
      if v_y139 ≥ 256 then
       some (.x0 1)
      else
       G_extent_Right_L1 n v_points136 k (wi .i64 (v_x137 + 1))
    else
     some (.x1 )
theorem G_extent_Right_L1_ok {Fi : Ex → PS → Prop} (hF : KC 21 Fi) (ks : List Fr) (n : Nat) (v_points136 : (List Int))  : ∀ (k : Nat) (v_x137 : Int) (o : G_extent_Right_L1_R), G_extent_Right_L1 n v_points136 k v_x137 = some o → RunE Try.prog 21 Fi ks (G_extent_Right_L1_ex o) (G_extent_Right_L1_st v_points136 o) → RunE Try.prog 21 Fi (.l k (cP (cB (cR (cL (cR (cR (bodyOf Try.f72))))))) :: ks) .normal (G_extent_Right_L1_hd v_points136 v_x137)
  | 0, v_x137, o, h, q => by rw [G_extent_Right_L1] at h; cases h
  | k + 1, v_x137, o, h, q => by
    rw [G_extent_Right_L1] at h
    by_cases h191 : v_x137 < (v_points136.length : Int)
    · rw [if_pos h191] at h
      obtain ⟨v_y139, h195, h⟩ := bind_some h
      by_cases h196 : v_y139 < 0
      · rw [if_pos h196] at h
        cases h
        exact pkk_sound TTok mix hF 19 (hs := [.t true, .y ((eI .i64) v_y139), .c, .t true, .c, .c]) (ts := []) (s := []) (l := [2]) (by kernel_rfl) (by kernel_rfl) (.cons (dt h191) (.cons (getI_ob (f := (eI .i64)) h195) (.cons (dt h196) .nil))) q
      · rw [if_neg h196] at h
        by_cases h197 : v_y139 ≥ 256
        · rw [if_pos h197] at h
          cases h
          exact pkk_sound TTok mix hF 19 (hs := [.t true, .y ((eI .i64) v_y139), .c, .t false, .c, .t true]) (ts := []) (s := []) (l := [2]) (by kernel_rfl) (by kernel_rfl) (.cons (dt h191) (.cons (getI_ob (f := (eI .i64)) h195) (.cons (df h196) (.cons (dt h197) .nil)))) q
        · rw [if_neg h197] at h
          exact pkk_sound TTok mix hF 16 (hs := [.t true, .y ((eI .i64) v_y139), .c, .t false, .c, .t false]) (ts := []) (s := []) (l := [8, 9, 10]) (by kernel_rfl) (by kernel_rfl) (.cons (dt h191) (.cons (getI_ob (f := (eI .i64)) h195) (.cons (df h196) (.cons (df h197) .nil)))) (G_extent_Right_L1_ok hF ks n v_points136 k (wi .i64 (v_x137 + 1)) _ h q)
    · rw [if_neg h191] at h
      cases h
      exact pkk_sound TTok mix hF 8 (hs := [.t false]) (ts := []) (s := []) (l := []) (by kernel_rfl) (by kernel_rfl) (.cons (df h191) .nil) q
/- ringhall/extent.Right -/
def G_extent_Right (n : Nat) (v_points136 : (List Int)) : Option (Int) :=
  if (v_points136.length : Int) > 8 then
   some 2
  else
   (G_extent_Right_L1 n v_points136 n 0).bind fun v_o142 => match v_o142 with
   | .x0 v_z143 =>
     some v_z143
   | .x1  =>
     some 0
theorem G_extent_Right_ok (n : Nat) (v_points136 : (List Int)) (r : Int) (h : G_extent_Right n v_points136 = some r) : Ret Try.prog 72 [(eL (eI .i64)) v_points136] ((eI .i64) r) := by
  refine ret_run (n := 21) (fn := Try.f72) (c := bodyOf Try.f72) (by kernel_rfl) (by kernel_rfl) (by kernel_rfl) (by kernel_rfl) ?_
  have hF : KC 21 (FinR Try.prog Try.f72 ((eI .i64) r)) := FinR.kc' (by kernel_rfl)
  unfold G_extent_Right at h
  by_cases h190 : (v_points136.length : Int) > 8
  · rw [if_pos h190] at h
    obtain rfl := Option.some.inj h
    exact pend_sound TTok mix 10 (hs := [.u (.d (.v (.int .i64 (v_points136.length : Int)))), .t true]) (by kernel_rfl) (by kernel_rfl) (by kernel_rfl) (.cons (len_ob (f := (eI .i64)) (l := v_points136)) (.cons (dt h190) .nil))
  · rw [if_neg h190] at h
    obtain ⟨v_o142, h198, h⟩ := bind_some h
    refine pkk_sound TTok mix hF 12 (hs := [.u (.d (.v (.int .i64 (v_points136.length : Int)))), .t false, .u (.d (.v (.int .i64 (v_points136.length : Int)))), .n n]) (ts := []) (s := []) (l := [8, 9, 10]) (by kernel_rfl) (by kernel_rfl) (.cons (len_ob (f := (eI .i64)) (l := v_points136)) (.cons (df h190) (.cons (len_ob (f := (eI .i64)) (l := v_points136)) .nil))) (G_extent_Right_L1_ok hF (.b 0 :: .s (cR (cR (cR (bodyOf Try.f72)))) :: []) n v_points136 n 0 _ h198 ?_)
    cases v_o142 with
    | x0 v_z143 =>
      try dsimp only at h
      obtain rfl := Option.some.inj h
      exact pend_sound TTok mix 2 (hs := []) (by kernel_rfl) (by kernel_rfl) (by kernel_rfl) .nil
    | x1  =>
      try dsimp only at h
      obtain rfl := Option.some.inj h
      exact pend_sound TTok mix 4 (hs := []) (by kernel_rfl) (by kernel_rfl) (by kernel_rfl) .nil
/- ringhall/inode.Blocks -/
def G_inode_Blocks (n : Nat) (v_size145 : Int) : Option (Int) :=
  if v_size145 ≤ 0 then
   some 0
  else
   some (wi .i64 ((quoI .i64 (wi .i64 (v_size145 - 1)) 64) + 1))
theorem G_inode_Blocks_ok (n : Nat) (v_size145 : Int) (r : Int) (h : G_inode_Blocks n v_size145 = some r) : Ret Try.prog 81 [(eI .i64) v_size145] ((eI .i64) r) := by
  refine ret_run (n := 9) (fn := Try.f81) (c := bodyOf Try.f81) (by kernel_rfl) (by kernel_rfl) (by kernel_rfl) (by kernel_rfl) ?_
  have hF : KC 9 (FinR Try.prog Try.f81 ((eI .i64) r)) := FinR.kc' (by kernel_rfl)
  unfold G_inode_Blocks at h
  by_cases h201 : v_size145 ≤ 0
  · rw [if_pos h201] at h
    obtain rfl := Option.some.inj h
    exact pend_sound TTok mix 10 (hs := [.t true]) (by kernel_rfl) (by kernel_rfl) (by kernel_rfl) (.cons (dt h201) .nil)
  · rw [if_neg h201] at h
    obtain rfl := Option.some.inj h
    exact pend_sound TTok mix 10 (hs := [.t false]) (by kernel_rfl) (by kernel_rfl) (by kernel_rfl) (.cons (df h201) (.cons (show (64 : Int) ≠ 0 by decide) .nil))
inductive G_inode_Right_C1_R where
  | x0 (v_x67 : Bool)
def G_inode_Right_C1_ex : G_inode_Right_C1_R → Ex
  | .x0 _ => .normal
def G_inode_Right_C1_st (v_n57 : S_inode_Node) : G_inode_Right_C1_R → PS
  | .x0 v_x67 => ⟨[dd, dd, dd, dd, dd, dd, dd, dd, dd, dd, dd, dd, dd, dd, dd, dd, dd, dd, dd, dd, dd, dd, dd, dd, dd, dd, dd, dd, dd, dd, dd, dd, dd, dd, dd, dd, dd, dd, dd, dd, .d (.v (.bool v_x67)), dd, dd, dd, dd, dd, dd, dd, dd, dd, dd, dd, dd, dd, dd, dd, dd, dd, dd, dd, dd, dd, dd, dd, dd, dd, dd, dd, dd, dd, dd, dd, dd, dd, dd, dd, dd, dd, dd, dd, dd, dd, dd, dd, dd, dd, dd, dd, dd, dd, dd, dd, dd, dd, dd, dd, dd, dd, dd, dd, dd, dd, dd, dd, dd, dd, dd, dd, dd, dd, dd, dd, dd, dd, dd, dd, dd, dd, dd, dd, dd, dd, dd, dd, dd, dd, dd, dd, dd, dd, dd, dd, dd, dd, dd, dd], []⟩
def G_inode_Right_C1_hd (v_n57 : S_inode_Node)  : PS := ⟨[dd, .ref 0 0, dd, dd, dd, dd, dd, dd, dd, dd, dd, dd, dd, dd, dd, dd, dd, dd, dd, dd, dd, dd, dd, dd, dd, dd, dd, dd, dd, dd, dd, dd, dd, dd, dd, dd, dd, dd, dd, dd, dd, dd, dd, dd, dd, dd, dd, dd, dd, dd, dd, dd, dd, dd, dd, dd, dd, dd, dd, dd, dd, dd, dd, dd, dd, dd, dd, dd, dd, dd, dd, dd, dd, dd, dd, dd, dd, dd, dd, dd, dd, dd, dd, dd, dd, dd, dd, dd, dd, dd, dd, dd, dd, dd, dd, dd, dd, dd, dd, dd, dd, dd, dd, dd, dd, dd, dd, dd, dd, dd, dd, dd, dd, dd, dd, dd, dd, dd, dd, dd, dd, dd, dd, dd, dd, dd, dd, dd, dd, dd, dd, dd, dd, dd, dd, dd], [.box [.d (.v (.int .i64 v_n57.fKind)), .d (.v (.int .i64 v_n57.fMode)), .d (.v (.int .i64 v_n57.fUser)), .d (.v (.int .i64 v_n57.fGroup)), .d (.v (.int .i64 v_n57.fSize)), .d (.v (.int .i64 v_n57.fLinks)), .d (.v (.int .i64 v_n57.fUp)), .d (.sl (v_n57.fPoints.map (eI .i64)))]]⟩
def G_inode_Right_C1 (n : Nat) (v_n57 : S_inode_Node) : Option G_inode_Right_C1_R :=
  if v_n57.fMode = 0 then
   if v_n57.fUser = 0 then
    if v_n57.fGroup = 0 then
     if v_n57.fSize = 0 then
      if v_n57.fLinks = 0 then
       if v_n57.fUp = 0 then
        some (.x0 ((v_n57.fPoints.length : Int) != 0))
       else
        some (.x0 true)
      else
       some (.x0 true)
     else
      some (.x0 true)
    else
     some (.x0 true)
   else
    some (.x0 true)
  else
   some (.x0 true)
theorem G_inode_Right_C1_ok {Fi : Ex → PS → Prop} (hF : KC 136 Fi) (ks : List Fr) (n : Nat) (v_n57 : S_inode_Node)  (o : G_inode_Right_C1_R) (h : G_inode_Right_C1 n v_n57 = some o) (q : RunE Try.prog 136 Fi ks (G_inode_Right_C1_ex o) (G_inode_Right_C1_st v_n57 o)) : RunE Try.prog 136 Fi (.s (cL (cL (cT (cR (cL (cR (bodyOf Try.f80))))))) :: ks) .normal (G_inode_Right_C1_hd v_n57) := by
  unfold G_inode_Right_C1 at h
  by_cases h82 : v_n57.fMode = 0
  · rw [if_pos h82] at h
    by_cases h83 : v_n57.fUser = 0
    · rw [if_pos h83] at h
      by_cases h84 : v_n57.fGroup = 0
      · rw [if_pos h84] at h
        by_cases h85 : v_n57.fSize = 0
        · rw [if_pos h85] at h
          by_cases h86 : v_n57.fLinks = 0
          · rw [if_pos h86] at h
            by_cases h87 : v_n57.fUp = 0
            · rw [if_pos h87] at h
              cases h
              exact pkk_sound TTok mix hF 1 (hs := [.c, .t false, .c, .c, .c, .t false, .c, .c, .c, .t false, .c, .c, .c, .t false, .c, .c, .c, .t false, .c, .c, .c, .t false, .c, .c, .c, .u (.d (.v (.int .i64 (v_n57.fPoints.length : Int)))), .c]) (ts := []) (s := []) (l := [40]) (by kernel_rfl) (by kernel_rfl) (.cons (nf h82) (.cons (nf h83) (.cons (nf h84) (.cons (nf h85) (.cons (nf h86) (.cons (nf h87) (.cons (len_ob (f := (eI .i64)) (l := v_n57.fPoints)) .nil))))))) q
            · rw [if_neg h87] at h
              cases h
              exact pkk_sound TTok mix hF 1 (hs := [.c, .t false, .c, .c, .c, .t false, .c, .c, .c, .t false, .c, .c, .c, .t false, .c, .c, .c, .t false, .c, .c, .c, .t true, .c, .c, .c]) (ts := []) (s := []) (l := [40]) (by kernel_rfl) (by kernel_rfl) (.cons (nf h82) (.cons (nf h83) (.cons (nf h84) (.cons (nf h85) (.cons (nf h86) (.cons (nt h87) .nil)))))) q
          · rw [if_neg h86] at h
            cases h
            exact pkk_sound TTok mix hF 1 (hs := [.c, .t false, .c, .c, .c, .t false, .c, .c, .c, .t false, .c, .c, .c, .t false, .c, .c, .c, .t true, .c, .c, .c, .c, .c, .c]) (ts := []) (s := []) (l := [40]) (by kernel_rfl) (by kernel_rfl) (.cons (nf h82) (.cons (nf h83) (.cons (nf h84) (.cons (nf h85) (.cons (nt h86) .nil))))) q
        · rw [if_neg h85] at h
          cases h
          exact pkk_sound TTok mix hF 1 (hs := [.c, .t false, .c, .c, .c, .t false, .c, .c, .c, .t false, .c, .c, .c, .t true, .c, .c, .c, .c, .c, .c, .c, .c, .c]) (ts := []) (s := []) (l := [40]) (by kernel_rfl) (by kernel_rfl) (.cons (nf h82) (.cons (nf h83) (.cons (nf h84) (.cons (nt h85) .nil)))) q
      · rw [if_neg h84] at h
        cases h
        exact pkk_sound TTok mix hF 1 (hs := [.c, .t false, .c, .c, .c, .t false, .c, .c, .c, .t true, .c, .c, .c, .c, .c, .c, .c, .c, .c, .c, .c, .c]) (ts := []) (s := []) (l := [40]) (by kernel_rfl) (by kernel_rfl) (.cons (nf h82) (.cons (nf h83) (.cons (nt h84) .nil))) q
    · rw [if_neg h83] at h
      cases h
      exact pkk_sound TTok mix hF 1 (hs := [.c, .t false, .c, .c, .c, .t true, .c, .c, .c, .c, .c, .c, .c, .c, .c, .c, .c, .c, .c, .c, .c]) (ts := []) (s := []) (l := [40]) (by kernel_rfl) (by kernel_rfl) (.cons (nf h82) (.cons (nt h83) .nil)) q
  · rw [if_neg h82] at h
    cases h
    exact pkk_sound TTok mix hF 1 (hs := [.c, .t true, .c, .c, .c, .c, .c, .c, .c, .c, .c, .c, .c, .c, .c, .c, .c, .c, .c, .c]) (ts := []) (s := []) (l := [40]) (by kernel_rfl) (by kernel_rfl) (.cons (nt h82) .nil) q
inductive G_inode_Right_C2_R where
  | x0 (v_x106 : Bool)
def G_inode_Right_C2_ex : G_inode_Right_C2_R → Ex
  | .x0 _ => .normal
def G_inode_Right_C2_st (v_n57 : S_inode_Node) : G_inode_Right_C2_R → PS
  | .x0 v_x106 => ⟨[dd, .ref 0 0, dd, dd, dd, dd, dd, dd, dd, dd, dd, dd, dd, dd, dd, dd, dd, dd, dd, dd, dd, dd, dd, dd, dd, dd, dd, dd, dd, dd, dd, dd, dd, dd, dd, dd, dd, dd, dd, dd, dd, .d (.v (.bool v_x106)), dd, dd, dd, dd, dd, dd, dd, dd, dd, dd, dd, dd, dd, dd, dd, dd, dd, dd, dd, dd, dd, dd, dd, dd, dd, dd, dd, dd, dd, dd, dd, dd, dd, dd, dd, dd, dd, dd, dd, dd, dd, dd, dd, dd, dd, dd, dd, dd, dd, dd, dd, dd, dd, dd, dd, dd, dd, dd, dd, dd, dd, dd, dd, dd, dd, dd, dd, dd, dd, dd, dd, dd, dd, dd, dd, dd, dd, dd, dd, dd, dd, dd, dd, dd, dd, dd, dd, dd, dd, dd, dd, dd, dd, dd], [.box [.d (.v (.int .i64 v_n57.fKind)), .d (.v (.int .i64 v_n57.fMode)), .d (.v (.int .i64 v_n57.fUser)), .d (.v (.int .i64 v_n57.fGroup)), .d (.v (.int .i64 v_n57.fSize)), .d (.v (.int .i64 v_n57.fLinks)), .d (.v (.int .i64 v_n57.fUp)), .d (.sl (v_n57.fPoints.map (eI .i64)))]]⟩
def G_inode_Right_C2_hd (v_n57 : S_inode_Node)  : PS := ⟨[dd, .ref 0 0, dd, dd, dd, dd, dd, dd, dd, dd, dd, dd, dd, dd, dd, dd, dd, dd, dd, dd, dd, dd, dd, dd, dd, dd, dd, dd, dd, dd, dd, dd, dd, dd, dd, dd, dd, dd, dd, dd, dd, dd, dd, dd, dd, dd, dd, dd, dd, dd, dd, dd, dd, dd, dd, dd, dd, dd, dd, dd, dd, dd, dd, dd, dd, dd, dd, dd, dd, dd, dd, dd, dd, dd, dd, dd, dd, dd, dd, dd, dd, dd, dd, dd, dd, dd, dd, dd, dd, dd, dd, dd, dd, dd, dd, dd, dd, dd, dd, dd, dd, dd, dd, dd, dd, dd, dd, dd, dd, dd, dd, dd, dd, dd, dd, dd, dd, dd, dd, dd, dd, dd, dd, dd, dd, dd, dd, dd, dd, dd, dd, dd, dd, dd, dd, dd], [.box [.d (.v (.int .i64 v_n57.fKind)), .d (.v (.int .i64 v_n57.fMode)), .d (.v (.int .i64 v_n57.fUser)), .d (.v (.int .i64 v_n57.fGroup)), .d (.v (.int .i64 v_n57.fSize)), .d (.v (.int .i64 v_n57.fLinks)), .d (.v (.int .i64 v_n57.fUp)), .d (.sl (v_n57.fPoints.map (eI .i64)))]]⟩
def G_inode_Right_C2 (n : Nat) (v_n57 : S_inode_Node) : Option G_inode_Right_C2_R :=
  if v_n57.fKind < 0 then
   some (.x0 true)
  else
   if v_n57.fKind > 3 then
    some (.x0 true)
   else
    if v_n57.fMode < 0 then
     some (.x0 true)
    else
     if v_n57.fMode > 511 then
      some (.x0 true)
     else
      if v_n57.fUser < 0 then
       some (.x0 true)
      else
       if v_n57.fUser > 255 then
        some (.x0 true)
       else
        if v_n57.fGroup < 0 then
         some (.x0 true)
        else
         if v_n57.fGroup > 255 then
          some (.x0 true)
         else
          if v_n57.fLinks < 0 then
           some (.x0 true)
          else
           some (.x0 (decide (v_n57.fLinks > 200)))
theorem G_inode_Right_C2_ok {Fi : Ex → PS → Prop} (hF : KC 136 Fi) (ks : List Fr) (n : Nat) (v_n57 : S_inode_Node)  (o : G_inode_Right_C2_R) (h : G_inode_Right_C2 n v_n57 = some o) (q : RunE Try.prog 136 Fi ks (G_inode_Right_C2_ex o) (G_inode_Right_C2_st v_n57 o)) : RunE Try.prog 136 Fi (.s (cL (cB (cL (cR (cR (bodyOf Try.f80)))))) :: ks) .normal (G_inode_Right_C2_hd v_n57) := by
  unfold G_inode_Right_C2 at h
  by_cases h149 : v_n57.fKind < 0
  · rw [if_pos h149] at h
    cases h
    exact pkk_sound TTok mix hF 1 (hs := [.c, .t true, .c, .c, .c, .c, .c, .c, .c, .c, .c, .c, .c, .c, .c, .c, .c, .c, .c, .c, .c, .c, .c, .c, .c, .c, .c, .c]) (ts := []) (s := [0]) (l := [1, 41]) (by kernel_rfl) (by kernel_rfl) (.cons (dt h149) .nil) q
  · rw [if_neg h149] at h
    by_cases h150 : v_n57.fKind > 3
    · rw [if_pos h150] at h
      cases h
      exact pkk_sound TTok mix hF 1 (hs := [.c, .t false, .c, .c, .c, .t true, .c, .c, .c, .c, .c, .c, .c, .c, .c, .c, .c, .c, .c, .c, .c, .c, .c, .c, .c, .c, .c, .c, .c]) (ts := []) (s := [0]) (l := [1, 41]) (by kernel_rfl) (by kernel_rfl) (.cons (df h149) (.cons (dt h150) .nil)) q
    · rw [if_neg h150] at h
      by_cases h151 : v_n57.fMode < 0
      · rw [if_pos h151] at h
        cases h
        exact pkk_sound TTok mix hF 1 (hs := [.c, .t false, .c, .c, .c, .t false, .c, .c, .c, .t true, .c, .c, .c, .c, .c, .c, .c, .c, .c, .c, .c, .c, .c, .c, .c, .c, .c, .c, .c, .c]) (ts := []) (s := [0]) (l := [1, 41]) (by kernel_rfl) (by kernel_rfl) (.cons (df h149) (.cons (df h150) (.cons (dt h151) .nil))) q
      · rw [if_neg h151] at h
        by_cases h152 : v_n57.fMode > 511
        · rw [if_pos h152] at h
          cases h
          exact pkk_sound TTok mix hF 1 (hs := [.c, .t false, .c, .c, .c, .t false, .c, .c, .c, .t false, .c, .c, .c, .t true, .c, .c, .c, .c, .c, .c, .c, .c, .c, .c, .c, .c, .c, .c, .c, .c, .c]) (ts := []) (s := [0]) (l := [1, 41]) (by kernel_rfl) (by kernel_rfl) (.cons (df h149) (.cons (df h150) (.cons (df h151) (.cons (dt h152) .nil)))) q
        · rw [if_neg h152] at h
          by_cases h153 : v_n57.fUser < 0
          · rw [if_pos h153] at h
            cases h
            exact pkk_sound TTok mix hF 1 (hs := [.c, .t false, .c, .c, .c, .t false, .c, .c, .c, .t false, .c, .c, .c, .t false, .c, .c, .c, .t true, .c, .c, .c, .c, .c, .c, .c, .c, .c, .c, .c, .c, .c, .c]) (ts := []) (s := [0]) (l := [1, 41]) (by kernel_rfl) (by kernel_rfl) (.cons (df h149) (.cons (df h150) (.cons (df h151) (.cons (df h152) (.cons (dt h153) .nil))))) q
          · rw [if_neg h153] at h
            by_cases h154 : v_n57.fUser > 255
            · rw [if_pos h154] at h
              cases h
              exact pkk_sound TTok mix hF 1 (hs := [.c, .t false, .c, .c, .c, .t false, .c, .c, .c, .t false, .c, .c, .c, .t false, .c, .c, .c, .t false, .c, .c, .c, .t true, .c, .c, .c, .c, .c, .c, .c, .c, .c, .c, .c]) (ts := []) (s := [0]) (l := [1, 41]) (by kernel_rfl) (by kernel_rfl) (.cons (df h149) (.cons (df h150) (.cons (df h151) (.cons (df h152) (.cons (df h153) (.cons (dt h154) .nil)))))) q
            · rw [if_neg h154] at h
              by_cases h155 : v_n57.fGroup < 0
              · rw [if_pos h155] at h
                cases h
                exact pkk_sound TTok mix hF 1 (hs := [.c, .t false, .c, .c, .c, .t false, .c, .c, .c, .t false, .c, .c, .c, .t false, .c, .c, .c, .t false, .c, .c, .c, .t false, .c, .c, .c, .t true, .c, .c, .c, .c, .c, .c, .c, .c]) (ts := []) (s := [0]) (l := [1, 41]) (by kernel_rfl) (by kernel_rfl) (.cons (df h149) (.cons (df h150) (.cons (df h151) (.cons (df h152) (.cons (df h153) (.cons (df h154) (.cons (dt h155) .nil))))))) q
              · rw [if_neg h155] at h
                by_cases h156 : v_n57.fGroup > 255
                · rw [if_pos h156] at h
                  cases h
                  exact pkk_sound TTok mix hF 1 (hs := [.c, .t false, .c, .c, .c, .t false, .c, .c, .c, .t false, .c, .c, .c, .t false, .c, .c, .c, .t false, .c, .c, .c, .t false, .c, .c, .c, .t false, .c, .c, .c, .t true, .c, .c, .c, .c, .c]) (ts := []) (s := [0]) (l := [1, 41]) (by kernel_rfl) (by kernel_rfl) (.cons (df h149) (.cons (df h150) (.cons (df h151) (.cons (df h152) (.cons (df h153) (.cons (df h154) (.cons (df h155) (.cons (dt h156) .nil)))))))) q
                · rw [if_neg h156] at h
                  by_cases h157 : v_n57.fLinks < 0
                  · rw [if_pos h157] at h
                    cases h
                    exact pkk_sound TTok mix hF 1 (hs := [.c, .t false, .c, .c, .c, .t false, .c, .c, .c, .t false, .c, .c, .c, .t false, .c, .c, .c, .t false, .c, .c, .c, .t false, .c, .c, .c, .t false, .c, .c, .c, .t false, .c, .c, .c, .t true, .c, .c]) (ts := []) (s := [0]) (l := [1, 41]) (by kernel_rfl) (by kernel_rfl) (.cons (df h149) (.cons (df h150) (.cons (df h151) (.cons (df h152) (.cons (df h153) (.cons (df h154) (.cons (df h155) (.cons (df h156) (.cons (dt h157) .nil))))))))) q
                  · rw [if_neg h157] at h
                    cases h
                    exact pkk_sound TTok mix hF 1 (hs := [.c, .t false, .c, .c, .c, .t false, .c, .c, .c, .t false, .c, .c, .c, .t false, .c, .c, .c, .t false, .c, .c, .c, .t false, .c, .c, .c, .t false, .c, .c, .c, .t false, .c, .c, .c, .t false, .c, .c, .c]) (ts := []) (s := [0]) (l := [1, 41]) (by kernel_rfl) (by kernel_rfl) (.cons (df h149) (.cons (df h150) (.cons (df h151) (.cons (df h152) (.cons (df h153) (.cons (df h154) (.cons (df h155) (.cons (df h156) (.cons (df h157) .nil))))))))) q
inductive G_inode_Right_C3_R where
  | x0 (v_x130 : Bool)
def G_inode_Right_C3_ex : G_inode_Right_C3_R → Ex
  | .x0 _ => .normal
def G_inode_Right_C3_st (v_n57 : S_inode_Node) : G_inode_Right_C3_R → PS
  | .x0 v_x130 => ⟨[dd, .ref 0 0, dd, dd, dd, dd, dd, dd, dd, dd, dd, dd, dd, dd, dd, dd, dd, dd, dd, dd, dd, dd, dd, dd, dd, dd, dd, dd, dd, dd, dd, dd, dd, dd, dd, dd, dd, dd, dd, dd, dd, dd, dd, dd, dd, dd, dd, dd, dd, dd, dd, dd, dd, dd, dd, dd, dd, dd, dd, dd, dd, dd, dd, dd, dd, dd, dd, dd, dd, dd, dd, dd, dd, dd, dd, dd, dd, dd, dd, dd, dd, dd, dd, dd, dd, dd, dd, dd, dd, dd, dd, dd, dd, dd, dd, dd, dd, dd, dd, .d (.v (.bool v_x130)), dd, dd, dd, dd, dd, dd, dd, dd, dd, dd, dd, dd, dd, dd, dd, dd, dd, dd, dd, dd, dd, dd, dd, dd, dd, dd, dd, dd, dd, dd, dd, dd, dd, dd, dd, dd], [.box [.d (.v (.int .i64 v_n57.fKind)), .d (.v (.int .i64 v_n57.fMode)), .d (.v (.int .i64 v_n57.fUser)), .d (.v (.int .i64 v_n57.fGroup)), .d (.v (.int .i64 v_n57.fSize)), .d (.v (.int .i64 v_n57.fLinks)), .d (.v (.int .i64 v_n57.fUp)), .d (.sl (v_n57.fPoints.map (eI .i64)))]]⟩
def G_inode_Right_C3_hd (v_n57 : S_inode_Node)  : PS := ⟨[dd, .ref 0 0, dd, dd, dd, dd, dd, dd, dd, dd, dd, dd, dd, dd, dd, dd, dd, dd, dd, dd, dd, dd, dd, dd, dd, dd, dd, dd, dd, dd, dd, dd, dd, dd, dd, dd, dd, dd, dd, dd, dd, dd, dd, dd, dd, dd, dd, dd, dd, dd, dd, dd, dd, dd, dd, dd, dd, dd, dd, dd, dd, dd, dd, dd, dd, dd, dd, dd, dd, dd, dd, dd, dd, dd, dd, dd, dd, dd, dd, dd, dd, dd, dd, dd, dd, dd, dd, dd, dd, dd, dd, dd, dd, dd, dd, dd, dd, dd, dd, dd, dd, dd, dd, dd, dd, dd, dd, dd, dd, dd, dd, dd, dd, dd, dd, dd, dd, dd, dd, dd, dd, dd, dd, dd, dd, dd, dd, dd, dd, dd, dd, dd, dd, dd, dd, dd], [.box [.d (.v (.int .i64 v_n57.fKind)), .d (.v (.int .i64 v_n57.fMode)), .d (.v (.int .i64 v_n57.fUser)), .d (.v (.int .i64 v_n57.fGroup)), .d (.v (.int .i64 v_n57.fSize)), .d (.v (.int .i64 v_n57.fLinks)), .d (.v (.int .i64 v_n57.fUp)), .d (.sl (v_n57.fPoints.map (eI .i64)))]]⟩
def G_inode_Right_C3 (n : Nat) (v_n57 : S_inode_Node) : Option G_inode_Right_C3_R :=
  if v_n57.fKind = 2 then
   if v_n57.fUp < 1 then
    some (.x0 true)
   else
    if v_n57.fUp > 32 then
     some (.x0 true)
    else
     some (.x0 false)
  else
   some (.x0 (v_n57.fUp != 0))
theorem G_inode_Right_C3_ok {Fi : Ex → PS → Prop} (hF : KC 136 Fi) (ks : List Fr) (n : Nat) (v_n57 : S_inode_Node)  (o : G_inode_Right_C3_R) (h : G_inode_Right_C3 n v_n57 = some o) (q : RunE Try.prog 136 Fi ks (G_inode_Right_C3_ex o) (G_inode_Right_C3_st v_n57 o)) : RunE Try.prog 136 Fi (.s (cL (cF (cR (cF (cR (cB (cL (cR (cR (bodyOf Try.f80)))))))))) :: ks) .normal (G_inode_Right_C3_hd v_n57) := by
  unfold G_inode_Right_C3 at h
  by_cases h185 : v_n57.fKind = 2
  · rw [if_pos h185] at h
    by_cases h186 : v_n57.fUp < 1
    · rw [if_pos h186] at h
      cases h
      exact pkk_sound TTok mix hF 1 (hs := [.c, .t true, .c, .c, .c, .c, .t true, .c, .c, .c, .c, .c, .c, .c, .c]) (ts := []) (s := [0]) (l := [1, 99]) (by kernel_rfl) (by kernel_rfl) (.cons (bt h185) (.cons (dt h186) .nil)) q
    · rw [if_neg h186] at h
      by_cases h187 : v_n57.fUp > 32
      · rw [if_pos h187] at h
        cases h
        exact pkk_sound TTok mix hF 1 (hs := [.c, .t true, .c, .c, .c, .c, .t false, .c, .c, .c, .c, .t true, .c, .c, .c, .c]) (ts := []) (s := [0]) (l := [1, 99]) (by kernel_rfl) (by kernel_rfl) (.cons (bt h185) (.cons (df h186) (.cons (dt h187) .nil))) q
      · rw [if_neg h187] at h
        cases h
        exact pkk_sound TTok mix hF 1 (hs := [.c, .t true, .c, .c, .c, .c, .t false, .c, .c, .c, .c, .t false, .c, .c, .c, .c, .t false, .c, .c, .c]) (ts := []) (s := [0]) (l := [1, 99]) (by kernel_rfl) (by kernel_rfl) (.cons (bt h185) (.cons (df h186) (.cons (df h187) (.cons (nf h185) .nil)))) q
  · rw [if_neg h185] at h
    cases h
    exact pkk_sound TTok mix hF 1 (hs := [.c, .t false, .c, .c, .c, .c, .c, .c, .c, .c, .c, .t true, .c, .c, .c, .c]) (ts := []) (s := [0]) (l := [1, 99]) (by kernel_rfl) (by kernel_rfl) (.cons (bf h185) (.cons (nt h185) .nil)) q
/- ringhall/inode.Right -/
def G_inode_Right (n : Nat) (v_n57 : S_inode_Node) : Option (Int) :=
  if v_n57.fKind = 0 then
   (G_inode_Right_C1 n v_n57).bind fun v_o74 => match v_o74 with
   | .x0 v_z75 =>
     if v_z75 = true then
      some 3
     else
      some 0
  else
   (G_inode_Right_C2 n v_n57).bind fun v_o116 => match v_o116 with
   | .x0 v_z117 =>
     if v_z117 = true then
      some 1
     else
      if v_n57.fSize < 0 then
       some 2
      else
       if v_n57.fSize > 512 then
        some 2
       else
        (G_inode_Right_C3 n v_n57).bind fun v_o134 => match v_o134 with
        | .x0 v_z135 =>
          if v_z135 = true then
           some 12
          else
           (G_extent_Right n v_n57.fPoints).bind fun (v_r144 : (Int)) =>
           if v_r144 = 0 then
            (G_inode_Blocks n v_n57.fSize).bind fun (v_r146 : (Int)) =>
            if (v_n57.fPoints.length : Int) = v_r146 then
             some 0
            else
             some 3
           else
            some v_r144
theorem G_inode_Right_ok (n : Nat) (v_n57 : S_inode_Node) (r : Int) (h : G_inode_Right n v_n57 = some r) : Ret Try.prog 80 [eS_inode_Node v_n57] ((eI .i64) r) := by
  refine ret_run (n := 136) (fn := Try.f80) (c := bodyOf Try.f80) (by kernel_rfl) (by kernel_rfl) (by kernel_rfl) (by kernel_rfl) ?_
  have hF : KC 136 (FinR Try.prog Try.f80 ((eI .i64) r)) := FinR.kc' (by kernel_rfl)
  unfold G_inode_Right at h
  by_cases h75 : v_n57.fKind = 0
  · rw [if_pos h75] at h
    obtain ⟨v_o74, h88, h⟩ := bind_some h
    refine pkk_sound TTok mix hF 8 (hs := [.c, .t true]) (ts := []) (s := [0]) (l := [1]) (by kernel_rfl) (by kernel_rfl) (.cons (bt h75) .nil) (G_inode_Right_C1_ok hF (.s (cR (cL (cT (cR (cL (cR (bodyOf Try.f80))))))) :: .s (cR (cT (cR (cL (cR (bodyOf Try.f80)))))) :: .s (cR (cR (bodyOf Try.f80))) :: []) n v_n57 _ h88 ?_)
    cases v_o74 with
    | x0 v_z75 =>
      try dsimp only at h
      by_cases h89 : v_z75 = true
      · rw [if_pos h89] at h
        obtain rfl := Option.some.inj h
        exact pend_sound TTok mix 6 (hs := [.t true]) (by kernel_rfl) (by kernel_rfl) (by kernel_rfl) (.cons h89 .nil)
      · rw [if_neg h89] at h
        obtain rfl := Option.some.inj h
        exact pend_sound TTok mix 6 (hs := [.t false]) (by kernel_rfl) (by kernel_rfl) (by kernel_rfl) (.cons (vf h89) .nil)
  · rw [if_neg h75] at h
    obtain ⟨v_o116, h158, h⟩ := bind_some h
    refine pkk_sound TTok mix hF 10 (hs := [.c, .t false]) (ts := []) (s := [0]) (l := [1]) (by kernel_rfl) (by kernel_rfl) (.cons (bf h75) .nil) (G_inode_Right_C2_ok hF (.s (cR (cB (cL (cR (cR (bodyOf Try.f80)))))) :: .b 0 :: .s (cR (cR (cR (bodyOf Try.f80)))) :: []) n v_n57 _ h158 ?_)
    cases v_o116 with
    | x0 v_z117 =>
      try dsimp only at h
      by_cases h170 : v_z117 = true
      · rw [if_pos h170] at h
        obtain rfl := Option.some.inj h
        exact pend_sound TTok mix 6 (hs := [.t true]) (by kernel_rfl) (by kernel_rfl) (by kernel_rfl) (.cons h170 .nil)
      · rw [if_neg h170] at h
        by_cases h171 : v_n57.fSize < 0
        · rw [if_pos h171] at h
          obtain rfl := Option.some.inj h
          exact pend_sound TTok mix 9 (hs := [.t false, .c, .t true, .c, .c, .c]) (by kernel_rfl) (by kernel_rfl) (by kernel_rfl) (.cons (vf h170) (.cons (dt h171) .nil))
        · rw [if_neg h171] at h
          by_cases h181 : v_n57.fSize > 512
          · rw [if_pos h181] at h
            obtain rfl := Option.some.inj h
            exact pend_sound TTok mix 9 (hs := [.t false, .c, .t false, .c, .c, .c, .t true]) (by kernel_rfl) (by kernel_rfl) (by kernel_rfl) (.cons (vf h170) (.cons (df h171) (.cons (dt h181) .nil)))
          · rw [if_neg h181] at h
            obtain ⟨v_o134, h188, h⟩ := bind_some h
            refine pkk_sound TTok mix hF 5 (hs := [.t false, .c, .t false, .c, .c, .c, .t false]) (ts := []) (s := [0]) (l := [1]) (by kernel_rfl) (by kernel_rfl) (.cons (vf h170) (.cons (df h171) (.cons (df h181) .nil))) (G_inode_Right_C3_ok hF (.s (cR (cF (cR (cF (cR (cB (cL (cR (cR (bodyOf Try.f80)))))))))) :: .b 0 :: .s (cR (cR (cR (bodyOf Try.f80)))) :: []) n v_n57 _ h188 ?_)
            cases v_o134 with
            | x0 v_z135 =>
              try dsimp only at h
              by_cases h189 : v_z135 = true
              · rw [if_pos h189] at h
                obtain rfl := Option.some.inj h
                exact pend_sound TTok mix 6 (hs := [.t true]) (by kernel_rfl) (by kernel_rfl) (by kernel_rfl) (.cons h189 .nil)
              · rw [if_neg h189] at h
                obtain ⟨v_r144, h199, h⟩ := bind_some h
                by_cases h200 : v_r144 = 0
                · rw [if_pos h200] at h
                  obtain ⟨v_r146, h203, h⟩ := bind_some h
                  by_cases h204 : (v_n57.fPoints.length : Int) = v_r146
                  · rw [if_pos h204] at h
                    obtain rfl := Option.some.inj h
                    exact pend_sound TTok mix 18 (hs := [.t false, .c, .r ((eI .i64) v_r144), .t false, .c, .u (.d (.v (.int .i64 (v_n57.fPoints.length : Int)))), .c, .r ((eI .i64) v_r146), .t false]) (by kernel_rfl) (by kernel_rfl) (by kernel_rfl) (.cons (vf h189) (.cons (G_extent_Right_ok n v_n57.fPoints _ h199) (.cons (nf h200) (.cons (len_ob (f := (eI .i64)) (l := v_n57.fPoints)) (.cons (G_inode_Blocks_ok n v_n57.fSize _ h203) (.cons (nf h204) .nil))))))
                  · rw [if_neg h204] at h
                    obtain rfl := Option.some.inj h
                    exact pend_sound TTok mix 18 (hs := [.t false, .c, .r ((eI .i64) v_r144), .t false, .c, .u (.d (.v (.int .i64 (v_n57.fPoints.length : Int)))), .c, .r ((eI .i64) v_r146), .t true]) (by kernel_rfl) (by kernel_rfl) (by kernel_rfl) (.cons (vf h189) (.cons (G_extent_Right_ok n v_n57.fPoints _ h199) (.cons (nf h200) (.cons (len_ob (f := (eI .i64)) (l := v_n57.fPoints)) (.cons (G_inode_Blocks_ok n v_n57.fSize _ h203) (.cons (nt h204) .nil))))))
                · rw [if_neg h200] at h
                  obtain rfl := Option.some.inj h
                  exact pend_sound TTok mix 13 (hs := [.t false, .c, .r ((eI .i64) v_r144), .t true]) (by kernel_rfl) (by kernel_rfl) (by kernel_rfl) (.cons (vf h189) (.cons (G_extent_Right_ok n v_n57.fPoints _ h199) (.cons (nt h200) .nil)))
/- ringhall/extent.goes -/
def G_extent_goes (n : Nat) (v_x156 : S_extent_Ext) (v_p157 : Int) : Option (Bool) :=
  if v_x156.fStart = 0 then
   some (v_p157 == 0)
  else
   some (v_p157 == (wi .i64 (v_x156.fStart + v_x156.fN)))
theorem G_extent_goes_ok (n : Nat) (v_x156 : S_extent_Ext) (v_p157 : Int) (r : Bool) (h : G_extent_goes n v_x156 v_p157 = some r) : Ret Try.prog 137 [eS_extent_Ext v_x156, (eI .i64) v_p157] (eB r) := by
  refine ret_run (n := 17) (fn := Try.f137) (c := bodyOf Try.f137) (by kernel_rfl) (by kernel_rfl) (by kernel_rfl) (by kernel_rfl) ?_
  have hF : KC 17 (FinR Try.prog Try.f137 (eB r)) := FinR.kc' (by kernel_rfl)
  unfold G_extent_goes at h
  by_cases h220 : v_x156.fStart = 0
  · rw [if_pos h220] at h
    obtain rfl := Option.some.inj h
    exact pend_sound TTok mix 10 (hs := [.c, .t true]) (by kernel_rfl) (by kernel_rfl) (by kernel_rfl) (.cons (bt h220) .nil)
  · rw [if_neg h220] at h
    obtain rfl := Option.some.inj h
    exact pend_sound TTok mix 10 (hs := [.c, .t false, .c, .c]) (by kernel_rfl) (by kernel_rfl) (by kernel_rfl) (.cons (bf h220) .nil)
inductive G_extent_Of_C1_R where
  | x0 (v_w179 : (List S_extent_Ext))
def G_extent_Of_C1_ex : G_extent_Of_C1_R → Ex
  | .x0 _ => .normal
def G_extent_Of_C1_st (v_points150 : (List Int)) (v_x152 : Int) (v_w153 : (List S_extent_Ext)) : G_extent_Of_C1_R → PS
  | .x0 v_w179 => ⟨[dd, dd, dd, dd, dd, .srf 0, dd, dd, dd, dd, dd, dd, dd, dd, .d (.sl (v_points150.map (eI .i64))), .d (.v (.int .i64 (v_points150.length : Int))), .d (.v (.int .i64 v_x152)), dd, dd, dd, dd, dd, dd, dd, dd, dd, dd, dd, dd, dd, dd, dd, dd, dd, dd, dd, dd, dd, dd, dd, dd, dd, dd, dd, dd, dd, dd, dd], [.row 229 2 (v_w179.map eS_extent_Ext)]⟩
def G_extent_Of_C1_hd (v_points150 : (List Int)) (v_x152 : Int) (v_w153 : (List S_extent_Ext))  : PS := ⟨[dd, dd, dd, dd, dd, .srf 0, dd, dd, dd, dd, dd, dd, dd, dd, .d (.sl (v_points150.map (eI .i64))), .d (.v (.int .i64 (v_points150.length : Int))), .d (.v (.int .i64 v_x152)), dd, dd, dd, dd, dd, dd, dd, dd, dd, dd, dd, dd, dd, dd, dd, dd, dd, dd, dd, dd, dd, dd, dd, dd, dd, dd, dd, dd, dd, dd, dd], [.row 229 2 (v_w153.map eS_extent_Ext)]⟩
def G_extent_Of_C1 (n : Nat) (v_points150 : (List Int)) (v_x152 : Int) (v_w153 : (List S_extent_Ext)) : Option G_extent_Of_C1_R :=
  (getI v_points150 v_x152).bind fun (v_y169 : Int) =>
  if (wi .i64 ((v_w153.length : Int) - 1)) ≥ 0 then
   if 0 ≤ (wi .i64 ((v_w153.length : Int) - 1)) ∧ ((wi .i64 ((v_w153.length : Int) - 1))).toNat < v_w153.length then
    (v_w153[((wi .i64 ((v_w153.length : Int) - 1))).toNat]?).bind fun (v_y172 : S_extent_Ext) =>
    (G_extent_goes n v_y172 v_y169).bind fun (v_r173 : (Bool)) =>
    if v_r173 = true then
     if 0 ≤ (wi .i64 ((v_w153.length : Int) - 1)) ∧ ((wi .i64 ((v_w153.length : Int) - 1))).toNat < v_w153.length then
      (v_w153[((wi .i64 ((v_w153.length : Int) - 1))).toNat]?).bind fun (v_y177 : S_extent_Ext) =>
      if 0 ≤ (wi .i64 ((v_w153.length : Int) - 1)) ∧ ((wi .i64 ((v_w153.length : Int) - 1))).toNat < v_w153.length then
       (v_w153[((wi .i64 ((v_w153.length : Int) - 1))).toNat]?).bind fun (v_y178 : S_extent_Ext) =>
       some (.x0 (v_w153.set ((wi .i64 ((v_w153.length : Int) - 1))).toNat (S_extent_Ext.mk v_y178.fStart (wi .i64 (v_y177.fN + 1)))))
      else none
     else none
    else
     (app 16 v_w153 ([(S_extent_Ext.mk v_y169 1)])).bind fun (v_a180 : (List S_extent_Ext)) =>
     some (.x0 v_a180)
   else none
  else
   (app 16 v_w153 ([(S_extent_Ext.mk v_y169 1)])).bind fun (v_a183 : (List S_extent_Ext)) =>
   some (.x0 v_a183)
theorem G_extent_Of_C1_ok {Fi : Ex → PS → Prop} (hF : KC 48 Fi) (ks : List Fr) (n : Nat) (v_points150 : (List Int)) (v_x152 : Int) (v_w153 : (List S_extent_Ext))  (o : G_extent_Of_C1_R) (h : G_extent_Of_C1 n v_points150 v_x152 v_w153 = some o) (q : RunE Try.prog 48 Fi ks (G_extent_Of_C1_ex o) (G_extent_Of_C1_st v_points150 v_x152 v_w153 o)) : RunE Try.prog 48 Fi (.s (cL (cR (cR (cP (cB (cR (cL (cR (cR (cR (bodyOf Try.f65))))))))))) :: ks) .normal (G_extent_Of_C1_hd v_points150 v_x152 v_w153) := by
  unfold G_extent_Of_C1 at h
  obtain ⟨v_y169, h240, h⟩ := bind_some h
  by_cases h245 : (wi .i64 ((v_w153.length : Int) - 1)) ≥ 0
  · rw [if_pos h245] at h
    by_cases h246 : 0 ≤ (wi .i64 ((v_w153.length : Int) - 1)) ∧ ((wi .i64 ((v_w153.length : Int) - 1))).toNat < v_w153.length
    · rw [if_pos h246] at h
      obtain ⟨v_y172, h247, h⟩ := bind_some h
      obtain ⟨v_r173, h248, h⟩ := bind_some h
      by_cases h255 : v_r173 = true
      · rw [if_pos h255] at h
        by_cases h256 : 0 ≤ (wi .i64 ((v_w153.length : Int) - 1)) ∧ ((wi .i64 ((v_w153.length : Int) - 1))).toNat < v_w153.length
        · rw [if_pos h256] at h
          obtain ⟨v_y177, h257, h⟩ := bind_some h
          by_cases h258 : 0 ≤ (wi .i64 ((v_w153.length : Int) - 1)) ∧ ((wi .i64 ((v_w153.length : Int) - 1))).toNat < v_w153.length
          · rw [if_pos h258] at h
            obtain ⟨v_y178, h259, h⟩ := bind_some h
            cases h
            exact pkk_sound TTok mix hF 10 (hs := [.y ((eI .i64) v_y169), .c, .u (.d (.v (.int .i64 (v_w153.length : Int)))), .t true, .c, .c, .c, .y (eS_extent_Ext v_y172), .c, .c, .r (eB v_r173), .t true, .y (eS_extent_Ext v_y177), .w ((v_w153.set ((wi .i64 ((v_w153.length : Int) - 1))).toNat (S_extent_Ext.mk v_y178.fStart (wi .i64 (v_y177.fN + 1)))).map eS_extent_Ext), .y (eS_extent_Ext v_y178)]) (ts := []) (s := [0]) (l := [5, 14, 15, 16]) (by kernel_rfl) (by kernel_rfl) (.cons (getI_ob (f := (eI .i64)) h240) (.cons (len_ob (f := eS_extent_Ext) (l := v_w153)) (.cons (dt h245) (.cons (idx_ob (f := eS_extent_Ext) h246) (.cons (get_ob (f := eS_extent_Ext) h247) (.cons (G_extent_goes_ok n v_y172 v_y169 _ h248) (.cons h255 (.cons (idx_ob (f := eS_extent_Ext) h256) (.cons (get_ob (f := eS_extent_Ext) h257) (.cons (idx_ob (f := eS_extent_Ext) h258) (.cons (get_ob (f := eS_extent_Ext) h259) (.cons (Eq.refl (pcells (.agg [.v (.int .i64 v_y178.fStart), .v (.int .i64 (wi .i64 (v_y177.fN + 1)))]))) (.cons (set_ob (f := eS_extent_Ext) (l := v_w153) (k := ((wi .i64 ((v_w153.length : Int) - 1))).toNat) (z := (S_extent_Ext.mk v_y178.fStart (wi .i64 (v_y177.fN + 1)))) (p := .agg [.v (.int .i64 v_y178.fStart), .v (.int .i64 (wi .i64 (v_y177.fN + 1)))]) rfl) .nil))))))))))))) q
          · rw [if_neg h258] at h; cases h
        · rw [if_neg h256] at h; cases h
      · rw [if_neg h255] at h
        obtain ⟨v_a180, h260, h⟩ := bind_some h
        cases h
        exact pkk_sound TTok mix hF 10 (hs := [.y ((eI .i64) v_y169), .c, .u (.d (.v (.int .i64 (v_w153.length : Int)))), .t true, .c, .c, .c, .y (eS_extent_Ext v_y172), .c, .c, .r (eB v_r173), .t false, .bd, .w (v_a180.map eS_extent_Ext)]) (ts := []) (s := [64]) (l := [5, 14, 15, 16]) (by kernel_rfl) (by kernel_rfl) (.cons (getI_ob (f := (eI .i64)) h240) (.cons (len_ob (f := eS_extent_Ext) (l := v_w153)) (.cons (dt h245) (.cons (idx_ob (f := eS_extent_Ext) h246) (.cons (get_ob (f := eS_extent_Ext) h247) (.cons (G_extent_goes_ok n v_y172 v_y169 _ h248) (.cons (vf h255) (.cons (app_ob (f := eS_extent_Ext) (s := 2) h260 (fun _ => rfl)).1 (.cons (app_ob (f := eS_extent_Ext) (s := 2) h260 (fun _ => rfl)).2.1 (.cons (app_ob (f := eS_extent_Ext) (s := 2) h260 (fun _ => rfl)).2.2.1 (.cons (app_ob (f := eS_extent_Ext) (s := 2) h260 (fun _ => rfl)).2.2.2 .nil))))))))))) q
    · rw [if_neg h246] at h; cases h
  · rw [if_neg h245] at h
    obtain ⟨v_a183, h262, h⟩ := bind_some h
    cases h
    exact pkk_sound TTok mix hF 10 (hs := [.y ((eI .i64) v_y169), .c, .u (.d (.v (.int .i64 (v_w153.length : Int)))), .t false, .c, .c, .c, .c, .c, .c, .bd, .w (v_a183.map eS_extent_Ext)]) (ts := []) (s := [64]) (l := [5, 14, 15, 16]) (by kernel_rfl) (by kernel_rfl) (.cons (getI_ob (f := (eI .i64)) h240) (.cons (len_ob (f := eS_extent_Ext) (l := v_w153)) (.cons (df h245) (.cons (app_ob (f := eS_extent_Ext) (s := 2) h262 (fun _ => rfl)).1 (.cons (app_ob (f := eS_extent_Ext) (s := 2) h262 (fun _ => rfl)).2.1 (.cons (app_ob (f := eS_extent_Ext) (s := 2) h262 (fun _ => rfl)).2.2.1 (.cons (app_ob (f := eS_extent_Ext) (s := 2) h262 (fun _ => rfl)).2.2.2 .nil))))))) q
inductive G_extent_Of_L2_R where
  | x0 (v_w187 : (List S_extent_Ext))
def G_extent_Of_L2_ex : G_extent_Of_L2_R → Ex
  | .x0 _ => .exit 0
def G_extent_Of_L2_st (v_points150 : (List Int)) : G_extent_Of_L2_R → PS
  | .x0 v_w187 => ⟨[dd, dd, dd, dd, dd, .srf 0, dd, dd, dd, dd, dd, dd, dd, dd, dd, dd, dd, dd, dd, dd, dd, dd, dd, dd, dd, dd, dd, dd, dd, dd, dd, dd, dd, dd, dd, dd, dd, dd, dd, dd, dd, dd, dd, dd, dd, dd, dd, dd], [.row 229 2 (v_w187.map eS_extent_Ext)]⟩
def G_extent_Of_L2_hd (v_points150 : (List Int)) (v_x152 : Int) (v_w153 : (List S_extent_Ext)) : PS := ⟨[dd, dd, dd, dd, dd, .srf 0, dd, dd, dd, dd, dd, dd, dd, dd, .d (.sl (v_points150.map (eI .i64))), .d (.v (.int .i64 (v_points150.length : Int))), .d (.v (.int .i64 v_x152)), dd, dd, dd, dd, dd, dd, dd, dd, dd, dd, dd, dd, dd, dd, dd, dd, dd, dd, dd, dd, dd, dd, dd, dd, dd, dd, dd, dd, dd, dd, dd], [.row 229 2 (v_w153.map eS_extent_Ext)]⟩
def G_extent_Of_L2 (n : Nat) (v_points150 : (List Int)) : Nat → Int → (List S_extent_Ext) → Option G_extent_Of_L2_R
  | 0, _, _ => none
  | k + 1, v_x152, v_w153 =>
    if v_x152 < (v_points150.length : Int) then
     (G_extent_Of_C1 n v_points150 v_x152 v_w153).bind fun v_o185 => match v_o185 with
     | .x0 v_z186 =>
       G_extent_Of_L2 n v_points150 k (wi .i64 (v_x152 + 1)) v_z186
    else
     some (.x0 v_w153)
theorem G_extent_Of_L2_ok {Fi : Ex → PS → Prop} (hF : KC 48 Fi) (ks : List Fr) (n : Nat) (v_points150 : (List Int))  : ∀ (k : Nat) (v_x152 : Int) (v_w153 : (List S_extent_Ext)) (o : G_extent_Of_L2_R), G_extent_Of_L2 n v_points150 k v_x152 v_w153 = some o → RunE Try.prog 48 Fi ks (G_extent_Of_L2_ex o) (G_extent_Of_L2_st v_points150 o) → RunE Try.prog 48 Fi (.l k (cP (cB (cR (cL (cR (cR (cR (bodyOf Try.f65)))))))) :: ks) .normal (G_extent_Of_L2_hd v_points150 v_x152 v_w153)
  | 0, v_x152, v_w153, o, h, q => by rw [G_extent_Of_L2] at h; cases h
  | k + 1, v_x152, v_w153, o, h, q => by
    rw [G_extent_Of_L2] at h
    by_cases h214 : v_x152 < (v_points150.length : Int)
    · rw [if_pos h214] at h
      obtain ⟨v_o185, h263, h⟩ := bind_some h
      refine pkk_sound TTok mix hF 7 (hs := [.t true]) (ts := []) (s := [0]) (l := [5, 14, 15, 16]) (by kernel_rfl) (by kernel_rfl) (.cons (dt h214) .nil) (G_extent_Of_C1_ok hF (.s (cR (cR (cR (cP (cB (cR (cL (cR (cR (cR (bodyOf Try.f65))))))))))) :: .l k (cP (cB (cR (cL (cR (cR (cR (bodyOf Try.f65)))))))) :: ks) n v_points150 v_x152 v_w153 _ h263 ?_)
      cases v_o185 with
      | x0 v_z186 =>
        try dsimp only at h
        exact pkk_sound TTok mix hF 1 (hs := []) (ts := []) (s := [0]) (l := [5, 14, 15, 16]) (by kernel_rfl) (by kernel_rfl) .nil (G_extent_Of_L2_ok hF ks n v_points150 k (wi .i64 (v_x152 + 1)) v_z186 _ h q)
    · rw [if_neg h214] at h
      cases h
      exact pkk_sound TTok mix hF 8 (hs := [.t false]) (ts := []) (s := [0]) (l := [5]) (by kernel_rfl) (by kernel_rfl) (.cons (df h214) .nil) q
/- ringhall/extent.Of -/
def G_extent_Of (n : Nat) (v_points150 : (List Int)) : Option ((List S_extent_Ext) × Int) :=
  (G_extent_Right n v_points150).bind fun (v_r151 : (Int)) =>
  if v_r151 = 0 then
   (G_extent_Of_L2 n v_points150 n 0 ([] : List S_extent_Ext)).bind fun v_o188 => match v_o188 with
   | .x0 v_z189 =>
     some (v_z189, 0)
  else
   some (([] : (List S_extent_Ext)), v_r151)
theorem G_extent_Of_ok (n : Nat) (v_points150 : (List Int)) (r : (List S_extent_Ext) × Int) (h : G_extent_Of n v_points150 = some r) : Ret Try.prog 65 [(eL (eI .i64)) v_points150] (.tup [(eL eS_extent_Ext) r.1, (eI .i64) r.2]) := by
  refine ret_run (n := 48) (fn := Try.f65) (c := bodyOf Try.f65) (by kernel_rfl) (by kernel_rfl) (by kernel_rfl) (by kernel_rfl) ?_
  have hF : KC 48 (FinR Try.prog Try.f65 (.tup [(eL eS_extent_Ext) r.1, (eI .i64) r.2])) := FinR.kc' (by kernel_rfl)
  unfold G_extent_Of at h
  obtain ⟨v_r151, h211, h⟩ := bind_some h
  by_cases h213 : v_r151 = 0
  · rw [if_pos h213] at h
    obtain ⟨v_o188, h264, h⟩ := bind_some h
    refine pkk_sound TTok mix hF 16 (hs := [.r ((eI .i64) v_r151), .t false, .u (.d (.v (.int .i64 (v_points150.length : Int)))), .n n]) (ts := [(5, 229, 2)]) (s := [33]) (l := [5, 14, 15, 16]) (by kernel_rfl) (by kernel_rfl) (.cons (G_extent_Right_ok n v_points150 _ h211) (.cons (nf h213) (.cons (len_ob (f := (eI .i64)) (l := v_points150)) .nil))) (G_extent_Of_L2_ok hF (.b 0 :: .s (cR (cR (cR (cR (bodyOf Try.f65))))) :: []) n v_points150 n 0 ([] : List S_extent_Ext) _ h264 ?_)
    cases v_o188 with
    | x0 v_z189 =>
      try dsimp only at h
      obtain rfl := Option.some.inj h
      exact pend_sound TTok mix 4 (hs := []) (by kernel_rfl) (by kernel_rfl) (by kernel_rfl) .nil
  · rw [if_neg h213] at h
    obtain rfl := Option.some.inj h
    exact pend_sound TTok mix 12 (hs := [.r ((eI .i64) v_r151), .t true]) (by kernel_rfl) (by kernel_rfl) (by kernel_rfl) (.cons (G_extent_Right_ok n v_points150 _ h211) (.cons (nt h213) .nil))
inductive G_extent_Pack_L1_R where
  | x0 (v_w200 : (List Int))
def G_extent_Pack_L1_ex : G_extent_Pack_L1_R → Ex
  | .x0 _ => .exit 0
def G_extent_Pack_L1_st (v_r190 : ((List S_extent_Ext) × Int)) : G_extent_Pack_L1_R → PS
  | .x0 v_w200 => ⟨[dd, dd, dd, dd, dd, dd, .srf 0, dd, dd, dd, dd, dd, dd, dd, dd, dd, dd, dd, dd, dd, dd, dd, dd, dd, dd, dd, dd, dd, dd, dd, dd, dd, dd, dd, dd, dd, dd, dd, dd, dd, dd, dd], [.row 5 1 (v_w200.map (eI .u8))]⟩
def G_extent_Pack_L1_hd (v_r190 : ((List S_extent_Ext) × Int)) (v_x192 : Int) (v_w193 : (List Int)) : PS := ⟨[dd, dd, dd, dd, dd, dd, .srf 0, dd, dd, dd, dd, dd, dd, dd, dd, dd, dd, dd, .d (.sl (v_r190.1.map eS_extent_Ext)), .d (.v (.int .i64 (v_r190.1.length : Int))), .d (.v (.int .i64 v_x192)), dd, dd, dd, dd, dd, dd, dd, dd, dd, dd, dd, dd, dd, dd, dd, dd, dd, dd, dd, dd, dd], [.row 5 1 (v_w193.map (eI .u8))]⟩
def G_extent_Pack_L1 (n : Nat) (v_r190 : ((List S_extent_Ext) × Int)) : Nat → Int → (List Int) → Option G_extent_Pack_L1_R
  | 0, _, _ => none
  | k + 1, v_x192, v_w193 =>
    if v_x192 < (v_r190.1.length : Int) then
     (getI v_r190.1 v_x192).bind fun (v_y197 : S_extent_Ext) =>
     if 0 ≤ (wi .i64 (2 * v_x192)) ∧ ((wi .i64 (2 * v_x192))).toNat < v_w193.length then
      (v_w193[((wi .i64 (2 * v_x192))).toNat]?).bind fun (v_y198 : Int) =>
      if 0 ≤ (wi .i64 ((wi .i64 (2 * v_x192)) + 1)) ∧ ((wi .i64 ((wi .i64 (2 * v_x192)) + 1))).toNat < (v_w193.set ((wi .i64 (2 * v_x192))).toNat (wi .u8 v_y197.fStart)).length then
       ((v_w193.set ((wi .i64 (2 * v_x192))).toNat (wi .u8 v_y197.fStart))[((wi .i64 ((wi .i64 (2 * v_x192)) + 1))).toNat]?).bind fun (v_y199 : Int) =>
       G_extent_Pack_L1 n v_r190 k (wi .i64 (v_x192 + 1)) ((v_w193.set ((wi .i64 (2 * v_x192))).toNat (wi .u8 v_y197.fStart)).set ((wi .i64 ((wi .i64 (2 * v_x192)) + 1))).toNat (wi .u8 v_y197.fN))
      else none
     else none
    else
     some (.x0 v_w193)
theorem G_extent_Pack_L1_ok {Fi : Ex → PS → Prop} (hF : KC 42 Fi) (ks : List Fr) (n : Nat) (v_r190 : ((List S_extent_Ext) × Int))  : ∀ (k : Nat) (v_x192 : Int) (v_w193 : (List Int)) (o : G_extent_Pack_L1_R), G_extent_Pack_L1 n v_r190 k v_x192 v_w193 = some o → RunE Try.prog 42 Fi ks (G_extent_Pack_L1_ex o) (G_extent_Pack_L1_st v_r190 o) → RunE Try.prog 42 Fi (.l k (cP (cB (cR (cL (cR (cR (cR (cR (bodyOf Try.f66))))))))) :: ks) .normal (G_extent_Pack_L1_hd v_r190 v_x192 v_w193)
  | 0, v_x192, v_w193, o, h, q => by rw [G_extent_Pack_L1] at h; cases h
  | k + 1, v_x192, v_w193, o, h, q => by
    rw [G_extent_Pack_L1] at h
    by_cases h269 : v_x192 < (v_r190.1.length : Int)
    · rw [if_pos h269] at h
      obtain ⟨v_y197, h275, h⟩ := bind_some h
      by_cases h276 : 0 ≤ (wi .i64 (2 * v_x192)) ∧ ((wi .i64 (2 * v_x192))).toNat < v_w193.length
      · rw [if_pos h276] at h
        obtain ⟨v_y198, h277, h⟩ := bind_some h
        by_cases h278 : 0 ≤ (wi .i64 ((wi .i64 (2 * v_x192)) + 1)) ∧ ((wi .i64 ((wi .i64 (2 * v_x192)) + 1))).toNat < (v_w193.set ((wi .i64 (2 * v_x192))).toNat (wi .u8 v_y197.fStart)).length
        · rw [if_pos h278] at h
          obtain ⟨v_y199, h279, h⟩ := bind_some h
          exact pkk_sound TTok mix hF 13 (hs := [.t true, .y (eS_extent_Ext v_y197), .c, .c, .c, .w ((v_w193.set ((wi .i64 (2 * v_x192))).toNat (wi .u8 v_y197.fStart)).map (eI .u8)), .y ((eI .u8) v_y198), .w (((v_w193.set ((wi .i64 (2 * v_x192))).toNat (wi .u8 v_y197.fStart)).set ((wi .i64 ((wi .i64 (2 * v_x192)) + 1))).toNat (wi .u8 v_y197.fN)).map (eI .u8)), .y ((eI .u8) v_y199)]) (ts := []) (s := [0]) (l := [6, 18, 19, 20]) (by kernel_rfl) (by kernel_rfl) (.cons (dt h269) (.cons (getI_ob (f := eS_extent_Ext) h275) (.cons (show 0 + 2 ≤ 2 by decide) (.cons (idx_ob (f := (eI .u8)) h276) (.cons (get_ob (f := (eI .u8)) h277) (.cons (Eq.refl (pcells (.v (.int .u8 (wi .u8 v_y197.fStart))))) (.cons (set_ob (f := (eI .u8)) (l := v_w193) (k := ((wi .i64 (2 * v_x192))).toNat) (z := (wi .u8 v_y197.fStart)) (p := .v (.int .u8 (wi .u8 v_y197.fStart))) rfl) (.cons (idx_ob (f := (eI .u8)) h278) (.cons (get_ob (f := (eI .u8)) h279) (.cons (Eq.refl (pcells (.v (.int .u8 (wi .u8 v_y197.fN))))) (.cons (set_ob (f := (eI .u8)) (l := (v_w193.set ((wi .i64 (2 * v_x192))).toNat (wi .u8 v_y197.fStart))) (k := ((wi .i64 ((wi .i64 (2 * v_x192)) + 1))).toNat) (z := (wi .u8 v_y197.fN)) (p := .v (.int .u8 (wi .u8 v_y197.fN))) rfl) .nil))))))))))) (G_extent_Pack_L1_ok hF ks n v_r190 k (wi .i64 (v_x192 + 1)) ((v_w193.set ((wi .i64 (2 * v_x192))).toNat (wi .u8 v_y197.fStart)).set ((wi .i64 ((wi .i64 (2 * v_x192)) + 1))).toNat (wi .u8 v_y197.fN)) _ h q)
        · rw [if_neg h278] at h; cases h
      · rw [if_neg h276] at h; cases h
    · rw [if_neg h269] at h
      cases h
      exact pkk_sound TTok mix hF 8 (hs := [.t false]) (ts := []) (s := [0]) (l := [6]) (by kernel_rfl) (by kernel_rfl) (.cons (df h269) .nil) q
/- ringhall/extent.Pack -/
def G_extent_Pack (n : Nat) (v_points149 : (List Int)) : Option ((List Int) × Int) :=
  (G_extent_Of n v_points149).bind fun (v_r190 : ((List S_extent_Ext) × Int)) =>
  if v_r190.2 = 0 then
   (mkL 1 0 16).bind fun (v_m191 : (List Int)) =>
   (G_extent_Pack_L1 n v_r190 n 0 v_m191).bind fun v_o201 => match v_o201 with
   | .x0 v_z202 =>
     some (v_z202, 0)
  else
   some (([] : (List Int)), v_r190.2)
theorem G_extent_Pack_ok (n : Nat) (v_points149 : (List Int)) (r : (List Int) × Int) (h : G_extent_Pack n v_points149 = some r) : Ret Try.prog 66 [(eL (eI .i64)) v_points149] (.tup [(eL (eI .u8)) r.1, (eI .i64) r.2]) := by
  refine ret_run (n := 42) (fn := Try.f66) (c := bodyOf Try.f66) (by kernel_rfl) (by kernel_rfl) (by kernel_rfl) (by kernel_rfl) ?_
  have hF : KC 42 (FinR Try.prog Try.f66 (.tup [(eL (eI .u8)) r.1, (eI .i64) r.2])) := FinR.kc' (by kernel_rfl)
  unfold G_extent_Pack at h
  obtain ⟨v_r190, h265, h⟩ := bind_some h
  by_cases h267 : v_r190.2 = 0
  · rw [if_pos h267] at h
    obtain ⟨v_m191, h268, h⟩ := bind_some h
    obtain ⟨v_o201, h280, h⟩ := bind_some h
    refine pkk_sound TTok mix hF 16 (hs := [.r (.tup [(eL eS_extent_Ext) v_r190.1, (eI .i64) v_r190.2]), .t false, .w (v_m191.map (eI .u8)), .u (.d (.v (.int .i64 (v_r190.1.length : Int)))), .n n]) (ts := []) (s := [33]) (l := [6, 18, 19, 20]) (by kernel_rfl) (by kernel_rfl) (.cons (G_extent_Of_ok n v_points149 _ h265) (.cons (nf h267) (.cons (mkL_ob (f := (eI .u8)) (p := .v (.int .u8 0)) h268 rfl).1 (.cons (mkL_ob (f := (eI .u8)) (p := .v (.int .u8 0)) h268 rfl).2.1 (.cons (mkL_ob (f := (eI .u8)) (p := .v (.int .u8 0)) h268 rfl).2.2.1 (.cons (mkL_ob (f := (eI .u8)) (p := .v (.int .u8 0)) h268 rfl).2.2.2.1 (.cons (mkL_ob (f := (eI .u8)) (p := .v (.int .u8 0)) h268 rfl).2.2.2.2 (.cons (len_ob (f := eS_extent_Ext) (l := v_r190.1)) .nil)))))))) (G_extent_Pack_L1_ok hF (.b 0 :: .s (cR (cR (cR (cR (cR (bodyOf Try.f66)))))) :: []) n v_r190 n 0 v_m191 _ h280 ?_)
    cases v_o201 with
    | x0 v_z202 =>
      try dsimp only at h
      obtain rfl := Option.some.inj h
      exact pend_sound TTok mix 4 (hs := []) (by kernel_rfl) (by kernel_rfl) (by kernel_rfl) .nil
  · rw [if_neg h267] at h
    obtain rfl := Option.some.inj h
    exact pend_sound TTok mix 12 (hs := [.r (.tup [(eL eS_extent_Ext) v_r190.1, (eI .i64) v_r190.2]), .t true]) (by kernel_rfl) (by kernel_rfl) (by kernel_rfl) (.cons (G_extent_Of_ok n v_points149 _ h265) (.cons (nt h267) .nil))
/- ringhall/inode.Pack -/
def G_inode_Pack (n : Nat) (v_n56 : S_inode_Node) : Option ((List Int) × Int) :=
  (G_inode_Right n v_n56).bind fun (v_r147 : (Int)) =>
  if v_r147 = 0 then
   (mkL 1 0 32).bind fun (v_m148 : (List Int)) =>
   if v_n56.fKind = 0 then
    some (v_m148, 0)
   else
    (G_extent_Pack n v_n56.fPoints).bind fun (v_r203 : ((List Int) × Int)) =>
    if v_r203.2 = 0 then
     if 0 ≤ (0 : Int) ∧ ((0 : Int)).toNat < v_m148.length then
      (v_m148[((0 : Int)).toNat]?).bind fun (v_y204 : Int) =>
      if 0 ≤ (1 : Int) ∧ ((1 : Int)).toNat < (v_m148.set ((0 : Int)).toNat (wi .u8 v_n56.fKind)).length then
       ((v_m148.set ((0 : Int)).toNat (wi .u8 v_n56.fKind))[((1 : Int)).toNat]?).bind fun (v_y205 : Int) =>
       if 0 ≤ (2 : Int) ∧ ((2 : Int)).toNat < ((v_m148.set ((0 : Int)).toNat (wi .u8 v_n56.fKind)).set ((1 : Int)).toNat (wi .u8 v_n56.fMode)).length then
        (((v_m148.set ((0 : Int)).toNat (wi .u8 v_n56.fKind)).set ((1 : Int)).toNat (wi .u8 v_n56.fMode))[((2 : Int)).toNat]?).bind fun (v_y206 : Int) =>
        if 0 ≤ (3 : Int) ∧ ((3 : Int)).toNat < (((v_m148.set ((0 : Int)).toNat (wi .u8 v_n56.fKind)).set ((1 : Int)).toNat (wi .u8 v_n56.fMode)).set ((2 : Int)).toNat (wi .u8 (shrI .i64 v_n56.fMode 8))).length then
         ((((v_m148.set ((0 : Int)).toNat (wi .u8 v_n56.fKind)).set ((1 : Int)).toNat (wi .u8 v_n56.fMode)).set ((2 : Int)).toNat (wi .u8 (shrI .i64 v_n56.fMode 8)))[((3 : Int)).toNat]?).bind fun (v_y207 : Int) =>
         if 0 ≤ (4 : Int) ∧ ((4 : Int)).toNat < ((((v_m148.set ((0 : Int)).toNat (wi .u8 v_n56.fKind)).set ((1 : Int)).toNat (wi .u8 v_n56.fMode)).set ((2 : Int)).toNat (wi .u8 (shrI .i64 v_n56.fMode 8))).set ((3 : Int)).toNat (wi .u8 v_n56.fUser)).length then
          (((((v_m148.set ((0 : Int)).toNat (wi .u8 v_n56.fKind)).set ((1 : Int)).toNat (wi .u8 v_n56.fMode)).set ((2 : Int)).toNat (wi .u8 (shrI .i64 v_n56.fMode 8))).set ((3 : Int)).toNat (wi .u8 v_n56.fUser))[((4 : Int)).toNat]?).bind fun (v_y208 : Int) =>
          if 0 ≤ (5 : Int) ∧ ((5 : Int)).toNat < (((((v_m148.set ((0 : Int)).toNat (wi .u8 v_n56.fKind)).set ((1 : Int)).toNat (wi .u8 v_n56.fMode)).set ((2 : Int)).toNat (wi .u8 (shrI .i64 v_n56.fMode 8))).set ((3 : Int)).toNat (wi .u8 v_n56.fUser)).set ((4 : Int)).toNat (wi .u8 v_n56.fGroup)).length then
           ((((((v_m148.set ((0 : Int)).toNat (wi .u8 v_n56.fKind)).set ((1 : Int)).toNat (wi .u8 v_n56.fMode)).set ((2 : Int)).toNat (wi .u8 (shrI .i64 v_n56.fMode 8))).set ((3 : Int)).toNat (wi .u8 v_n56.fUser)).set ((4 : Int)).toNat (wi .u8 v_n56.fGroup))[((5 : Int)).toNat]?).bind fun (v_y209 : Int) =>
           if 0 ≤ (6 : Int) ∧ ((6 : Int)).toNat < ((((((v_m148.set ((0 : Int)).toNat (wi .u8 v_n56.fKind)).set ((1 : Int)).toNat (wi .u8 v_n56.fMode)).set ((2 : Int)).toNat (wi .u8 (shrI .i64 v_n56.fMode 8))).set ((3 : Int)).toNat (wi .u8 v_n56.fUser)).set ((4 : Int)).toNat (wi .u8 v_n56.fGroup)).set ((5 : Int)).toNat (wi .u8 v_n56.fSize)).length then
            (((((((v_m148.set ((0 : Int)).toNat (wi .u8 v_n56.fKind)).set ((1 : Int)).toNat (wi .u8 v_n56.fMode)).set ((2 : Int)).toNat (wi .u8 (shrI .i64 v_n56.fMode 8))).set ((3 : Int)).toNat (wi .u8 v_n56.fUser)).set ((4 : Int)).toNat (wi .u8 v_n56.fGroup)).set ((5 : Int)).toNat (wi .u8 v_n56.fSize))[((6 : Int)).toNat]?).bind fun (v_y210 : Int) =>
            if 0 ≤ (7 : Int) ∧ ((7 : Int)).toNat < (((((((v_m148.set ((0 : Int)).toNat (wi .u8 v_n56.fKind)).set ((1 : Int)).toNat (wi .u8 v_n56.fMode)).set ((2 : Int)).toNat (wi .u8 (shrI .i64 v_n56.fMode 8))).set ((3 : Int)).toNat (wi .u8 v_n56.fUser)).set ((4 : Int)).toNat (wi .u8 v_n56.fGroup)).set ((5 : Int)).toNat (wi .u8 v_n56.fSize)).set ((6 : Int)).toNat (wi .u8 (shrI .i64 v_n56.fSize 8))).length then
             ((((((((v_m148.set ((0 : Int)).toNat (wi .u8 v_n56.fKind)).set ((1 : Int)).toNat (wi .u8 v_n56.fMode)).set ((2 : Int)).toNat (wi .u8 (shrI .i64 v_n56.fMode 8))).set ((3 : Int)).toNat (wi .u8 v_n56.fUser)).set ((4 : Int)).toNat (wi .u8 v_n56.fGroup)).set ((5 : Int)).toNat (wi .u8 v_n56.fSize)).set ((6 : Int)).toNat (wi .u8 (shrI .i64 v_n56.fSize 8)))[((7 : Int)).toNat]?).bind fun (v_y211 : Int) =>
             if 0 ≤ (8 : Int) ∧ ((8 : Int)).toNat < ((((((((v_m148.set ((0 : Int)).toNat (wi .u8 v_n56.fKind)).set ((1 : Int)).toNat (wi .u8 v_n56.fMode)).set ((2 : Int)).toNat (wi .u8 (shrI .i64 v_n56.fMode 8))).set ((3 : Int)).toNat (wi .u8 v_n56.fUser)).set ((4 : Int)).toNat (wi .u8 v_n56.fGroup)).set ((5 : Int)).toNat (wi .u8 v_n56.fSize)).set ((6 : Int)).toNat (wi .u8 (shrI .i64 v_n56.fSize 8))).set ((7 : Int)).toNat (wi .u8 v_n56.fLinks)).length then
              (((((((((v_m148.set ((0 : Int)).toNat (wi .u8 v_n56.fKind)).set ((1 : Int)).toNat (wi .u8 v_n56.fMode)).set ((2 : Int)).toNat (wi .u8 (shrI .i64 v_n56.fMode 8))).set ((3 : Int)).toNat (wi .u8 v_n56.fUser)).set ((4 : Int)).toNat (wi .u8 v_n56.fGroup)).set ((5 : Int)).toNat (wi .u8 v_n56.fSize)).set ((6 : Int)).toNat (wi .u8 (shrI .i64 v_n56.fSize 8))).set ((7 : Int)).toNat (wi .u8 v_n56.fLinks))[((8 : Int)).toNat]?).bind fun (v_y212 : Int) =>
              if ((0 : Int) ≤ 9 ∧ 9 ≤ ((((((((((v_m148.set ((0 : Int)).toNat (wi .u8 v_n56.fKind)).set ((1 : Int)).toNat (wi .u8 v_n56.fMode)).set ((2 : Int)).toNat (wi .u8 (shrI .i64 v_n56.fMode 8))).set ((3 : Int)).toNat (wi .u8 v_n56.fUser)).set ((4 : Int)).toNat (wi .u8 v_n56.fGroup)).set ((5 : Int)).toNat (wi .u8 v_n56.fSize)).set ((6 : Int)).toNat (wi .u8 (shrI .i64 v_n56.fSize 8))).set ((7 : Int)).toNat (wi .u8 v_n56.fLinks)).set ((8 : Int)).toNat (wi .u8 v_n56.fUp)).length : Int)) then
               if (((((((((v_m148.set ((0 : Int)).toNat (wi .u8 v_n56.fKind)).set ((1 : Int)).toNat (wi .u8 v_n56.fMode)).set ((2 : Int)).toNat (wi .u8 (shrI .i64 v_n56.fMode 8))).set ((3 : Int)).toNat (wi .u8 v_n56.fUser)).set ((4 : Int)).toNat (wi .u8 v_n56.fGroup)).set ((5 : Int)).toNat (wi .u8 v_n56.fSize)).set ((6 : Int)).toNat (wi .u8 (shrI .i64 v_n56.fSize 8))).set ((7 : Int)).toNat (wi .u8 v_n56.fLinks)).set ((8 : Int)).toNat (wi .u8 v_n56.fUp)).length ≤ (((((((((v_m148.set ((0 : Int)).toNat (wi .u8 v_n56.fKind)).set ((1 : Int)).toNat (wi .u8 v_n56.fMode)).set ((2 : Int)).toNat (wi .u8 (shrI .i64 v_n56.fMode 8))).set ((3 : Int)).toNat (wi .u8 v_n56.fUser)).set ((4 : Int)).toNat (wi .u8 v_n56.fGroup)).set ((5 : Int)).toNat (wi .u8 v_n56.fSize)).set ((6 : Int)).toNat (wi .u8 (shrI .i64 v_n56.fSize 8))).set ((7 : Int)).toNat (wi .u8 v_n56.fLinks)).set ((8 : Int)).toNat (wi .u8 v_n56.fUp)).length then
                some ((cpyR (((((((((v_m148.set ((0 : Int)).toNat (wi .u8 v_n56.fKind)).set ((1 : Int)).toNat (wi .u8 v_n56.fMode)).set ((2 : Int)).toNat (wi .u8 (shrI .i64 v_n56.fMode 8))).set ((3 : Int)).toNat (wi .u8 v_n56.fUser)).set ((4 : Int)).toNat (wi .u8 v_n56.fGroup)).set ((5 : Int)).toNat (wi .u8 v_n56.fSize)).set ((6 : Int)).toNat (wi .u8 (shrI .i64 v_n56.fSize 8))).set ((7 : Int)).toNat (wi .u8 v_n56.fLinks)).set ((8 : Int)).toNat (wi .u8 v_n56.fUp)) 9 ((((((((((v_m148.set ((0 : Int)).toNat (wi .u8 v_n56.fKind)).set ((1 : Int)).toNat (wi .u8 v_n56.fMode)).set ((2 : Int)).toNat (wi .u8 (shrI .i64 v_n56.fMode 8))).set ((3 : Int)).toNat (wi .u8 v_n56.fUser)).set ((4 : Int)).toNat (wi .u8 v_n56.fGroup)).set ((5 : Int)).toNat (wi .u8 v_n56.fSize)).set ((6 : Int)).toNat (wi .u8 (shrI .i64 v_n56.fSize 8))).set ((7 : Int)).toNat (wi .u8 v_n56.fLinks)).set ((8 : Int)).toNat (wi .u8 v_n56.fUp)).length) v_r203.1), 0)
               else none
              else none
             else none
            else none
           else none
          else none
         else none
        else none
       else none
      else none
     else none
    else
     some (([] : (List Int)), v_r203.2)
  else
   some (([] : (List Int)), v_r147)
theorem G_inode_Pack_ok (n : Nat) (v_n56 : S_inode_Node) (r : (List Int) × Int) (h : G_inode_Pack n v_n56 = some r) : Ret Try.prog 77 [eS_inode_Node v_n56] (.tup [(eL (eI .u8)) r.1, (eI .i64) r.2]) := by
  refine ret_run (n := 79) (fn := Try.f77) (c := bodyOf Try.f77) (by kernel_rfl) (by kernel_rfl) (by kernel_rfl) (by kernel_rfl) ?_
  have hF : KC 79 (FinR Try.prog Try.f77 (.tup [(eL (eI .u8)) r.1, (eI .i64) r.2])) := FinR.kc' (by kernel_rfl)
  unfold G_inode_Pack at h
  obtain ⟨v_r147, h205, h⟩ := bind_some h
  by_cases h207 : v_r147 = 0
  · rw [if_pos h207] at h
    obtain ⟨v_m148, h208, h⟩ := bind_some h
    by_cases h210 : v_n56.fKind = 0
    · rw [if_pos h210] at h
      obtain rfl := Option.some.inj h
      exact pend_sound TTok mix 19 (hs := [.c, .r ((eI .i64) v_r147), .t false, .w (v_m148.map (eI .u8)), .c, .t true]) (by kernel_rfl) (by kernel_rfl) (by kernel_rfl) (.cons (G_inode_Right_ok n v_n56 _ h205) (.cons (nf h207) (.cons (mkL_ob (f := (eI .u8)) (p := .v (.int .u8 0)) h208 rfl).1 (.cons (mkL_ob (f := (eI .u8)) (p := .v (.int .u8 0)) h208 rfl).2.1 (.cons (mkL_ob (f := (eI .u8)) (p := .v (.int .u8 0)) h208 rfl).2.2.1 (.cons (mkL_ob (f := (eI .u8)) (p := .v (.int .u8 0)) h208 rfl).2.2.2.1 (.cons (mkL_ob (f := (eI .u8)) (p := .v (.int .u8 0)) h208 rfl).2.2.2.2 (.cons (bt h210) .nil))))))))
    · rw [if_neg h210] at h
      obtain ⟨v_r203, h281, h⟩ := bind_some h
      by_cases h283 : v_r203.2 = 0
      · rw [if_pos h283] at h
        by_cases h285 : 0 ≤ (0 : Int) ∧ ((0 : Int)).toNat < v_m148.length
        · rw [if_pos h285] at h
          obtain ⟨v_y204, h286, h⟩ := bind_some h
          by_cases h287 : 0 ≤ (1 : Int) ∧ ((1 : Int)).toNat < (v_m148.set ((0 : Int)).toNat (wi .u8 v_n56.fKind)).length
          · rw [if_pos h287] at h
            obtain ⟨v_y205, h288, h⟩ := bind_some h
            by_cases h289 : 0 ≤ (2 : Int) ∧ ((2 : Int)).toNat < ((v_m148.set ((0 : Int)).toNat (wi .u8 v_n56.fKind)).set ((1 : Int)).toNat (wi .u8 v_n56.fMode)).length
            · rw [if_pos h289] at h
              obtain ⟨v_y206, h290, h⟩ := bind_some h
              by_cases h291 : 0 ≤ (3 : Int) ∧ ((3 : Int)).toNat < (((v_m148.set ((0 : Int)).toNat (wi .u8 v_n56.fKind)).set ((1 : Int)).toNat (wi .u8 v_n56.fMode)).set ((2 : Int)).toNat (wi .u8 (shrI .i64 v_n56.fMode 8))).length
              · rw [if_pos h291] at h
                obtain ⟨v_y207, h292, h⟩ := bind_some h
                by_cases h293 : 0 ≤ (4 : Int) ∧ ((4 : Int)).toNat < ((((v_m148.set ((0 : Int)).toNat (wi .u8 v_n56.fKind)).set ((1 : Int)).toNat (wi .u8 v_n56.fMode)).set ((2 : Int)).toNat (wi .u8 (shrI .i64 v_n56.fMode 8))).set ((3 : Int)).toNat (wi .u8 v_n56.fUser)).length
                · rw [if_pos h293] at h
                  obtain ⟨v_y208, h294, h⟩ := bind_some h
                  by_cases h296 : 0 ≤ (5 : Int) ∧ ((5 : Int)).toNat < (((((v_m148.set ((0 : Int)).toNat (wi .u8 v_n56.fKind)).set ((1 : Int)).toNat (wi .u8 v_n56.fMode)).set ((2 : Int)).toNat (wi .u8 (shrI .i64 v_n56.fMode 8))).set ((3 : Int)).toNat (wi .u8 v_n56.fUser)).set ((4 : Int)).toNat (wi .u8 v_n56.fGroup)).length
                  · rw [if_pos h296] at h
                    obtain ⟨v_y209, h297, h⟩ := bind_some h
                    by_cases h298 : 0 ≤ (6 : Int) ∧ ((6 : Int)).toNat < ((((((v_m148.set ((0 : Int)).toNat (wi .u8 v_n56.fKind)).set ((1 : Int)).toNat (wi .u8 v_n56.fMode)).set ((2 : Int)).toNat (wi .u8 (shrI .i64 v_n56.fMode 8))).set ((3 : Int)).toNat (wi .u8 v_n56.fUser)).set ((4 : Int)).toNat (wi .u8 v_n56.fGroup)).set ((5 : Int)).toNat (wi .u8 v_n56.fSize)).length
                    · rw [if_pos h298] at h
                      obtain ⟨v_y210, h299, h⟩ := bind_some h
                      by_cases h300 : 0 ≤ (7 : Int) ∧ ((7 : Int)).toNat < (((((((v_m148.set ((0 : Int)).toNat (wi .u8 v_n56.fKind)).set ((1 : Int)).toNat (wi .u8 v_n56.fMode)).set ((2 : Int)).toNat (wi .u8 (shrI .i64 v_n56.fMode 8))).set ((3 : Int)).toNat (wi .u8 v_n56.fUser)).set ((4 : Int)).toNat (wi .u8 v_n56.fGroup)).set ((5 : Int)).toNat (wi .u8 v_n56.fSize)).set ((6 : Int)).toNat (wi .u8 (shrI .i64 v_n56.fSize 8))).length
                      · rw [if_pos h300] at h
                        obtain ⟨v_y211, h301, h⟩ := bind_some h
                        by_cases h302 : 0 ≤ (8 : Int) ∧ ((8 : Int)).toNat < ((((((((v_m148.set ((0 : Int)).toNat (wi .u8 v_n56.fKind)).set ((1 : Int)).toNat (wi .u8 v_n56.fMode)).set ((2 : Int)).toNat (wi .u8 (shrI .i64 v_n56.fMode 8))).set ((3 : Int)).toNat (wi .u8 v_n56.fUser)).set ((4 : Int)).toNat (wi .u8 v_n56.fGroup)).set ((5 : Int)).toNat (wi .u8 v_n56.fSize)).set ((6 : Int)).toNat (wi .u8 (shrI .i64 v_n56.fSize 8))).set ((7 : Int)).toNat (wi .u8 v_n56.fLinks)).length
                        · rw [if_pos h302] at h
                          obtain ⟨v_y212, h303, h⟩ := bind_some h
                          by_cases h304 : ((0 : Int) ≤ 9 ∧ 9 ≤ ((((((((((v_m148.set ((0 : Int)).toNat (wi .u8 v_n56.fKind)).set ((1 : Int)).toNat (wi .u8 v_n56.fMode)).set ((2 : Int)).toNat (wi .u8 (shrI .i64 v_n56.fMode 8))).set ((3 : Int)).toNat (wi .u8 v_n56.fUser)).set ((4 : Int)).toNat (wi .u8 v_n56.fGroup)).set ((5 : Int)).toNat (wi .u8 v_n56.fSize)).set ((6 : Int)).toNat (wi .u8 (shrI .i64 v_n56.fSize 8))).set ((7 : Int)).toNat (wi .u8 v_n56.fLinks)).set ((8 : Int)).toNat (wi .u8 v_n56.fUp)).length : Int))
                          · rw [if_pos h304] at h
                            by_cases h305 : (((((((((v_m148.set ((0 : Int)).toNat (wi .u8 v_n56.fKind)).set ((1 : Int)).toNat (wi .u8 v_n56.fMode)).set ((2 : Int)).toNat (wi .u8 (shrI .i64 v_n56.fMode 8))).set ((3 : Int)).toNat (wi .u8 v_n56.fUser)).set ((4 : Int)).toNat (wi .u8 v_n56.fGroup)).set ((5 : Int)).toNat (wi .u8 v_n56.fSize)).set ((6 : Int)).toNat (wi .u8 (shrI .i64 v_n56.fSize 8))).set ((7 : Int)).toNat (wi .u8 v_n56.fLinks)).set ((8 : Int)).toNat (wi .u8 v_n56.fUp)).length ≤ (((((((((v_m148.set ((0 : Int)).toNat (wi .u8 v_n56.fKind)).set ((1 : Int)).toNat (wi .u8 v_n56.fMode)).set ((2 : Int)).toNat (wi .u8 (shrI .i64 v_n56.fMode 8))).set ((3 : Int)).toNat (wi .u8 v_n56.fUser)).set ((4 : Int)).toNat (wi .u8 v_n56.fGroup)).set ((5 : Int)).toNat (wi .u8 v_n56.fSize)).set ((6 : Int)).toNat (wi .u8 (shrI .i64 v_n56.fSize 8))).set ((7 : Int)).toNat (wi .u8 v_n56.fLinks)).set ((8 : Int)).toNat (wi .u8 v_n56.fUp)).length
                            · rw [if_pos h305] at h
                              obtain rfl := Option.some.inj h
                              exact pend_sound TTok mix 32 (hs := [.c, .r ((eI .i64) v_r147), .t false, .w (v_m148.map (eI .u8)), .c, .t false, .c, .r (.tup [(eL (eI .u8)) v_r203.1, (eI .i64) v_r203.2]), .t false, .c, .c, .c, .c, .c, .w ((v_m148.set ((0 : Int)).toNat (wi .u8 v_n56.fKind)).map (eI .u8)), .y ((eI .u8) v_y204), .w (((v_m148.set ((0 : Int)).toNat (wi .u8 v_n56.fKind)).set ((1 : Int)).toNat (wi .u8 v_n56.fMode)).map (eI .u8)), .y ((eI .u8) v_y205), .w ((((v_m148.set ((0 : Int)).toNat (wi .u8 v_n56.fKind)).set ((1 : Int)).toNat (wi .u8 v_n56.fMode)).set ((2 : Int)).toNat (wi .u8 (shrI .i64 v_n56.fMode 8))).map (eI .u8)), .y ((eI .u8) v_y206), .w (((((v_m148.set ((0 : Int)).toNat (wi .u8 v_n56.fKind)).set ((1 : Int)).toNat (wi .u8 v_n56.fMode)).set ((2 : Int)).toNat (wi .u8 (shrI .i64 v_n56.fMode 8))).set ((3 : Int)).toNat (wi .u8 v_n56.fUser)).map (eI .u8)), .y ((eI .u8) v_y207), .w ((((((v_m148.set ((0 : Int)).toNat (wi .u8 v_n56.fKind)).set ((1 : Int)).toNat (wi .u8 v_n56.fMode)).set ((2 : Int)).toNat (wi .u8 (shrI .i64 v_n56.fMode 8))).set ((3 : Int)).toNat (wi .u8 v_n56.fUser)).set ((4 : Int)).toNat (wi .u8 v_n56.fGroup)).map (eI .u8)), .y ((eI .u8) v_y208), .c, .c, .c, .c, .w (((((((v_m148.set ((0 : Int)).toNat (wi .u8 v_n56.fKind)).set ((1 : Int)).toNat (wi .u8 v_n56.fMode)).set ((2 : Int)).toNat (wi .u8 (shrI .i64 v_n56.fMode 8))).set ((3 : Int)).toNat (wi .u8 v_n56.fUser)).set ((4 : Int)).toNat (wi .u8 v_n56.fGroup)).set ((5 : Int)).toNat (wi .u8 v_n56.fSize)).map (eI .u8)), .y ((eI .u8) v_y209), .w ((((((((v_m148.set ((0 : Int)).toNat (wi .u8 v_n56.fKind)).set ((1 : Int)).toNat (wi .u8 v_n56.fMode)).set ((2 : Int)).toNat (wi .u8 (shrI .i64 v_n56.fMode 8))).set ((3 : Int)).toNat (wi .u8 v_n56.fUser)).set ((4 : Int)).toNat (wi .u8 v_n56.fGroup)).set ((5 : Int)).toNat (wi .u8 v_n56.fSize)).set ((6 : Int)).toNat (wi .u8 (shrI .i64 v_n56.fSize 8))).map (eI .u8)), .y ((eI .u8) v_y210), .w (((((((((v_m148.set ((0 : Int)).toNat (wi .u8 v_n56.fKind)).set ((1 : Int)).toNat (wi .u8 v_n56.fMode)).set ((2 : Int)).toNat (wi .u8 (shrI .i64 v_n56.fMode 8))).set ((3 : Int)).toNat (wi .u8 v_n56.fUser)).set ((4 : Int)).toNat (wi .u8 v_n56.fGroup)).set ((5 : Int)).toNat (wi .u8 v_n56.fSize)).set ((6 : Int)).toNat (wi .u8 (shrI .i64 v_n56.fSize 8))).set ((7 : Int)).toNat (wi .u8 v_n56.fLinks)).map (eI .u8)), .y ((eI .u8) v_y211), .w ((((((((((v_m148.set ((0 : Int)).toNat (wi .u8 v_n56.fKind)).set ((1 : Int)).toNat (wi .u8 v_n56.fMode)).set ((2 : Int)).toNat (wi .u8 (shrI .i64 v_n56.fMode 8))).set ((3 : Int)).toNat (wi .u8 v_n56.fUser)).set ((4 : Int)).toNat (wi .u8 v_n56.fGroup)).set ((5 : Int)).toNat (wi .u8 v_n56.fSize)).set ((6 : Int)).toNat (wi .u8 (shrI .i64 v_n56.fSize 8))).set ((7 : Int)).toNat (wi .u8 v_n56.fLinks)).set ((8 : Int)).toNat (wi .u8 v_n56.fUp)).map (eI .u8)), .y ((eI .u8) v_y212), .e 240 [24] (.ssl 24 9 ((((((((((v_m148.set ((0 : Int)).toNat (wi .u8 v_n56.fKind)).set ((1 : Int)).toNat (wi .u8 v_n56.fMode)).set ((2 : Int)).toNat (wi .u8 (shrI .i64 v_n56.fMode 8))).set ((3 : Int)).toNat (wi .u8 v_n56.fUser)).set ((4 : Int)).toNat (wi .u8 v_n56.fGroup)).set ((5 : Int)).toNat (wi .u8 v_n56.fSize)).set ((6 : Int)).toNat (wi .u8 (shrI .i64 v_n56.fSize 8))).set ((7 : Int)).toNat (wi .u8 v_n56.fLinks)).set ((8 : Int)).toNat (wi .u8 v_n56.fUp)).length) 1) [], .e 246 [24] (.d (.v (.int .i64 ((Nat.min v_r203.1.length ((((((((((v_m148.set ((0 : Int)).toNat (wi .u8 v_n56.fKind)).set ((1 : Int)).toNat (wi .u8 v_n56.fMode)).set ((2 : Int)).toNat (wi .u8 (shrI .i64 v_n56.fMode 8))).set ((3 : Int)).toNat (wi .u8 v_n56.fUser)).set ((4 : Int)).toNat (wi .u8 v_n56.fGroup)).set ((5 : Int)).toNat (wi .u8 v_n56.fSize)).set ((6 : Int)).toNat (wi .u8 (shrI .i64 v_n56.fSize 8))).set ((7 : Int)).toNat (wi .u8 v_n56.fLinks)).set ((8 : Int)).toNat (wi .u8 v_n56.fUp)).length - 9) : Nat) : Int)))) [(24, .row 5 1 ((cpyR (((((((((v_m148.set ((0 : Int)).toNat (wi .u8 v_n56.fKind)).set ((1 : Int)).toNat (wi .u8 v_n56.fMode)).set ((2 : Int)).toNat (wi .u8 (shrI .i64 v_n56.fMode 8))).set ((3 : Int)).toNat (wi .u8 v_n56.fUser)).set ((4 : Int)).toNat (wi .u8 v_n56.fGroup)).set ((5 : Int)).toNat (wi .u8 v_n56.fSize)).set ((6 : Int)).toNat (wi .u8 (shrI .i64 v_n56.fSize 8))).set ((7 : Int)).toNat (wi .u8 v_n56.fLinks)).set ((8 : Int)).toNat (wi .u8 v_n56.fUp)) 9 ((((((((((v_m148.set ((0 : Int)).toNat (wi .u8 v_n56.fKind)).set ((1 : Int)).toNat (wi .u8 v_n56.fMode)).set ((2 : Int)).toNat (wi .u8 (shrI .i64 v_n56.fMode 8))).set ((3 : Int)).toNat (wi .u8 v_n56.fUser)).set ((4 : Int)).toNat (wi .u8 v_n56.fGroup)).set ((5 : Int)).toNat (wi .u8 v_n56.fSize)).set ((6 : Int)).toNat (wi .u8 (shrI .i64 v_n56.fSize 8))).set ((7 : Int)).toNat (wi .u8 v_n56.fLinks)).set ((8 : Int)).toNat (wi .u8 v_n56.fUp)).length) v_r203.1).map (eI .u8)))]]) (by kernel_rfl) (by kernel_rfl) (by kernel_rfl) (.cons (G_inode_Right_ok n v_n56 _ h205) (.cons (nf h207) (.cons (mkL_ob (f := (eI .u8)) (p := .v (.int .u8 0)) h208 rfl).1 (.cons (mkL_ob (f := (eI .u8)) (p := .v (.int .u8 0)) h208 rfl).2.1 (.cons (mkL_ob (f := (eI .u8)) (p := .v (.int .u8 0)) h208 rfl).2.2.1 (.cons (mkL_ob (f := (eI .u8)) (p := .v (.int .u8 0)) h208 rfl).2.2.2.1 (.cons (mkL_ob (f := (eI .u8)) (p := .v (.int .u8 0)) h208 rfl).2.2.2.2 (.cons (bf h210) (.cons (G_extent_Pack_ok n v_n56.fPoints _ h281) (.cons (nf h283) (.cons (show (0 : Int) ≤ 8 by decide) (.cons (idx_ob (f := (eI .u8)) h285) (.cons (get_ob (f := (eI .u8)) h286) (.cons (Eq.refl (pcells (.v (.int .u8 (wi .u8 v_n56.fKind))))) (.cons (set_ob (f := (eI .u8)) (l := v_m148) (k := ((0 : Int)).toNat) (z := (wi .u8 v_n56.fKind)) (p := .v (.int .u8 (wi .u8 v_n56.fKind))) rfl) (.cons (idx_ob (f := (eI .u8)) h287) (.cons (get_ob (f := (eI .u8)) h288) (.cons (Eq.refl (pcells (.v (.int .u8 (wi .u8 v_n56.fMode))))) (.cons (set_ob (f := (eI .u8)) (l := (v_m148.set ((0 : Int)).toNat (wi .u8 v_n56.fKind))) (k := ((1 : Int)).toNat) (z := (wi .u8 v_n56.fMode)) (p := .v (.int .u8 (wi .u8 v_n56.fMode))) rfl) (.cons (idx_ob (f := (eI .u8)) h289) (.cons (get_ob (f := (eI .u8)) h290) (.cons (Eq.refl (pcells (.v (.int .u8 (wi .u8 (shrI .i64 v_n56.fMode 8)))))) (.cons (set_ob (f := (eI .u8)) (l := ((v_m148.set ((0 : Int)).toNat (wi .u8 v_n56.fKind)).set ((1 : Int)).toNat (wi .u8 v_n56.fMode))) (k := ((2 : Int)).toNat) (z := (wi .u8 (shrI .i64 v_n56.fMode 8))) (p := .v (.int .u8 (wi .u8 (shrI .i64 v_n56.fMode 8)))) rfl) (.cons (idx_ob (f := (eI .u8)) h291) (.cons (get_ob (f := (eI .u8)) h292) (.cons (Eq.refl (pcells (.v (.int .u8 (wi .u8 v_n56.fUser))))) (.cons (set_ob (f := (eI .u8)) (l := (((v_m148.set ((0 : Int)).toNat (wi .u8 v_n56.fKind)).set ((1 : Int)).toNat (wi .u8 v_n56.fMode)).set ((2 : Int)).toNat (wi .u8 (shrI .i64 v_n56.fMode 8)))) (k := ((3 : Int)).toNat) (z := (wi .u8 v_n56.fUser)) (p := .v (.int .u8 (wi .u8 v_n56.fUser))) rfl) (.cons (idx_ob (f := (eI .u8)) h293) (.cons (get_ob (f := (eI .u8)) h294) (.cons (Eq.refl (pcells (.v (.int .u8 (wi .u8 v_n56.fGroup))))) (.cons (set_ob (f := (eI .u8)) (l := ((((v_m148.set ((0 : Int)).toNat (wi .u8 v_n56.fKind)).set ((1 : Int)).toNat (wi .u8 v_n56.fMode)).set ((2 : Int)).toNat (wi .u8 (shrI .i64 v_n56.fMode 8))).set ((3 : Int)).toNat (wi .u8 v_n56.fUser))) (k := ((4 : Int)).toNat) (z := (wi .u8 v_n56.fGroup)) (p := .v (.int .u8 (wi .u8 v_n56.fGroup))) rfl) (.cons (show (0 : Int) ≤ 8 by decide) (.cons (idx_ob (f := (eI .u8)) h296) (.cons (get_ob (f := (eI .u8)) h297) (.cons (Eq.refl (pcells (.v (.int .u8 (wi .u8 v_n56.fSize))))) (.cons (set_ob (f := (eI .u8)) (l := (((((v_m148.set ((0 : Int)).toNat (wi .u8 v_n56.fKind)).set ((1 : Int)).toNat (wi .u8 v_n56.fMode)).set ((2 : Int)).toNat (wi .u8 (shrI .i64 v_n56.fMode 8))).set ((3 : Int)).toNat (wi .u8 v_n56.fUser)).set ((4 : Int)).toNat (wi .u8 v_n56.fGroup))) (k := ((5 : Int)).toNat) (z := (wi .u8 v_n56.fSize)) (p := .v (.int .u8 (wi .u8 v_n56.fSize))) rfl) (.cons (idx_ob (f := (eI .u8)) h298) (.cons (get_ob (f := (eI .u8)) h299) (.cons (Eq.refl (pcells (.v (.int .u8 (wi .u8 (shrI .i64 v_n56.fSize 8)))))) (.cons (set_ob (f := (eI .u8)) (l := ((((((v_m148.set ((0 : Int)).toNat (wi .u8 v_n56.fKind)).set ((1 : Int)).toNat (wi .u8 v_n56.fMode)).set ((2 : Int)).toNat (wi .u8 (shrI .i64 v_n56.fMode 8))).set ((3 : Int)).toNat (wi .u8 v_n56.fUser)).set ((4 : Int)).toNat (wi .u8 v_n56.fGroup)).set ((5 : Int)).toNat (wi .u8 v_n56.fSize))) (k := ((6 : Int)).toNat) (z := (wi .u8 (shrI .i64 v_n56.fSize 8))) (p := .v (.int .u8 (wi .u8 (shrI .i64 v_n56.fSize 8)))) rfl) (.cons (idx_ob (f := (eI .u8)) h300) (.cons (get_ob (f := (eI .u8)) h301) (.cons (Eq.refl (pcells (.v (.int .u8 (wi .u8 v_n56.fLinks))))) (.cons (set_ob (f := (eI .u8)) (l := (((((((v_m148.set ((0 : Int)).toNat (wi .u8 v_n56.fKind)).set ((1 : Int)).toNat (wi .u8 v_n56.fMode)).set ((2 : Int)).toNat (wi .u8 (shrI .i64 v_n56.fMode 8))).set ((3 : Int)).toNat (wi .u8 v_n56.fUser)).set ((4 : Int)).toNat (wi .u8 v_n56.fGroup)).set ((5 : Int)).toNat (wi .u8 v_n56.fSize)).set ((6 : Int)).toNat (wi .u8 (shrI .i64 v_n56.fSize 8)))) (k := ((7 : Int)).toNat) (z := (wi .u8 v_n56.fLinks)) (p := .v (.int .u8 (wi .u8 v_n56.fLinks))) rfl) (.cons (idx_ob (f := (eI .u8)) h302) (.cons (get_ob (f := (eI .u8)) h303) (.cons (Eq.refl (pcells (.v (.int .u8 (wi .u8 v_n56.fUp))))) (.cons (set_ob (f := (eI .u8)) (l := ((((((((v_m148.set ((0 : Int)).toNat (wi .u8 v_n56.fKind)).set ((1 : Int)).toNat (wi .u8 v_n56.fMode)).set ((2 : Int)).toNat (wi .u8 (shrI .i64 v_n56.fMode 8))).set ((3 : Int)).toNat (wi .u8 v_n56.fUser)).set ((4 : Int)).toNat (wi .u8 v_n56.fGroup)).set ((5 : Int)).toNat (wi .u8 v_n56.fSize)).set ((6 : Int)).toNat (wi .u8 (shrI .i64 v_n56.fSize 8))).set ((7 : Int)).toNat (wi .u8 v_n56.fLinks))) (k := ((8 : Int)).toNat) (z := (wi .u8 v_n56.fUp)) (p := .v (.int .u8 (wi .u8 v_n56.fUp))) rfl) (.cons (xs10 (P := Try.prog) (T := TT) (f := (eI .u8)) (t := 107) (e := 5) (s := 1) (l := 24) (L := (((((((((v_m148.set ((0 : Int)).toNat (wi .u8 v_n56.fKind)).set ((1 : Int)).toNat (wi .u8 v_n56.fMode)).set ((2 : Int)).toNat (wi .u8 (shrI .i64 v_n56.fMode 8))).set ((3 : Int)).toNat (wi .u8 v_n56.fUser)).set ((4 : Int)).toNat (wi .u8 v_n56.fGroup)).set ((5 : Int)).toNat (wi .u8 v_n56.fSize)).set ((6 : Int)).toNat (wi .u8 (shrI .i64 v_n56.fSize 8))).set ((7 : Int)).toNat (wi .u8 v_n56.fLinks)).set ((8 : Int)).toNat (wi .u8 v_n56.fUp))) (x := (.tmp 74)) (lo := (.const (.int .i64 9))) (a := 9) (ka := .i64) (by kernel_rfl) h304) (.cons (xcpD (P := Try.prog) (T := TT) (f := (eI .u8)) (t := 107) (t' := 107) (e := 5) (s := 1) (l := 24) (x := (.tmp 75)) (y := (.tmp 76)) (ti := ⟨1, 1, .int .u8, [.i .u8]⟩) (L := (((((((((v_m148.set ((0 : Int)).toNat (wi .u8 v_n56.fKind)).set ((1 : Int)).toNat (wi .u8 v_n56.fMode)).set ((2 : Int)).toNat (wi .u8 (shrI .i64 v_n56.fMode 8))).set ((3 : Int)).toNat (wi .u8 v_n56.fUser)).set ((4 : Int)).toNat (wi .u8 v_n56.fGroup)).set ((5 : Int)).toNat (wi .u8 v_n56.fSize)).set ((6 : Int)).toNat (wi .u8 (shrI .i64 v_n56.fSize 8))).set ((7 : Int)).toNat (wi .u8 v_n56.fLinks)).set ((8 : Int)).toNat (wi .u8 v_n56.fUp))) (Y := v_r203.1) (i := 9) (j := (((((((((v_m148.set ((0 : Int)).toNat (wi .u8 v_n56.fKind)).set ((1 : Int)).toNat (wi .u8 v_n56.fMode)).set ((2 : Int)).toNat (wi .u8 (shrI .i64 v_n56.fMode 8))).set ((3 : Int)).toNat (wi .u8 v_n56.fUser)).set ((4 : Int)).toNat (wi .u8 v_n56.fGroup)).set ((5 : Int)).toNat (wi .u8 v_n56.fSize)).set ((6 : Int)).toNat (wi .u8 (shrI .i64 v_n56.fSize 8))).set ((7 : Int)).toNat (wi .u8 v_n56.fLinks)).set ((8 : Int)).toNat (wi .u8 v_n56.fUp)).length) (by kernel_rfl) (by kernel_rfl) h305 (fun _ => rfl)) .nil))))))))))))))))))))))))))))))))))))))))))))))))))
                            · rw [if_neg h305] at h; cases h
                          · rw [if_neg h304] at h; cases h
                        · rw [if_neg h302] at h; cases h
                      · rw [if_neg h300] at h; cases h
                    · rw [if_neg h298] at h; cases h
                  · rw [if_neg h296] at h; cases h
                · rw [if_neg h293] at h; cases h
              · rw [if_neg h291] at h; cases h
            · rw [if_neg h289] at h; cases h
          · rw [if_neg h287] at h; cases h
        · rw [if_neg h285] at h; cases h
      · rw [if_neg h283] at h
        obtain rfl := Option.some.inj h
        exact pend_sound TTok mix 26 (hs := [.c, .r ((eI .i64) v_r147), .t false, .w (v_m148.map (eI .u8)), .c, .t false, .c, .r (.tup [(eL (eI .u8)) v_r203.1, (eI .i64) v_r203.2]), .t true]) (by kernel_rfl) (by kernel_rfl) (by kernel_rfl) (.cons (G_inode_Right_ok n v_n56 _ h205) (.cons (nf h207) (.cons (mkL_ob (f := (eI .u8)) (p := .v (.int .u8 0)) h208 rfl).1 (.cons (mkL_ob (f := (eI .u8)) (p := .v (.int .u8 0)) h208 rfl).2.1 (.cons (mkL_ob (f := (eI .u8)) (p := .v (.int .u8 0)) h208 rfl).2.2.1 (.cons (mkL_ob (f := (eI .u8)) (p := .v (.int .u8 0)) h208 rfl).2.2.2.1 (.cons (mkL_ob (f := (eI .u8)) (p := .v (.int .u8 0)) h208 rfl).2.2.2.2 (.cons (bf h210) (.cons (G_extent_Pack_ok n v_n56.fPoints _ h281) (.cons (nt h283) .nil))))))))))
  · rw [if_neg h207] at h
    obtain rfl := Option.some.inj h
    exact pend_sound TTok mix 12 (hs := [.c, .r ((eI .i64) v_r147), .t true]) (by kernel_rfl) (by kernel_rfl) (by kernel_rfl) (.cons (G_inode_Right_ok n v_n56 _ h205) (.cons (nt h207) .nil))
inductive G_extent_Points_C1_R where
  | x0 (v_x244 : Bool) (v_w245 : (List Int))
def G_extent_Points_C1_ex : G_extent_Points_C1_R → Ex
  | .x0 _ _ => .normal
def G_extent_Points_C1_st (v_l240 : (List S_extent_Ext)) (v_x241 : Int) (v_w242 : (List Int)) (v_y243 : S_extent_Ext) : G_extent_Points_C1_R → PS
  | .x0 v_x244 v_w245 => ⟨[dd, dd, dd, dd, .srf 0, dd, .ref 1 0, dd, .d (.sl (v_l240.map eS_extent_Ext)), .d (.v (.int .i64 (v_l240.length : Int))), .d (.v (.int .i64 v_x241)), dd, dd, dd, dd, dd, dd, dd, dd, dd, dd, dd, dd, dd, dd, dd, dd, dd, dd, dd, dd, dd, dd, dd, dd, dd, dd, dd, dd, dd, dd, dd, dd, dd, .d (.v (.bool v_x244)), dd, dd, dd, dd, dd, dd, dd, dd, dd, dd, dd, dd, dd, dd, dd, dd, dd, dd, dd, dd, dd], [.row 3 1 (v_w245.map (eI .i64)), .box [.d (.v (.int .i64 v_y243.fStart)), .d (.v (.int .i64 v_y243.fN))]]⟩
def G_extent_Points_C1_hd (v_l240 : (List S_extent_Ext)) (v_x241 : Int) (v_w242 : (List Int)) (v_y243 : S_extent_Ext)  : PS := ⟨[dd, dd, dd, dd, .srf 0, dd, .ref 1 0, dd, .d (.sl (v_l240.map eS_extent_Ext)), .d (.v (.int .i64 (v_l240.length : Int))), .d (.v (.int .i64 v_x241)), dd, dd, dd, dd, dd, dd, dd, dd, dd, dd, dd, dd, dd, dd, dd, dd, dd, dd, dd, dd, dd, dd, dd, dd, dd, dd, dd, dd, dd, dd, dd, dd, dd, dd, dd, dd, dd, dd, dd, dd, dd, dd, dd, dd, dd, dd, dd, dd, dd, dd, dd, dd, dd, dd, dd], [.row 3 1 (v_w242.map (eI .i64)), .box [.d (.v (.int .i64 v_y243.fStart)), .d (.v (.int .i64 v_y243.fN))]]⟩
def G_extent_Points_C1 (n : Nat) (v_l240 : (List S_extent_Ext)) (v_x241 : Int) (v_w242 : (List Int)) (v_y243 : S_extent_Ext) : Option G_extent_Points_C1_R :=
  if v_y243.fStart < 0 then
   some (.x0 true v_w242)
  else
   if v_y243.fStart ≥ 256 then
    some (.x0 true v_w242)
   else
    if v_y243.fN < 1 then
     some (.x0 true v_w242)
    else
     if v_y243.fN > 8 then
      some (.x0 true v_w242)
     else
      if v_y243.fStart > 0 then
       some (.x0 (decide ((wi .i64 (v_y243.fStart + v_y243.fN)) > 256)) v_w242)
      else
       some (.x0 false v_w242)
theorem G_extent_Points_C1_ok {Fi : Ex → PS → Prop} (hF : KC 66 Fi) (ks : List Fr) (n : Nat) (v_l240 : (List S_extent_Ext)) (v_x241 : Int) (v_w242 : (List Int)) (v_y243 : S_extent_Ext)  (o : G_extent_Points_C1_R) (h : G_extent_Points_C1 n v_l240 v_x241 v_w242 v_y243 = some o) (q : RunE Try.prog 66 Fi ks (G_extent_Points_C1_ex o) (G_extent_Points_C1_st v_l240 v_x241 v_w242 v_y243 o)) : RunE Try.prog 66 Fi (.s (cL (cL (cR (cB (cL (cR (cR (cP (cB (cR (cL (cR (cR (bodyOf Try.f67)))))))))))))) :: ks) .normal (G_extent_Points_C1_hd v_l240 v_x241 v_w242 v_y243) := by
  unfold G_extent_Points_C1 at h
  by_cases h341 : v_y243.fStart < 0
  · rw [if_pos h341] at h
    cases h
    exact pkk_sound TTok mix hF 1 (hs := [.c, .t true, .c, .c, .c, .c, .c, .c, .c, .c, .c, .c, .c, .c, .c]) (ts := []) (s := [0, 1]) (l := [4, 6, 8, 9, 10, 44]) (by kernel_rfl) (by kernel_rfl) (.cons (dt h341) .nil) q
  · rw [if_neg h341] at h
    by_cases h342 : v_y243.fStart ≥ 256
    · rw [if_pos h342] at h
      cases h
      exact pkk_sound TTok mix hF 1 (hs := [.c, .t false, .c, .c, .c, .t true, .c, .c, .c, .c, .c, .c, .c, .c, .c, .c]) (ts := []) (s := [0, 1]) (l := [4, 6, 8, 9, 10, 44]) (by kernel_rfl) (by kernel_rfl) (.cons (df h341) (.cons (dt h342) .nil)) q
    · rw [if_neg h342] at h
      by_cases h343 : v_y243.fN < 1
      · rw [if_pos h343] at h
        cases h
        exact pkk_sound TTok mix hF 1 (hs := [.c, .t false, .c, .c, .c, .t false, .c, .c, .c, .t true, .c, .c, .c, .c, .c, .c, .c]) (ts := []) (s := [0, 1]) (l := [4, 6, 8, 9, 10, 44]) (by kernel_rfl) (by kernel_rfl) (.cons (df h341) (.cons (df h342) (.cons (dt h343) .nil))) q
      · rw [if_neg h343] at h
        by_cases h344 : v_y243.fN > 8
        · rw [if_pos h344] at h
          cases h
          exact pkk_sound TTok mix hF 1 (hs := [.c, .t false, .c, .c, .c, .t false, .c, .c, .c, .t false, .c, .c, .c, .t true, .c, .c, .c, .c]) (ts := []) (s := [0, 1]) (l := [4, 6, 8, 9, 10, 44]) (by kernel_rfl) (by kernel_rfl) (.cons (df h341) (.cons (df h342) (.cons (df h343) (.cons (dt h344) .nil)))) q
        · rw [if_neg h344] at h
          by_cases h345 : v_y243.fStart > 0
          · rw [if_pos h345] at h
            cases h
            exact pkk_sound TTok mix hF 1 (hs := [.c, .t false, .c, .c, .c, .t false, .c, .c, .c, .t false, .c, .c, .c, .t false, .c, .c, .c, .c, .t true, .c, .c, .c, .c, .c, .c, .c, .c]) (ts := []) (s := [0, 1]) (l := [4, 6, 8, 9, 10, 44]) (by kernel_rfl) (by kernel_rfl) (.cons (df h341) (.cons (df h342) (.cons (df h343) (.cons (df h344) (.cons (dt h345) .nil))))) q
          · rw [if_neg h345] at h
            cases h
            exact pkk_sound TTok mix hF 1 (hs := [.c, .t false, .c, .c, .c, .t false, .c, .c, .c, .t false, .c, .c, .c, .t false, .c, .c, .c, .c, .t false, .c, .c, .c, .c, .c, .c]) (ts := []) (s := [0, 1]) (l := [4, 6, 8, 9, 10, 44]) (by kernel_rfl) (by kernel_rfl) (.cons (df h341) (.cons (df h342) (.cons (df h343) (.cons (df h344) (.cons (df h345) .nil))))) q
inductive G_extent_Points_L2_R where
  | x0 (v_w266 : (List Int))
def G_extent_Points_L2_ex : G_extent_Points_L2_R → Ex
  | .x0 _ => .exit 2
def G_extent_Points_L2_st (v_l240 : (List S_extent_Ext)) (v_x241 : Int) (v_y243 : S_extent_Ext) : G_extent_Points_L2_R → PS
  | .x0 v_w266 => ⟨[dd, dd, dd, dd, .srf 0, dd, dd, dd, .d (.sl (v_l240.map eS_extent_Ext)), .d (.v (.int .i64 (v_l240.length : Int))), .d (.v (.int .i64 v_x241)), dd, dd, dd, dd, dd, dd, dd, dd, dd, dd, dd, dd, dd, dd, dd, dd, dd, dd, dd, dd, dd, dd, dd, dd, dd, dd, dd, dd, dd, dd, dd, dd, dd, dd, dd, dd, dd, dd, dd, dd, dd, dd, dd, dd, dd, dd, dd, dd, dd, dd, dd, dd, dd, dd, dd], [.row 3 1 (v_w266.map (eI .i64))]⟩
def G_extent_Points_L2_hd (v_l240 : (List S_extent_Ext)) (v_x241 : Int) (v_y243 : S_extent_Ext) (v_x260 : Int) (v_w261 : (List Int)) : PS := ⟨[dd, dd, dd, dd, .srf 0, dd, .ref 1 0, dd, .d (.sl (v_l240.map eS_extent_Ext)), .d (.v (.int .i64 (v_l240.length : Int))), .d (.v (.int .i64 v_x241)), dd, dd, dd, dd, dd, dd, dd, dd, dd, dd, dd, dd, dd, dd, dd, dd, dd, dd, dd, dd, dd, dd, dd, dd, dd, dd, dd, dd, dd, dd, dd, dd, dd, dd, dd, .d (.v (.int .i64 v_y243.fN)), .d (.v (.int .i64 v_x260)), dd, dd, dd, dd, dd, dd, dd, dd, dd, dd, dd, dd, dd, dd, dd, dd, dd, dd], [.row 3 1 (v_w261.map (eI .i64)), .box [.d (.v (.int .i64 v_y243.fStart)), .d (.v (.int .i64 v_y243.fN))]]⟩
def G_extent_Points_L2 (n : Nat) (v_l240 : (List S_extent_Ext)) (v_x241 : Int) (v_y243 : S_extent_Ext) : Nat → Int → (List Int) → Option G_extent_Points_L2_R
  | 0, _, _ => none
  | k + 1, v_x260, v_w261 =>
    if v_x260 < v_y243.fN then
     if v_y243.fStart = 0 then
      (app 8 v_w261 ([(wi .i64 (v_y243.fStart + 0))])).bind fun (v_a264 : (List Int)) =>
      G_extent_Points_L2 n v_l240 v_x241 v_y243 k (wi .i64 (v_x260 + 1)) v_a264
     else
      (app 8 v_w261 ([(wi .i64 (v_y243.fStart + v_x260))])).bind fun (v_a265 : (List Int)) =>
      G_extent_Points_L2 n v_l240 v_x241 v_y243 k (wi .i64 (v_x260 + 1)) v_a265
    else
     some (.x0 v_w261)
theorem G_extent_Points_L2_ok {Fi : Ex → PS → Prop} (hF : KC 66 Fi) (ks : List Fr) (n : Nat) (v_l240 : (List S_extent_Ext)) (v_x241 : Int) (v_y243 : S_extent_Ext)  : ∀ (k : Nat) (v_x260 : Int) (v_w261 : (List Int)) (o : G_extent_Points_L2_R), G_extent_Points_L2 n v_l240 v_x241 v_y243 k v_x260 v_w261 = some o → RunE Try.prog 66 Fi ks (G_extent_Points_L2_ex o) (G_extent_Points_L2_st v_l240 v_x241 v_y243 o) → RunE Try.prog 66 Fi (.l k (cP (cB (cR (cL (cR (cR (cB (cL (cR (cR (cP (cB (cR (cL (cR (cR (bodyOf Try.f67))))))))))))))))) :: ks) .normal (G_extent_Points_L2_hd v_l240 v_x241 v_y243 v_x260 v_w261)
  | 0, v_x260, v_w261, o, h, q => by rw [G_extent_Points_L2] at h; cases h
  | k + 1, v_x260, v_w261, o, h, q => by
    rw [G_extent_Points_L2] at h
    by_cases h348 : v_x260 < v_y243.fN
    · rw [if_pos h348] at h
      by_cases h352 : v_y243.fStart = 0
      · rw [if_pos h352] at h
        obtain ⟨v_a264, h353, h⟩ := bind_some h
        exact pkk_sound TTok mix hF 18 (hs := [.t true, .c, .t true, .c, .bd, .w (v_a264.map (eI .i64))]) (ts := []) (s := [41, 1]) (l := [4, 6, 8, 9, 10, 46, 47]) (by kernel_rfl) (by kernel_rfl) (.cons (dt h348) (.cons (bt h352) (.cons (app_ob (f := (eI .i64)) (s := 1) h353 (fun _ => rfl)).1 (.cons (app_ob (f := (eI .i64)) (s := 1) h353 (fun _ => rfl)).2.1 (.cons (app_ob (f := (eI .i64)) (s := 1) h353 (fun _ => rfl)).2.2.1 (.cons (app_ob (f := (eI .i64)) (s := 1) h353 (fun _ => rfl)).2.2.2 .nil)))))) (G_extent_Points_L2_ok hF ks n v_l240 v_x241 v_y243 k (wi .i64 (v_x260 + 1)) v_a264 _ h q)
      · rw [if_neg h352] at h
        obtain ⟨v_a265, h354, h⟩ := bind_some h
        exact pkk_sound TTok mix hF 18 (hs := [.t true, .c, .t false, .c, .bd, .w (v_a265.map (eI .i64))]) (ts := []) (s := [38, 1]) (l := [4, 6, 8, 9, 10, 46, 47]) (by kernel_rfl) (by kernel_rfl) (.cons (dt h348) (.cons (bf h352) (.cons (app_ob (f := (eI .i64)) (s := 1) h354 (fun _ => rfl)).1 (.cons (app_ob (f := (eI .i64)) (s := 1) h354 (fun _ => rfl)).2.1 (.cons (app_ob (f := (eI .i64)) (s := 1) h354 (fun _ => rfl)).2.2.1 (.cons (app_ob (f := (eI .i64)) (s := 1) h354 (fun _ => rfl)).2.2.2 .nil)))))) (G_extent_Points_L2_ok hF ks n v_l240 v_x241 v_y243 k (wi .i64 (v_x260 + 1)) v_a265 _ h q)
    · rw [if_neg h348] at h
      cases h
      exact pkk_sound TTok mix hF 8 (hs := [.t false]) (ts := []) (s := [0]) (l := [4, 8, 9, 10]) (by kernel_rfl) (by kernel_rfl) (.cons (df h348) .nil) q
inductive G_extent_Points_L3_R where
  | x0 (v_x259 : Int)
  | x1 (v_w270 : (List Int))
def G_extent_Points_L3_ex : G_extent_Points_L3_R → Ex
  | .x0 _ => .ret
  | .x1 _ => .exit 0
def G_extent_Points_L3_st (v_l240 : (List S_extent_Ext)) : G_extent_Points_L3_R → PS
  | .x0 v_x259 => ⟨[dd, dd, .d (vnil), .d (.v (.int .i64 v_x259)), dd, dd, dd, dd, dd, dd, dd, dd, dd, dd, dd, dd, dd, dd, dd, dd, dd, dd, dd, dd, dd, dd, dd, dd, dd, dd, dd, dd, dd, dd, dd, dd, dd, dd, dd, dd, dd, dd, dd, dd, dd, dd, dd, dd, dd, dd, dd, dd, dd, dd, dd, dd, dd, dd, dd, dd, dd, dd, dd, dd, dd, dd], []⟩
  | .x1 v_w270 => ⟨[dd, dd, dd, dd, .srf 0, dd, dd, dd, dd, dd, dd, dd, dd, dd, dd, dd, dd, dd, dd, dd, dd, dd, dd, dd, dd, dd, dd, dd, dd, dd, dd, dd, dd, dd, dd, dd, dd, dd, dd, dd, dd, dd, dd, dd, dd, dd, dd, dd, dd, dd, dd, dd, dd, dd, dd, dd, dd, dd, dd, dd, dd, dd, dd, dd, dd, dd], [.row 3 1 (v_w270.map (eI .i64))]⟩
def G_extent_Points_L3_hd (v_l240 : (List S_extent_Ext)) (v_x241 : Int) (v_w242 : (List Int)) : PS := ⟨[dd, dd, dd, dd, .srf 0, dd, dd, dd, .d (.sl (v_l240.map eS_extent_Ext)), .d (.v (.int .i64 (v_l240.length : Int))), .d (.v (.int .i64 v_x241)), dd, dd, dd, dd, dd, dd, dd, dd, dd, dd, dd, dd, dd, dd, dd, dd, dd, dd, dd, dd, dd, dd, dd, dd, dd, dd, dd, dd, dd, dd, dd, dd, dd, dd, dd, dd, dd, dd, dd, dd, dd, dd, dd, dd, dd, dd, dd, dd, dd, dd, dd, dd, dd, dd, dd], [.row 3 1 (v_w242.map (eI .i64))]⟩
def G_extent_Points_L3 (n : Nat) (v_l240 : (List S_extent_Ext)) : Nat → Int → (List Int) → Option G_extent_Points_L3_R
  | 0, _, _ => none
  | k + 1, v_x241, v_w242 =>
    if v_x241 < (v_l240.length : Int) then
     (getI v_l240 v_x241).bind fun (v_y243 : S_extent_Ext) =>
     (G_extent_Points_C1 n v_l240 v_x241 v_w242 v_y243).bind fun v_o256 => match v_o256 with
     | .x0 v_z257 v_z258 =>
       if v_z257 = true then
        some (.x0 1)
       else
        (G_extent_Points_L2 n v_l240 v_x241 v_y243 n 0 v_z258).bind fun v_o267 => match v_o267 with
        | .x0 v_z268 =>
          if (v_z268.length : Int) > 8 then
           some (.x0 2)
          else
           G_extent_Points_L3 n v_l240 k (wi .i64 (v_x241 + 1)) v_z268
    else
     some (.x1 v_w242)
theorem G_extent_Points_L3_ok {Fi : Ex → PS → Prop} (hF : KC 66 Fi) (ks : List Fr) (n : Nat) (v_l240 : (List S_extent_Ext))  : ∀ (k : Nat) (v_x241 : Int) (v_w242 : (List Int)) (o : G_extent_Points_L3_R), G_extent_Points_L3 n v_l240 k v_x241 v_w242 = some o → RunE Try.prog 66 Fi ks (G_extent_Points_L3_ex o) (G_extent_Points_L3_st v_l240 o) → RunE Try.prog 66 Fi (.l k (cP (cB (cR (cL (cR (cR (bodyOf Try.f67))))))) :: ks) .normal (G_extent_Points_L3_hd v_l240 v_x241 v_w242)
  | 0, v_x241, v_w242, o, h, q => by rw [G_extent_Points_L3] at h; cases h
  | k + 1, v_x241, v_w242, o, h, q => by
    rw [G_extent_Points_L3] at h
    by_cases h334 : v_x241 < (v_l240.length : Int)
    · rw [if_pos h334] at h
      obtain ⟨v_y243, h335, h⟩ := bind_some h
      obtain ⟨v_o256, h346, h⟩ := bind_some h
      refine pkk_sound TTok mix hF 12 (hs := [.t true, .y (eS_extent_Ext v_y243), .c]) (ts := []) (s := [0, 10]) (l := [4, 6, 8, 9, 10]) (by kernel_rfl) (by kernel_rfl) (.cons (dt h334) (.cons (getI_ob (f := eS_extent_Ext) h335) (.cons (show 0 + 2 ≤ 2 by decide) .nil))) (G_extent_Points_C1_ok hF (.s (cR (cL (cR (cB (cL (cR (cR (cP (cB (cR (cL (cR (cR (bodyOf Try.f67)))))))))))))) :: .s (cR (cR (cB (cL (cR (cR (cP (cB (cR (cL (cR (cR (bodyOf Try.f67))))))))))))) :: .b 1 :: .s (cR (cR (cR (cP (cB (cR (cL (cR (cR (bodyOf Try.f67)))))))))) :: .l k (cP (cB (cR (cL (cR (cR (bodyOf Try.f67))))))) :: ks) n v_l240 v_x241 v_w242 v_y243 _ h346 ?_)
      cases v_o256 with
      | x0 v_z257 v_z258 =>
        try dsimp only at h
        by_cases h347 : v_z257 = true
        · rw [if_pos h347] at h
          cases h
          exact pkk_sound TTok mix hF 8 (hs := [.t true]) (ts := []) (s := []) (l := [2, 3]) (by kernel_rfl) (by kernel_rfl) (.cons h347 .nil) q
        · rw [if_neg h347] at h
          obtain ⟨v_o267, h355, h⟩ := bind_some h
          refine pkk_sound TTok mix hF 7 (hs := [.t false, .c, .n n]) (ts := []) (s := [0, 1]) (l := [4, 6, 8, 9, 10, 46, 47]) (by kernel_rfl) (by kernel_rfl) (.cons (vf h347) .nil) (G_extent_Points_L2_ok hF (.b 2 :: .s (cR (cR (cR (cB (cL (cR (cR (cP (cB (cR (cL (cR (cR (bodyOf Try.f67)))))))))))))) :: .b 1 :: .s (cR (cR (cR (cP (cB (cR (cL (cR (cR (bodyOf Try.f67)))))))))) :: .l k (cP (cB (cR (cL (cR (cR (bodyOf Try.f67))))))) :: ks) n v_l240 v_x241 v_y243 n 0 v_z258 _ h355 ?_)
          cases v_o267 with
          | x0 v_z268 =>
            try dsimp only at h
            by_cases h356 : (v_z268.length : Int) > 8
            · rw [if_pos h356] at h
              cases h
              exact pkk_sound TTok mix hF 10 (hs := [.u (.d (.v (.int .i64 (v_z268.length : Int)))), .t true]) (ts := []) (s := []) (l := [2, 3]) (by kernel_rfl) (by kernel_rfl) (.cons (len_ob (f := (eI .i64)) (l := v_z268)) (.cons (dt h356) .nil)) q
            · rw [if_neg h356] at h
              exact pkk_sound TTok mix hF 7 (hs := [.u (.d (.v (.int .i64 (v_z268.length : Int)))), .t false]) (ts := []) (s := [0]) (l := [4, 8, 9, 10]) (by kernel_rfl) (by kernel_rfl) (.cons (len_ob (f := (eI .i64)) (l := v_z268)) (.cons (df h356) .nil)) (G_extent_Points_L3_ok hF ks n v_l240 k (wi .i64 (v_x241 + 1)) v_z268 _ h q)
    · rw [if_neg h334] at h
      cases h
      exact pkk_sound TTok mix hF 8 (hs := [.t false]) (ts := []) (s := [0]) (l := [4]) (by kernel_rfl) (by kernel_rfl) (.cons (df h334) .nil) q
/- ringhall/extent.Points -/
def G_extent_Points (n : Nat) (v_l240 : (List S_extent_Ext)) : Option ((List Int) × Int) :=
  (G_extent_Points_L3 n v_l240 n 0 ([] : List Int)).bind fun v_o271 => match v_o271 with
  | .x0 v_z272 =>
    some (([] : (List Int)), v_z272)
  | .x1 v_z273 =>
    some (v_z273, 0)
theorem G_extent_Points_ok (n : Nat) (v_l240 : (List S_extent_Ext)) (r : (List Int) × Int) (h : G_extent_Points n v_l240 = some r) : Ret Try.prog 67 [(eL eS_extent_Ext) v_l240] (.tup [(eL (eI .i64)) r.1, (eI .i64) r.2]) := by
  refine ret_run (n := 66) (fn := Try.f67) (c := bodyOf Try.f67) (by kernel_rfl) (by kernel_rfl) (by kernel_rfl) (by kernel_rfl) ?_
  have hF : KC 66 (FinR Try.prog Try.f67 (.tup [(eL (eI .i64)) r.1, (eI .i64) r.2])) := FinR.kc' (by kernel_rfl)
  unfold G_extent_Points at h
  obtain ⟨v_o271, h357, h⟩ := bind_some h
  refine pkk_sound TTok mix hF 9 (hs := [.u (.d (.v (.int .i64 (v_l240.length : Int)))), .n n]) (ts := [(4, 3, 1)]) (s := [18]) (l := [4, 8, 9, 10]) (by kernel_rfl) (by kernel_rfl) (.cons (len_ob (f := eS_extent_Ext) (l := v_l240)) .nil) (G_extent_Points_L3_ok hF (.b 0 :: .s (cR (cR (cR (bodyOf Try.f67)))) :: []) n v_l240 n 0 ([] : List Int) _ h357 ?_)
  cases v_o271 with
  | x0 v_z272 =>
    try dsimp only at h
    obtain rfl := Option.some.inj h
    exact pend_sound TTok mix 2 (hs := []) (by kernel_rfl) (by kernel_rfl) (by kernel_rfl) .nil
  | x1 v_z273 =>
    try dsimp only at h
    obtain rfl := Option.some.inj h
    exact pend_sound TTok mix 4 (hs := []) (by kernel_rfl) (by kernel_rfl) (by kernel_rfl) .nil
inductive G_extent_Unpack_L1_R where
  | x0 (v_w236 : (List S_extent_Ext))
def G_extent_Unpack_L1_ex : G_extent_Unpack_L1_R → Ex
  | .x0 _ => .exit 0
def G_extent_Unpack_L1_st (v_b225 : (List Int)) : G_extent_Unpack_L1_R → PS
  | .x0 v_w236 => ⟨[.d (.sl (v_b225.map (eI .u8))), dd, dd, dd, .srf 0, dd, dd, dd, dd, dd, dd, dd, dd, dd, dd, dd, dd, dd, dd, dd, dd, dd, dd, dd, dd, dd, dd, dd, dd, dd, dd, dd, dd, dd, dd, dd, dd, dd, dd, dd, dd, dd, dd, dd, dd, dd, dd, dd, dd, dd, dd, dd, dd, dd, dd, dd, dd, dd, dd, dd, dd, dd, dd], [.row 229 2 (v_w236.map eS_extent_Ext)]⟩
def G_extent_Unpack_L1_hd (v_b225 : (List Int)) (v_i226 : Int) (v_w227 : (List S_extent_Ext)) : PS := ⟨[.d (.sl (v_b225.map (eI .u8))), dd, dd, dd, .srf 0, .d (.v (.int .i64 v_i226)), dd, dd, dd, dd, dd, dd, dd, dd, dd, dd, dd, dd, dd, dd, dd, dd, dd, dd, dd, dd, dd, dd, dd, dd, dd, dd, dd, dd, dd, dd, dd, dd, dd, dd, dd, dd, dd, dd, dd, dd, dd, dd, dd, dd, dd, dd, dd, dd, dd, dd, dd, dd, dd, dd, dd, dd, dd], [.row 229 2 (v_w227.map eS_extent_Ext)]⟩
def G_extent_Unpack_L1 (n : Nat) (v_b225 : (List Int)) : Nat → Int → (List S_extent_Ext) → Option G_extent_Unpack_L1_R
  | 0, _, _ => none
  | k + 1, v_i226, v_w227 =>
    if v_i226 < (v_b225.length : Int) then
     (getI v_b225 (wi .i64 (v_i226 + 1))).bind fun (v_y229 : Int) =>
     if v_y229 > 0 then
      (getI v_b225 v_i226).bind fun (v_y233 : Int) =>
      (getI v_b225 (wi .i64 (v_i226 + 1))).bind fun (v_y234 : Int) =>
      (app 16 v_w227 ([(S_extent_Ext.mk (wi .i64 v_y233) (wi .i64 v_y234))])).bind fun (v_a235 : (List S_extent_Ext)) =>
      G_extent_Unpack_L1 n v_b225 k (wi .i64 (v_i226 + 2)) v_a235
     else
      some (.x0 v_w227)
    else
     some (.x0 v_w227)
theorem G_extent_Unpack_L1_ok {Fi : Ex → PS → Prop} (hF : KC 63 Fi) (ks : List Fr) (n : Nat) (v_b225 : (List Int))  : ∀ (k : Nat) (v_i226 : Int) (v_w227 : (List S_extent_Ext)) (o : G_extent_Unpack_L1_R), G_extent_Unpack_L1 n v_b225 k v_i226 v_w227 = some o → RunE Try.prog 63 Fi ks (G_extent_Unpack_L1_ex o) (G_extent_Unpack_L1_st v_b225 o) → RunE Try.prog 63 Fi (.l k (cP (cB (cR (cL (cR (cR (cR (bodyOf Try.f70)))))))) :: ks) .normal (G_extent_Unpack_L1_hd v_b225 v_i226 v_w227)
  | 0, v_i226, v_w227, o, h, q => by rw [G_extent_Unpack_L1] at h; cases h
  | k + 1, v_i226, v_w227, o, h, q => by
    rw [G_extent_Unpack_L1] at h
    by_cases h324 : v_i226 < (v_b225.length : Int)
    · rw [if_pos h324] at h
      obtain ⟨v_y229, h325, h⟩ := bind_some h
      by_cases h326 : v_y229 > 0
      · rw [if_pos h326] at h
        obtain ⟨v_y233, h330, h⟩ := bind_some h
        obtain ⟨v_y234, h331, h⟩ := bind_some h
        obtain ⟨v_a235, h332, h⟩ := bind_some h
        exact pkk_sound TTok mix hF 11 (hs := [.u (.d (.v (.int .i64 (v_b225.length : Int)))), .t true, .c, .c, .c, .y ((eI .u8) v_y229), .c, .c, .c, .t true, .y ((eI .u8) v_y233), .c, .y ((eI .u8) v_y234), .c, .bd, .w (v_a235.map eS_extent_Ext)]) (ts := []) (s := [79]) (l := [0, 4, 5]) (by kernel_rfl) (by kernel_rfl) (.cons (len_ob (f := (eI .u8)) (l := v_b225)) (.cons (dt h324) (.cons (getI_ob (f := (eI .u8)) h325) (.cons (dt h326) (.cons (getI_ob (f := (eI .u8)) h330) (.cons (getI_ob (f := (eI .u8)) h331) (.cons (app_ob (f := eS_extent_Ext) (s := 2) h332 (fun _ => rfl)).1 (.cons (app_ob (f := eS_extent_Ext) (s := 2) h332 (fun _ => rfl)).2.1 (.cons (app_ob (f := eS_extent_Ext) (s := 2) h332 (fun _ => rfl)).2.2.1 (.cons (app_ob (f := eS_extent_Ext) (s := 2) h332 (fun _ => rfl)).2.2.2 .nil)))))))))) (G_extent_Unpack_L1_ok hF ks n v_b225 k (wi .i64 (v_i226 + 2)) v_a235 _ h q)
      · rw [if_neg h326] at h
        cases h
        exact pkk_sound TTok mix hF 8 (hs := [.u (.d (.v (.int .i64 (v_b225.length : Int)))), .t true, .c, .c, .c, .y ((eI .u8) v_y229), .c, .c, .c, .t false]) (ts := []) (s := [0]) (l := [0, 4]) (by kernel_rfl) (by kernel_rfl) (.cons (len_ob (f := (eI .u8)) (l := v_b225)) (.cons (dt h324) (.cons (getI_ob (f := (eI .u8)) h325) (.cons (df h326) .nil)))) q
    · rw [if_neg h324] at h
      cases h
      exact pkk_sound TTok mix hF 8 (hs := [.u (.d (.v (.int .i64 (v_b225.length : Int)))), .t false, .c, .c, .c, .c, .c, .c]) (ts := []) (s := [0]) (l := [0, 4]) (by kernel_rfl) (by kernel_rfl) (.cons (len_ob (f := (eI .u8)) (l := v_b225)) (.cons (df h324) .nil)) q
/- ringhall/extent.Unpack -/
def G_extent_Unpack (n : Nat) (v_b225 : (List Int)) : Option ((List Int) × Int) :=
  if (v_b225.length : Int) = 16 then
   (G_extent_Unpack_L1 n v_b225 n 0 ([] : List S_extent_Ext)).bind fun v_o238 => match v_o238 with
   | .x0 v_z239 =>
     (G_extent_Points n v_z239).bind fun (v_r274 : ((List Int) × Int)) =>
     if v_r274.2 = 0 then
      (G_extent_Pack n v_r274.1).bind fun (v_r275 : ((List Int) × Int)) =>
      if v_r275.2 = 0 then
       if (!((b2s v_r275.1).toList == (b2s v_b225).toList)) = true then
        some (([] : (List Int)), 3)
       else
        some (v_r274.1, 0)
      else
       some (([] : (List Int)), 3)
     else
      some (([] : (List Int)), 3)
  else
   some (([] : (List Int)), 3)
theorem G_extent_Unpack_ok (n : Nat) (v_b225 : (List Int)) (r : (List Int) × Int) (h : G_extent_Unpack n v_b225 = some r) : Ret Try.prog 70 [(eL (eI .u8)) v_b225] (.tup [(eL (eI .i64)) r.1, (eI .i64) r.2]) := by
  refine ret_run (n := 63) (fn := Try.f70) (c := bodyOf Try.f70) (by kernel_rfl) (by kernel_rfl) (by kernel_rfl) (by kernel_rfl) ?_
  have hF : KC 63 (FinR Try.prog Try.f70 (.tup [(eL (eI .i64)) r.1, (eI .i64) r.2])) := FinR.kc' (by kernel_rfl)
  unfold G_extent_Unpack at h
  by_cases h321 : (v_b225.length : Int) = 16
  · rw [if_pos h321] at h
    obtain ⟨v_o238, h333, h⟩ := bind_some h
    refine pkk_sound TTok mix hF 14 (hs := [.u (.d (.v (.int .i64 (v_b225.length : Int)))), .t false, .n n]) (ts := [(4, 229, 2)]) (s := [21]) (l := [0, 4, 5]) (by kernel_rfl) (by kernel_rfl) (.cons (len_ob (f := (eI .u8)) (l := v_b225)) (.cons (nf h321) .nil)) (G_extent_Unpack_L1_ok hF (.b 0 :: .s (cR (cR (cR (cR (bodyOf Try.f70))))) :: []) n v_b225 n 0 ([] : List S_extent_Ext) _ h333 ?_)
    cases v_o238 with
    | x0 v_z239 =>
      try dsimp only at h
      obtain ⟨v_r274, h358, h⟩ := bind_some h
      by_cases h359 : v_r274.2 = 0
      · rw [if_pos h359] at h
        obtain ⟨v_r275, h360, h⟩ := bind_some h
        by_cases h362 : v_r275.2 = 0
        · rw [if_pos h362] at h
          by_cases h363 : (!((b2s v_r275.1).toList == (b2s v_b225).toList)) = true
          · rw [if_pos h363] at h
            obtain rfl := Option.some.inj h
            exact pend_sound TTok mix 19 (hs := [.dl 2, .fz 0, .r (.tup [(eL (eI .i64)) v_r274.1, (eI .i64) v_r274.2]), .t false, .r (.tup [(eL (eI .u8)) v_r275.1, (eI .i64) v_r275.2]), .t false, .c, .e 61 [] (.d (.v (.string (b2s v_r275.1)))) [], .c, .c, .e 67 [] (.d (.v (.string (b2s v_b225)))) [], .c, .t true]) (by kernel_rfl) (by kernel_rfl) (by kernel_rfl) (.cons (G_extent_Points_ok n v_z239 _ h358) (.cons (nf h359) (.cons (G_extent_Pack_ok n v_r274.1 _ h360) (.cons (nf h362) (.cons (xb2sD (L := v_r275.1) (P := Try.prog) (T := TT) (src := 107) (dst := 9) (e := 5) (s := 1) (x := (.tmp 56)) (by kernel_rfl) (by kernel_rfl) (by kernel_rfl)) (.cons (xb2sD (L := v_b225) (P := Try.prog) (T := TT) (src := 107) (dst := 9) (e := 5) (s := 1) (x := (.tmp 58)) (by kernel_rfl) (by kernel_rfl) (by kernel_rfl)) (.cons h363 .nil)))))))
          · rw [if_neg h363] at h
            obtain rfl := Option.some.inj h
            exact pend_sound TTok mix 19 (hs := [.dl 2, .fz 0, .r (.tup [(eL (eI .i64)) v_r274.1, (eI .i64) v_r274.2]), .t false, .r (.tup [(eL (eI .u8)) v_r275.1, (eI .i64) v_r275.2]), .t false, .c, .e 61 [] (.d (.v (.string (b2s v_r275.1)))) [], .c, .c, .e 67 [] (.d (.v (.string (b2s v_b225)))) [], .c, .t false]) (by kernel_rfl) (by kernel_rfl) (by kernel_rfl) (.cons (G_extent_Points_ok n v_z239 _ h358) (.cons (nf h359) (.cons (G_extent_Pack_ok n v_r274.1 _ h360) (.cons (nf h362) (.cons (xb2sD (L := v_r275.1) (P := Try.prog) (T := TT) (src := 107) (dst := 9) (e := 5) (s := 1) (x := (.tmp 56)) (by kernel_rfl) (by kernel_rfl) (by kernel_rfl)) (.cons (xb2sD (L := v_b225) (P := Try.prog) (T := TT) (src := 107) (dst := 9) (e := 5) (s := 1) (x := (.tmp 58)) (by kernel_rfl) (by kernel_rfl) (by kernel_rfl)) (.cons (vf h363) .nil)))))))
        · rw [if_neg h362] at h
          obtain rfl := Option.some.inj h
          exact pend_sound TTok mix 19 (hs := [.dl 2, .fz 0, .r (.tup [(eL (eI .i64)) v_r274.1, (eI .i64) v_r274.2]), .t false, .r (.tup [(eL (eI .u8)) v_r275.1, (eI .i64) v_r275.2]), .t true, .c, .c, .c, .c, .c]) (by kernel_rfl) (by kernel_rfl) (by kernel_rfl) (.cons (G_extent_Points_ok n v_z239 _ h358) (.cons (nf h359) (.cons (G_extent_Pack_ok n v_r274.1 _ h360) (.cons (nt h362) .nil))))
      · rw [if_neg h359] at h
        obtain rfl := Option.some.inj h
        exact pend_sound TTok mix 12 (hs := [.dl 2, .fz 0, .r (.tup [(eL (eI .i64)) v_r274.1, (eI .i64) v_r274.2]), .t true]) (by kernel_rfl) (by kernel_rfl) (by kernel_rfl) (.cons (G_extent_Points_ok n v_z239 _ h358) (.cons (nt h359) .nil))
  · rw [if_neg h321] at h
    obtain rfl := Option.some.inj h
    exact pend_sound TTok mix 10 (hs := [.u (.d (.v (.int .i64 (v_b225.length : Int)))), .t true]) (by kernel_rfl) (by kernel_rfl) (by kernel_rfl) (.cons (len_ob (f := (eI .u8)) (l := v_b225)) (.cons (nt h321) .nil))
inductive G_slices_Equal_byte_byte_L1_R where
  | x0 (v_x285 : Bool)
  | x1 
def G_slices_Equal_byte_byte_L1_ex : G_slices_Equal_byte_byte_L1_R → Ex
  | .x0 _ => .ret
  | .x1  => .exit 0
def G_slices_Equal_byte_byte_L1_st (v_s278 : (List Int)) (v_s279 : (List Int)) : G_slices_Equal_byte_byte_L1_R → PS
  | .x0 v_x285 => ⟨[dd, dd, dd, dd, .d (.v (.bool v_x285)), dd, dd, dd, dd, dd, dd, dd, dd, dd, dd, dd, dd, dd, dd, dd, dd, dd, dd, dd, dd, dd], []⟩
  | .x1  => ⟨[dd, dd, dd, dd, dd, dd, dd, dd, dd, dd, dd, dd, dd, dd, dd, dd, dd, dd, dd, dd, dd, dd, dd, dd, dd, dd], []⟩
def G_slices_Equal_byte_byte_L1_hd (v_s278 : (List Int)) (v_s279 : (List Int)) (v_x280 : Int) : PS := ⟨[.d (.sl (v_s278.map (eI .u8))), .d (.sl (v_s279.map (eI .u8))), dd, dd, dd, dd, dd, dd, dd, dd, dd, dd, .d (.v (.int .i64 (v_s278.length : Int))), .d (.v (.int .i64 v_x280)), dd, dd, dd, dd, dd, dd, dd, dd, dd, dd, dd, dd], []⟩
def G_slices_Equal_byte_byte_L1 (n : Nat) (v_s278 : (List Int)) (v_s279 : (List Int)) : Nat → Int → Option G_slices_Equal_byte_byte_L1_R
  | 0, _ => none
  | k + 1, v_x280 =>
    if v_x280 < (v_s278.length : Int) then
     (getI v_s278 v_x280).bind fun (v_y283 : Int) =>
     (getI v_s279 v_x280).bind fun (v_y284 : Int) =>
     if v_y283 = v_y284 then
      G_slices_Equal_byte_byte_L1 n v_s278 v_s279 k (wi .i64 (v_x280 + 1))
     else
      some (.x0 false)
    else
     some (.x1 )
theorem G_slices_Equal_byte_byte_L1_ok {Fi : Ex → PS → Prop} (hF : KC 26 Fi) (ks : List Fr) (n : Nat) (v_s278 : (List Int)) (v_s279 : (List Int))  : ∀ (k : Nat) (v_x280 : Int) (o : G_slices_Equal_byte_byte_L1_R), G_slices_Equal_byte_byte_L1 n v_s278 v_s279 k v_x280 = some o → RunE Try.prog 26 Fi ks (G_slices_Equal_byte_byte_L1_ex o) (G_slices_Equal_byte_byte_L1_st v_s278 v_s279 o) → RunE Try.prog 26 Fi (.l k (cP (cB (cR (cL (cR (cR (bodyOf Try.f139))))))) :: ks) .normal (G_slices_Equal_byte_byte_L1_hd v_s278 v_s279 v_x280)
  | 0, v_x280, o, h, q => by rw [G_slices_Equal_byte_byte_L1] at h; cases h
  | k + 1, v_x280, o, h, q => by
    rw [G_slices_Equal_byte_byte_L1] at h
    by_cases h370 : v_x280 < (v_s278.length : Int)
    · rw [if_pos h370] at h
      obtain ⟨v_y283, h374, h⟩ := bind_some h
      obtain ⟨v_y284, h375, h⟩ := bind_some h
      by_cases h376 : v_y283 = v_y284
      · rw [if_pos h376] at h
        exact pkk_sound TTok mix hF 16 (hs := [.t true, .y ((eI .u8) v_y283), .c, .y ((eI .u8) v_y284), .c, .t false]) (ts := []) (s := []) (l := [0, 1, 12, 13]) (by kernel_rfl) (by kernel_rfl) (.cons (dt h370) (.cons (getI_ob (f := (eI .u8)) h374) (.cons (getI_ob (f := (eI .u8)) h375) (.cons (nf h376) .nil)))) (G_slices_Equal_byte_byte_L1_ok hF ks n v_s278 v_s279 k (wi .i64 (v_x280 + 1)) _ h q)
      · rw [if_neg h376] at h
        cases h
        exact pkk_sound TTok mix hF 19 (hs := [.t true, .y ((eI .u8) v_y283), .c, .y ((eI .u8) v_y284), .c, .t true]) (ts := []) (s := []) (l := [4]) (by kernel_rfl) (by kernel_rfl) (.cons (dt h370) (.cons (getI_ob (f := (eI .u8)) h374) (.cons (getI_ob (f := (eI .u8)) h375) (.cons (nt h376) .nil)))) q
    · rw [if_neg h370] at h
      cases h
      exact pkk_sound TTok mix hF 8 (hs := [.t false]) (ts := []) (s := []) (l := []) (by kernel_rfl) (by kernel_rfl) (.cons (df h370) .nil) q
/- slices.Equal[[]byte,byte] -/
def G_slices_Equal_byte_byte (n : Nat) (v_s278 : (List Int)) (v_s279 : (List Int)) : Option (Bool) :=
  if (v_s278.length : Int) = (v_s279.length : Int) then
   (G_slices_Equal_byte_byte_L1 n v_s278 v_s279 n 0).bind fun v_o286 => match v_o286 with
   | .x0 v_z287 =>
     some v_z287
   | .x1  =>
     some true
  else
   some false
theorem G_slices_Equal_byte_byte_ok (n : Nat) (v_s278 : (List Int)) (v_s279 : (List Int)) (r : Bool) (h : G_slices_Equal_byte_byte n v_s278 v_s279 = some r) : Ret Try.prog 139 [(eL (eI .u8)) v_s278, (eL (eI .u8)) v_s279] (eB r) := by
  refine ret_run (n := 26) (fn := Try.f139) (c := bodyOf Try.f139) (by kernel_rfl) (by kernel_rfl) (by kernel_rfl) (by kernel_rfl) ?_
  have hF : KC 26 (FinR Try.prog Try.f139 (eB r)) := FinR.kc' (by kernel_rfl)
  unfold G_slices_Equal_byte_byte at h
  by_cases h369 : (v_s278.length : Int) = (v_s279.length : Int)
  · rw [if_pos h369] at h
    obtain ⟨v_o286, h377, h⟩ := bind_some h
    refine pkk_sound TTok mix hF 12 (hs := [.u (.d (.v (.int .i64 (v_s278.length : Int)))), .u (.d (.v (.int .i64 (v_s279.length : Int)))), .t false, .u (.d (.v (.int .i64 (v_s278.length : Int)))), .n n]) (ts := []) (s := []) (l := [0, 1, 12, 13]) (by kernel_rfl) (by kernel_rfl) (.cons (len_ob (f := (eI .u8)) (l := v_s278)) (.cons (len_ob (f := (eI .u8)) (l := v_s279)) (.cons (nf h369) (.cons (len_ob (f := (eI .u8)) (l := v_s278)) .nil)))) (G_slices_Equal_byte_byte_L1_ok hF (.b 0 :: .s (cR (cR (cR (bodyOf Try.f139)))) :: []) n v_s278 v_s279 n 0 _ h377 ?_)
    cases v_o286 with
    | x0 v_z287 =>
      try dsimp only at h
      obtain rfl := Option.some.inj h
      exact pend_sound TTok mix 2 (hs := []) (by kernel_rfl) (by kernel_rfl) (by kernel_rfl) .nil
    | x1  =>
      try dsimp only at h
      obtain rfl := Option.some.inj h
      exact pend_sound TTok mix 4 (hs := []) (by kernel_rfl) (by kernel_rfl) (by kernel_rfl) .nil
  · rw [if_neg h369] at h
    obtain rfl := Option.some.inj h
    exact pend_sound TTok mix 10 (hs := [.u (.d (.v (.int .i64 (v_s278.length : Int)))), .u (.d (.v (.int .i64 (v_s279.length : Int)))), .t true]) (by kernel_rfl) (by kernel_rfl) (by kernel_rfl) (.cons (len_ob (f := (eI .u8)) (l := v_s278)) (.cons (len_ob (f := (eI .u8)) (l := v_s279)) (.cons (nt h369) .nil)))
/- ringhall/inode.Unpack -/
def G_inode_Unpack (n : Nat) (v_b214 : (List Int)) : Option (S_inode_Node × Int) :=
  if (v_b214.length : Int) = 32 then
   (getI v_b214 0).bind fun (v_y215 : Int) =>
   (getI v_b214 1).bind fun (v_y216 : Int) =>
   (getI v_b214 2).bind fun (v_y217 : Int) =>
   (getI v_b214 3).bind fun (v_y218 : Int) =>
   (getI v_b214 4).bind fun (v_y219 : Int) =>
   (getI v_b214 5).bind fun (v_y220 : Int) =>
   (getI v_b214 6).bind fun (v_y221 : Int) =>
   (getI v_b214 7).bind fun (v_y222 : Int) =>
   (getI v_b214 8).bind fun (v_y223 : Int) =>
   (sub v_b214 9 25).bind fun (v_s224 : (List Int)) =>
   (G_extent_Unpack n v_s224).bind fun (v_r276 : ((List Int) × Int)) =>
   if v_r276.2 = 0 then
    (G_inode_Pack n (S_inode_Node.mk (wi .i64 v_y215) (bits .or .i64 (wi .i64 v_y216) (shlI .i64 (wi .i64 v_y217) 8)) (wi .i64 v_y218) (wi .i64 v_y219) (bits .or .i64 (wi .i64 v_y220) (shlI .i64 (wi .i64 v_y221) 8)) (wi .i64 v_y222) (wi .i64 v_y223) v_r276.1)).bind fun (v_r277 : ((List Int) × Int)) =>
    if v_r277.2 = 0 then
     (G_slices_Equal_byte_byte n v_r277.1 v_b214).bind fun (v_r289 : (Bool)) =>
     if v_r289 = true then
      some ((S_inode_Node.mk (wi .i64 v_y215) (bits .or .i64 (wi .i64 v_y216) (shlI .i64 (wi .i64 v_y217) 8)) (wi .i64 v_y218) (wi .i64 v_y219) (bits .or .i64 (wi .i64 v_y220) (shlI .i64 (wi .i64 v_y221) 8)) (wi .i64 v_y222) (wi .i64 v_y223) v_r276.1), 0)
     else
      some ((S_inode_Node.mk 0 0 0 0 0 0 0 ([] : (List Int))), 3)
    else
     some ((S_inode_Node.mk 0 0 0 0 0 0 0 ([] : (List Int))), 3)
   else
    some ((S_inode_Node.mk 0 0 0 0 0 0 0 ([] : (List Int))), 3)
  else
   some ((S_inode_Node.mk 0 0 0 0 0 0 0 ([] : (List Int))), 3)
theorem G_inode_Unpack_ok (n : Nat) (v_b214 : (List Int)) (r : S_inode_Node × Int) (h : G_inode_Unpack n v_b214 = some r) : Ret Try.prog 78 [(eL (eI .u8)) v_b214] (.tup [eS_inode_Node r.1, (eI .i64) r.2]) := by
  refine ret_run (n := 79) (fn := Try.f78) (c := bodyOf Try.f78) (by kernel_rfl) (by kernel_rfl) (by kernel_rfl) (by kernel_rfl) ?_
  have hF : KC 79 (FinR Try.prog Try.f78 (.tup [eS_inode_Node r.1, (eI .i64) r.2])) := FinR.kc' (by kernel_rfl)
  unfold G_inode_Unpack at h
  by_cases h308 : (v_b214.length : Int) = 32
  · rw [if_pos h308] at h
    obtain ⟨v_y215, h309, h⟩ := bind_some h
    obtain ⟨v_y216, h310, h⟩ := bind_some h
    obtain ⟨v_y217, h311, h⟩ := bind_some h
    obtain ⟨v_y218, h313, h⟩ := bind_some h
    obtain ⟨v_y219, h314, h⟩ := bind_some h
    obtain ⟨v_y220, h315, h⟩ := bind_some h
    obtain ⟨v_y221, h316, h⟩ := bind_some h
    obtain ⟨v_y222, h318, h⟩ := bind_some h
    obtain ⟨v_y223, h319, h⟩ := bind_some h
    obtain ⟨v_s224, h320, h⟩ := bind_some h
    obtain ⟨v_r276, h364, h⟩ := bind_some h
    by_cases h366 : v_r276.2 = 0
    · rw [if_pos h366] at h
      obtain ⟨v_r277, h367, h⟩ := bind_some h
      by_cases h379 : v_r277.2 = 0
      · rw [if_pos h379] at h
        obtain ⟨v_r289, h380, h⟩ := bind_some h
        by_cases h382 : v_r289 = true
        · rw [if_pos h382] at h
          obtain rfl := Option.some.inj h
          exact pend_sound TTok mix 28 (hs := [.u (.d (.v (.int .i64 (v_b214.length : Int)))), .t false, .y ((eI .u8) v_y215), .c, .y ((eI .u8) v_y216), .c, .y ((eI .u8) v_y217), .c, .y ((eI .u8) v_y218), .c, .y ((eI .u8) v_y219), .c, .y ((eI .u8) v_y220), .c, .y ((eI .u8) v_y221), .c, .y ((eI .u8) v_y222), .c, .y ((eI .u8) v_y223), .c, .c, .w (v_s224.map (eI .u8)), .r (.tup [(eL (eI .i64)) v_r276.1, (eI .i64) v_r276.2]), .t false, .c, .c, .r (.tup [(eL (eI .u8)) v_r277.1, (eI .i64) v_r277.2]), .t false, .c, .c, .r (eB v_r289), .c, .t false, .c, .c]) (by kernel_rfl) (by kernel_rfl) (by kernel_rfl) (.cons (len_ob (f := (eI .u8)) (l := v_b214)) (.cons (nf h308) (.cons (getI_ob (f := (eI .u8)) h309) (.cons (getI_ob (f := (eI .u8)) h310) (.cons (getI_ob (f := (eI .u8)) h311) (.cons (show (0 : Int) ≤ 8 by decide) (.cons (getI_ob (f := (eI .u8)) h313) (.cons (getI_ob (f := (eI .u8)) h314) (.cons (getI_ob (f := (eI .u8)) h315) (.cons (getI_ob (f := (eI .u8)) h316) (.cons (show (0 : Int) ≤ 8 by decide) (.cons (getI_ob (f := (eI .u8)) h318) (.cons (getI_ob (f := (eI .u8)) h319) (.cons (show 0 + 8 ≤ 8 by decide) (.cons (sub_ob (f := (eI .u8)) (s := 1) h320 (fun _ => rfl)).1 (.cons (sub_ob (f := (eI .u8)) (s := 1) h320 (fun _ => rfl)).2.1 (.cons (sub_ob (f := (eI .u8)) (s := 1) h320 (fun _ => rfl)).2.2.1 (.cons (sub_ob (f := (eI .u8)) (s := 1) h320 (fun _ => rfl)).2.2.2.1 (.cons (sub_ob (f := (eI .u8)) (s := 1) h320 (fun _ => rfl)).2.2.2.2 (.cons (G_extent_Unpack_ok n v_s224 _ h364) (.cons (nf h366) (.cons (show 7 + 1 ≤ 8 by decide) (.cons (G_inode_Pack_ok n (S_inode_Node.mk (wi .i64 v_y215) (bits .or .i64 (wi .i64 v_y216) (shlI .i64 (wi .i64 v_y217) 8)) (wi .i64 v_y218) (wi .i64 v_y219) (bits .or .i64 (wi .i64 v_y220) (shlI .i64 (wi .i64 v_y221) 8)) (wi .i64 v_y222) (wi .i64 v_y223) v_r276.1) _ h367) (.cons (nf h379) (.cons (G_slices_Equal_byte_byte_ok n v_r277.1 v_b214 _ h380) (.cons (bnf h382) (.cons (show 0 + 8 ≤ 8 by decide) .nil)))))))))))))))))))))))))))
        · rw [if_neg h382] at h
          obtain rfl := Option.some.inj h
          exact pend_sound TTok mix 28 (hs := [.u (.d (.v (.int .i64 (v_b214.length : Int)))), .t false, .y ((eI .u8) v_y215), .c, .y ((eI .u8) v_y216), .c, .y ((eI .u8) v_y217), .c, .y ((eI .u8) v_y218), .c, .y ((eI .u8) v_y219), .c, .y ((eI .u8) v_y220), .c, .y ((eI .u8) v_y221), .c, .y ((eI .u8) v_y222), .c, .y ((eI .u8) v_y223), .c, .c, .w (v_s224.map (eI .u8)), .r (.tup [(eL (eI .i64)) v_r276.1, (eI .i64) v_r276.2]), .t false, .c, .c, .r (.tup [(eL (eI .u8)) v_r277.1, (eI .i64) v_r277.2]), .t false, .c, .c, .r (eB v_r289), .c, .t true, .c]) (by kernel_rfl) (by kernel_rfl) (by kernel_rfl) (.cons (len_ob (f := (eI .u8)) (l := v_b214)) (.cons (nf h308) (.cons (getI_ob (f := (eI .u8)) h309) (.cons (getI_ob (f := (eI .u8)) h310) (.cons (getI_ob (f := (eI .u8)) h311) (.cons (show (0 : Int) ≤ 8 by decide) (.cons (getI_ob (f := (eI .u8)) h313) (.cons (getI_ob (f := (eI .u8)) h314) (.cons (getI_ob (f := (eI .u8)) h315) (.cons (getI_ob (f := (eI .u8)) h316) (.cons (show (0 : Int) ≤ 8 by decide) (.cons (getI_ob (f := (eI .u8)) h318) (.cons (getI_ob (f := (eI .u8)) h319) (.cons (show 0 + 8 ≤ 8 by decide) (.cons (sub_ob (f := (eI .u8)) (s := 1) h320 (fun _ => rfl)).1 (.cons (sub_ob (f := (eI .u8)) (s := 1) h320 (fun _ => rfl)).2.1 (.cons (sub_ob (f := (eI .u8)) (s := 1) h320 (fun _ => rfl)).2.2.1 (.cons (sub_ob (f := (eI .u8)) (s := 1) h320 (fun _ => rfl)).2.2.2.1 (.cons (sub_ob (f := (eI .u8)) (s := 1) h320 (fun _ => rfl)).2.2.2.2 (.cons (G_extent_Unpack_ok n v_s224 _ h364) (.cons (nf h366) (.cons (show 7 + 1 ≤ 8 by decide) (.cons (G_inode_Pack_ok n (S_inode_Node.mk (wi .i64 v_y215) (bits .or .i64 (wi .i64 v_y216) (shlI .i64 (wi .i64 v_y217) 8)) (wi .i64 v_y218) (wi .i64 v_y219) (bits .or .i64 (wi .i64 v_y220) (shlI .i64 (wi .i64 v_y221) 8)) (wi .i64 v_y222) (wi .i64 v_y223) v_r276.1) _ h367) (.cons (nf h379) (.cons (G_slices_Equal_byte_byte_ok n v_r277.1 v_b214 _ h380) (.cons (bnt (vf h382)) (.cons (show 0 + 8 ≤ 8 by decide) .nil)))))))))))))))))))))))))))
      · rw [if_neg h379] at h
        obtain rfl := Option.some.inj h
        exact pend_sound TTok mix 28 (hs := [.u (.d (.v (.int .i64 (v_b214.length : Int)))), .t false, .y ((eI .u8) v_y215), .c, .y ((eI .u8) v_y216), .c, .y ((eI .u8) v_y217), .c, .y ((eI .u8) v_y218), .c, .y ((eI .u8) v_y219), .c, .y ((eI .u8) v_y220), .c, .y ((eI .u8) v_y221), .c, .y ((eI .u8) v_y222), .c, .y ((eI .u8) v_y223), .c, .c, .w (v_s224.map (eI .u8)), .r (.tup [(eL (eI .i64)) v_r276.1, (eI .i64) v_r276.2]), .t false, .c, .c, .r (.tup [(eL (eI .u8)) v_r277.1, (eI .i64) v_r277.2]), .t true, .c, .c, .c, .c, .c]) (by kernel_rfl) (by kernel_rfl) (by kernel_rfl) (.cons (len_ob (f := (eI .u8)) (l := v_b214)) (.cons (nf h308) (.cons (getI_ob (f := (eI .u8)) h309) (.cons (getI_ob (f := (eI .u8)) h310) (.cons (getI_ob (f := (eI .u8)) h311) (.cons (show (0 : Int) ≤ 8 by decide) (.cons (getI_ob (f := (eI .u8)) h313) (.cons (getI_ob (f := (eI .u8)) h314) (.cons (getI_ob (f := (eI .u8)) h315) (.cons (getI_ob (f := (eI .u8)) h316) (.cons (show (0 : Int) ≤ 8 by decide) (.cons (getI_ob (f := (eI .u8)) h318) (.cons (getI_ob (f := (eI .u8)) h319) (.cons (show 0 + 8 ≤ 8 by decide) (.cons (sub_ob (f := (eI .u8)) (s := 1) h320 (fun _ => rfl)).1 (.cons (sub_ob (f := (eI .u8)) (s := 1) h320 (fun _ => rfl)).2.1 (.cons (sub_ob (f := (eI .u8)) (s := 1) h320 (fun _ => rfl)).2.2.1 (.cons (sub_ob (f := (eI .u8)) (s := 1) h320 (fun _ => rfl)).2.2.2.1 (.cons (sub_ob (f := (eI .u8)) (s := 1) h320 (fun _ => rfl)).2.2.2.2 (.cons (G_extent_Unpack_ok n v_s224 _ h364) (.cons (nf h366) (.cons (show 7 + 1 ≤ 8 by decide) (.cons (G_inode_Pack_ok n (S_inode_Node.mk (wi .i64 v_y215) (bits .or .i64 (wi .i64 v_y216) (shlI .i64 (wi .i64 v_y217) 8)) (wi .i64 v_y218) (wi .i64 v_y219) (bits .or .i64 (wi .i64 v_y220) (shlI .i64 (wi .i64 v_y221) 8)) (wi .i64 v_y222) (wi .i64 v_y223) v_r276.1) _ h367) (.cons (nt h379) (.cons (show 0 + 8 ≤ 8 by decide) .nil)))))))))))))))))))))))))
    · rw [if_neg h366] at h
      obtain rfl := Option.some.inj h
      exact pend_sound TTok mix 19 (hs := [.u (.d (.v (.int .i64 (v_b214.length : Int)))), .t false, .y ((eI .u8) v_y215), .c, .y ((eI .u8) v_y216), .c, .y ((eI .u8) v_y217), .c, .y ((eI .u8) v_y218), .c, .y ((eI .u8) v_y219), .c, .y ((eI .u8) v_y220), .c, .y ((eI .u8) v_y221), .c, .y ((eI .u8) v_y222), .c, .y ((eI .u8) v_y223), .c, .c, .w (v_s224.map (eI .u8)), .r (.tup [(eL (eI .i64)) v_r276.1, (eI .i64) v_r276.2]), .t true, .c]) (by kernel_rfl) (by kernel_rfl) (by kernel_rfl) (.cons (len_ob (f := (eI .u8)) (l := v_b214)) (.cons (nf h308) (.cons (getI_ob (f := (eI .u8)) h309) (.cons (getI_ob (f := (eI .u8)) h310) (.cons (getI_ob (f := (eI .u8)) h311) (.cons (show (0 : Int) ≤ 8 by decide) (.cons (getI_ob (f := (eI .u8)) h313) (.cons (getI_ob (f := (eI .u8)) h314) (.cons (getI_ob (f := (eI .u8)) h315) (.cons (getI_ob (f := (eI .u8)) h316) (.cons (show (0 : Int) ≤ 8 by decide) (.cons (getI_ob (f := (eI .u8)) h318) (.cons (getI_ob (f := (eI .u8)) h319) (.cons (show 0 + 8 ≤ 8 by decide) (.cons (sub_ob (f := (eI .u8)) (s := 1) h320 (fun _ => rfl)).1 (.cons (sub_ob (f := (eI .u8)) (s := 1) h320 (fun _ => rfl)).2.1 (.cons (sub_ob (f := (eI .u8)) (s := 1) h320 (fun _ => rfl)).2.2.1 (.cons (sub_ob (f := (eI .u8)) (s := 1) h320 (fun _ => rfl)).2.2.2.1 (.cons (sub_ob (f := (eI .u8)) (s := 1) h320 (fun _ => rfl)).2.2.2.2 (.cons (G_extent_Unpack_ok n v_s224 _ h364) (.cons (nt h366) (.cons (show 0 + 8 ≤ 8 by decide) .nil))))))))))))))))))))))
  · rw [if_neg h308] at h
    obtain rfl := Option.some.inj h
    exact pend_sound TTok mix 10 (hs := [.u (.d (.v (.int .i64 (v_b214.length : Int)))), .t true, .c]) (by kernel_rfl) (by kernel_rfl) (by kernel_rfl) (.cons (len_ob (f := (eI .u8)) (l := v_b214)) (.cons (nt h308) (.cons (show 0 + 8 ≤ 8 by decide) .nil)))
inductive G_ringref3_Unruns_C1_R where
  | x0 (v_x312 : Bool) (v_w313 : (List Int))
def G_ringref3_Unruns_C1_ex : G_ringref3_Unruns_C1_R → Ex
  | .x0 _ _ => .normal
def G_ringref3_Unruns_C1_st (v_l308 : (List (Fin 2 → Int))) (v_x309 : Int) (v_w310 : (List Int)) (v_y311 : (Fin 2 → Int)) : G_ringref3_Unruns_C1_R → PS
  | .x0 v_x312 v_w313 => ⟨[dd, dd, dd, dd, .srf 0, dd, .ref 1 0, dd, .d (.sl (v_l308.map (fun x => PV.agg [.v (.int .i64 (x 0)), .v (.int .i64 (x 1))]))), .d (.v (.int .i64 (v_l308.length : Int))), .d (.v (.int .i64 v_x309)), dd, dd, dd, dd, dd, dd, dd, dd, dd, dd, dd, dd, dd, dd, dd, dd, dd, dd, dd, dd, dd, dd, dd, dd, dd, dd, dd, dd, dd, dd, dd, dd, dd, .d (.v (.bool v_x312)), dd, dd, dd, dd, dd, dd, dd, dd, dd, dd, dd, dd, dd, dd, dd, dd, dd, dd, dd, dd, dd, dd, dd, dd], [.row 3 1 (v_w313.map (eI .i64)), .box [.d (.v (.int .i64 (v_y311 0))), .d (.v (.int .i64 (v_y311 1)))]]⟩
def G_ringref3_Unruns_C1_hd (v_l308 : (List (Fin 2 → Int))) (v_x309 : Int) (v_w310 : (List Int)) (v_y311 : (Fin 2 → Int))  : PS := ⟨[dd, dd, dd, dd, .srf 0, dd, .ref 1 0, dd, .d (.sl (v_l308.map (fun x => PV.agg [.v (.int .i64 (x 0)), .v (.int .i64 (x 1))]))), .d (.v (.int .i64 (v_l308.length : Int))), .d (.v (.int .i64 v_x309)), dd, dd, dd, dd, dd, dd, dd, dd, dd, dd, dd, dd, dd, dd, dd, dd, dd, dd, dd, dd, dd, dd, dd, dd, dd, dd, dd, dd, dd, dd, dd, dd, dd, dd, dd, dd, dd, dd, dd, dd, dd, dd, dd, dd, dd, dd, dd, dd, dd, dd, dd, dd, dd, dd, dd, dd, dd, dd], [.row 3 1 (v_w310.map (eI .i64)), .box [.d (.v (.int .i64 (v_y311 0))), .d (.v (.int .i64 (v_y311 1)))]]⟩
def G_ringref3_Unruns_C1 (n : Nat) (v_l308 : (List (Fin 2 → Int))) (v_x309 : Int) (v_w310 : (List Int)) (v_y311 : (Fin 2 → Int)) : Option G_ringref3_Unruns_C1_R :=
  if (v_y311 0) < 0 then
   some (.x0 true v_w310)
  else
   if (v_y311 0) > 255 then
    some (.x0 true v_w310)
   else
    if (v_y311 1) < 1 then
     some (.x0 true v_w310)
    else
     if (v_y311 1) > 8 then
      some (.x0 true v_w310)
     else
      if (v_y311 0) > 0 then
       some (.x0 (decide ((wi .i64 ((v_y311 0) + (v_y311 1))) > 256)) v_w310)
      else
       some (.x0 false v_w310)
theorem G_ringref3_Unruns_C1_ok {Fi : Ex → PS → Prop} (hF : KC 69 Fi) (ks : List Fr) (n : Nat) (v_l308 : (List (Fin 2 → Int))) (v_x309 : Int) (v_w310 : (List Int)) (v_y311 : (Fin 2 → Int))  (o : G_ringref3_Unruns_C1_R) (h : G_ringref3_Unruns_C1 n v_l308 v_x309 v_w310 v_y311 = some o) (q : RunE Try.prog 69 Fi ks (G_ringref3_Unruns_C1_ex o) (G_ringref3_Unruns_C1_st v_l308 v_x309 v_w310 v_y311 o)) : RunE Try.prog 69 Fi (.s (cL (cL (cR (cB (cL (cR (cR (cP (cB (cR (cL (cR (cR (bodyOf Try.f68)))))))))))))) :: ks) .normal (G_ringref3_Unruns_C1_hd v_l308 v_x309 v_w310 v_y311) := by
  unfold G_ringref3_Unruns_C1 at h
  by_cases h407 : (v_y311 0) < 0
  · rw [if_pos h407] at h
    cases h
    exact pkk_sound TTok mix hF 1 (hs := [.c, .t true, .c, .c, .c, .c, .c, .c, .c, .c, .c, .c, .c, .c, .c]) (ts := []) (s := [0, 1]) (l := [4, 6, 8, 9, 10, 44]) (by kernel_rfl) (by kernel_rfl) (.cons (show (0 : Int) ≤ 0 ∧ (0 : Int) < 2 by decide) (.cons (dt h407) .nil)) q
  · rw [if_neg h407] at h
    by_cases h408 : (v_y311 0) > 255
    · rw [if_pos h408] at h
      cases h
      exact pkk_sound TTok mix hF 1 (hs := [.c, .t false, .c, .c, .c, .t true, .c, .c, .c, .c, .c, .c, .c, .c, .c, .c]) (ts := []) (s := [0, 1]) (l := [4, 6, 8, 9, 10, 44]) (by kernel_rfl) (by kernel_rfl) (.cons (show (0 : Int) ≤ 0 ∧ (0 : Int) < 2 by decide) (.cons (df h407) (.cons (show (0 : Int) ≤ 0 ∧ (0 : Int) < 2 by decide) (.cons (dt h408) .nil)))) q
    · rw [if_neg h408] at h
      by_cases h409 : (v_y311 1) < 1
      · rw [if_pos h409] at h
        cases h
        exact pkk_sound TTok mix hF 1 (hs := [.c, .t false, .c, .c, .c, .t false, .c, .c, .c, .t true, .c, .c, .c, .c, .c, .c, .c]) (ts := []) (s := [0, 1]) (l := [4, 6, 8, 9, 10, 44]) (by kernel_rfl) (by kernel_rfl) (.cons (show (0 : Int) ≤ 0 ∧ (0 : Int) < 2 by decide) (.cons (df h407) (.cons (show (0 : Int) ≤ 0 ∧ (0 : Int) < 2 by decide) (.cons (df h408) (.cons (show (0 : Int) ≤ 1 ∧ (1 : Int) < 2 by decide) (.cons (dt h409) .nil)))))) q
      · rw [if_neg h409] at h
        by_cases h410 : (v_y311 1) > 8
        · rw [if_pos h410] at h
          cases h
          exact pkk_sound TTok mix hF 1 (hs := [.c, .t false, .c, .c, .c, .t false, .c, .c, .c, .t false, .c, .c, .c, .t true, .c, .c, .c, .c]) (ts := []) (s := [0, 1]) (l := [4, 6, 8, 9, 10, 44]) (by kernel_rfl) (by kernel_rfl) (.cons (show (0 : Int) ≤ 0 ∧ (0 : Int) < 2 by decide) (.cons (df h407) (.cons (show (0 : Int) ≤ 0 ∧ (0 : Int) < 2 by decide) (.cons (df h408) (.cons (show (0 : Int) ≤ 1 ∧ (1 : Int) < 2 by decide) (.cons (df h409) (.cons (show (0 : Int) ≤ 1 ∧ (1 : Int) < 2 by decide) (.cons (dt h410) .nil)))))))) q
        · rw [if_neg h410] at h
          by_cases h411 : (v_y311 0) > 0
          · rw [if_pos h411] at h
            cases h
            exact pkk_sound TTok mix hF 1 (hs := [.c, .t false, .c, .c, .c, .t false, .c, .c, .c, .t false, .c, .c, .c, .t false, .c, .c, .c, .c, .t true, .c, .c, .c, .c, .c, .c, .c, .c]) (ts := []) (s := [0, 1]) (l := [4, 6, 8, 9, 10, 44]) (by kernel_rfl) (by kernel_rfl) (.cons (show (0 : Int) ≤ 0 ∧ (0 : Int) < 2 by decide) (.cons (df h407) (.cons (show (0 : Int) ≤ 0 ∧ (0 : Int) < 2 by decide) (.cons (df h408) (.cons (show (0 : Int) ≤ 1 ∧ (1 : Int) < 2 by decide) (.cons (df h409) (.cons (show (0 : Int) ≤ 1 ∧ (1 : Int) < 2 by decide) (.cons (df h410) (.cons (show (0 : Int) ≤ 0 ∧ (0 : Int) < 2 by decide) (.cons (dt h411) (.cons (show (0 : Int) ≤ 0 ∧ (0 : Int) < 2 by decide) (.cons (show (0 : Int) ≤ 1 ∧ (1 : Int) < 2 by decide) .nil)))))))))))) q
          · rw [if_neg h411] at h
            cases h
            exact pkk_sound TTok mix hF 1 (hs := [.c, .t false, .c, .c, .c, .t false, .c, .c, .c, .t false, .c, .c, .c, .t false, .c, .c, .c, .c, .t false, .c, .c, .c, .c, .c, .c]) (ts := []) (s := [0, 1]) (l := [4, 6, 8, 9, 10, 44]) (by kernel_rfl) (by kernel_rfl) (.cons (show (0 : Int) ≤ 0 ∧ (0 : Int) < 2 by decide) (.cons (df h407) (.cons (show (0 : Int) ≤ 0 ∧ (0 : Int) < 2 by decide) (.cons (df h408) (.cons (show (0 : Int) ≤ 1 ∧ (1 : Int) < 2 by decide) (.cons (df h409) (.cons (show (0 : Int) ≤ 1 ∧ (1 : Int) < 2 by decide) (.cons (df h410) (.cons (show (0 : Int) ≤ 0 ∧ (0 : Int) < 2 by decide) (.cons (df h411) .nil)))))))))) q
inductive G_ringref3_Unruns_L2_R where
  | x0 (v_w338 : (List Int))
def G_ringref3_Unruns_L2_ex : G_ringref3_Unruns_L2_R → Ex
  | .x0 _ => .exit 2
def G_ringref3_Unruns_L2_st (v_l308 : (List (Fin 2 → Int))) (v_x309 : Int) (v_y311 : (Fin 2 → Int)) : G_ringref3_Unruns_L2_R → PS
  | .x0 v_w338 => ⟨[dd, dd, dd, dd, .srf 0, dd, dd, dd, .d (.sl (v_l308.map (fun x => PV.agg [.v (.int .i64 (x 0)), .v (.int .i64 (x 1))]))), .d (.v (.int .i64 (v_l308.length : Int))), .d (.v (.int .i64 v_x309)), dd, dd, dd, dd, dd, dd, dd, dd, dd, dd, dd, dd, dd, dd, dd, dd, dd, dd, dd, dd, dd, dd, dd, dd, dd, dd, dd, dd, dd, dd, dd, dd, dd, dd, dd, dd, dd, dd, dd, dd, dd, dd, dd, dd, dd, dd, dd, dd, dd, dd, dd, dd, dd, dd, dd, dd, dd, dd], [.row 3 1 (v_w338.map (eI .i64))]⟩
def G_ringref3_Unruns_L2_hd (v_l308 : (List (Fin 2 → Int))) (v_x309 : Int) (v_y311 : (Fin 2 → Int)) (v_x328 : Int) (v_w329 : (List Int)) : PS := ⟨[dd, dd, dd, dd, .srf 0, dd, .ref 1 0, dd, .d (.sl (v_l308.map (fun x => PV.agg [.v (.int .i64 (x 0)), .v (.int .i64 (x 1))]))), .d (.v (.int .i64 (v_l308.length : Int))), .d (.v (.int .i64 v_x309)), dd, dd, dd, dd, dd, dd, dd, dd, dd, dd, dd, dd, dd, dd, dd, dd, dd, dd, dd, dd, dd, dd, dd, dd, dd, dd, dd, dd, dd, dd, dd, dd, dd, dd, dd, .d (.v (.int .i64 (v_y311 1))), .d (.v (.int .i64 v_x328)), dd, dd, dd, dd, dd, dd, dd, dd, dd, dd, dd, dd, dd, dd, dd, dd, dd, dd, dd, dd, dd], [.row 3 1 (v_w329.map (eI .i64)), .box [.d (.v (.int .i64 (v_y311 0))), .d (.v (.int .i64 (v_y311 1)))]]⟩
def G_ringref3_Unruns_L2 (n : Nat) (v_l308 : (List (Fin 2 → Int))) (v_x309 : Int) (v_y311 : (Fin 2 → Int)) : Nat → Int → (List Int) → Option G_ringref3_Unruns_L2_R
  | 0, _, _ => none
  | k + 1, v_x328, v_w329 =>
    if v_x328 < (v_y311 1) then
     if (v_y311 0) = 0 then
      (app 8 v_w329 ([0])).bind fun (v_a336 : (List Int)) =>
      G_ringref3_Unruns_L2 n v_l308 v_x309 v_y311 k (wi .i64 (v_x328 + 1)) v_a336
     else
      (app 8 v_w329 ([(wi .i64 ((v_y311 0) + v_x328))])).bind fun (v_a337 : (List Int)) =>
      G_ringref3_Unruns_L2 n v_l308 v_x309 v_y311 k (wi .i64 (v_x328 + 1)) v_a337
    else
     some (.x0 v_w329)
theorem G_ringref3_Unruns_L2_ok {Fi : Ex → PS → Prop} (hF : KC 69 Fi) (ks : List Fr) (n : Nat) (v_l308 : (List (Fin 2 → Int))) (v_x309 : Int) (v_y311 : (Fin 2 → Int))  : ∀ (k : Nat) (v_x328 : Int) (v_w329 : (List Int)) (o : G_ringref3_Unruns_L2_R), G_ringref3_Unruns_L2 n v_l308 v_x309 v_y311 k v_x328 v_w329 = some o → RunE Try.prog 69 Fi ks (G_ringref3_Unruns_L2_ex o) (G_ringref3_Unruns_L2_st v_l308 v_x309 v_y311 o) → RunE Try.prog 69 Fi (.l k (cP (cB (cR (cL (cR (cR (cB (cL (cR (cR (cP (cB (cR (cL (cR (cR (bodyOf Try.f68))))))))))))))))) :: ks) .normal (G_ringref3_Unruns_L2_hd v_l308 v_x309 v_y311 v_x328 v_w329)
  | 0, v_x328, v_w329, o, h, q => by rw [G_ringref3_Unruns_L2] at h; cases h
  | k + 1, v_x328, v_w329, o, h, q => by
    rw [G_ringref3_Unruns_L2] at h
    by_cases h414 : v_x328 < (v_y311 1)
    · rw [if_pos h414] at h
      by_cases h424 : (v_y311 0) = 0
      · rw [if_pos h424] at h
        obtain ⟨v_a336, h425, h⟩ := bind_some h
        exact pkk_sound TTok mix hF 16 (hs := [.t true, .c, .t true, .bd, .w (v_a336.map (eI .i64))]) (ts := []) (s := [26, 1]) (l := [4, 6, 8, 9, 10, 46, 47]) (by kernel_rfl) (by kernel_rfl) (.cons (dt h414) (.cons (show (0 : Int) ≤ 0 ∧ (0 : Int) < 2 by decide) (.cons (bt h424) (.cons (app_ob (f := (eI .i64)) (s := 1) h425 (fun _ => rfl)).1 (.cons (app_ob (f := (eI .i64)) (s := 1) h425 (fun _ => rfl)).2.1 (.cons (app_ob (f := (eI .i64)) (s := 1) h425 (fun _ => rfl)).2.2.1 (.cons (app_ob (f := (eI .i64)) (s := 1) h425 (fun _ => rfl)).2.2.2 .nil))))))) (G_ringref3_Unruns_L2_ok hF ks n v_l308 v_x309 v_y311 k (wi .i64 (v_x328 + 1)) v_a336 _ h q)
      · rw [if_neg h424] at h
        obtain ⟨v_a337, h426, h⟩ := bind_some h
        exact pkk_sound TTok mix hF 16 (hs := [.t true, .c, .t false, .c, .bd, .w (v_a337.map (eI .i64))]) (ts := []) (s := [38, 1]) (l := [4, 6, 8, 9, 10, 46, 47]) (by kernel_rfl) (by kernel_rfl) (.cons (dt h414) (.cons (show (0 : Int) ≤ 0 ∧ (0 : Int) < 2 by decide) (.cons (bf h424) (.cons (show (0 : Int) ≤ 0 ∧ (0 : Int) < 2 by decide) (.cons (app_ob (f := (eI .i64)) (s := 1) h426 (fun _ => rfl)).1 (.cons (app_ob (f := (eI .i64)) (s := 1) h426 (fun _ => rfl)).2.1 (.cons (app_ob (f := (eI .i64)) (s := 1) h426 (fun _ => rfl)).2.2.1 (.cons (app_ob (f := (eI .i64)) (s := 1) h426 (fun _ => rfl)).2.2.2 .nil)))))))) (G_ringref3_Unruns_L2_ok hF ks n v_l308 v_x309 v_y311 k (wi .i64 (v_x328 + 1)) v_a337 _ h q)
    · rw [if_neg h414] at h
      cases h
      exact pkk_sound TTok mix hF 8 (hs := [.t false]) (ts := []) (s := [0]) (l := [4, 8, 9, 10]) (by kernel_rfl) (by kernel_rfl) (.cons (df h414) .nil) q
inductive G_ringref3_Unruns_L3_R where
  | x0 (v_x327 : Int)
  | x1 (v_w342 : (List Int))
def G_ringref3_Unruns_L3_ex : G_ringref3_Unruns_L3_R → Ex
  | .x0 _ => .ret
  | .x1 _ => .exit 0
def G_ringref3_Unruns_L3_st (v_l308 : (List (Fin 2 → Int))) : G_ringref3_Unruns_L3_R → PS
  | .x0 v_x327 => ⟨[dd, dd, .d (vnil), .d (.v (.int .i64 v_x327)), dd, dd, dd, dd, dd, dd, dd, dd, dd, dd, dd, dd, dd, dd, dd, dd, dd, dd, dd, dd, dd, dd, dd, dd, dd, dd, dd, dd, dd, dd, dd, dd, dd, dd, dd, dd, dd, dd, dd, dd, dd, dd, dd, dd, dd, dd, dd, dd, dd, dd, dd, dd, dd, dd, dd, dd, dd, dd, dd, dd, dd, dd, dd, dd, dd], []⟩
  | .x1 v_w342 => ⟨[dd, dd, dd, dd, .srf 0, dd, dd, dd, dd, dd, dd, dd, dd, dd, dd, dd, dd, dd, dd, dd, dd, dd, dd, dd, dd, dd, dd, dd, dd, dd, dd, dd, dd, dd, dd, dd, dd, dd, dd, dd, dd, dd, dd, dd, dd, dd, dd, dd, dd, dd, dd, dd, dd, dd, dd, dd, dd, dd, dd, dd, dd, dd, dd, dd, dd, dd, dd, dd, dd], [.row 3 1 (v_w342.map (eI .i64))]⟩
def G_ringref3_Unruns_L3_hd (v_l308 : (List (Fin 2 → Int))) (v_x309 : Int) (v_w310 : (List Int)) : PS := ⟨[dd, dd, dd, dd, .srf 0, dd, dd, dd, .d (.sl (v_l308.map (fun x => PV.agg [.v (.int .i64 (x 0)), .v (.int .i64 (x 1))]))), .d (.v (.int .i64 (v_l308.length : Int))), .d (.v (.int .i64 v_x309)), dd, dd, dd, dd, dd, dd, dd, dd, dd, dd, dd, dd, dd, dd, dd, dd, dd, dd, dd, dd, dd, dd, dd, dd, dd, dd, dd, dd, dd, dd, dd, dd, dd, dd, dd, dd, dd, dd, dd, dd, dd, dd, dd, dd, dd, dd, dd, dd, dd, dd, dd, dd, dd, dd, dd, dd, dd, dd], [.row 3 1 (v_w310.map (eI .i64))]⟩
def G_ringref3_Unruns_L3 (n : Nat) (v_l308 : (List (Fin 2 → Int))) : Nat → Int → (List Int) → Option G_ringref3_Unruns_L3_R
  | 0, _, _ => none
  | k + 1, v_x309, v_w310 =>
    if v_x309 < (v_l308.length : Int) then
     (getI v_l308 v_x309).bind fun (v_y311 : (Fin 2 → Int)) =>
     (G_ringref3_Unruns_C1 n v_l308 v_x309 v_w310 v_y311).bind fun v_o324 => match v_o324 with
     | .x0 v_z325 v_z326 =>
       if v_z325 = true then
        some (.x0 1)
       else
        (G_ringref3_Unruns_L2 n v_l308 v_x309 v_y311 n 0 v_z326).bind fun v_o339 => match v_o339 with
        | .x0 v_z340 =>
          if (v_z340.length : Int) > 8 then
           some (.x0 2)
          else
           G_ringref3_Unruns_L3 n v_l308 k (wi .i64 (v_x309 + 1)) v_z340
    else
     some (.x1 v_w310)
theorem G_ringref3_Unruns_L3_ok {Fi : Ex → PS → Prop} (hF : KC 69 Fi) (ks : List Fr) (n : Nat) (v_l308 : (List (Fin 2 → Int)))  : ∀ (k : Nat) (v_x309 : Int) (v_w310 : (List Int)) (o : G_ringref3_Unruns_L3_R), G_ringref3_Unruns_L3 n v_l308 k v_x309 v_w310 = some o → RunE Try.prog 69 Fi ks (G_ringref3_Unruns_L3_ex o) (G_ringref3_Unruns_L3_st v_l308 o) → RunE Try.prog 69 Fi (.l k (cP (cB (cR (cL (cR (cR (bodyOf Try.f68))))))) :: ks) .normal (G_ringref3_Unruns_L3_hd v_l308 v_x309 v_w310)
  | 0, v_x309, v_w310, o, h, q => by rw [G_ringref3_Unruns_L3] at h; cases h
  | k + 1, v_x309, v_w310, o, h, q => by
    rw [G_ringref3_Unruns_L3] at h
    by_cases h400 : v_x309 < (v_l308.length : Int)
    · rw [if_pos h400] at h
      obtain ⟨v_y311, h401, h⟩ := bind_some h
      obtain ⟨v_o324, h412, h⟩ := bind_some h
      refine pkk_sound TTok mix hF 12 (hs := [.t true, .y ((fun x => PV.agg [.v (.int .i64 (x 0)), .v (.int .i64 (x 1))]) v_y311), .c]) (ts := []) (s := [0, 10]) (l := [4, 6, 8, 9, 10]) (by kernel_rfl) (by kernel_rfl) (.cons (dt h400) (.cons (getI_ob (f := (fun x => PV.agg [.v (.int .i64 (x 0)), .v (.int .i64 (x 1))])) h401) (.cons (show 0 + 2 ≤ 2 by decide) .nil))) (G_ringref3_Unruns_C1_ok hF (.s (cR (cL (cR (cB (cL (cR (cR (cP (cB (cR (cL (cR (cR (bodyOf Try.f68)))))))))))))) :: .s (cR (cR (cB (cL (cR (cR (cP (cB (cR (cL (cR (cR (bodyOf Try.f68))))))))))))) :: .b 1 :: .s (cR (cR (cR (cP (cB (cR (cL (cR (cR (bodyOf Try.f68)))))))))) :: .l k (cP (cB (cR (cL (cR (cR (bodyOf Try.f68))))))) :: ks) n v_l308 v_x309 v_w310 v_y311 _ h412 ?_)
      cases v_o324 with
      | x0 v_z325 v_z326 =>
        try dsimp only at h
        by_cases h413 : v_z325 = true
        · rw [if_pos h413] at h
          cases h
          exact pkk_sound TTok mix hF 8 (hs := [.t true]) (ts := []) (s := []) (l := [2, 3]) (by kernel_rfl) (by kernel_rfl) (.cons h413 .nil) q
        · rw [if_neg h413] at h
          obtain ⟨v_o339, h427, h⟩ := bind_some h
          refine pkk_sound TTok mix hF 7 (hs := [.t false, .c, .n n]) (ts := []) (s := [0, 1]) (l := [4, 6, 8, 9, 10, 46, 47]) (by kernel_rfl) (by kernel_rfl) (.cons (vf h413) (.cons (show (0 : Int) ≤ 1 ∧ (1 : Int) < 2 by decide) .nil)) (G_ringref3_Unruns_L2_ok hF (.b 2 :: .s (cR (cR (cR (cB (cL (cR (cR (cP (cB (cR (cL (cR (cR (bodyOf Try.f68)))))))))))))) :: .b 1 :: .s (cR (cR (cR (cP (cB (cR (cL (cR (cR (bodyOf Try.f68)))))))))) :: .l k (cP (cB (cR (cL (cR (cR (bodyOf Try.f68))))))) :: ks) n v_l308 v_x309 v_y311 n 0 v_z326 _ h427 ?_)
          cases v_o339 with
          | x0 v_z340 =>
            try dsimp only at h
            by_cases h428 : (v_z340.length : Int) > 8
            · rw [if_pos h428] at h
              cases h
              exact pkk_sound TTok mix hF 10 (hs := [.u (.d (.v (.int .i64 (v_z340.length : Int)))), .t true]) (ts := []) (s := []) (l := [2, 3]) (by kernel_rfl) (by kernel_rfl) (.cons (len_ob (f := (eI .i64)) (l := v_z340)) (.cons (dt h428) .nil)) q
            · rw [if_neg h428] at h
              exact pkk_sound TTok mix hF 7 (hs := [.u (.d (.v (.int .i64 (v_z340.length : Int)))), .t false]) (ts := []) (s := [0]) (l := [4, 8, 9, 10]) (by kernel_rfl) (by kernel_rfl) (.cons (len_ob (f := (eI .i64)) (l := v_z340)) (.cons (df h428) .nil)) (G_ringref3_Unruns_L3_ok hF ks n v_l308 k (wi .i64 (v_x309 + 1)) v_z340 _ h q)
    · rw [if_neg h400] at h
      cases h
      exact pkk_sound TTok mix hF 8 (hs := [.t false]) (ts := []) (s := [0]) (l := [4]) (by kernel_rfl) (by kernel_rfl) (.cons (df h400) .nil) q
/- ringhall/ringref3.Unruns -/
def G_ringref3_Unruns (n : Nat) (v_l308 : (List (Fin 2 → Int))) : Option ((List Int) × Int) :=
  (G_ringref3_Unruns_L3 n v_l308 n 0 ([] : List Int)).bind fun v_o343 => match v_o343 with
  | .x0 v_z344 =>
    some (([] : (List Int)), v_z344)
  | .x1 v_z345 =>
    some (v_z345, 0)
theorem G_ringref3_Unruns_ok (n : Nat) (v_l308 : (List (Fin 2 → Int))) (r : (List Int) × Int) (h : G_ringref3_Unruns n v_l308 = some r) : Ret Try.prog 68 [(eL (fun x => PV.agg [.v (.int .i64 (x 0)), .v (.int .i64 (x 1))])) v_l308] (.tup [(eL (eI .i64)) r.1, (eI .i64) r.2]) := by
  refine ret_run (n := 69) (fn := Try.f68) (c := bodyOf Try.f68) (by kernel_rfl) (by kernel_rfl) (by kernel_rfl) (by kernel_rfl) ?_
  have hF : KC 69 (FinR Try.prog Try.f68 (.tup [(eL (eI .i64)) r.1, (eI .i64) r.2])) := FinR.kc' (by kernel_rfl)
  unfold G_ringref3_Unruns at h
  obtain ⟨v_o343, h429, h⟩ := bind_some h
  refine pkk_sound TTok mix hF 9 (hs := [.u (.d (.v (.int .i64 (v_l308.length : Int)))), .n n]) (ts := [(4, 3, 1)]) (s := [18]) (l := [4, 8, 9, 10]) (by kernel_rfl) (by kernel_rfl) (.cons (len_ob (f := (fun x => PV.agg [.v (.int .i64 (x 0)), .v (.int .i64 (x 1))])) (l := v_l308)) .nil) (G_ringref3_Unruns_L3_ok hF (.b 0 :: .s (cR (cR (cR (bodyOf Try.f68)))) :: []) n v_l308 n 0 ([] : List Int) _ h429 ?_)
  cases v_o343 with
  | x0 v_z344 =>
    try dsimp only at h
    obtain rfl := Option.some.inj h
    exact pend_sound TTok mix 2 (hs := []) (by kernel_rfl) (by kernel_rfl) (by kernel_rfl) .nil
  | x1 v_z345 =>
    try dsimp only at h
    obtain rfl := Option.some.inj h
    exact pend_sound TTok mix 4 (hs := []) (by kernel_rfl) (by kernel_rfl) (by kernel_rfl) .nil
inductive G_ringref3_Runs_C1_R where
  | x0 (v_x363 : Bool) (v_w364 : (List (Fin 2 → Int)))
def G_ringref3_Runs_C1_ex : G_ringref3_Runs_C1_R → Ex
  | .x0 _ _ => .normal
def G_ringref3_Runs_C1_st (v_p348 : (List Int)) (v_i349 : Int) (v_k351 : Int) (v_w352 : (List (Fin 2 → Int))) : G_ringref3_Runs_C1_R → PS
  | .x0 v_x363 v_w364 => ⟨[.d (.sl (v_p348.map (eI .i64))), dd, dd, .srf 0, .d (.v (.int .i64 v_i349)), .d (.v (.int .i64 v_k351)), dd, dd, dd, dd, dd, dd, dd, dd, dd, dd, dd, dd, dd, dd, dd, dd, dd, dd, dd, dd, dd, dd, dd, dd, dd, dd, dd, dd, dd, dd, dd, dd, dd, dd, dd, dd, dd, dd, dd, dd, dd, dd, dd, dd, dd, .d (.v (.bool v_x363)), dd, dd, dd, dd, dd, dd, dd, dd, dd, dd, dd, dd, dd, dd, dd], [.row 121 2 (v_w364.map (fun x => PV.agg [.v (.int .i64 (x 0)), .v (.int .i64 (x 1))]))]⟩
def G_ringref3_Runs_C1_hd (v_p348 : (List Int)) (v_i349 : Int) (v_k351 : Int) (v_w352 : (List (Fin 2 → Int)))  : PS := ⟨[.d (.sl (v_p348.map (eI .i64))), dd, dd, .srf 0, .d (.v (.int .i64 v_i349)), .d (.v (.int .i64 v_k351)), dd, dd, dd, dd, dd, dd, dd, dd, dd, dd, dd, dd, dd, dd, dd, dd, dd, dd, dd, dd, dd, dd, dd, dd, dd, dd, dd, dd, dd, dd, dd, dd, dd, dd, dd, dd, dd, dd, dd, dd, dd, dd, dd, dd, dd, dd, dd, dd, dd, dd, dd, dd, dd, dd, dd, dd, dd, dd, dd, dd, dd], [.row 121 2 (v_w352.map (fun x => PV.agg [.v (.int .i64 (x 0)), .v (.int .i64 (x 1))]))]⟩
def G_ringref3_Runs_C1 (n : Nat) (v_p348 : (List Int)) (v_i349 : Int) (v_k351 : Int) (v_w352 : (List (Fin 2 → Int))) : Option G_ringref3_Runs_C1_R :=
  if v_k351 < (v_p348.length : Int) then
   (getI v_p348 v_i349).bind fun (v_y361 : Int) =>
   if v_y361 = 0 then
    (getI v_p348 v_k351).bind fun (v_y362 : Int) =>
    if v_y362 = 0 then
     some (.x0 true v_w352)
    else
     (getI v_p348 v_i349).bind fun (v_y365 : Int) =>
     if v_y365 = 0 then
      some (.x0 false v_w352)
     else
      (getI v_p348 v_k351).bind fun (v_y366 : Int) =>
      (getI v_p348 v_i349).bind fun (v_y367 : Int) =>
      some (.x0 (v_y366 == (wi .i64 ((wi .i64 (v_y367 + v_k351)) - v_i349))) v_w352)
   else
    (getI v_p348 v_i349).bind fun (v_y372 : Int) =>
    if v_y372 = 0 then
     some (.x0 false v_w352)
    else
     (getI v_p348 v_k351).bind fun (v_y373 : Int) =>
     (getI v_p348 v_i349).bind fun (v_y374 : Int) =>
     some (.x0 (v_y373 == (wi .i64 ((wi .i64 (v_y374 + v_k351)) - v_i349))) v_w352)
  else
   some (.x0 false v_w352)
theorem G_ringref3_Runs_C1_ok {Fi : Ex → PS → Prop} (hF : KC 67 Fi) (ks : List Fr) (n : Nat) (v_p348 : (List Int)) (v_i349 : Int) (v_k351 : Int) (v_w352 : (List (Fin 2 → Int)))  (o : G_ringref3_Runs_C1_R) (h : G_ringref3_Runs_C1 n v_p348 v_i349 v_k351 v_w352 = some o) (q : RunE Try.prog 67 Fi ks (G_ringref3_Runs_C1_ex o) (G_ringref3_Runs_C1_st v_p348 v_i349 v_k351 v_w352 o)) : RunE Try.prog 67 Fi (.s (cL (cL (cP (cB (cL (cR (cB (cR (cP (cB (cR (cL (cR (cR (bodyOf Try.f74))))))))))))))) :: ks) .normal (G_ringref3_Runs_C1_hd v_p348 v_i349 v_k351 v_w352) := by
  unfold G_ringref3_Runs_C1 at h
  by_cases h446 : v_k351 < (v_p348.length : Int)
  · rw [if_pos h446] at h
    obtain ⟨v_y361, h447, h⟩ := bind_some h
    by_cases h448 : v_y361 = 0
    · rw [if_pos h448] at h
      obtain ⟨v_y362, h449, h⟩ := bind_some h
      by_cases h450 : v_y362 = 0
      · rw [if_pos h450] at h
        cases h
        exact pkk_sound TTok mix hF 1 (hs := [.u (.d (.v (.int .i64 (v_p348.length : Int)))), .t true, .c, .c, .y ((eI .i64) v_y361), .c, .c, .c, .c, .t true, .c, .c, .y ((eI .i64) v_y362), .c, .c, .c, .c, .c, .t true, .c, .c, .c, .c, .c, .c, .c]) (ts := []) (s := [0]) (l := [0, 3, 4, 5, 51]) (by kernel_rfl) (by kernel_rfl) (.cons (len_ob (f := (eI .i64)) (l := v_p348)) (.cons (dt h446) (.cons (getI_ob (f := (eI .i64)) h447) (.cons (bt h448) (.cons (getI_ob (f := (eI .i64)) h449) (.cons (bt h450) .nil)))))) q
      · rw [if_neg h450] at h
        obtain ⟨v_y365, h451, h⟩ := bind_some h
        by_cases h452 : v_y365 = 0
        · rw [if_pos h452] at h
          cases h
          exact pkk_sound TTok mix hF 1 (hs := [.u (.d (.v (.int .i64 (v_p348.length : Int)))), .t true, .c, .c, .y ((eI .i64) v_y361), .c, .c, .c, .c, .t true, .c, .c, .y ((eI .i64) v_y362), .c, .c, .c, .c, .c, .t false, .c, .c, .y ((eI .i64) v_y365), .c, .c, .c, .c, .t false, .c, .c, .c, .c, .c, .c, .c, .c, .c, .c, .c, .c, .c, .c]) (ts := []) (s := [0]) (l := [0, 3, 4, 5, 51]) (by kernel_rfl) (by kernel_rfl) (.cons (len_ob (f := (eI .i64)) (l := v_p348)) (.cons (dt h446) (.cons (getI_ob (f := (eI .i64)) h447) (.cons (bt h448) (.cons (getI_ob (f := (eI .i64)) h449) (.cons (bf h450) (.cons (getI_ob (f := (eI .i64)) h451) (.cons (nf h452) .nil)))))))) q
        · rw [if_neg h452] at h
          obtain ⟨v_y366, h453, h⟩ := bind_some h
          obtain ⟨v_y367, h454, h⟩ := bind_some h
          cases h
          exact pkk_sound TTok mix hF 1 (hs := [.u (.d (.v (.int .i64 (v_p348.length : Int)))), .t true, .c, .c, .y ((eI .i64) v_y361), .c, .c, .c, .c, .t true, .c, .c, .y ((eI .i64) v_y362), .c, .c, .c, .c, .c, .t false, .c, .c, .y ((eI .i64) v_y365), .c, .c, .c, .c, .t true, .c, .c, .y ((eI .i64) v_y366), .c, .c, .c, .c, .c, .y ((eI .i64) v_y367), .c, .c, .c, .c, .c, .c, .c, .c, .c]) (ts := []) (s := [0]) (l := [0, 3, 4, 5, 51]) (by kernel_rfl) (by kernel_rfl) (.cons (len_ob (f := (eI .i64)) (l := v_p348)) (.cons (dt h446) (.cons (getI_ob (f := (eI .i64)) h447) (.cons (bt h448) (.cons (getI_ob (f := (eI .i64)) h449) (.cons (bf h450) (.cons (getI_ob (f := (eI .i64)) h451) (.cons (nt h452) (.cons (getI_ob (f := (eI .i64)) h453) (.cons (getI_ob (f := (eI .i64)) h454) .nil)))))))))) q
    · rw [if_neg h448] at h
      obtain ⟨v_y372, h455, h⟩ := bind_some h
      by_cases h456 : v_y372 = 0
      · rw [if_pos h456] at h
        cases h
        exact pkk_sound TTok mix hF 1 (hs := [.u (.d (.v (.int .i64 (v_p348.length : Int)))), .t true, .c, .c, .y ((eI .i64) v_y361), .c, .c, .c, .c, .t false, .c, .c, .c, .c, .c, .c, .c, .c, .c, .y ((eI .i64) v_y372), .c, .c, .c, .c, .t false, .c, .c, .c, .c, .c, .c, .c, .c, .c, .c, .c, .c, .c, .c]) (ts := []) (s := [0]) (l := [0, 3, 4, 5, 51]) (by kernel_rfl) (by kernel_rfl) (.cons (len_ob (f := (eI .i64)) (l := v_p348)) (.cons (dt h446) (.cons (getI_ob (f := (eI .i64)) h447) (.cons (bf h448) (.cons (getI_ob (f := (eI .i64)) h455) (.cons (nf h456) .nil)))))) q
      · rw [if_neg h456] at h
        obtain ⟨v_y373, h457, h⟩ := bind_some h
        obtain ⟨v_y374, h458, h⟩ := bind_some h
        cases h
        exact pkk_sound TTok mix hF 1 (hs := [.u (.d (.v (.int .i64 (v_p348.length : Int)))), .t true, .c, .c, .y ((eI .i64) v_y361), .c, .c, .c, .c, .t false, .c, .c, .c, .c, .c, .c, .c, .c, .c, .y ((eI .i64) v_y372), .c, .c, .c, .c, .t true, .c, .c, .y ((eI .i64) v_y373), .c, .c, .c, .c, .c, .y ((eI .i64) v_y374), .c, .c, .c, .c, .c, .c, .c, .c, .c]) (ts := []) (s := [0]) (l := [0, 3, 4, 5, 51]) (by kernel_rfl) (by kernel_rfl) (.cons (len_ob (f := (eI .i64)) (l := v_p348)) (.cons (dt h446) (.cons (getI_ob (f := (eI .i64)) h447) (.cons (bf h448) (.cons (getI_ob (f := (eI .i64)) h455) (.cons (nt h456) (.cons (getI_ob (f := (eI .i64)) h457) (.cons (getI_ob (f := (eI .i64)) h458) .nil)))))))) q
  · rw [if_neg h446] at h
    cases h
    exact pkk_sound TTok mix hF 1 (hs := [.u (.d (.v (.int .i64 (v_p348.length : Int)))), .t false, .c, .c, .c, .c, .c, .c, .c, .c]) (ts := []) (s := [0]) (l := [0, 3, 4, 5, 51]) (by kernel_rfl) (by kernel_rfl) (.cons (len_ob (f := (eI .i64)) (l := v_p348)) (.cons (df h446) .nil)) q
inductive G_ringref3_Runs_L2_R where
  | x0 (v_k384 : Int) (v_w385 : (List (Fin 2 → Int)))
def G_ringref3_Runs_L2_ex : G_ringref3_Runs_L2_R → Ex
  | .x0 _ _ => .exit 2
def G_ringref3_Runs_L2_st (v_p348 : (List Int)) (v_i349 : Int) : G_ringref3_Runs_L2_R → PS
  | .x0 v_k384 v_w385 => ⟨[.d (.sl (v_p348.map (eI .i64))), dd, dd, .srf 0, .d (.v (.int .i64 v_i349)), .d (.v (.int .i64 v_k384)), dd, dd, dd, dd, dd, dd, dd, dd, dd, dd, dd, dd, dd, dd, dd, dd, dd, dd, dd, dd, dd, dd, dd, dd, dd, dd, dd, dd, dd, dd, dd, dd, dd, dd, dd, dd, dd, dd, dd, dd, dd, dd, dd, dd, dd, dd, dd, dd, dd, dd, dd, dd, dd, dd, dd, dd, dd, dd, dd, dd, dd], [.row 121 2 (v_w385.map (fun x => PV.agg [.v (.int .i64 (x 0)), .v (.int .i64 (x 1))]))]⟩
def G_ringref3_Runs_L2_hd (v_p348 : (List Int)) (v_i349 : Int) (v_k351 : Int) (v_w352 : (List (Fin 2 → Int))) : PS := ⟨[.d (.sl (v_p348.map (eI .i64))), dd, dd, .srf 0, .d (.v (.int .i64 v_i349)), .d (.v (.int .i64 v_k351)), dd, dd, dd, dd, dd, dd, dd, dd, dd, dd, dd, dd, dd, dd, dd, dd, dd, dd, dd, dd, dd, dd, dd, dd, dd, dd, dd, dd, dd, dd, dd, dd, dd, dd, dd, dd, dd, dd, dd, dd, dd, dd, dd, dd, dd, dd, dd, dd, dd, dd, dd, dd, dd, dd, dd, dd, dd, dd, dd, dd, dd], [.row 121 2 (v_w352.map (fun x => PV.agg [.v (.int .i64 (x 0)), .v (.int .i64 (x 1))]))]⟩
def G_ringref3_Runs_L2 (n : Nat) (v_p348 : (List Int)) (v_i349 : Int) : Nat → Int → (List (Fin 2 → Int)) → Option G_ringref3_Runs_L2_R
  | 0, _, _ => none
  | k + 1, v_k351, v_w352 =>
    (G_ringref3_Runs_C1 n v_p348 v_i349 v_k351 v_w352).bind fun v_o381 => match v_o381 with
    | .x0 v_z382 v_z383 =>
      if v_z382 = true then
       G_ringref3_Runs_L2 n v_p348 v_i349 k (wi .i64 (v_k351 + 1)) v_z383
      else
       some (.x0 v_k351 v_z383)
theorem G_ringref3_Runs_L2_ok {Fi : Ex → PS → Prop} (hF : KC 67 Fi) (ks : List Fr) (n : Nat) (v_p348 : (List Int)) (v_i349 : Int)  : ∀ (k : Nat) (v_k351 : Int) (v_w352 : (List (Fin 2 → Int))) (o : G_ringref3_Runs_L2_R), G_ringref3_Runs_L2 n v_p348 v_i349 k v_k351 v_w352 = some o → RunE Try.prog 67 Fi ks (G_ringref3_Runs_L2_ex o) (G_ringref3_Runs_L2_st v_p348 v_i349 o) → RunE Try.prog 67 Fi (.l k (cP (cB (cL (cR (cB (cR (cP (cB (cR (cL (cR (cR (bodyOf Try.f74))))))))))))) :: ks) .normal (G_ringref3_Runs_L2_hd v_p348 v_i349 v_k351 v_w352)
  | 0, v_k351, v_w352, o, h, q => by rw [G_ringref3_Runs_L2] at h; cases h
  | k + 1, v_k351, v_w352, o, h, q => by
    rw [G_ringref3_Runs_L2] at h
    obtain ⟨v_o381, h459, h⟩ := bind_some h
    refine pkk_sound TTok mix hF 3 (hs := []) (ts := []) (s := [0]) (l := [0, 3, 4, 5]) (by kernel_rfl) (by kernel_rfl) .nil (G_ringref3_Runs_C1_ok hF (.s (cR (cL (cP (cB (cL (cR (cB (cR (cP (cB (cR (cL (cR (cR (bodyOf Try.f74))))))))))))))) :: .s (cR (cP (cB (cL (cR (cB (cR (cP (cB (cR (cL (cR (cR (bodyOf Try.f74)))))))))))))) :: .l k (cP (cB (cL (cR (cB (cR (cP (cB (cR (cL (cR (cR (bodyOf Try.f74))))))))))))) :: ks) n v_p348 v_i349 v_k351 v_w352 _ h459 ?_)
    cases v_o381 with
    | x0 v_z382 v_z383 =>
      try dsimp only at h
      by_cases h460 : v_z382 = true
      · rw [if_pos h460] at h
        exact pkk_sound TTok mix hF 5 (hs := [.t true]) (ts := []) (s := [0]) (l := [0, 3, 4, 5]) (by kernel_rfl) (by kernel_rfl) (.cons h460 .nil) (G_ringref3_Runs_L2_ok hF ks n v_p348 v_i349 k (wi .i64 (v_k351 + 1)) v_z383 _ h q)
      · rw [if_neg h460] at h
        cases h
        exact pkk_sound TTok mix hF 4 (hs := [.t false]) (ts := []) (s := [0]) (l := [0, 3, 4, 5]) (by kernel_rfl) (by kernel_rfl) (.cons (vf h460) .nil) q
inductive G_ringref3_Runs_L3_R where
  | x0 (v_w391 : (List (Fin 2 → Int)))
def G_ringref3_Runs_L3_ex : G_ringref3_Runs_L3_R → Ex
  | .x0 _ => .exit 0
def G_ringref3_Runs_L3_st (v_p348 : (List Int)) : G_ringref3_Runs_L3_R → PS
  | .x0 v_w391 => ⟨[dd, dd, dd, .srf 0, dd, dd, dd, dd, dd, dd, dd, dd, dd, dd, dd, dd, dd, dd, dd, dd, dd, dd, dd, dd, dd, dd, dd, dd, dd, dd, dd, dd, dd, dd, dd, dd, dd, dd, dd, dd, dd, dd, dd, dd, dd, dd, dd, dd, dd, dd, dd, dd, dd, dd, dd, dd, dd, dd, dd, dd, dd, dd, dd, dd, dd, dd, dd], [.row 121 2 (v_w391.map (fun x => PV.agg [.v (.int .i64 (x 0)), .v (.int .i64 (x 1))]))]⟩
def G_ringref3_Runs_L3_hd (v_p348 : (List Int)) (v_i349 : Int) (v_w350 : (List (Fin 2 → Int))) : PS := ⟨[.d (.sl (v_p348.map (eI .i64))), dd, dd, .srf 0, .d (.v (.int .i64 v_i349)), dd, dd, dd, dd, dd, dd, dd, dd, dd, dd, dd, dd, dd, dd, dd, dd, dd, dd, dd, dd, dd, dd, dd, dd, dd, dd, dd, dd, dd, dd, dd, dd, dd, dd, dd, dd, dd, dd, dd, dd, dd, dd, dd, dd, dd, dd, dd, dd, dd, dd, dd, dd, dd, dd, dd, dd, dd, dd, dd, dd, dd, dd], [.row 121 2 (v_w350.map (fun x => PV.agg [.v (.int .i64 (x 0)), .v (.int .i64 (x 1))]))]⟩
def G_ringref3_Runs_L3 (n : Nat) (v_p348 : (List Int)) : Nat → Int → (List (Fin 2 → Int)) → Option G_ringref3_Runs_L3_R
  | 0, _, _ => none
  | k + 1, v_i349, v_w350 =>
    if v_i349 < (v_p348.length : Int) then
     (G_ringref3_Runs_L2 n v_p348 v_i349 n (wi .i64 (v_i349 + 1)) v_w350).bind fun v_o386 => match v_o386 with
     | .x0 v_z387 v_z388 =>
       (getI v_p348 v_i349).bind fun (v_y389 : Int) =>
       (app 16 v_z388 ([(fun i : Fin 2 => [v_y389, (wi .i64 (v_z387 - v_i349))].get i)])).bind fun (v_a390 : (List (Fin 2 → Int))) =>
       G_ringref3_Runs_L3 n v_p348 k v_z387 v_a390
    else
     some (.x0 v_w350)
theorem G_ringref3_Runs_L3_ok {Fi : Ex → PS → Prop} (hF : KC 67 Fi) (ks : List Fr) (n : Nat) (v_p348 : (List Int))  : ∀ (k : Nat) (v_i349 : Int) (v_w350 : (List (Fin 2 → Int))) (o : G_ringref3_Runs_L3_R), G_ringref3_Runs_L3 n v_p348 k v_i349 v_w350 = some o → RunE Try.prog 67 Fi ks (G_ringref3_Runs_L3_ex o) (G_ringref3_Runs_L3_st v_p348 o) → RunE Try.prog 67 Fi (.l k (cP (cB (cR (cL (cR (cR (bodyOf Try.f74))))))) :: ks) .normal (G_ringref3_Runs_L3_hd v_p348 v_i349 v_w350)
  | 0, v_i349, v_w350, o, h, q => by rw [G_ringref3_Runs_L3] at h; cases h
  | k + 1, v_i349, v_w350, o, h, q => by
    rw [G_ringref3_Runs_L3] at h
    by_cases h432 : v_i349 < (v_p348.length : Int)
    · rw [if_pos h432] at h
      obtain ⟨v_o386, h461, h⟩ := bind_some h
      refine pkk_sound TTok mix hF 12 (hs := [.u (.d (.v (.int .i64 (v_p348.length : Int)))), .t true, .n n]) (ts := []) (s := [0]) (l := [0, 3, 4, 5]) (by kernel_rfl) (by kernel_rfl) (.cons (len_ob (f := (eI .i64)) (l := v_p348)) (.cons (dt h432) .nil)) (G_ringref3_Runs_L2_ok hF (.b 2 :: .s (cR (cR (cB (cR (cP (cB (cR (cL (cR (cR (bodyOf Try.f74))))))))))) :: .b 1 :: .l k (cP (cB (cR (cL (cR (cR (bodyOf Try.f74))))))) :: ks) n v_p348 v_i349 n (wi .i64 (v_i349 + 1)) v_w350 _ h461 ?_)
      cases v_o386 with
      | x0 v_z387 v_z388 =>
        try dsimp only at h
        obtain ⟨v_y389, h462, h⟩ := bind_some h
        obtain ⟨v_a390, h463, h⟩ := bind_some h
        exact pkk_sound TTok mix hF 5 (hs := [.y ((eI .i64) v_y389), .c, .bd, .w (v_a390.map (fun x => PV.agg [.v (.int .i64 (x 0)), .v (.int .i64 (x 1))]))]) (ts := []) (s := [31]) (l := [0, 3, 4]) (by kernel_rfl) (by kernel_rfl) (.cons (getI_ob (f := (eI .i64)) h462) (.cons (app_ob (f := (fun x => PV.agg [.v (.int .i64 (x 0)), .v (.int .i64 (x 1))])) (s := 2) h463 (fun _ => rfl)).1 (.cons (app_ob (f := (fun x => PV.agg [.v (.int .i64 (x 0)), .v (.int .i64 (x 1))])) (s := 2) h463 (fun _ => rfl)).2.1 (.cons (app_ob (f := (fun x => PV.agg [.v (.int .i64 (x 0)), .v (.int .i64 (x 1))])) (s := 2) h463 (fun _ => rfl)).2.2.1 (.cons (app_ob (f := (fun x => PV.agg [.v (.int .i64 (x 0)), .v (.int .i64 (x 1))])) (s := 2) h463 (fun _ => rfl)).2.2.2 .nil))))) (G_ringref3_Runs_L3_ok hF ks n v_p348 k v_z387 v_a390 _ h q)
    · rw [if_neg h432] at h
      cases h
      exact pkk_sound TTok mix hF 8 (hs := [.u (.d (.v (.int .i64 (v_p348.length : Int)))), .t false]) (ts := []) (s := [0]) (l := [3]) (by kernel_rfl) (by kernel_rfl) (.cons (len_ob (f := (eI .i64)) (l := v_p348)) (.cons (df h432) .nil)) q
/- ringhall/ringref3.Runs -/
def G_ringref3_Runs (n : Nat) (v_p348 : (List Int)) : Option ((List (Fin 2 → Int))) :=
  (G_ringref3_Runs_L3 n v_p348 n 0 ([] : List (Fin 2 → Int))).bind fun v_o392 => match v_o392 with
  | .x0 v_z393 =>
    some v_z393
theorem G_ringref3_Runs_ok (n : Nat) (v_p348 : (List Int)) (r : (List (Fin 2 → Int))) (h : G_ringref3_Runs n v_p348 = some r) : Ret Try.prog 74 [(eL (eI .i64)) v_p348] ((eL (fun x => PV.agg [.v (.int .i64 (x 0)), .v (.int .i64 (x 1))])) r) := by
  refine ret_run (n := 67) (fn := Try.f74) (c := bodyOf Try.f74) (by kernel_rfl) (by kernel_rfl) (by kernel_rfl) (by kernel_rfl) ?_
  have hF : KC 67 (FinR Try.prog Try.f74 ((eL (fun x => PV.agg [.v (.int .i64 (x 0)), .v (.int .i64 (x 1))])) r)) := FinR.kc' (by kernel_rfl)
  unfold G_ringref3_Runs at h
  obtain ⟨v_o392, h464, h⟩ := bind_some h
  refine pkk_sound TTok mix hF 9 (hs := [.n n]) (ts := [(3, 121, 2)]) (s := [9]) (l := [0, 3, 4]) (by kernel_rfl) (by kernel_rfl) .nil (G_ringref3_Runs_L3_ok hF (.b 0 :: .s (cR (cR (cR (bodyOf Try.f74)))) :: []) n v_p348 n 0 ([] : List (Fin 2 → Int)) _ h464 ?_)
  cases v_o392 with
  | x0 v_z393 =>
    try dsimp only at h
    obtain rfl := Option.some.inj h
    exact pend_sound TTok mix 4 (hs := []) (by kernel_rfl) (by kernel_rfl) (by kernel_rfl) .nil
def G_strings_Repeat (n : Nat) (s : ByteArray) (c : Int) : Option ByteArray := if 0 ≤ c ∧ c ≤ 9223372036854775807 ∧ s.size * c.toNat ≤ 140737488355328 then some ⟨(Lib.repeatL s.data.toList c.toNat).toArray⟩ else none
theorem G_strings_Repeat_ok (n : Nat) (s : ByteArray) (c : Int) (r : ByteArray) (h : G_strings_Repeat n s c = some r) : Ret Try.prog 138 [eS s, eI .i64 c] (eS r) := by
  unfold G_strings_Repeat at h
  split at h
  · rename_i q
    obtain ⟨q1, q2, q3⟩ := q
    obtain rfl := Option.some.inj h
    obtain ⟨c, rfl⟩ := Int.eq_ofNat_of_zero_le q1
    refine ⟨⟨Try.f138, by kernel_rfl, by kernel_rfl, by kernel_rfl⟩, fun ow w vs _ hv => ?_⟩
    simp only [RT, R, eS, eI] at hv
    obtain ⟨_, _, rfl, ⟨rfl, _⟩, _, _, rfl, ⟨rfl, _⟩, rfl⟩ := hv
    refine (Try.strings_Repeat s c w (by omega) (by simpa using q3)).mono ?_
    rintro e w' ⟨rfl, hb⟩
    exact ⟨_, rfl, hb, rfl, rfl⟩
  · cases h
inductive G_ringref3_PointsPack_L1_R where
  | x0 (v_s401 : ByteArray)
def G_ringref3_PointsPack_L1_ex : G_ringref3_PointsPack_L1_R → Ex
  | .x0 _ => .exit 0
def G_ringref3_PointsPack_L1_st (v_r394 : ((List (Fin 2 → Int)))) : G_ringref3_PointsPack_L1_R → PS
  | .x0 v_s401 => ⟨[dd, dd, dd, .d (.v (.string v_s401)), dd, dd, dd, dd, dd, dd, dd, dd, dd, dd, dd, dd, dd, dd, dd, dd, dd, dd, dd, dd, dd, dd, dd, dd, dd, dd], []⟩
def G_ringref3_PointsPack_L1_hd (v_r394 : ((List (Fin 2 → Int)))) (v_s395 : ByteArray) (v_x396 : Int) : PS := ⟨[dd, dd, dd, .d (.v (.string v_s395)), dd, dd, dd, .d (.sl (v_r394.map (fun x => PV.agg [.v (.int .i64 (x 0)), .v (.int .i64 (x 1))]))), .d (.v (.int .i64 (v_r394.length : Int))), .d (.v (.int .i64 v_x396)), dd, dd, dd, dd, dd, dd, dd, dd, dd, dd, dd, dd, dd, dd, dd, dd, dd, dd, dd, dd], []⟩
def G_ringref3_PointsPack_L1 (n : Nat) (v_r394 : ((List (Fin 2 → Int)))) : Nat → ByteArray → Int → Option G_ringref3_PointsPack_L1_R
  | 0, _, _ => none
  | k + 1, v_s395, v_x396 =>
    if v_x396 < (v_r394.length : Int) then
     (getI v_r394 v_x396).bind fun (v_y399 : (Fin 2 → Int)) =>
     (catS v_s395 (b2s ([(wi .u8 (v_y399 0)), (wi .u8 (v_y399 1))]))).bind fun (v_s400 : ByteArray) =>
     G_ringref3_PointsPack_L1 n v_r394 k v_s400 (wi .i64 (v_x396 + 1))
    else
     some (.x0 v_s395)
theorem G_ringref3_PointsPack_L1_ok {Fi : Ex → PS → Prop} (hF : KC 30 Fi) (ks : List Fr) (n : Nat) (v_r394 : ((List (Fin 2 → Int))))  : ∀ (k : Nat) (v_s395 : ByteArray) (v_x396 : Int) (o : G_ringref3_PointsPack_L1_R), G_ringref3_PointsPack_L1 n v_r394 k v_s395 v_x396 = some o → RunE Try.prog 30 Fi ks (G_ringref3_PointsPack_L1_ex o) (G_ringref3_PointsPack_L1_st v_r394 o) → RunE Try.prog 30 Fi (.l k (cP (cB (cR (cL (cR (cR (bodyOf Try.f75))))))) :: ks) .normal (G_ringref3_PointsPack_L1_hd v_r394 v_s395 v_x396)
  | 0, v_s395, v_x396, o, h, q => by rw [G_ringref3_PointsPack_L1] at h; cases h
  | k + 1, v_s395, v_x396, o, h, q => by
    rw [G_ringref3_PointsPack_L1] at h
    by_cases h466 : v_x396 < (v_r394.length : Int)
    · rw [if_pos h466] at h
      obtain ⟨v_y399, h469, h⟩ := bind_some h
      obtain ⟨v_s400, h470, h⟩ := bind_some h
      exact pkk_sound TTok mix hF 13 (hs := [.t true, .y ((fun x => PV.agg [.v (.int .i64 (x 0)), .v (.int .i64 (x 1))]) v_y399), .c, .c, .c, .w ([(wi .u8 (v_y399 0)), (wi .u8 (v_y399 1))].map (eI .u8)), .e 39 [36] (.d (.v (.string (b2s ([(wi .u8 (v_y399 0)), (wi .u8 (v_y399 1))]))))) [], .e 42 [] (.d (.v (.string v_s400))) []]) (ts := []) (s := []) (l := [3, 7, 8, 9]) (by kernel_rfl) (by kernel_rfl) (.cons (dt h466) (.cons (getI_ob (f := (fun x => PV.agg [.v (.int .i64 (x 0)), .v (.int .i64 (x 1))])) h469) (.cons (show 0 + 2 ≤ 2 by decide) (.cons (show (0 : Int) ≤ 0 ∧ (0 : Int) < 2 by decide) (.cons (show (0 : Int) ≤ 1 ∧ (1 : Int) < 2 by decide) (.cons (Eq.refl ([(wi .u8 (v_y399 0)), (wi .u8 (v_y399 1))].map (eI .u8))) (.cons (xb2sR (l := 36) (L := [(wi .u8 (v_y399 0)), (wi .u8 (v_y399 1))]) (P := Try.prog) (T := TT) (src := 107) (dst := 9) (e := 5) (s := 1) (x := (.tmp 20)) (by kernel_rfl) (by kernel_rfl) (by kernel_rfl)) (.cons (xcatS (P := Try.prog) (T := TT) (t := 9) (ty' := 9) (x := (.tmp 13)) (y := (.tmp 21)) (p := v_s395) (q := (b2s ([(wi .u8 (v_y399 0)), (wi .u8 (v_y399 1))]))) (r := v_s400) h470) .nil)))))))) (G_ringref3_PointsPack_L1_ok hF ks n v_r394 k v_s400 (wi .i64 (v_x396 + 1)) _ h q)
    · rw [if_neg h466] at h
      cases h
      exact pkk_sound TTok mix hF 8 (hs := [.t false]) (ts := []) (s := []) (l := [3]) (by kernel_rfl) (by kernel_rfl) (.cons (df h466) .nil) q
/- ringhall/ringref3.PointsPack -/
def G_ringref3_PointsPack (n : Nat) (v_p347 : (List Int)) : Option (ByteArray) :=
  (G_ringref3_Runs n v_p347).bind fun (v_r394 : ((List (Fin 2 → Int)))) =>
  (G_ringref3_PointsPack_L1 n v_r394 n (ByteArray.mk #[]) 0).bind fun v_o402 => match v_o402 with
  | .x0 v_z403 =>
    (G_strings_Repeat n (ByteArray.mk #[0]) (wi .i64 (16 - (v_z403.size : Int)))).bind fun (v_r404 : (ByteArray)) =>
    (catS v_z403 v_r404).bind fun (v_s405 : ByteArray) =>
    some v_s405
theorem G_ringref3_PointsPack_ok (n : Nat) (v_p347 : (List Int)) (r : ByteArray) (h : G_ringref3_PointsPack n v_p347 = some r) : Ret Try.prog 75 [(eL (eI .i64)) v_p347] (eS r) := by
  refine ret_run (n := 30) (fn := Try.f75) (c := bodyOf Try.f75) (by kernel_rfl) (by kernel_rfl) (by kernel_rfl) (by kernel_rfl) ?_
  have hF : KC 30 (FinR Try.prog Try.f75 (eS r)) := FinR.kc' (by kernel_rfl)
  unfold G_ringref3_PointsPack at h
  obtain ⟨v_r394, h465, h⟩ := bind_some h
  obtain ⟨v_o402, h471, h⟩ := bind_some h
  refine pkk_sound TTok mix hF 9 (hs := [.r ((eL (fun x => PV.agg [.v (.int .i64 (x 0)), .v (.int .i64 (x 1))])) v_r394), .u (.d (.v (.int .i64 (v_r394.length : Int)))), .n n]) (ts := []) (s := []) (l := [3, 7, 8, 9]) (by kernel_rfl) (by kernel_rfl) (.cons (G_ringref3_Runs_ok n v_p347 _ h465) (.cons (len_ob (f := (fun x => PV.agg [.v (.int .i64 (x 0)), .v (.int .i64 (x 1))])) (l := v_r394)) .nil)) (G_ringref3_PointsPack_L1_ok hF (.b 0 :: .s (cR (cR (cR (bodyOf Try.f75)))) :: []) n v_r394 n (ByteArray.mk #[]) 0 _ h471 ?_)
  cases v_o402 with
  | x0 v_z403 =>
    try dsimp only at h
    obtain ⟨v_r404, h472, h⟩ := bind_some h
    obtain ⟨v_s405, h473, h⟩ := bind_some h
    obtain rfl := Option.some.inj h
    exact pend_sound TTok mix 4 (hs := [.r (eS v_r404), .e 15 [] (.d (.v (.string v_s405))) []]) (by kernel_rfl) (by kernel_rfl) (by kernel_rfl) (.cons (G_strings_Repeat_ok n (ByteArray.mk #[0]) (wi .i64 (16 - (v_z403.size : Int))) _ h472) (.cons (xcatS (P := Try.prog) (T := TT) (t := 9) (ty' := 9) (x := (.tmp 24)) (y := (.tmp 28)) (p := v_z403) (q := v_r404) (r := v_s405) h473) .nil))
inductive G_ringref3_PointsUnpack_L1_R where
  | x0 (v_w301 : (List (Fin 2 → Int)))
def G_ringref3_PointsUnpack_L1_ex : G_ringref3_PointsUnpack_L1_R → Ex
  | .x0 _ => .exit 0
def G_ringref3_PointsUnpack_L1_st (v_s293 : ByteArray) : G_ringref3_PointsUnpack_L1_R → PS
  | .x0 v_w301 => ⟨[.d (.v (.string v_s293)), dd, dd, dd, .srf 0, dd, dd, dd, dd, dd, dd, dd, dd, dd, dd, dd, dd, dd, dd, dd, dd, dd, dd, dd, dd, dd, dd, dd, dd, dd, dd, dd, dd, dd, dd, dd, dd, dd, dd, dd, dd, dd, dd, dd, dd, dd, dd], [.row 121 2 (v_w301.map (fun x => PV.agg [.v (.int .i64 (x 0)), .v (.int .i64 (x 1))]))]⟩
def G_ringref3_PointsUnpack_L1_hd (v_s293 : ByteArray) (v_i294 : Int) (v_w295 : (List (Fin 2 → Int))) : PS := ⟨[.d (.v (.string v_s293)), dd, dd, dd, .srf 0, .d (.v (.int .i64 v_i294)), dd, dd, dd, dd, dd, dd, dd, dd, dd, dd, dd, dd, dd, dd, dd, dd, dd, dd, dd, dd, dd, dd, dd, dd, dd, dd, dd, dd, dd, dd, dd, dd, dd, dd, dd, dd, dd, dd, dd, dd, dd], [.row 121 2 (v_w295.map (fun x => PV.agg [.v (.int .i64 (x 0)), .v (.int .i64 (x 1))]))]⟩
def G_ringref3_PointsUnpack_L1 (n : Nat) (v_s293 : ByteArray) : Nat → Int → (List (Fin 2 → Int)) → Option G_ringref3_PointsUnpack_L1_R
  | 0, _, _ => none
  | k + 1, v_i294, v_w295 =>
    if v_i294 < 16 then
     (getS v_s293 (wi .i64 (v_i294 + 1))).bind fun (v_y300 : Int) =>
     if v_y300 = 0 then
      some (.x0 v_w295)
     else
      (getS v_s293 v_i294).bind fun (v_y302 : Int) =>
      (getS v_s293 (wi .i64 (v_i294 + 1))).bind fun (v_y303 : Int) =>
      (app 16 v_w295 ([(fun i : Fin 2 => [(wi .i64 v_y302), (wi .i64 v_y303)].get i)])).bind fun (v_a304 : (List (Fin 2 → Int))) =>
      G_ringref3_PointsUnpack_L1 n v_s293 k (wi .i64 (v_i294 + 2)) v_a304
    else
     some (.x0 v_w295)
theorem G_ringref3_PointsUnpack_L1_ok {Fi : Ex → PS → Prop} (hF : KC 47 Fi) (ks : List Fr) (n : Nat) (v_s293 : ByteArray)  : ∀ (k : Nat) (v_i294 : Int) (v_w295 : (List (Fin 2 → Int))) (o : G_ringref3_PointsUnpack_L1_R), G_ringref3_PointsUnpack_L1 n v_s293 k v_i294 v_w295 = some o → RunE Try.prog 47 Fi ks (G_ringref3_PointsUnpack_L1_ex o) (G_ringref3_PointsUnpack_L1_st v_s293 o) → RunE Try.prog 47 Fi (.l k (cP (cB (cR (cL (cR (cR (cR (bodyOf Try.f71)))))))) :: ks) .normal (G_ringref3_PointsUnpack_L1_hd v_s293 v_i294 v_w295)
  | 0, v_i294, v_w295, o, h, q => by rw [G_ringref3_PointsUnpack_L1] at h; cases h
  | k + 1, v_i294, v_w295, o, h, q => by
    rw [G_ringref3_PointsUnpack_L1] at h
    by_cases h388 : v_i294 < 16
    · rw [if_pos h388] at h
      obtain ⟨v_y300, h394, h⟩ := bind_some h
      by_cases h395 : v_y300 = 0
      · rw [if_pos h395] at h
        cases h
        exact pkk_sound TTok mix hF 17 (hs := [.t true, .l (.d (.v (.int .u8 v_y300))), .t true]) (ts := []) (s := [0]) (l := [0, 4]) (by kernel_rfl) (by kernel_rfl) (.cons (dt h388) (.cons (getS_ob h394) (.cons (bt h395) .nil))) q
      · rw [if_neg h395] at h
        obtain ⟨v_y302, h396, h⟩ := bind_some h
        obtain ⟨v_y303, h397, h⟩ := bind_some h
        obtain ⟨v_a304, h398, h⟩ := bind_some h
        exact pkk_sound TTok mix hF 16 (hs := [.t true, .l (.d (.v (.int .u8 v_y300))), .t false, .l (.d (.v (.int .u8 v_y302))), .l (.d (.v (.int .u8 v_y303))), .bd, .w (v_a304.map (fun x => PV.agg [.v (.int .i64 (x 0)), .v (.int .i64 (x 1))]))]) (ts := []) (s := [58]) (l := [0, 4, 5]) (by kernel_rfl) (by kernel_rfl) (.cons (dt h388) (.cons (getS_ob h394) (.cons (bf h395) (.cons (getS_ob h396) (.cons (getS_ob h397) (.cons (app_ob (f := (fun x => PV.agg [.v (.int .i64 (x 0)), .v (.int .i64 (x 1))])) (s := 2) h398 (fun _ => rfl)).1 (.cons (app_ob (f := (fun x => PV.agg [.v (.int .i64 (x 0)), .v (.int .i64 (x 1))])) (s := 2) h398 (fun _ => rfl)).2.1 (.cons (app_ob (f := (fun x => PV.agg [.v (.int .i64 (x 0)), .v (.int .i64 (x 1))])) (s := 2) h398 (fun _ => rfl)).2.2.1 (.cons (app_ob (f := (fun x => PV.agg [.v (.int .i64 (x 0)), .v (.int .i64 (x 1))])) (s := 2) h398 (fun _ => rfl)).2.2.2 .nil))))))))) (G_ringref3_PointsUnpack_L1_ok hF ks n v_s293 k (wi .i64 (v_i294 + 2)) v_a304 _ h q)
    · rw [if_neg h388] at h
      cases h
      exact pkk_sound TTok mix hF 8 (hs := [.t false]) (ts := []) (s := [0]) (l := [0, 4]) (by kernel_rfl) (by kernel_rfl) (.cons (df h388) .nil) q
/- ringhall/ringref3.PointsUnpack -/
def G_ringref3_PointsUnpack (n : Nat) (v_s293 : ByteArray) : Option ((List Int) × Int) :=
  if (v_s293.size : Int) = 16 then
   (G_ringref3_PointsUnpack_L1 n v_s293 n 0 ([] : List (Fin 2 → Int))).bind fun v_o306 => match v_o306 with
   | .x0 v_z307 =>
     (G_ringref3_Unruns n v_z307).bind fun (v_r346 : ((List Int) × Int)) =>
     if v_r346.2 = 0 then
      (G_ringref3_PointsPack n v_r346.1).bind fun (v_r407 : (ByteArray)) =>
      if (!(v_r407.toList == v_s293.toList)) = true then
       some (([] : (List Int)), 3)
      else
       some (v_r346.1, 0)
     else
      some (([] : (List Int)), 3)
  else
   some (([] : (List Int)), 3)
theorem G_ringref3_PointsUnpack_ok (n : Nat) (v_s293 : ByteArray) (r : (List Int) × Int) (h : G_ringref3_PointsUnpack n v_s293 = some r) : Ret Try.prog 71 [eS v_s293] (.tup [(eL (eI .i64)) r.1, (eI .i64) r.2]) := by
  refine ret_run (n := 47) (fn := Try.f71) (c := bodyOf Try.f71) (by kernel_rfl) (by kernel_rfl) (by kernel_rfl) (by kernel_rfl) ?_
  have hF : KC 47 (FinR Try.prog Try.f71 (.tup [(eL (eI .i64)) r.1, (eI .i64) r.2])) := FinR.kc' (by kernel_rfl)
  unfold G_ringref3_PointsUnpack at h
  by_cases h387 : (v_s293.size : Int) = 16
  · rw [if_pos h387] at h
    obtain ⟨v_o306, h399, h⟩ := bind_some h
    refine pkk_sound TTok mix hF 14 (hs := [.t false, .n n]) (ts := [(4, 121, 2)]) (s := [21]) (l := [0, 4, 5]) (by kernel_rfl) (by kernel_rfl) (.cons (nf h387) .nil) (G_ringref3_PointsUnpack_L1_ok hF (.b 0 :: .s (cR (cR (cR (cR (bodyOf Try.f71))))) :: []) n v_s293 n 0 ([] : List (Fin 2 → Int)) _ h399 ?_)
    cases v_o306 with
    | x0 v_z307 =>
      try dsimp only at h
      obtain ⟨v_r346, h430, h⟩ := bind_some h
      by_cases h475 : v_r346.2 = 0
      · rw [if_pos h475] at h
        obtain ⟨v_r407, h476, h⟩ := bind_some h
        by_cases h477 : (!(v_r407.toList == v_s293.toList)) = true
        · rw [if_pos h477] at h
          obtain rfl := Option.some.inj h
          exact pend_sound TTok mix 12 (hs := [.dl 2, .fz 0, .r (.tup [(eL (eI .i64)) v_r346.1, (eI .i64) v_r346.2]), .t false, .c, .r (eS v_r407), .c, .c, .t true]) (by kernel_rfl) (by kernel_rfl) (by kernel_rfl) (.cons (G_ringref3_Unruns_ok n v_z307 _ h430) (.cons (nf h475) (.cons (G_ringref3_PointsPack_ok n v_r346.1 _ h476) (.cons h477 .nil))))
        · rw [if_neg h477] at h
          obtain rfl := Option.some.inj h
          exact pend_sound TTok mix 12 (hs := [.dl 2, .fz 0, .r (.tup [(eL (eI .i64)) v_r346.1, (eI .i64) v_r346.2]), .t false, .c, .r (eS v_r407), .c, .c, .t false]) (by kernel_rfl) (by kernel_rfl) (by kernel_rfl) (.cons (G_ringref3_Unruns_ok n v_z307 _ h430) (.cons (nf h475) (.cons (G_ringref3_PointsPack_ok n v_r346.1 _ h476) (.cons (vf h477) .nil))))
      · rw [if_neg h475] at h
        obtain rfl := Option.some.inj h
        exact pend_sound TTok mix 12 (hs := [.dl 2, .fz 0, .r (.tup [(eL (eI .i64)) v_r346.1, (eI .i64) v_r346.2]), .t true, .c, .c, .c, .c]) (by kernel_rfl) (by kernel_rfl) (by kernel_rfl) (.cons (G_ringref3_Unruns_ok n v_z307 _ h430) (.cons (nt h475) .nil))
  · rw [if_neg h387] at h
    obtain rfl := Option.some.inj h
    exact pend_sound TTok mix 10 (hs := [.t true]) (by kernel_rfl) (by kernel_rfl) (by kernel_rfl) (.cons (nt h387) .nil)
/- ringhall/ringref3.one -/
def G_ringref3_one (n : Nat) (v_n420 : Int) : Option (ByteArray) :=
  some (b2s ([(wi .u8 v_n420)]))
theorem G_ringref3_one_ok (n : Nat) (v_n420 : Int) (r : ByteArray) (h : G_ringref3_one n v_n420 = some r) : Ret Try.prog 140 [(eI .i64) v_n420] (eS r) := by
  refine ret_run (n := 7) (fn := Try.f140) (c := bodyOf Try.f140) (by kernel_rfl) (by kernel_rfl) (by kernel_rfl) (by kernel_rfl) ?_
  have hF : KC 7 (FinR Try.prog Try.f140 (eS r)) := FinR.kc' (by kernel_rfl)
  unfold G_ringref3_one at h
  obtain rfl := Option.some.inj h
  exact pend_sound TTok mix 5 (hs := [.w ([(wi .u8 v_n420)].map (eI .u8)), .e 12 [9] (.d (.v (.string (b2s ([(wi .u8 v_n420)]))))) []]) (by kernel_rfl) (by kernel_rfl) (by kernel_rfl) (.cons (Eq.refl ([(wi .u8 v_n420)].map (eI .u8))) (.cons (xb2sR (l := 9) (L := [(wi .u8 v_n420)]) (P := Try.prog) (T := TT) (src := 107) (dst := 9) (e := 5) (s := 1) (x := (.tmp 5)) (by kernel_rfl) (by kernel_rfl) (by kernel_rfl)) .nil))
/- ringhall/ringref3.two -/
def G_ringref3_two (n : Nat) (v_n422 : Int) : Option (ByteArray) :=
  some (b2s ([(wi .u8 (remI v_n422 256)), (wi .u8 (quoI .i64 v_n422 256))]))
theorem G_ringref3_two_ok (n : Nat) (v_n422 : Int) (r : ByteArray) (h : G_ringref3_two n v_n422 = some r) : Ret Try.prog 141 [(eI .i64) v_n422] (eS r) := by
  refine ret_run (n := 11) (fn := Try.f141) (c := bodyOf Try.f141) (by kernel_rfl) (by kernel_rfl) (by kernel_rfl) (by kernel_rfl) ?_
  have hF : KC 11 (FinR Try.prog Try.f141 (eS r)) := FinR.kc' (by kernel_rfl)
  unfold G_ringref3_two at h
  obtain rfl := Option.some.inj h
  exact pend_sound TTok mix 5 (hs := [.w ([(wi .u8 (remI v_n422 256)), (wi .u8 (quoI .i64 v_n422 256))].map (eI .u8)), .e 24 [21] (.d (.v (.string (b2s ([(wi .u8 (remI v_n422 256)), (wi .u8 (quoI .i64 v_n422 256))]))))) []]) (by kernel_rfl) (by kernel_rfl) (by kernel_rfl) (.cons (show (256 : Int) ≠ 0 by decide) (.cons (show (256 : Int) ≠ 0 by decide) (.cons (Eq.refl ([(wi .u8 (remI v_n422 256)), (wi .u8 (quoI .i64 v_n422 256))].map (eI .u8))) (.cons (xb2sR (l := 21) (L := [(wi .u8 (remI v_n422 256)), (wi .u8 (quoI .i64 v_n422 256))]) (P := Try.prog) (T := TT) (src := 107) (dst := 9) (e := 5) (s := 1) (x := (.tmp 9)) (by kernel_rfl) (by kernel_rfl) (by kernel_rfl)) .nil))))
/- ringhall/ringref3.NodePack -/
def G_ringref3_NodePack (n : Nat) (v_n419 : S_ringref3_Node) : Option (ByteArray) :=
  (G_ringref3_one n v_n419.fKind).bind fun (v_r421 : (ByteArray)) =>
  (G_ringref3_two n v_n419.fMode).bind fun (v_r423 : (ByteArray)) =>
  (catS v_r421 v_r423).bind fun (v_s424 : ByteArray) =>
  (G_ringref3_one n v_n419.fUser).bind fun (v_r425 : (ByteArray)) =>
  (catS v_s424 v_r425).bind fun (v_s426 : ByteArray) =>
  (G_ringref3_one n v_n419.fGroup).bind fun (v_r427 : (ByteArray)) =>
  (catS v_s426 v_r427).bind fun (v_s428 : ByteArray) =>
  (G_ringref3_two n v_n419.fSize).bind fun (v_r429 : (ByteArray)) =>
  (catS v_s428 v_r429).bind fun (v_s430 : ByteArray) =>
  (G_ringref3_one n v_n419.fLinks).bind fun (v_r431 : (ByteArray)) =>
  (catS v_s430 v_r431).bind fun (v_s432 : ByteArray) =>
  (G_ringref3_one n v_n419.fUp).bind fun (v_r433 : (ByteArray)) =>
  (catS v_s432 v_r433).bind fun (v_s434 : ByteArray) =>
  (G_ringref3_PointsPack n v_n419.fPoints).bind fun (v_r435 : (ByteArray)) =>
  (catS v_s434 v_r435).bind fun (v_s436 : ByteArray) =>
  (G_strings_Repeat n (ByteArray.mk #[0]) 7).bind fun (v_r437 : (ByteArray)) =>
  (catS v_s436 v_r437).bind fun (v_s438 : ByteArray) =>
  some v_s438
theorem G_ringref3_NodePack_ok (n : Nat) (v_n419 : S_ringref3_Node) (r : ByteArray) (h : G_ringref3_NodePack n v_n419 = some r) : Ret Try.prog 85 [eS_ringref3_Node v_n419] (eS r) := by
  refine ret_run (n := 36) (fn := Try.f85) (c := bodyOf Try.f85) (by kernel_rfl) (by kernel_rfl) (by kernel_rfl) (by kernel_rfl) ?_
  have hF : KC 36 (FinR Try.prog Try.f85 (eS r)) := FinR.kc' (by kernel_rfl)
  unfold G_ringref3_NodePack at h
  obtain ⟨v_r421, h491, h⟩ := bind_some h
  obtain ⟨v_r423, h494, h⟩ := bind_some h
  obtain ⟨v_s424, h495, h⟩ := bind_some h
  obtain ⟨v_r425, h496, h⟩ := bind_some h
  obtain ⟨v_s426, h497, h⟩ := bind_some h
  obtain ⟨v_r427, h498, h⟩ := bind_some h
  obtain ⟨v_s428, h499, h⟩ := bind_some h
  obtain ⟨v_r429, h500, h⟩ := bind_some h
  obtain ⟨v_s430, h501, h⟩ := bind_some h
  obtain ⟨v_r431, h502, h⟩ := bind_some h
  obtain ⟨v_s432, h503, h⟩ := bind_some h
  obtain ⟨v_r433, h504, h⟩ := bind_some h
  obtain ⟨v_s434, h505, h⟩ := bind_some h
  obtain ⟨v_r435, h506, h⟩ := bind_some h
  obtain ⟨v_s436, h507, h⟩ := bind_some h
  obtain ⟨v_r437, h508, h⟩ := bind_some h
  obtain ⟨v_s438, h509, h⟩ := bind_some h
  obtain rfl := Option.some.inj h
  exact pend_sound TTok mix 5 (hs := [.c, .r (eS v_r421), .c, .r (eS v_r423), .e 24 [] (.d (.v (.string v_s424))) [], .c, .r (eS v_r425), .e 36 [] (.d (.v (.string v_s426))) [], .c, .r (eS v_r427), .e 48 [] (.d (.v (.string v_s428))) [], .c, .r (eS v_r429), .e 60 [] (.d (.v (.string v_s430))) [], .c, .r (eS v_r431), .e 72 [] (.d (.v (.string v_s432))) [], .c, .r (eS v_r433), .e 84 [] (.d (.v (.string v_s434))) [], .c, .r (eS v_r435), .e 96 [] (.d (.v (.string v_s436))) [], .r (eS v_r437), .e 102 [] (.d (.v (.string v_s438))) []]) (by kernel_rfl) (by kernel_rfl) (by kernel_rfl) (.cons (G_ringref3_one_ok n v_n419.fKind _ h491) (.cons (G_ringref3_two_ok n v_n419.fMode _ h494) (.cons (xcatS (P := Try.prog) (T := TT) (t := 9) (ty' := 9) (x := (.tmp 5)) (y := (.tmp 8)) (p := v_r421) (q := v_r423) (r := v_s424) h495) (.cons (G_ringref3_one_ok n v_n419.fUser _ h496) (.cons (xcatS (P := Try.prog) (T := TT) (t := 9) (ty' := 9) (x := (.tmp 9)) (y := (.tmp 12)) (p := v_s424) (q := v_r425) (r := v_s426) h497) (.cons (G_ringref3_one_ok n v_n419.fGroup _ h498) (.cons (xcatS (P := Try.prog) (T := TT) (t := 9) (ty' := 9) (x := (.tmp 13)) (y := (.tmp 16)) (p := v_s426) (q := v_r427) (r := v_s428) h499) (.cons (G_ringref3_two_ok n v_n419.fSize _ h500) (.cons (xcatS (P := Try.prog) (T := TT) (t := 9) (ty' := 9) (x := (.tmp 17)) (y := (.tmp 20)) (p := v_s428) (q := v_r429) (r := v_s430) h501) (.cons (G_ringref3_one_ok n v_n419.fLinks _ h502) (.cons (xcatS (P := Try.prog) (T := TT) (t := 9) (ty' := 9) (x := (.tmp 21)) (y := (.tmp 24)) (p := v_s430) (q := v_r431) (r := v_s432) h503) (.cons (G_ringref3_one_ok n v_n419.fUp _ h504) (.cons (xcatS (P := Try.prog) (T := TT) (t := 9) (ty' := 9) (x := (.tmp 25)) (y := (.tmp 28)) (p := v_s432) (q := v_r433) (r := v_s434) h505) (.cons (G_ringref3_PointsPack_ok n v_n419.fPoints _ h506) (.cons (xcatS (P := Try.prog) (T := TT) (t := 9) (ty' := 9) (x := (.tmp 29)) (y := (.tmp 32)) (p := v_s434) (q := v_r435) (r := v_s436) h507) (.cons (G_strings_Repeat_ok n (ByteArray.mk #[0]) 7 _ h508) (.cons (xcatS (P := Try.prog) (T := TT) (t := 9) (ty' := 9) (x := (.tmp 33)) (y := (.tmp 34)) (p := v_s436) (q := v_r437) (r := v_s438) h509) .nil)))))))))))))))))
inductive G_ringref3_NodeUnpack_C1_R where
  | x0 (v_x440 : Bool)
def G_ringref3_NodeUnpack_C1_ex : G_ringref3_NodeUnpack_C1_R → Ex
  | .x0 _ => .normal
def G_ringref3_NodeUnpack_C1_st (v_s291 : ByteArray) (v_r408 : ((List Int) × Int)) (v_y409 : Int) (v_y410 : Int) (v_y411 : Int) (v_y412 : Int) (v_y413 : Int) (v_y414 : Int) (v_y415 : Int) (v_y416 : Int) (v_y417 : Int) : G_ringref3_NodeUnpack_C1_R → PS
  | .x0 v_x440 => ⟨[dd, dd, .ref 0 0, dd, dd, dd, .ref 1 0, dd, dd, dd, dd, dd, dd, dd, dd, dd, dd, dd, dd, dd, dd, dd, dd, dd, dd, dd, dd, dd, dd, dd, dd, dd, dd, dd, dd, dd, dd, dd, dd, dd, dd, dd, dd, dd, dd, dd, dd, dd, dd, dd, dd, dd, dd, dd, dd, dd, dd, dd, dd, dd, dd, dd, .d (.v (.bool v_x440)), dd, dd], [.box [.d (.v (.int .i64 0)), .d (.v (.int .i64 0)), .d (.v (.int .i64 0)), .d (.v (.int .i64 0)), .d (.v (.int .i64 0)), .d (.v (.int .i64 0)), .d (.v (.int .i64 0)), .d (vnil)], .box [.d (.v (.int .i64 (wi .i64 v_y409))), .d (.v (.int .i64 (wi .i64 ((wi .i64 v_y410) + (wi .i64 (256 * (wi .i64 v_y411))))))), .d (.v (.int .i64 (wi .i64 v_y412))), .d (.v (.int .i64 (wi .i64 v_y413))), .d (.v (.int .i64 (wi .i64 ((wi .i64 v_y414) + (wi .i64 (256 * (wi .i64 v_y415))))))), .d (.v (.int .i64 (wi .i64 v_y416))), .d (.v (.int .i64 (wi .i64 v_y417))), .d (.sl (v_r408.1.map (eI .i64)))]]⟩
def G_ringref3_NodeUnpack_C1_hd (v_s291 : ByteArray) (v_r408 : ((List Int) × Int)) (v_y409 : Int) (v_y410 : Int) (v_y411 : Int) (v_y412 : Int) (v_y413 : Int) (v_y414 : Int) (v_y415 : Int) (v_y416 : Int) (v_y417 : Int)  : PS := ⟨[.d (.v (.string v_s291)), dd, .ref 0 0, dd, dd, .d (.v (.int .i64 v_r408.2)), .ref 1 0, dd, dd, dd, dd, dd, dd, dd, dd, dd, dd, dd, dd, dd, dd, dd, dd, dd, dd, dd, dd, dd, dd, dd, dd, dd, dd, dd, dd, dd, dd, dd, dd, dd, dd, dd, dd, dd, dd, dd, dd, dd, dd, dd, dd, dd, dd, dd, dd, dd, dd, dd, dd, dd, dd, dd, dd, dd, dd], [.box [.d (.v (.int .i64 0)), .d (.v (.int .i64 0)), .d (.v (.int .i64 0)), .d (.v (.int .i64 0)), .d (.v (.int .i64 0)), .d (.v (.int .i64 0)), .d (.v (.int .i64 0)), .d (vnil)], .box [.d (.v (.int .i64 (wi .i64 v_y409))), .d (.v (.int .i64 (wi .i64 ((wi .i64 v_y410) + (wi .i64 (256 * (wi .i64 v_y411))))))), .d (.v (.int .i64 (wi .i64 v_y412))), .d (.v (.int .i64 (wi .i64 v_y413))), .d (.v (.int .i64 (wi .i64 ((wi .i64 v_y414) + (wi .i64 (256 * (wi .i64 v_y415))))))), .d (.v (.int .i64 (wi .i64 v_y416))), .d (.v (.int .i64 (wi .i64 v_y417))), .d (.sl (v_r408.1.map (eI .i64)))]]⟩
def G_ringref3_NodeUnpack_C1 (n : Nat) (v_s291 : ByteArray) (v_r408 : ((List Int) × Int)) (v_y409 : Int) (v_y410 : Int) (v_y411 : Int) (v_y412 : Int) (v_y413 : Int) (v_y414 : Int) (v_y415 : Int) (v_y416 : Int) (v_y417 : Int) : Option G_ringref3_NodeUnpack_C1_R :=
  if v_r408.2 = 0 then
   (G_ringref3_NodeRight n (S_ringref3_Node.mk (wi .i64 v_y409) (wi .i64 ((wi .i64 v_y410) + (wi .i64 (256 * (wi .i64 v_y411))))) (wi .i64 v_y412) (wi .i64 v_y413) (wi .i64 ((wi .i64 v_y414) + (wi .i64 (256 * (wi .i64 v_y415))))) (wi .i64 v_y416) (wi .i64 v_y417) v_r408.1)).bind fun (v_r441 : (Int)) =>
   if v_r441 = 0 then
    (G_ringref3_NodePack n (S_ringref3_Node.mk (wi .i64 v_y409) (wi .i64 ((wi .i64 v_y410) + (wi .i64 (256 * (wi .i64 v_y411))))) (wi .i64 v_y412) (wi .i64 v_y413) (wi .i64 ((wi .i64 v_y414) + (wi .i64 (256 * (wi .i64 v_y415))))) (wi .i64 v_y416) (wi .i64 v_y417) v_r408.1)).bind fun (v_r443 : (ByteArray)) =>
    some (.x0 (!(v_r443.toList == v_s291.toList)))
   else
    some (.x0 true)
  else
   some (.x0 true)
theorem G_ringref3_NodeUnpack_C1_ok {Fi : Ex → PS → Prop} (hF : KC 65 Fi) (ks : List Fr) (n : Nat) (v_s291 : ByteArray) (v_r408 : ((List Int) × Int)) (v_y409 : Int) (v_y410 : Int) (v_y411 : Int) (v_y412 : Int) (v_y413 : Int) (v_y414 : Int) (v_y415 : Int) (v_y416 : Int) (v_y417 : Int)  (o : G_ringref3_NodeUnpack_C1_R) (h : G_ringref3_NodeUnpack_C1 n v_s291 v_r408 v_y409 v_y410 v_y411 v_y412 v_y413 v_y414 v_y415 v_y416 v_y417 = some o) (q : RunE Try.prog 65 Fi ks (G_ringref3_NodeUnpack_C1_ex o) (G_ringref3_NodeUnpack_C1_st v_s291 v_r408 v_y409 v_y410 v_y411 v_y412 v_y413 v_y414 v_y415 v_y416 v_y417 o)) : RunE Try.prog 65 Fi (.s (cL (cL (cR (cR (cR (cR (bodyOf Try.f79))))))) :: ks) .normal (G_ringref3_NodeUnpack_C1_hd v_s291 v_r408 v_y409 v_y410 v_y411 v_y412 v_y413 v_y414 v_y415 v_y416 v_y417) := by
  unfold G_ringref3_NodeUnpack_C1 at h
  by_cases h511 : v_r408.2 = 0
  · rw [if_pos h511] at h
    obtain ⟨v_r441, h512, h⟩ := bind_some h
    by_cases h513 : v_r441 = 0
    · rw [if_pos h513] at h
      obtain ⟨v_r443, h514, h⟩ := bind_some h
      cases h
      exact pkk_sound TTok mix hF 1 (hs := [.t false, .c, .c, .r ((eI .i64) v_r441), .c, .t false, .c, .c, .r (eS v_r443), .c, .c]) (ts := []) (s := [0, 1]) (l := [2, 6, 62]) (by kernel_rfl) (by kernel_rfl) (.cons (nf h511) (.cons (G_ringref3_NodeRight_ok n (S_ringref3_Node.mk (wi .i64 v_y409) (wi .i64 ((wi .i64 v_y410) + (wi .i64 (256 * (wi .i64 v_y411))))) (wi .i64 v_y412) (wi .i64 v_y413) (wi .i64 ((wi .i64 v_y414) + (wi .i64 (256 * (wi .i64 v_y415))))) (wi .i64 v_y416) (wi .i64 v_y417) v_r408.1) _ h512) (.cons (nf h513) (.cons (G_ringref3_NodePack_ok n (S_ringref3_Node.mk (wi .i64 v_y409) (wi .i64 ((wi .i64 v_y410) + (wi .i64 (256 * (wi .i64 v_y411))))) (wi .i64 v_y412) (wi .i64 v_y413) (wi .i64 ((wi .i64 v_y414) + (wi .i64 (256 * (wi .i64 v_y415))))) (wi .i64 v_y416) (wi .i64 v_y417) v_r408.1) _ h514) .nil)))) q
    · rw [if_neg h513] at h
      cases h
      exact pkk_sound TTok mix hF 1 (hs := [.t false, .c, .c, .r ((eI .i64) v_r441), .c, .t true, .c, .c, .c]) (ts := []) (s := [0, 1]) (l := [2, 6, 62]) (by kernel_rfl) (by kernel_rfl) (.cons (nf h511) (.cons (G_ringref3_NodeRight_ok n (S_ringref3_Node.mk (wi .i64 v_y409) (wi .i64 ((wi .i64 v_y410) + (wi .i64 (256 * (wi .i64 v_y411))))) (wi .i64 v_y412) (wi .i64 v_y413) (wi .i64 ((wi .i64 v_y414) + (wi .i64 (256 * (wi .i64 v_y415))))) (wi .i64 v_y416) (wi .i64 v_y417) v_r408.1) _ h512) (.cons (nt h513) .nil))) q
  · rw [if_neg h511] at h
    cases h
    exact pkk_sound TTok mix hF 1 (hs := [.t true, .c, .c, .c, .c, .c, .c]) (ts := []) (s := [0, 1]) (l := [2, 6, 62]) (by kernel_rfl) (by kernel_rfl) (.cons (nt h511) .nil) q
/- ringhall/ringref3.NodeUnpack -/
def G_ringref3_NodeUnpack (n : Nat) (v_s291 : ByteArray) : Option (S_ringref3_Node × Int) :=
  if (v_s291.size : Int) = 32 then
   (subS v_s291 9 25).bind fun (v_s292 : ByteArray) =>
   (G_ringref3_PointsUnpack n v_s292).bind fun (v_r408 : ((List Int) × Int)) =>
   (getS v_s291 0).bind fun (v_y409 : Int) =>
   (getS v_s291 1).bind fun (v_y410 : Int) =>
   (getS v_s291 2).bind fun (v_y411 : Int) =>
   (getS v_s291 3).bind fun (v_y412 : Int) =>
   (getS v_s291 4).bind fun (v_y413 : Int) =>
   (getS v_s291 5).bind fun (v_y414 : Int) =>
   (getS v_s291 6).bind fun (v_y415 : Int) =>
   (getS v_s291 7).bind fun (v_y416 : Int) =>
   (getS v_s291 8).bind fun (v_y417 : Int) =>
   (G_ringref3_NodeUnpack_C1 n v_s291 v_r408 v_y409 v_y410 v_y411 v_y412 v_y413 v_y414 v_y415 v_y416 v_y417).bind fun v_o445 => match v_o445 with
   | .x0 v_z446 =>
     if v_z446 = true then
      some ((S_ringref3_Node.mk 0 0 0 0 0 0 0 ([] : (List Int))), 3)
     else
      some ((S_ringref3_Node.mk (wi .i64 v_y409) (wi .i64 ((wi .i64 v_y410) + (wi .i64 (256 * (wi .i64 v_y411))))) (wi .i64 v_y412) (wi .i64 v_y413) (wi .i64 ((wi .i64 v_y414) + (wi .i64 (256 * (wi .i64 v_y415))))) (wi .i64 v_y416) (wi .i64 v_y417) v_r408.1), 0)
  else
   some ((S_ringref3_Node.mk 0 0 0 0 0 0 0 ([] : (List Int))), 3)
theorem G_ringref3_NodeUnpack_ok (n : Nat) (v_s291 : ByteArray) (r : S_ringref3_Node × Int) (h : G_ringref3_NodeUnpack n v_s291 = some r) : Ret Try.prog 79 [eS v_s291] (.tup [eS_ringref3_Node r.1, (eI .i64) r.2]) := by
  refine ret_run (n := 65) (fn := Try.f79) (c := bodyOf Try.f79) (by kernel_rfl) (by kernel_rfl) (by kernel_rfl) (by kernel_rfl) ?_
  have hF : KC 65 (FinR Try.prog Try.f79 (.tup [eS_ringref3_Node r.1, (eI .i64) r.2])) := FinR.kc' (by kernel_rfl)
  unfold G_ringref3_NodeUnpack at h
  by_cases h385 : (v_s291.size : Int) = 32
  · rw [if_pos h385] at h
    obtain ⟨v_s292, h386, h⟩ := bind_some h
    obtain ⟨v_r408, h478, h⟩ := bind_some h
    obtain ⟨v_y409, h479, h⟩ := bind_some h
    obtain ⟨v_y410, h480, h⟩ := bind_some h
    obtain ⟨v_y411, h481, h⟩ := bind_some h
    obtain ⟨v_y412, h482, h⟩ := bind_some h
    obtain ⟨v_y413, h483, h⟩ := bind_some h
    obtain ⟨v_y414, h484, h⟩ := bind_some h
    obtain ⟨v_y415, h485, h⟩ := bind_some h
    obtain ⟨v_y416, h486, h⟩ := bind_some h
    obtain ⟨v_y417, h487, h⟩ := bind_some h
    obtain ⟨v_o445, h515, h⟩ := bind_some h
    refine pkk_sound TTok mix hF 13 (hs := [.t false, .e 18 [] (.d (.v (.string v_s292))) [], .r (.tup [(eL (eI .i64)) v_r408.1, (eI .i64) v_r408.2]), .l (.d (.v (.int .u8 v_y409))), .l (.d (.v (.int .u8 v_y410))), .l (.d (.v (.int .u8 v_y411))), .l (.d (.v (.int .u8 v_y412))), .l (.d (.v (.int .u8 v_y413))), .l (.d (.v (.int .u8 v_y414))), .l (.d (.v (.int .u8 v_y415))), .l (.d (.v (.int .u8 v_y416))), .l (.d (.v (.int .u8 v_y417))), .c]) (ts := []) (s := [0, 138]) (l := [0, 2, 5, 6]) (by kernel_rfl) (by kernel_rfl) (.cons (nf h385) (.cons (xsub11 (P := Try.prog) (T := TT) (t := 9) (x := (.tmp 12)) (p := v_s291) (r := v_s292) (lo := (.const (.int .i64 9))) (hi := (.const (.int .i64 25))) (i := 9) (ka := .i64) (h := 25) (kb := .i64) (by kernel_rfl) h386) (.cons (G_ringref3_PointsUnpack_ok n v_s292 _ h478) (.cons (getS_ob h479) (.cons (getS_ob h480) (.cons (getS_ob h481) (.cons (getS_ob h482) (.cons (getS_ob h483) (.cons (getS_ob h484) (.cons (getS_ob h485) (.cons (getS_ob h486) (.cons (getS_ob h487) (.cons (show 0 + 8 ≤ 8 by decide) .nil))))))))))))) (G_ringref3_NodeUnpack_C1_ok hF (.s (cR (cL (cR (cR (cR (cR (bodyOf Try.f79))))))) :: .s (cR (cR (cR (cR (cR (bodyOf Try.f79)))))) :: []) n v_s291 v_r408 v_y409 v_y410 v_y411 v_y412 v_y413 v_y414 v_y415 v_y416 v_y417 _ h515 ?_)
    cases v_o445 with
    | x0 v_z446 =>
      try dsimp only at h
      by_cases h517 : v_z446 = true
      · rw [if_pos h517] at h
        obtain rfl := Option.some.inj h
        exact pend_sound TTok mix 5 (hs := [.t true, .c]) (by kernel_rfl) (by kernel_rfl) (by kernel_rfl) (.cons h517 (.cons (show 0 + 8 ≤ 8 by decide) .nil))
      · rw [if_neg h517] at h
        obtain rfl := Option.some.inj h
        exact pend_sound TTok mix 5 (hs := [.t false, .c, .c]) (by kernel_rfl) (by kernel_rfl) (by kernel_rfl) (.cons (vf h517) (.cons (show 0 + 8 ≤ 8 by decide) .nil))
  · rw [if_neg h385] at h
    obtain rfl := Option.some.inj h
    exact pend_sound TTok mix 10 (hs := [.t true, .c]) (by kernel_rfl) (by kernel_rfl) (by kernel_rfl) (.cons (nt h385) (.cons (show 0 + 8 ≤ 8 by decide) .nil))
inductive G_slices_Equal_int_int_L1_R where
  | x0 (v_x459 : Bool)
  | x1 
def G_slices_Equal_int_int_L1_ex : G_slices_Equal_int_int_L1_R → Ex
  | .x0 _ => .ret
  | .x1  => .exit 0
def G_slices_Equal_int_int_L1_st (v_s452 : (List Int)) (v_s453 : (List Int)) : G_slices_Equal_int_int_L1_R → PS
  | .x0 v_x459 => ⟨[dd, dd, dd, dd, .d (.v (.bool v_x459)), dd, dd, dd, dd, dd, dd, dd, dd, dd, dd, dd, dd, dd, dd, dd, dd, dd, dd, dd, dd, dd], []⟩
  | .x1  => ⟨[dd, dd, dd, dd, dd, dd, dd, dd, dd, dd, dd, dd, dd, dd, dd, dd, dd, dd, dd, dd, dd, dd, dd, dd, dd, dd], []⟩
def G_slices_Equal_int_int_L1_hd (v_s452 : (List Int)) (v_s453 : (List Int)) (v_x454 : Int) : PS := ⟨[.d (.sl (v_s452.map (eI .i64))), .d (.sl (v_s453.map (eI .i64))), dd, dd, dd, dd, dd, dd, dd, dd, dd, dd, .d (.v (.int .i64 (v_s452.length : Int))), .d (.v (.int .i64 v_x454)), dd, dd, dd, dd, dd, dd, dd, dd, dd, dd, dd, dd], []⟩
def G_slices_Equal_int_int_L1 (n : Nat) (v_s452 : (List Int)) (v_s453 : (List Int)) : Nat → Int → Option G_slices_Equal_int_int_L1_R
  | 0, _ => none
  | k + 1, v_x454 =>
    if v_x454 < (v_s452.length : Int) then
     (getI v_s452 v_x454).bind fun (v_y457 : Int) =>
     (getI v_s453 v_x454).bind fun (v_y458 : Int) =>
     if v_y457 = v_y458 then
      G_slices_Equal_int_int_L1 n v_s452 v_s453 k (wi .i64 (v_x454 + 1))
     else
      some (.x0 false)
    else
     some (.x1 )
theorem G_slices_Equal_int_int_L1_ok {Fi : Ex → PS → Prop} (hF : KC 26 Fi) (ks : List Fr) (n : Nat) (v_s452 : (List Int)) (v_s453 : (List Int))  : ∀ (k : Nat) (v_x454 : Int) (o : G_slices_Equal_int_int_L1_R), G_slices_Equal_int_int_L1 n v_s452 v_s453 k v_x454 = some o → RunE Try.prog 26 Fi ks (G_slices_Equal_int_int_L1_ex o) (G_slices_Equal_int_int_L1_st v_s452 v_s453 o) → RunE Try.prog 26 Fi (.l k (cP (cB (cR (cL (cR (cR (bodyOf Try.f43))))))) :: ks) .normal (G_slices_Equal_int_int_L1_hd v_s452 v_s453 v_x454)
  | 0, v_x454, o, h, q => by rw [G_slices_Equal_int_int_L1] at h; cases h
  | k + 1, v_x454, o, h, q => by
    rw [G_slices_Equal_int_int_L1] at h
    by_cases h532 : v_x454 < (v_s452.length : Int)
    · rw [if_pos h532] at h
      obtain ⟨v_y457, h536, h⟩ := bind_some h
      obtain ⟨v_y458, h537, h⟩ := bind_some h
      by_cases h538 : v_y457 = v_y458
      · rw [if_pos h538] at h
        exact pkk_sound TTok mix hF 16 (hs := [.t true, .y ((eI .i64) v_y457), .c, .y ((eI .i64) v_y458), .c, .t false]) (ts := []) (s := []) (l := [0, 1, 12, 13]) (by kernel_rfl) (by kernel_rfl) (.cons (dt h532) (.cons (getI_ob (f := (eI .i64)) h536) (.cons (getI_ob (f := (eI .i64)) h537) (.cons (nf h538) .nil)))) (G_slices_Equal_int_int_L1_ok hF ks n v_s452 v_s453 k (wi .i64 (v_x454 + 1)) _ h q)
      · rw [if_neg h538] at h
        cases h
        exact pkk_sound TTok mix hF 19 (hs := [.t true, .y ((eI .i64) v_y457), .c, .y ((eI .i64) v_y458), .c, .t true]) (ts := []) (s := []) (l := [4]) (by kernel_rfl) (by kernel_rfl) (.cons (dt h532) (.cons (getI_ob (f := (eI .i64)) h536) (.cons (getI_ob (f := (eI .i64)) h537) (.cons (nt h538) .nil)))) q
    · rw [if_neg h532] at h
      cases h
      exact pkk_sound TTok mix hF 8 (hs := [.t false]) (ts := []) (s := []) (l := []) (by kernel_rfl) (by kernel_rfl) (.cons (df h532) .nil) q
/- slices.Equal[[]int,int] -/
def G_slices_Equal_int_int (n : Nat) (v_s452 : (List Int)) (v_s453 : (List Int)) : Option (Bool) :=
  if (v_s452.length : Int) = (v_s453.length : Int) then
   (G_slices_Equal_int_int_L1 n v_s452 v_s453 n 0).bind fun v_o460 => match v_o460 with
   | .x0 v_z461 =>
     some v_z461
   | .x1  =>
     some true
  else
   some false
theorem G_slices_Equal_int_int_ok (n : Nat) (v_s452 : (List Int)) (v_s453 : (List Int)) (r : Bool) (h : G_slices_Equal_int_int n v_s452 v_s453 = some r) : Ret Try.prog 43 [(eL (eI .i64)) v_s452, (eL (eI .i64)) v_s453] (eB r) := by
  refine ret_run (n := 26) (fn := Try.f43) (c := bodyOf Try.f43) (by kernel_rfl) (by kernel_rfl) (by kernel_rfl) (by kernel_rfl) ?_
  have hF : KC 26 (FinR Try.prog Try.f43 (eB r)) := FinR.kc' (by kernel_rfl)
  unfold G_slices_Equal_int_int at h
  by_cases h531 : (v_s452.length : Int) = (v_s453.length : Int)
  · rw [if_pos h531] at h
    obtain ⟨v_o460, h539, h⟩ := bind_some h
    refine pkk_sound TTok mix hF 12 (hs := [.u (.d (.v (.int .i64 (v_s452.length : Int)))), .u (.d (.v (.int .i64 (v_s453.length : Int)))), .t false, .u (.d (.v (.int .i64 (v_s452.length : Int)))), .n n]) (ts := []) (s := []) (l := [0, 1, 12, 13]) (by kernel_rfl) (by kernel_rfl) (.cons (len_ob (f := (eI .i64)) (l := v_s452)) (.cons (len_ob (f := (eI .i64)) (l := v_s453)) (.cons (nf h531) (.cons (len_ob (f := (eI .i64)) (l := v_s452)) .nil)))) (G_slices_Equal_int_int_L1_ok hF (.b 0 :: .s (cR (cR (cR (bodyOf Try.f43)))) :: []) n v_s452 v_s453 n 0 _ h539 ?_)
    cases v_o460 with
    | x0 v_z461 =>
      try dsimp only at h
      obtain rfl := Option.some.inj h
      exact pend_sound TTok mix 2 (hs := []) (by kernel_rfl) (by kernel_rfl) (by kernel_rfl) .nil
    | x1  =>
      try dsimp only at h
      obtain rfl := Option.some.inj h
      exact pend_sound TTok mix 4 (hs := []) (by kernel_rfl) (by kernel_rfl) (by kernel_rfl) .nil
  · rw [if_neg h531] at h
    obtain rfl := Option.some.inj h
    exact pend_sound TTok mix 10 (hs := [.u (.d (.v (.int .i64 (v_s452.length : Int)))), .u (.d (.v (.int .i64 (v_s453.length : Int)))), .t true]) (by kernel_rfl) (by kernel_rfl) (by kernel_rfl) (.cons (len_ob (f := (eI .i64)) (l := v_s452)) (.cons (len_ob (f := (eI .i64)) (l := v_s453)) (.cons (nt h531) .nil)))
inductive G_ringlaw3_sameNode_C1_R where
  | x0 (v_x464 : Bool)
def G_ringlaw3_sameNode_C1_ex : G_ringlaw3_sameNode_C1_R → Ex
  | .x0 _ => .normal
def G_ringlaw3_sameNode_C1_st (v_r451 : (S_ringref3_Node)) (v_b450 : S_ringref3_Node) : G_ringlaw3_sameNode_C1_R → PS
  | .x0 v_x464 => ⟨[dd, dd, dd, dd, .d (.v (.bool v_x464)), dd, dd, dd, dd, dd, dd, dd, dd, dd, dd, dd, dd, dd, dd, dd, dd, dd, dd, dd, dd, dd, dd, dd, dd, dd, dd, dd, dd, dd, dd, dd, dd, dd, dd, dd, dd, dd, dd, dd, dd, dd, dd, dd, dd, dd, dd, dd, dd, dd, dd, dd, dd, dd, dd, dd, dd, dd, dd, dd, dd, dd, dd, dd], []⟩
def G_ringlaw3_sameNode_C1_hd (v_r451 : (S_ringref3_Node)) (v_b450 : S_ringref3_Node)  : PS := ⟨[dd, dd, dd, .ref 0 0, dd, .ref 1 0, .d (.sl (v_r451.fPoints.map (eI .i64))), .d (.sl (v_b450.fPoints.map (eI .i64))), dd, dd, dd, dd, dd, dd, dd, dd, dd, dd, dd, dd, dd, dd, dd, dd, dd, dd, dd, dd, dd, dd, dd, dd, dd, dd, dd, dd, dd, dd, dd, dd, dd, dd, dd, dd, dd, dd, dd, dd, dd, dd, dd, dd, dd, dd, dd, dd, dd, dd, dd, dd, dd, dd, dd, dd, dd, dd, dd, dd], [.box [.d (.v (.int .i64 v_b450.fKind)), .d (.v (.int .i64 v_b450.fMode)), .d (.v (.int .i64 v_b450.fUser)), .d (.v (.int .i64 v_b450.fGroup)), .d (.v (.int .i64 v_b450.fSize)), .d (.v (.int .i64 v_b450.fLinks)), .d (.v (.int .i64 v_b450.fUp)), .d (vnil)], .box [.d (.v (.int .i64 v_r451.fKind)), .d (.v (.int .i64 v_r451.fMode)), .d (.v (.int .i64 v_r451.fUser)), .d (.v (.int .i64 v_r451.fGroup)), .d (.v (.int .i64 v_r451.fSize)), .d (.v (.int .i64 v_r451.fLinks)), .d (.v (.int .i64 v_r451.fUp)), .d (vnil)]]⟩
def G_ringlaw3_sameNode_C1 (n : Nat) (v_r451 : (S_ringref3_Node)) (v_b450 : S_ringref3_Node) : Option G_ringlaw3_sameNode_C1_R :=
  if v_r451.fKind = v_b450.fKind then
   if v_r451.fMode = v_b450.fMode then
    if v_r451.fUser = v_b450.fUser then
     if v_r451.fGroup = v_b450.fGroup then
      if v_r451.fSize = v_b450.fSize then
       if v_r451.fLinks = v_b450.fLinks then
        if v_r451.fUp = v_b450.fUp then
         (G_slices_Equal_int_int n v_r451.fPoints v_b450.fPoints).bind fun (v_r463 : (Bool)) =>
         some (.x0 v_r463)
        else
         some (.x0 false)
       else
        some (.x0 false)
      else
       some (.x0 false)
     else
      some (.x0 false)
    else
     some (.x0 false)
   else
    some (.x0 false)
  else
   some (.x0 false)
theorem G_ringlaw3_sameNode_C1_ok {Fi : Ex → PS → Prop} (hF : KC 68 Fi) (ks : List Fr) (n : Nat) (v_r451 : (S_ringref3_Node)) (v_b450 : S_ringref3_Node)  (o : G_ringlaw3_sameNode_C1_R) (h : G_ringlaw3_sameNode_C1 n v_r451 v_b450 = some o) (q : RunE Try.prog 68 Fi ks (G_ringlaw3_sameNode_C1_ex o) (G_ringlaw3_sameNode_C1_st v_r451 v_b450 o)) : RunE Try.prog 68 Fi (.s (cL (cR (cR (cR (cR (cR (cR (bodyOf Try.f47)))))))) :: ks) .normal (G_ringlaw3_sameNode_C1_hd v_r451 v_b450) := by
  unfold G_ringlaw3_sameNode_C1 at h
  by_cases h541 : v_r451.fKind = v_b450.fKind
  · rw [if_pos h541] at h
    by_cases h542 : v_r451.fMode = v_b450.fMode
    · rw [if_pos h542] at h
      by_cases h543 : v_r451.fUser = v_b450.fUser
      · rw [if_pos h543] at h
        by_cases h544 : v_r451.fGroup = v_b450.fGroup
        · rw [if_pos h544] at h
          by_cases h545 : v_r451.fSize = v_b450.fSize
          · rw [if_pos h545] at h
            by_cases h546 : v_r451.fLinks = v_b450.fLinks
            · rw [if_pos h546] at h
              by_cases h547 : v_r451.fUp = v_b450.fUp
              · rw [if_pos h547] at h
                obtain ⟨v_r463, h548, h⟩ := bind_some h
                cases h
                exact pkk_sound TTok mix hF 1 (hs := [.c, .c, .t true, .c, .c, .c, .c, .c, .c, .t true, .c, .c, .c, .c, .c, .c, .t true, .c, .c, .c, .c, .c, .c, .t true, .c, .c, .c, .c, .c, .c, .t true, .c, .c, .c, .c, .c, .c, .t true, .c, .c, .c, .c, .c, .c, .t true, .c, .c, .r (eB v_r463)]) (ts := []) (s := []) (l := [4]) (by kernel_rfl) (by kernel_rfl) (.cons (bt h541) (.cons (bt h542) (.cons (bt h543) (.cons (bt h544) (.cons (bt h545) (.cons (bt h546) (.cons (bt h547) (.cons (G_slices_Equal_int_int_ok n v_r451.fPoints v_b450.fPoints _ h548) .nil)))))))) q
              · rw [if_neg h547] at h
                cases h
                exact pkk_sound TTok mix hF 1 (hs := [.c, .c, .t true, .c, .c, .c, .c, .c, .c, .t true, .c, .c, .c, .c, .c, .c, .t true, .c, .c, .c, .c, .c, .c, .t true, .c, .c, .c, .c, .c, .c, .t true, .c, .c, .c, .c, .c, .c, .t true, .c, .c, .c, .c, .c, .c, .t false, .c, .c]) (ts := []) (s := []) (l := [4]) (by kernel_rfl) (by kernel_rfl) (.cons (bt h541) (.cons (bt h542) (.cons (bt h543) (.cons (bt h544) (.cons (bt h545) (.cons (bt h546) (.cons (bf h547) .nil))))))) q
            · rw [if_neg h546] at h
              cases h
              exact pkk_sound TTok mix hF 1 (hs := [.c, .c, .t true, .c, .c, .c, .c, .c, .c, .t true, .c, .c, .c, .c, .c, .c, .t true, .c, .c, .c, .c, .c, .c, .t true, .c, .c, .c, .c, .c, .c, .t true, .c, .c, .c, .c, .c, .c, .t false, .c, .c, .c, .c, .c, .c, .c]) (ts := []) (s := []) (l := [4]) (by kernel_rfl) (by kernel_rfl) (.cons (bt h541) (.cons (bt h542) (.cons (bt h543) (.cons (bt h544) (.cons (bt h545) (.cons (bf h546) .nil)))))) q
          · rw [if_neg h545] at h
            cases h
            exact pkk_sound TTok mix hF 1 (hs := [.c, .c, .t true, .c, .c, .c, .c, .c, .c, .t true, .c, .c, .c, .c, .c, .c, .t true, .c, .c, .c, .c, .c, .c, .t true, .c, .c, .c, .c, .c, .c, .t false, .c, .c, .c, .c, .c, .c, .c, .c, .c, .c, .c, .c]) (ts := []) (s := []) (l := [4]) (by kernel_rfl) (by kernel_rfl) (.cons (bt h541) (.cons (bt h542) (.cons (bt h543) (.cons (bt h544) (.cons (bf h545) .nil))))) q
        · rw [if_neg h544] at h
          cases h
          exact pkk_sound TTok mix hF 1 (hs := [.c, .c, .t true, .c, .c, .c, .c, .c, .c, .t true, .c, .c, .c, .c, .c, .c, .t true, .c, .c, .c, .c, .c, .c, .t false, .c, .c, .c, .c, .c, .c, .c, .c, .c, .c, .c, .c, .c, .c, .c, .c, .c]) (ts := []) (s := []) (l := [4]) (by kernel_rfl) (by kernel_rfl) (.cons (bt h541) (.cons (bt h542) (.cons (bt h543) (.cons (bf h544) .nil)))) q
      · rw [if_neg h543] at h
        cases h
        exact pkk_sound TTok mix hF 1 (hs := [.c, .c, .t true, .c, .c, .c, .c, .c, .c, .t true, .c, .c, .c, .c, .c, .c, .t false, .c, .c, .c, .c, .c, .c, .c, .c, .c, .c, .c, .c, .c, .c, .c, .c, .c, .c, .c, .c, .c, .c]) (ts := []) (s := []) (l := [4]) (by kernel_rfl) (by kernel_rfl) (.cons (bt h541) (.cons (bt h542) (.cons (bf h543) .nil))) q
    · rw [if_neg h542] at h
      cases h
      exact pkk_sound TTok mix hF 1 (hs := [.c, .c, .t true, .c, .c, .c, .c, .c, .c, .t false, .c, .c, .c, .c, .c, .c, .c, .c, .c, .c, .c, .c, .c, .c, .c, .c, .c, .c, .c, .c, .c, .c, .c, .c, .c, .c, .c]) (ts := []) (s := []) (l := [4]) (by kernel_rfl) (by kernel_rfl) (.cons (bt h541) (.cons (bf h542) .nil)) q
  · rw [if_neg h541] at h
    cases h
    exact pkk_sound TTok mix hF 1 (hs := [.c, .c, .t false, .c, .c, .c, .c, .c, .c, .c, .c, .c, .c, .c, .c, .c, .c, .c, .c, .c, .c, .c, .c, .c, .c, .c, .c, .c, .c, .c, .c, .c, .c, .c, .c]) (ts := []) (s := []) (l := [4]) (by kernel_rfl) (by kernel_rfl) (.cons (bf h541) .nil) q
/- ringhall/ringlaw3.sameNode -/
def G_ringlaw3_sameNode (n : Nat) (v_a449 : S_inode_Node) (v_b450 : S_ringref3_Node) : Option (Bool) :=
  (G_ringlaw3_node n v_a449).bind fun (v_r451 : (S_ringref3_Node)) =>
  (G_ringlaw3_sameNode_C1 n v_r451 v_b450).bind fun v_o472 => match v_o472 with
  | .x0 v_z473 =>
    some v_z473
theorem G_ringlaw3_sameNode_ok (n : Nat) (v_a449 : S_inode_Node) (v_b450 : S_ringref3_Node) (r : Bool) (h : G_ringlaw3_sameNode n v_a449 v_b450 = some r) : Ret Try.prog 47 [eS_inode_Node v_a449, eS_ringref3_Node v_b450] (eB r) := by
  refine ret_run (n := 68) (fn := Try.f47) (c := bodyOf Try.f47) (by kernel_rfl) (by kernel_rfl) (by kernel_rfl) (by kernel_rfl) ?_
  have hF : KC 68 (FinR Try.prog Try.f47 (eB r)) := FinR.kc' (by kernel_rfl)
  unfold G_ringlaw3_sameNode at h
  obtain ⟨v_r451, h523, h⟩ := bind_some h
  obtain ⟨v_o472, h549, h⟩ := bind_some h
  refine pkk_sound TTok mix hF 13 (hs := [.c, .r (eS_ringref3_Node v_r451), .c, .c, .c, .c, .c]) (ts := []) (s := [3, 15]) (l := [3, 5, 6, 7]) (by kernel_rfl) (by kernel_rfl) (.cons (G_ringlaw3_node_ok n v_a449 _ h523) (.cons (show 0 + 8 ≤ 8 by decide) (.cons (show 7 + 1 ≤ 8 by decide) (.cons (show 7 + 1 ≤ 8 by decide) .nil)))) (G_ringlaw3_sameNode_C1_ok hF (.s (cR (cR (cR (cR (cR (cR (cR (bodyOf Try.f47)))))))) :: []) n v_r451 v_b450 _ h549 ?_)
  cases v_o472 with
  | x0 v_z473 =>
    try dsimp only at h
    obtain rfl := Option.some.inj h
    exact pend_sound TTok mix 1 (hs := []) (by kernel_rfl) (by kernel_rfl) (by kernel_rfl) .nil
/- ringhall/inode.Stat -/
def G_inode_Stat (n : Nat) (v_n498 : S_inode_Node) : Option (S_api_Stat) :=
  some (S_api_Stat.mk v_n498.fKind v_n498.fMode v_n498.fUser v_n498.fGroup v_n498.fSize v_n498.fLinks)
theorem G_inode_Stat_ok (n : Nat) (v_n498 : S_inode_Node) (r : S_api_Stat) (h : G_inode_Stat n v_n498 = some r) : Ret Try.prog 83 [eS_inode_Node v_n498] (eS_api_Stat r) := by
  refine ret_run (n := 16) (fn := Try.f83) (c := bodyOf Try.f83) (by kernel_rfl) (by kernel_rfl) (by kernel_rfl) (by kernel_rfl) ?_
  have hF : KC 16 (FinR Try.prog Try.f83 (eS_api_Stat r)) := FinR.kc' (by kernel_rfl)
  unfold G_inode_Stat at h
  obtain rfl := Option.some.inj h
  exact pend_sound TTok mix 5 (hs := [.c, .c, .c, .c, .c, .c, .c]) (by kernel_rfl) (by kernel_rfl) (by kernel_rfl) (.cons (show 0 + 6 ≤ 6 by decide) .nil)
inductive G_inode_Used_L1_R where
  | x0 (v_k506 : Int)
def G_inode_Used_L1_ex : G_inode_Used_L1_R → Ex
  | .x0 _ => .exit 0
def G_inode_Used_L1_st (v_n501 : S_inode_Node) : G_inode_Used_L1_R → PS
  | .x0 v_k506 => ⟨[dd, dd, dd, .d (.v (.int .i64 v_k506)), dd, dd, dd, dd, dd, dd, dd, dd, dd, dd, dd, dd, dd, dd, dd], []⟩
def G_inode_Used_L1_hd (v_n501 : S_inode_Node) (v_k502 : Int) (v_x503 : Int) : PS := ⟨[dd, dd, dd, .d (.v (.int .i64 v_k502)), dd, dd, dd, .d (.sl (v_n501.fPoints.map (eI .i64))), .d (.v (.int .i64 (v_n501.fPoints.length : Int))), .d (.v (.int .i64 v_x503)), dd, dd, dd, dd, dd, dd, dd, dd, dd], []⟩
def G_inode_Used_L1 (n : Nat) (v_n501 : S_inode_Node) : Nat → Int → Int → Option G_inode_Used_L1_R
  | 0, _, _ => none
  | k + 1, v_k502, v_x503 =>
    if v_x503 < (v_n501.fPoints.length : Int) then
     (getI v_n501.fPoints v_x503).bind fun (v_y505 : Int) =>
     if v_y505 = 0 then
      G_inode_Used_L1 n v_n501 k v_k502 (wi .i64 (v_x503 + 1))
     else
      G_inode_Used_L1 n v_n501 k (wi .i64 (v_k502 + 1)) (wi .i64 (v_x503 + 1))
    else
     some (.x0 v_k502)
theorem G_inode_Used_L1_ok {Fi : Ex → PS → Prop} (hF : KC 19 Fi) (ks : List Fr) (n : Nat) (v_n501 : S_inode_Node)  : ∀ (k : Nat) (v_k502 : Int) (v_x503 : Int) (o : G_inode_Used_L1_R), G_inode_Used_L1 n v_n501 k v_k502 v_x503 = some o → RunE Try.prog 19 Fi ks (G_inode_Used_L1_ex o) (G_inode_Used_L1_st v_n501 o) → RunE Try.prog 19 Fi (.l k (cP (cB (cR (cL (cR (cR (bodyOf Try.f84))))))) :: ks) .normal (G_inode_Used_L1_hd v_n501 v_k502 v_x503)
  | 0, v_k502, v_x503, o, h, q => by rw [G_inode_Used_L1] at h; cases h
  | k + 1, v_k502, v_x503, o, h, q => by
    rw [G_inode_Used_L1] at h
    by_cases h580 : v_x503 < (v_n501.fPoints.length : Int)
    · rw [if_pos h580] at h
      obtain ⟨v_y505, h584, h⟩ := bind_some h
      by_cases h586 : v_y505 = 0
      · rw [if_pos h586] at h
        exact pkk_sound TTok mix hF 16 (hs := [.t true, .y ((eI .i64) v_y505), .c, .t false]) (ts := []) (s := []) (l := [3, 7, 8, 9]) (by kernel_rfl) (by kernel_rfl) (.cons (dt h580) (.cons (getI_ob (f := (eI .i64)) h584) (.cons (nf h586) .nil))) (G_inode_Used_L1_ok hF ks n v_n501 k v_k502 (wi .i64 (v_x503 + 1)) _ h q)
      · rw [if_neg h586] at h
        exact pkk_sound TTok mix hF 16 (hs := [.t true, .y ((eI .i64) v_y505), .c, .t true]) (ts := []) (s := []) (l := [3, 7, 8, 9]) (by kernel_rfl) (by kernel_rfl) (.cons (dt h580) (.cons (getI_ob (f := (eI .i64)) h584) (.cons (nt h586) .nil))) (G_inode_Used_L1_ok hF ks n v_n501 k (wi .i64 (v_k502 + 1)) (wi .i64 (v_x503 + 1)) _ h q)
    · rw [if_neg h580] at h
      cases h
      exact pkk_sound TTok mix hF 8 (hs := [.t false]) (ts := []) (s := []) (l := [3]) (by kernel_rfl) (by kernel_rfl) (.cons (df h580) .nil) q
/- ringhall/inode.Used -/
def G_inode_Used (n : Nat) (v_n501 : S_inode_Node) : Option (Int) :=
  (G_inode_Used_L1 n v_n501 n 0 0).bind fun v_o507 => match v_o507 with
  | .x0 v_z508 =>
    some v_z508
theorem G_inode_Used_ok (n : Nat) (v_n501 : S_inode_Node) (r : Int) (h : G_inode_Used n v_n501 = some r) : Ret Try.prog 84 [eS_inode_Node v_n501] ((eI .i64) r) := by
  refine ret_run (n := 19) (fn := Try.f84) (c := bodyOf Try.f84) (by kernel_rfl) (by kernel_rfl) (by kernel_rfl) (by kernel_rfl) ?_
  have hF : KC 19 (FinR Try.prog Try.f84 ((eI .i64) r)) := FinR.kc' (by kernel_rfl)
  unfold G_inode_Used at h
  obtain ⟨v_o507, h587, h⟩ := bind_some h
  refine pkk_sound TTok mix hF 9 (hs := [.c, .u (.d (.v (.int .i64 (v_n501.fPoints.length : Int)))), .n n]) (ts := []) (s := []) (l := [3, 7, 8, 9]) (by kernel_rfl) (by kernel_rfl) (.cons (len_ob (f := (eI .i64)) (l := v_n501.fPoints)) .nil) (G_inode_Used_L1_ok hF (.b 0 :: .s (cR (cR (cR (bodyOf Try.f84)))) :: []) n v_n501 n 0 0 _ h587 ?_)
  cases v_o507 with
  | x0 v_z508 =>
    try dsimp only at h
    obtain rfl := Option.some.inj h
    exact pend_sound TTok mix 4 (hs := []) (by kernel_rfl) (by kernel_rfl) (by kernel_rfl) .nil
inductive G_ringlaw3_InodeTurns_C1_R where
  | x0 (v_x476 : Bool)
def G_ringlaw3_InodeTurns_C1_ex : G_ringlaw3_InodeTurns_C1_R → Ex
  | .x0 _ => .normal
def G_ringlaw3_InodeTurns_C1_st (v_size3 : Int) (v_r55 : (Int)) (v_r213 : ((List Int) × Int)) (v_r290 : (S_inode_Node × Int)) (v_r447 : (S_ringref3_Node × Int)) (v_n1 : S_inode_Node) : G_ringlaw3_InodeTurns_C1_R → PS
  | .x0 v_x476 => ⟨[dd, dd, .d (.v (.int .i64 v_size3)), .ref 0 0, dd, dd, dd, .d (.v (.int .i64 v_r55)), .d (.sl (v_r213.1.map (eI .u8))), dd, dd, dd, dd, dd, dd, dd, dd, dd, dd, dd, dd, dd, dd, dd, dd, dd, dd, dd, dd, dd, dd, dd, dd, dd, dd, dd, dd, dd, dd, dd, dd, dd, dd, dd, dd, dd, dd, dd, dd, dd, dd, dd, dd, dd, dd, dd, dd, dd, dd, dd, dd, dd, dd, dd, dd, .d (.v (.bool v_x476)), dd, dd, dd, dd, dd, dd, dd, dd, dd, dd, dd, dd, dd, dd, dd, dd, dd, dd, dd, dd, dd, dd, dd, dd, dd, dd, dd, dd, dd, dd, dd, dd, dd, dd, dd, dd, dd, dd, dd, dd, dd, dd, dd, dd, dd, dd, dd, dd, dd, dd, dd, dd, dd, dd, dd, dd, dd, dd, dd, dd, dd, dd, dd, dd, dd, dd, dd, dd, dd, dd], [.box [.d (.v (.int .i64 v_n1.fKind)), .d (.v (.int .i64 v_n1.fMode)), .d (.v (.int .i64 v_n1.fUser)), .d (.v (.int .i64 v_n1.fGroup)), .d (.v (.int .i64 v_n1.fSize)), .d (.v (.int .i64 v_n1.fLinks)), .d (.v (.int .i64 v_n1.fUp)), .d (.sl (v_n1.fPoints.map (eI .i64)))]]⟩
def G_ringlaw3_InodeTurns_C1_hd (v_size3 : Int) (v_r55 : (Int)) (v_r213 : ((List Int) × Int)) (v_r290 : (S_inode_Node × Int)) (v_r447 : (S_ringref3_Node × Int)) (v_n1 : S_inode_Node)  : PS := ⟨[dd, dd, .d (.v (.int .i64 v_size3)), .ref 0 0, dd, dd, dd, .d (.v (.int .i64 v_r55)), .d (.sl (v_r213.1.map (eI .u8))), .d (.v (.int .i64 v_r213.2)), .ref 1 0, .d (.v (.int .i64 v_r290.2)), .ref 2 0, .d (.v (.int .i64 v_r447.2)), dd, dd, dd, dd, dd, dd, dd, dd, dd, dd, dd, dd, dd, dd, dd, dd, dd, dd, dd, dd, dd, dd, dd, dd, dd, dd, dd, dd, dd, dd, dd, dd, dd, dd, dd, dd, dd, dd, dd, dd, dd, dd, dd, dd, dd, dd, dd, dd, dd, dd, dd, dd, dd, dd, dd, dd, dd, dd, dd, dd, dd, dd, dd, dd, dd, dd, dd, dd, dd, dd, dd, dd, dd, dd, dd, dd, dd, dd, dd, dd, dd, dd, dd, dd, dd, dd, dd, dd, dd, dd, dd, dd, dd, dd, dd, dd, dd, dd, dd, dd, dd, dd, dd, dd, dd, dd, dd, dd, dd, dd, dd, dd, dd, dd, dd, dd, dd, dd, dd, dd, dd, dd], [.box [.d (.v (.int .i64 v_n1.fKind)), .d (.v (.int .i64 v_n1.fMode)), .d (.v (.int .i64 v_n1.fUser)), .d (.v (.int .i64 v_n1.fGroup)), .d (.v (.int .i64 v_n1.fSize)), .d (.v (.int .i64 v_n1.fLinks)), .d (.v (.int .i64 v_n1.fUp)), .d (.sl (v_n1.fPoints.map (eI .i64)))], .box [.d (.v (.int .i64 v_r290.1.fKind)), .d (.v (.int .i64 v_r290.1.fMode)), .d (.v (.int .i64 v_r290.1.fUser)), .d (.v (.int .i64 v_r290.1.fGroup)), .d (.v (.int .i64 v_r290.1.fSize)), .d (.v (.int .i64 v_r290.1.fLinks)), .d (.v (.int .i64 v_r290.1.fUp)), .d (.sl (v_r290.1.fPoints.map (eI .i64)))], .box [.d (.v (.int .i64 v_r447.1.fKind)), .d (.v (.int .i64 v_r447.1.fMode)), .d (.v (.int .i64 v_r447.1.fUser)), .d (.v (.int .i64 v_r447.1.fGroup)), .d (.v (.int .i64 v_r447.1.fSize)), .d (.v (.int .i64 v_r447.1.fLinks)), .d (.v (.int .i64 v_r447.1.fUp)), .d (.sl (v_r447.1.fPoints.map (eI .i64)))]]⟩
def G_ringlaw3_InodeTurns_C1 (n : Nat) (v_size3 : Int) (v_r55 : (Int)) (v_r213 : ((List Int) × Int)) (v_r290 : (S_inode_Node × Int)) (v_r447 : (S_ringref3_Node × Int)) (v_n1 : S_inode_Node) : Option G_ringlaw3_InodeTurns_C1_R :=
  (G_inode_Right n v_n1).bind fun (v_r475 : (Int)) =>
  if v_r475 = v_r55 then
   if v_r213.2 = v_r55 then
    if v_r290.2 = v_r447.2 then
     (G_ringlaw3_sameNode n v_r290.1 v_r447.1).bind fun (v_r479 : (Bool)) =>
     some (.x0 (!v_r479))
    else
     some (.x0 true)
   else
    some (.x0 true)
  else
   some (.x0 true)
theorem G_ringlaw3_InodeTurns_C1_ok {Fi : Ex → PS → Prop} (hF : KC 136 Fi) (ks : List Fr) (n : Nat) (v_size3 : Int) (v_r55 : (Int)) (v_r213 : ((List Int) × Int)) (v_r290 : (S_inode_Node × Int)) (v_r447 : (S_ringref3_Node × Int)) (v_n1 : S_inode_Node)  (o : G_ringlaw3_InodeTurns_C1_R) (h : G_ringlaw3_InodeTurns_C1 n v_size3 v_r55 v_r213 v_r290 v_r447 v_n1 = some o) (q : RunE Try.prog 136 Fi ks (G_ringlaw3_InodeTurns_C1_ex o) (G_ringlaw3_InodeTurns_C1_st v_size3 v_r55 v_r213 v_r290 v_r447 v_n1 o)) : RunE Try.prog 136 Fi (.s (cL (cL (cR (cR (cR (cR (cR (cR (bodyOf Try.f9))))))))) :: ks) .normal (G_ringlaw3_InodeTurns_C1_hd v_size3 v_r55 v_r213 v_r290 v_r447 v_n1) := by
  unfold G_ringlaw3_InodeTurns_C1 at h
  obtain ⟨v_r475, h551, h⟩ := bind_some h
  by_cases h552 : v_r475 = v_r55
  · rw [if_pos h552] at h
    by_cases h553 : v_r213.2 = v_r55
    · rw [if_pos h553] at h
      by_cases h554 : v_r290.2 = v_r447.2
      · rw [if_pos h554] at h
        obtain ⟨v_r479, h555, h⟩ := bind_some h
        cases h
        exact pkk_sound TTok mix hF 1 (hs := [.c, .r ((eI .i64) v_r475), .t false, .c, .c, .t false, .c, .c, .t false, .c, .c, .c, .c, .r (eB v_r479), .c]) (ts := []) (s := [0]) (l := [2, 3, 7, 8, 65]) (by kernel_rfl) (by kernel_rfl) (.cons (G_inode_Right_ok n v_n1 _ h551) (.cons (nf h552) (.cons (nf h553) (.cons (nf h554) (.cons (G_ringlaw3_sameNode_ok n v_r290.1 v_r447.1 _ h555) .nil))))) q
      · rw [if_neg h554] at h
        cases h
        exact pkk_sound TTok mix hF 1 (hs := [.c, .r ((eI .i64) v_r475), .t false, .c, .c, .t false, .c, .c, .t true, .c, .c, .c]) (ts := []) (s := [0]) (l := [2, 3, 7, 8, 65]) (by kernel_rfl) (by kernel_rfl) (.cons (G_inode_Right_ok n v_n1 _ h551) (.cons (nf h552) (.cons (nf h553) (.cons (nt h554) .nil)))) q
    · rw [if_neg h553] at h
      cases h
      exact pkk_sound TTok mix hF 1 (hs := [.c, .r ((eI .i64) v_r475), .t false, .c, .c, .t true, .c, .c, .c, .c, .c, .c]) (ts := []) (s := [0]) (l := [2, 3, 7, 8, 65]) (by kernel_rfl) (by kernel_rfl) (.cons (G_inode_Right_ok n v_n1 _ h551) (.cons (nf h552) (.cons (nt h553) .nil))) q
  · rw [if_neg h552] at h
    cases h
    exact pkk_sound TTok mix hF 1 (hs := [.c, .r ((eI .i64) v_r475), .t true, .c, .c, .c, .c, .c, .c, .c, .c, .c]) (ts := []) (s := [0]) (l := [2, 3, 7, 8, 65]) (by kernel_rfl) (by kernel_rfl) (.cons (G_inode_Right_ok n v_n1 _ h551) (.cons (nt h552) .nil)) q
inductive G_ringlaw3_InodeTurns_C2_R where
  | x0 (v_x487 : Bool)
def G_ringlaw3_InodeTurns_C2_ex : G_ringlaw3_InodeTurns_C2_R → Ex
  | .x0 _ => .normal
def G_ringlaw3_InodeTurns_C2_st (v_size3 : Int) (v_r55 : (Int)) (v_r213 : ((List Int) × Int)) (v_n1 : S_inode_Node) : G_ringlaw3_InodeTurns_C2_R → PS
  | .x0 v_x487 => ⟨[dd, dd, dd, .ref 0 0, dd, dd, dd, .d (.v (.int .i64 v_r55)), .d (.sl (v_r213.1.map (eI .u8))), dd, dd, dd, dd, dd, dd, dd, dd, dd, dd, dd, dd, dd, dd, dd, dd, dd, dd, dd, dd, dd, dd, dd, dd, dd, dd, dd, dd, dd, dd, dd, dd, dd, dd, dd, dd, dd, dd, dd, dd, dd, dd, dd, dd, dd, dd, dd, dd, dd, dd, dd, dd, dd, dd, dd, dd, dd, dd, dd, dd, dd, dd, dd, dd, dd, .d (.v (.bool v_x487)), dd, dd, dd, dd, dd, dd, dd, dd, dd, dd, dd, dd, dd, dd, dd, dd, dd, dd, dd, dd, dd, dd, dd, dd, dd, dd, dd, dd, dd, dd, dd, dd, dd, dd, dd, dd, dd, dd, dd, dd, dd, dd, dd, dd, dd, dd, dd, dd, dd, dd, dd, dd, dd, dd, dd, dd, dd, dd, dd, dd, dd], [.box [.d (.v (.int .i64 v_n1.fKind)), .d (.v (.int .i64 v_n1.fMode)), .d (.v (.int .i64 v_n1.fUser)), .d (.v (.int .i64 v_n1.fGroup)), .d (.v (.int .i64 v_n1.fSize)), .d (.v (.int .i64 v_n1.fLinks)), .d (.v (.int .i64 v_n1.fUp)), .d (.sl (v_n1.fPoints.map (eI .i64)))]]⟩
def G_ringlaw3_InodeTurns_C2_hd (v_size3 : Int) (v_r55 : (Int)) (v_r213 : ((List Int) × Int)) (v_n1 : S_inode_Node)  : PS := ⟨[dd, dd, .d (.v (.int .i64 v_size3)), .ref 0 0, dd, dd, dd, .d (.v (.int .i64 v_r55)), .d (.sl (v_r213.1.map (eI .u8))), dd, dd, dd, dd, dd, dd, dd, dd, dd, dd, dd, dd, dd, dd, dd, dd, dd, dd, dd, dd, dd, dd, dd, dd, dd, dd, dd, dd, dd, dd, dd, dd, dd, dd, dd, dd, dd, dd, dd, dd, dd, dd, dd, dd, dd, dd, dd, dd, dd, dd, dd, dd, dd, dd, dd, dd, dd, dd, dd, dd, dd, dd, dd, dd, dd, dd, dd, dd, dd, dd, dd, dd, dd, dd, dd, dd, dd, dd, dd, dd, dd, dd, dd, dd, dd, dd, dd, dd, dd, dd, dd, dd, dd, dd, dd, dd, dd, dd, dd, dd, dd, dd, dd, dd, dd, dd, dd, dd, dd, dd, dd, dd, dd, dd, dd, dd, dd, dd, dd, dd, dd, dd, dd, dd, dd, dd, dd], [.box [.d (.v (.int .i64 v_n1.fKind)), .d (.v (.int .i64 v_n1.fMode)), .d (.v (.int .i64 v_n1.fUser)), .d (.v (.int .i64 v_n1.fGroup)), .d (.v (.int .i64 v_n1.fSize)), .d (.v (.int .i64 v_n1.fLinks)), .d (.v (.int .i64 v_n1.fUp)), .d (.sl (v_n1.fPoints.map (eI .i64)))]]⟩
def G_ringlaw3_InodeTurns_C2 (n : Nat) (v_size3 : Int) (v_r55 : (Int)) (v_r213 : ((List Int) × Int)) (v_n1 : S_inode_Node) : Option G_ringlaw3_InodeTurns_C2_R :=
  if v_size3 ≤ 1048576 then
   (G_inode_Blocks n v_size3).bind fun (v_r485 : (Int)) =>
   (G_ringref3_Blocks n v_size3).bind fun (v_r486 : (Int)) =>
   some (.x0 (v_r485 != v_r486))
  else
   some (.x0 false)
theorem G_ringlaw3_InodeTurns_C2_ok {Fi : Ex → PS → Prop} (hF : KC 136 Fi) (ks : List Fr) (n : Nat) (v_size3 : Int) (v_r55 : (Int)) (v_r213 : ((List Int) × Int)) (v_n1 : S_inode_Node)  (o : G_ringlaw3_InodeTurns_C2_R) (h : G_ringlaw3_InodeTurns_C2 n v_size3 v_r55 v_r213 v_n1 = some o) (q : RunE Try.prog 136 Fi ks (G_ringlaw3_InodeTurns_C2_ex o) (G_ringlaw3_InodeTurns_C2_st v_size3 v_r55 v_r213 v_n1 o)) : RunE Try.prog 136 Fi (.s (cL (cL (cR (cR (cR (cR (cR (cR (cR (bodyOf Try.f9)))))))))) :: ks) .normal (G_ringlaw3_InodeTurns_C2_hd v_size3 v_r55 v_r213 v_n1) := by
  unfold G_ringlaw3_InodeTurns_C2 at h
  by_cases h561 : v_size3 ≤ 1048576
  · rw [if_pos h561] at h
    obtain ⟨v_r485, h562, h⟩ := bind_some h
    obtain ⟨v_r486, h563, h⟩ := bind_some h
    cases h
    exact pkk_sound TTok mix hF 1 (hs := [.t true, .c, .r ((eI .i64) v_r485), .c, .c, .r ((eI .i64) v_r486), .c]) (ts := []) (s := [0]) (l := [3, 7, 8, 74]) (by kernel_rfl) (by kernel_rfl) (.cons (dt h561) (.cons (G_inode_Blocks_ok n v_size3 _ h562) (.cons (G_ringref3_Blocks_ok n v_size3 _ h563) .nil))) q
  · rw [if_neg h561] at h
    cases h
    exact pkk_sound TTok mix hF 1 (hs := [.t false, .c, .c, .c, .c]) (ts := []) (s := [0]) (l := [3, 7, 8, 74]) (by kernel_rfl) (by kernel_rfl) (.cons (df h561) .nil) q
inductive G_ringlaw3_InodeTurns_L3_R where
  | x0 (v_used495 : Int)
def G_ringlaw3_InodeTurns_L3_ex : G_ringlaw3_InodeTurns_L3_R → Ex
  | .x0 _ => .exit 0
def G_ringlaw3_InodeTurns_L3_st (v_r213 : ((List Int) × Int)) (v_n1 : S_inode_Node) : G_ringlaw3_InodeTurns_L3_R → PS
  | .x0 v_used495 => ⟨[dd, dd, dd, .ref 0 0, dd, dd, dd, dd, .d (.sl (v_r213.1.map (eI .u8))), dd, dd, dd, dd, dd, .d (.v (.int .i64 v_used495)), dd, dd, dd, dd, dd, dd, dd, dd, dd, dd, dd, dd, dd, dd, dd, dd, dd, dd, dd, dd, dd, dd, dd, dd, dd, dd, dd, dd, dd, dd, dd, dd, dd, dd, dd, dd, dd, dd, dd, dd, dd, dd, dd, dd, dd, dd, dd, dd, dd, dd, dd, dd, dd, dd, dd, dd, dd, dd, dd, dd, dd, dd, dd, dd, dd, dd, dd, dd, dd, dd, dd, dd, dd, dd, dd, dd, dd, dd, dd, dd, dd, dd, dd, dd, dd, dd, dd, dd, dd, dd, dd, dd, dd, dd, dd, dd, dd, dd, dd, dd, dd, dd, dd, dd, dd, dd, dd, dd, dd, dd, dd, dd, dd, dd, dd, dd, dd, dd, dd, dd, dd], [.box [.d (.v (.int .i64 v_n1.fKind)), .d (.v (.int .i64 v_n1.fMode)), .d (.v (.int .i64 v_n1.fUser)), .d (.v (.int .i64 v_n1.fGroup)), .d (.v (.int .i64 v_n1.fSize)), .d (.v (.int .i64 v_n1.fLinks)), .d (.v (.int .i64 v_n1.fUp)), .d (.sl (v_n1.fPoints.map (eI .i64)))]]⟩
def G_ringlaw3_InodeTurns_L3_hd (v_r213 : ((List Int) × Int)) (v_n1 : S_inode_Node) (v_used491 : Int) (v_x492 : Int) : PS := ⟨[dd, dd, dd, .ref 0 0, dd, dd, dd, dd, .d (.sl (v_r213.1.map (eI .u8))), dd, dd, dd, dd, dd, .d (.v (.int .i64 v_used491)), dd, dd, dd, dd, dd, dd, dd, dd, dd, dd, dd, dd, dd, dd, dd, dd, dd, dd, dd, dd, dd, dd, dd, dd, dd, dd, dd, dd, dd, dd, dd, dd, dd, dd, dd, dd, dd, dd, dd, dd, dd, dd, dd, dd, dd, dd, dd, dd, dd, dd, dd, dd, dd, dd, dd, dd, dd, dd, dd, dd, dd, dd, dd, dd, dd, dd, .d (.sl (v_n1.fPoints.map (eI .i64))), .d (.v (.int .i64 (v_n1.fPoints.length : Int))), .d (.v (.int .i64 v_x492)), dd, dd, dd, dd, dd, dd, dd, dd, dd, dd, dd, dd, dd, dd, dd, dd, dd, dd, dd, dd, dd, dd, dd, dd, dd, dd, dd, dd, dd, dd, dd, dd, dd, dd, dd, dd, dd, dd, dd, dd, dd, dd, dd, dd, dd, dd, dd, dd, dd, dd, dd, dd], [.box [.d (.v (.int .i64 v_n1.fKind)), .d (.v (.int .i64 v_n1.fMode)), .d (.v (.int .i64 v_n1.fUser)), .d (.v (.int .i64 v_n1.fGroup)), .d (.v (.int .i64 v_n1.fSize)), .d (.v (.int .i64 v_n1.fLinks)), .d (.v (.int .i64 v_n1.fUp)), .d (.sl (v_n1.fPoints.map (eI .i64)))]]⟩
def G_ringlaw3_InodeTurns_L3 (n : Nat) (v_r213 : ((List Int) × Int)) (v_n1 : S_inode_Node) : Nat → Int → Int → Option G_ringlaw3_InodeTurns_L3_R
  | 0, _, _ => none
  | k + 1, v_used491, v_x492 =>
    if v_x492 < (v_n1.fPoints.length : Int) then
     (getI v_n1.fPoints v_x492).bind fun (v_y494 : Int) =>
     if v_y494 > 0 then
      G_ringlaw3_InodeTurns_L3 n v_r213 v_n1 k (wi .i64 (v_used491 + 1)) (wi .i64 (v_x492 + 1))
     else
      G_ringlaw3_InodeTurns_L3 n v_r213 v_n1 k v_used491 (wi .i64 (v_x492 + 1))
    else
     some (.x0 v_used491)

end Go.Proofs.Ytjjjaakefnnbpaa.pv
