/- What the functions compute, as functions over plain data, with their contracts: written by gen.py. -/
import Derived.Test.YtccmjndnjpjohaaRProg
import Derived.Test.YtccmjndnjpjohaaRQr
set_option maxRecDepth 100000
set_option linter.all false
namespace Go.Proofs.YtccmjndnjpjohaaR.pv
open Go.RowKit
def TT : List TI := [
⟨1, 0, .oth, []⟩,
⟨1, 8, .oth, [.nf]⟩,
⟨1, 8, .int .i64, [.i .i64]⟩,
⟨1, 8, .int .i64, [.i .i64]⟩,
⟨1, 1, .bool, [.b]⟩,
⟨1, 1, .int .u8, [.i .u8]⟩,
⟨1, 1, .int .u8, [.i .u8]⟩,
⟨4, 24, .st [(0, 2), (1, 3), (2, 4), (3, 6)], [.i .i64, .i .i64, .b, .i .u8]⟩,
⟨4, 24, .st [(0, 2), (1, 3), (2, 4), (3, 6)], [.i .i64, .i .i64, .b, .i .u8]⟩,
⟨1, 16, .str, [.s]⟩,
⟨1, 16, .str, [.s]⟩,
⟨1, 16, .str, [.s]⟩,
⟨1, 8, .int .u64, [.i .u64]⟩,
⟨2, 24, .st [(0, 9), (1, 12)], [.s, .i .u64]⟩,
⟨2, 24, .st [(0, 9), (1, 12)], [.s, .i .u64]⟩,
⟨1, 8, .oth, [.np]⟩,
⟨1, 8, .oth, [.np]⟩,
⟨1, 8, .oth, [.np]⟩,
⟨1, 8, .st [(0, 17)], [.np]⟩,
⟨1, 8, .st [(0, 17)], [.np]⟩,
⟨1, 16, .oth, [.ni]⟩,
⟨1, 4, .int .i32, [.i .i32]⟩,
⟨4, 32, .st [(0, 3), (1, 3), (2, 3), (3, 3)], [.i .i64, .i .i64, .i .i64, .i .i64]⟩,
⟨4, 32, .st [(0, 3), (1, 3), (2, 3), (3, 3)], [.i .i64, .i .i64, .i .i64, .i .i64]⟩,
⟨1, 8, .int .i64, [.i .i64]⟩,
⟨1, 0, .oth, []⟩,
⟨1, 8, .oth, [.nf]⟩,
⟨1, 0, .oth, []⟩,
⟨1, 8, .oth, [.nf]⟩,
⟨1, 0, .oth, []⟩,
⟨1, 8, .oth, [.nf]⟩,
⟨1, 8, .oth, [.nf]⟩,
⟨1, 8, .oth, [.nf]⟩,
⟨4, 4, .st [(0, 4), (1, 4), (2, 4), (3, 4)], [.b, .b, .b, .b]⟩,
⟨4, 4, .st [(0, 4), (1, 4), (2, 4), (3, 4)], [.b, .b, .b, .b]⟩,
⟨32, 32, .arr 8 34, List.replicate 32 (.b)⟩,
⟨1, 8, .oth, [.nf]⟩,
⟨1, 8, .oth, [.nf]⟩,
⟨1, 24, .sl 34, [.sl]⟩,
⟨1, 8, .oth, [.nf]⟩,
⟨1, 8, .oth, [.nf]⟩,
⟨1, 8, .oth, [.nf]⟩,
⟨1, 24, .sl 3, [.sl]⟩,
⟨1, 8, .oth, [.nf]⟩,
⟨1, 8, .oth, [.nf]⟩,
⟨1, 8, .oth, [.nf]⟩,
⟨1, 8, .oth, [.nf]⟩,
⟨1, 8, .oth, [.nf]⟩,
⟨1, 24, .sl 64, [.sl]⟩,
⟨16, 16, .arr 16 5, List.replicate 16 (.i .u8)⟩,
⟨1, 0, .oth, []⟩,
⟨1, 8, .oth, [.nf]⟩,
⟨1, 0, .oth, []⟩,
⟨1, 8, .oth, [.nf]⟩,
⟨1, 0, .oth, []⟩,
⟨1, 8, .oth, [.nf]⟩,
⟨1, 0, .oth, []⟩,
⟨1, 8, .oth, [.nf]⟩,
⟨1, 0, .oth, []⟩,
⟨1, 8, .oth, [.nf]⟩,
⟨1, 8, .oth, [.nf]⟩,
⟨1, 8, .oth, [.nf]⟩,
⟨1, 8, .oth, [.nf]⟩,
⟨17, 24, .st [(0, 3), (1, 49)], List.replicate 1 (.i .i64) ++ List.replicate 16 (.i .u8)⟩,
⟨17, 24, .st [(0, 3), (1, 49)], List.replicate 1 (.i .i64) ++ List.replicate 16 (.i .u8)⟩,
⟨1, 8, .oth, [.nf]⟩,
⟨1, 8, .oth, [.nf]⟩,
⟨1, 24, .sl 79, [.sl]⟩,
⟨1, 24, .sl 70, [.sl]⟩,
⟨1, 24, .sl 71, [.sl]⟩,
⟨1, 24, .sl 73, [.sl]⟩,
⟨1, 24, .sl 74, [.sl]⟩,
⟨3, 24, .st [(0, 3), (1, 3), (2, 3)], [.i .i64, .i .i64, .i .i64]⟩,
⟨3, 24, .st [(0, 3), (1, 3), (2, 3)], [.i .i64, .i .i64, .i .i64]⟩,
⟨3, 24, .st [(0, 3), (1, 3), (2, 3)], [.i .i64, .i .i64, .i .i64]⟩,
⟨1, 0, .oth, []⟩,
⟨1, 8, .oth, [.nf]⟩,
⟨1, 8, .oth, [.nf]⟩,
⟨1, 8, .oth, [.nf]⟩,
⟨1, 4, .int .u32, [.i .u32]⟩,
⟨1, 8, .oth, [.nf]⟩,
⟨1, 24, .sl 91, [.sl]⟩,
⟨1, 0, .oth, []⟩,
⟨1, 8, .oth, [.nf]⟩,
⟨1, 8, .oth, [.nf]⟩,
⟨1, 0, .oth, []⟩,
⟨1, 8, .oth, [.nf]⟩,
⟨1, 0, .oth, []⟩,
⟨1, 8, .oth, [.nf]⟩,
⟨1, 8, .oth, [.nf]⟩,
⟨3, 24, .st [(0, 3), (1, 3), (2, 3)], [.i .i64, .i .i64, .i .i64]⟩,
⟨3, 24, .st [(0, 3), (1, 3), (2, 3)], [.i .i64, .i .i64, .i .i64]⟩,
⟨1, 8, .oth, [.nf]⟩,
⟨1, 8, .oth, [.nf]⟩,
⟨1, 8, .oth, [.nf]⟩,
⟨1, 8, .oth, [.nf]⟩,
⟨7, 32, .st [(0, 4), (1, 4), (2, 3), (3, 3), (4, 4), (5, 4), (6, 4)], [.b, .b, .i .i64, .i .i64, .b, .b, .b]⟩,
⟨7, 32, .st [(0, 4), (1, 4), (2, 3), (3, 3), (4, 4), (5, 4), (6, 4)], [.b, .b, .i .i64, .i .i64, .b, .b, .b]⟩,
⟨10, 56, .st [(0, 3), (1, 97), (8, 3), (9, 3)], [.i .i64, .b, .b, .i .i64, .i .i64, .b, .b, .b, .i .i64, .i .i64]⟩,
⟨10, 56, .st [(0, 3), (1, 97), (8, 3), (9, 3)], [.i .i64, .b, .b, .i .i64, .i .i64, .b, .b, .b, .i .i64, .i .i64]⟩,
⟨1, 8, .oth, [.nf]⟩,
⟨1, 0, .oth, []⟩,
⟨1, 8, .oth, [.nf]⟩,
⟨1, 0, .oth, []⟩,
⟨1, 8, .oth, [.nf]⟩,
⟨1, 8, .oth, [.nf]⟩,
⟨1, 8, .oth, [.nf]⟩,
⟨1, 8, .oth, [.nf]⟩,
⟨1, 8, .oth, [.nf]⟩,
⟨1, 8, .oth, [.nf]⟩,
⟨1, 8, .oth, [.nf]⟩,
⟨1, 8, .oth, [.nf]⟩,
⟨1, 8, .oth, [.nf]⟩,
⟨1, 8, .oth, [.nf]⟩,
⟨1, 8, .oth, [.nf]⟩,
⟨1, 8, .oth, [.nf]⟩,
⟨1, 24, .sl 122, [.sl]⟩,
⟨1, 0, .oth, []⟩,
⟨1, 8, .oth, [.nf]⟩,
⟨1, 8, .oth, [.nf]⟩,
⟨1, 24, .sl 123, [.sl]⟩,
⟨3, 24, .st [(0, 3), (1, 3), (2, 3)], [.i .i64, .i .i64, .i .i64]⟩,
⟨3, 24, .st [(0, 3), (1, 3), (2, 3)], [.i .i64, .i .i64, .i .i64]⟩,
⟨3, 24, .arr 3 3, [.i .i64, .i .i64, .i .i64]⟩,
⟨1, 8, .oth, [.nf]⟩,
⟨1, 8, .oth, [.nf]⟩,
⟨1, 8, .oth, [.nf]⟩,
⟨1, 8, .oth, [.nf]⟩,
⟨1, 8, .oth, [.nf]⟩,
⟨1, 8, .oth, [.nf]⟩,
⟨1, 8, .oth, [.nf]⟩,
⟨6, 48, .st [(0, 3), (1, 3), (2, 3), (3, 3), (4, 3), (5, 3)], [.i .i64, .i .i64, .i .i64, .i .i64, .i .i64, .i .i64]⟩,
⟨6, 48, .st [(0, 3), (1, 3), (2, 3), (3, 3), (4, 3), (5, 3)], [.i .i64, .i .i64, .i .i64, .i .i64, .i .i64, .i .i64]⟩,
⟨1, 24, .sl 140, [.sl]⟩,
⟨6, 64, .st [(0, 3), (1, 3), (2, 42), (3, 3), (4, 3), (5, 3)], [.i .i64, .i .i64, .sl, .i .i64, .i .i64, .i .i64]⟩,
⟨6, 64, .st [(0, 3), (1, 3), (2, 42), (3, 3), (4, 3), (5, 3)], [.i .i64, .i .i64, .sl, .i .i64, .i .i64, .i .i64]⟩,
⟨1, 0, .oth, []⟩,
⟨1, 8, .oth, [.nf]⟩,
⟨1, 8, .oth, [.nf]⟩,
⟨3, 24, .st [(0, 4), (1, 3), (2, 3)], [.b, .i .i64, .i .i64]⟩,
⟨3, 24, .st [(0, 4), (1, 3), (2, 3)], [.b, .i .i64, .i .i64]⟩,
⟨1, 8, .oth, [.nf]⟩,
⟨1, 8, .oth, [.nf]⟩,
⟨1, 8, .oth, [.nf]⟩,
⟨1, 24, .sl 4, [.sl]⟩,
⟨1, 8, .oth, [.nf]⟩,
⟨1, 8, .oth, [.nf]⟩,
⟨1, 0, .oth, []⟩,
⟨1, 8, .oth, [.nf]⟩,
⟨1, 8, .oth, [.nf]⟩,
⟨1, 8, .oth, [.nf]⟩,
⟨1, 8, .oth, [.nf]⟩,
⟨1, 8, .oth, [.nf]⟩,
⟨1, 8, .oth, [.nf]⟩,
⟨1, 8, .oth, [.nf]⟩,
⟨1, 8, .oth, [.nf]⟩,
⟨1, 8, .oth, [.nf]⟩,
⟨1, 8, .oth, [.nf]⟩,
⟨1, 8, .oth, [.nf]⟩,
⟨1, 8, .oth, [.nf]⟩,
⟨1, 8, .oth, [.nf]⟩,
⟨1, 8, .oth, [.nf]⟩,
⟨1, 8, .oth, [.np]⟩,
⟨1, 8, .oth, [.nf]⟩,
⟨1, 8, .oth, [.nf]⟩,
⟨1, 8, .oth, [.nf]⟩,
⟨1, 8, .oth, [.nf]⟩,
⟨1, 8, .oth, [.nf]⟩,
⟨1, 8, .oth, [.np]⟩,
⟨1, 8, .oth, [.nf]⟩,
⟨1, 8, .oth, [.nf]⟩,
⟨7, 7, .arr 7 4, [.b, .b, .b, .b, .b, .b, .b]⟩,
⟨1, 8, .oth, [.nf]⟩,
⟨1, 8, .oth, [.nf]⟩,
⟨4, 32, .arr 4 3, [.i .i64, .i .i64, .i .i64, .i .i64]⟩,
⟨1, 8, .oth, [.nf]⟩,
⟨1, 8, .oth, [.nf]⟩,
⟨1, 8, .oth, [.nf]⟩,
⟨1, 8, .oth, [.nf]⟩,
⟨1, 8, .oth, [.nf]⟩,
⟨1, 8, .oth, [.nf]⟩,
⟨1, 8, .oth, [.nf]⟩,
⟨1, 24, .sl 42, [.sl]⟩,
⟨1, 8, .oth, [.nf]⟩,
⟨1, 8, .oth, [.nf]⟩,
⟨1, 8, .oth, [.nf]⟩,
⟨1, 8, .oth, [.nf]⟩,
⟨1, 8, .oth, [.nm]⟩,
⟨1, 8, .oth, [.nf]⟩,
⟨1, 8, .int .u64, [.i .u64]⟩,
⟨1, 8, .oth, [.nf]⟩,
⟨4, 40, .st [(0, 17), (1, 17), (2, 17), (3, 9)], [.np, .np, .np, .s]⟩,
⟨4, 40, .st [(0, 17), (1, 17), (2, 17), (3, 9)], [.np, .np, .np, .s]⟩,
⟨0, 0, .arr 0 16, []⟩,
⟨0, 0, .st [(0, 193)], []⟩,
⟨0, 0, .st [(0, 193)], []⟩,
⟨1, 8, .oth, [.nf]⟩,
⟨1, 1, .int .u8, [.i .u8]⟩,
⟨1, 1, .int .u8, [.i .u8]⟩,
⟨1, 8, .oth, [.nf]⟩,
⟨1, 8, .oth, [.np]⟩,
⟨1, 4, .int .i32, [.i .i32]⟩,
⟨1, 4, .int .i32, [.i .i32]⟩,
⟨11, 48, .st [(0, 12), (1, 12), (2, 79), (3, 197), (4, 5), (5, 5), (6, 198), (7, 199), (8, 200), (9, 201), (10, 202)], [.i .u64, .i .u64, .i .u32, .i .u8, .i .u8, .i .u8, .i .u8, .nf, .np, .i .i32, .i .i32]⟩,
⟨11, 48, .st [(0, 12), (1, 12), (2, 79), (3, 197), (4, 5), (5, 5), (6, 198), (7, 199), (8, 200), (9, 201), (10, 202)], [.i .u64, .i .u64, .i .u32, .i .u8, .i .u8, .i .u8, .i .u8, .nf, .np, .i .i32, .i .i32]⟩,
⟨1, 8, .oth, [.np]⟩]
theorem TTok : TOk Try.prog TT := by unfold TOk; kernel_rfl
theorem mix : Try.prog.follows .mixedOrders = true := by kernel_rfl
structure S_swap_Slot where
  fMany : Int
  fData : (Fin 16 → Int)
def eS_swap_Slot (x : S_swap_Slot) : PV := .agg [.v (.int .i64 x.fMany), .v (.int .u8 (x.fData 0)), .v (.int .u8 (x.fData 1)), .v (.int .u8 (x.fData 2)), .v (.int .u8 (x.fData 3)), .v (.int .u8 (x.fData 4)), .v (.int .u8 (x.fData 5)), .v (.int .u8 (x.fData 6)), .v (.int .u8 (x.fData 7)), .v (.int .u8 (x.fData 8)), .v (.int .u8 (x.fData 9)), .v (.int .u8 (x.fData 10)), .v (.int .u8 (x.fData 11)), .v (.int .u8 (x.fData 12)), .v (.int .u8 (x.fData 13)), .v (.int .u8 (x.fData 14)), .v (.int .u8 (x.fData 15))]
def eqA_16_uint8 (x y : (Fin 16 → Int)) : Bool := (((x 0) == (y 0)) && (((x 1) == (y 1)) && (((x 2) == (y 2)) && (((x 3) == (y 3)) && (((x 4) == (y 4)) && (((x 5) == (y 5)) && (((x 6) == (y 6)) && (((x 7) == (y 7)) && (((x 8) == (y 8)) && (((x 9) == (y 9)) && (((x 10) == (y 10)) && (((x 11) == (y 11)) && (((x 12) == (y 12)) && (((x 13) == (y 13)) && (((x 14) == (y 14)) && (((x 15) == (y 15)) && true))))))))))))))))
theorem eqA_16_uint8_ok (x y : (Fin 16 → Int)) : EqA Try.prog 49 [((.int .u8 (x 0))), ((.int .u8 (x 1))), ((.int .u8 (x 2))), ((.int .u8 (x 3))), ((.int .u8 (x 4))), ((.int .u8 (x 5))), ((.int .u8 (x 6))), ((.int .u8 (x 7))), ((.int .u8 (x 8))), ((.int .u8 (x 9))), ((.int .u8 (x 10))), ((.int .u8 (x 11))), ((.int .u8 (x 12))), ((.int .u8 (x 13))), ((.int .u8 (x 14))), ((.int .u8 (x 15)))] [((.int .u8 (y 0))), ((.int .u8 (y 1))), ((.int .u8 (y 2))), ((.int .u8 (y 3))), ((.int .u8 (y 4))), ((.int .u8 (y 5))), ((.int .u8 (y 6))), ((.int .u8 (y 7))), ((.int .u8 (y 8))), ((.int .u8 (y 9))), ((.int .u8 (y 10))), ((.int .u8 (y 11))), ((.int .u8 (y 12))), ((.int .u8 (y 13))), ((.int .u8 (y 14))), ((.int .u8 (y 15)))] (eqA_16_uint8 x y) := eqA_of TTok (by kernel_rfl) (by kernel_rfl) (by kernel_rfl)
def eqS_swap_Slot (x y : S_swap_Slot) : Bool := ((x.fMany == y.fMany) && ((((x.fData 0) == (y.fData 0)) && (((x.fData 1) == (y.fData 1)) && (((x.fData 2) == (y.fData 2)) && (((x.fData 3) == (y.fData 3)) && (((x.fData 4) == (y.fData 4)) && (((x.fData 5) == (y.fData 5)) && (((x.fData 6) == (y.fData 6)) && (((x.fData 7) == (y.fData 7)) && (((x.fData 8) == (y.fData 8)) && (((x.fData 9) == (y.fData 9)) && (((x.fData 10) == (y.fData 10)) && (((x.fData 11) == (y.fData 11)) && (((x.fData 12) == (y.fData 12)) && (((x.fData 13) == (y.fData 13)) && (((x.fData 14) == (y.fData 14)) && (((x.fData 15) == (y.fData 15)) && true)))))))))))))))) && true))
theorem eqS_swap_Slot_ok (x y : S_swap_Slot) : EqA Try.prog 64 [((.int .i64 x.fMany)), ((.int .u8 (x.fData 0))), ((.int .u8 (x.fData 1))), ((.int .u8 (x.fData 2))), ((.int .u8 (x.fData 3))), ((.int .u8 (x.fData 4))), ((.int .u8 (x.fData 5))), ((.int .u8 (x.fData 6))), ((.int .u8 (x.fData 7))), ((.int .u8 (x.fData 8))), ((.int .u8 (x.fData 9))), ((.int .u8 (x.fData 10))), ((.int .u8 (x.fData 11))), ((.int .u8 (x.fData 12))), ((.int .u8 (x.fData 13))), ((.int .u8 (x.fData 14))), ((.int .u8 (x.fData 15)))] [((.int .i64 y.fMany)), ((.int .u8 (y.fData 0))), ((.int .u8 (y.fData 1))), ((.int .u8 (y.fData 2))), ((.int .u8 (y.fData 3))), ((.int .u8 (y.fData 4))), ((.int .u8 (y.fData 5))), ((.int .u8 (y.fData 6))), ((.int .u8 (y.fData 7))), ((.int .u8 (y.fData 8))), ((.int .u8 (y.fData 9))), ((.int .u8 (y.fData 10))), ((.int .u8 (y.fData 11))), ((.int .u8 (y.fData 12))), ((.int .u8 (y.fData 13))), ((.int .u8 (y.fData 14))), ((.int .u8 (y.fData 15)))] (eqS_swap_Slot x y) := eqA_of TTok (by kernel_rfl) (by kernel_rfl) (by kernel_rfl)
/- ringhall/swap.New -/
def G_swap_New (n : Nat) (v_n7 : Int) : Option ((List S_swap_Slot) × Int) :=
  if v_n7 < 0 then
   some (([] : (List S_swap_Slot)), 1)
  else
   if v_n7 > 64 then
    some (([] : (List S_swap_Slot)), 1)
   else
    (mkL 24 (S_swap_Slot.mk 0 (fun _ => 0)) v_n7).bind fun (v_m8 : (List S_swap_Slot)) =>
    some (v_m8, 0)
theorem G_swap_New_ok (n : Nat) (v_n7 : Int) (r : (List S_swap_Slot) × Int) (h : G_swap_New n v_n7 = some r) : Ret Try.prog 28 [(eI .i64) v_n7] (.tup [(eL eS_swap_Slot) r.1, (eI .i64) r.2]) := by
  refine ret_run (n := 12) (fn := Try.f28) (c := bodyOf Try.f28) (by kernel_rfl) (by kernel_rfl) (by kernel_rfl) (by kernel_rfl) ?_
  have hF : KC 12 (FinR Try.prog Try.f28 (.tup [(eL eS_swap_Slot) r.1, (eI .i64) r.2])) := FinR.kc' (by kernel_rfl)
  unfold G_swap_New at h
  by_cases h1 : v_n7 < 0
  · rw [if_pos h1] at h
    obtain rfl := Option.some.inj h
    exact pend_sound TTok mix 10 (hs := [.t true, .c, .c]) (by kernel_rfl) (by kernel_rfl) (by kernel_rfl) (.cons (dt h1) .nil)
  · rw [if_neg h1] at h
    by_cases h2 : v_n7 > 64
    · rw [if_pos h2] at h
      obtain rfl := Option.some.inj h
      exact pend_sound TTok mix 10 (hs := [.t false, .c, .t true]) (by kernel_rfl) (by kernel_rfl) (by kernel_rfl) (.cons (df h1) (.cons (dt h2) .nil))
    · rw [if_neg h2] at h
      obtain ⟨v_m8, h3, h⟩ := bind_some h
      obtain rfl := Option.some.inj h
      exact pend_sound TTok mix 10 (hs := [.t false, .c, .t false, .w (v_m8.map eS_swap_Slot)]) (by kernel_rfl) (by kernel_rfl) (by kernel_rfl) (.cons (df h1) (.cons (df h2) (.cons (mkL_ob (f := eS_swap_Slot) (p := .agg [.v (.int .i64 0), .v (.int .u8 0), .v (.int .u8 0), .v (.int .u8 0), .v (.int .u8 0), .v (.int .u8 0), .v (.int .u8 0), .v (.int .u8 0), .v (.int .u8 0), .v (.int .u8 0), .v (.int .u8 0), .v (.int .u8 0), .v (.int .u8 0), .v (.int .u8 0), .v (.int .u8 0), .v (.int .u8 0), .v (.int .u8 0)]) h3 rfl).1 (.cons (mkL_ob (f := eS_swap_Slot) (p := .agg [.v (.int .i64 0), .v (.int .u8 0), .v (.int .u8 0), .v (.int .u8 0), .v (.int .u8 0), .v (.int .u8 0), .v (.int .u8 0), .v (.int .u8 0), .v (.int .u8 0), .v (.int .u8 0), .v (.int .u8 0), .v (.int .u8 0), .v (.int .u8 0), .v (.int .u8 0), .v (.int .u8 0), .v (.int .u8 0), .v (.int .u8 0)]) h3 rfl).2.1 (.cons (mkL_ob (f := eS_swap_Slot) (p := .agg [.v (.int .i64 0), .v (.int .u8 0), .v (.int .u8 0), .v (.int .u8 0), .v (.int .u8 0), .v (.int .u8 0), .v (.int .u8 0), .v (.int .u8 0), .v (.int .u8 0), .v (.int .u8 0), .v (.int .u8 0), .v (.int .u8 0), .v (.int .u8 0), .v (.int .u8 0), .v (.int .u8 0), .v (.int .u8 0), .v (.int .u8 0)]) h3 rfl).2.2.1 (.cons (mkL_ob (f := eS_swap_Slot) (p := .agg [.v (.int .i64 0), .v (.int .u8 0), .v (.int .u8 0), .v (.int .u8 0), .v (.int .u8 0), .v (.int .u8 0), .v (.int .u8 0), .v (.int .u8 0), .v (.int .u8 0), .v (.int .u8 0), .v (.int .u8 0), .v (.int .u8 0), .v (.int .u8 0), .v (.int .u8 0), .v (.int .u8 0), .v (.int .u8 0), .v (.int .u8 0)]) h3 rfl).2.2.2.1 (.cons (mkL_ob (f := eS_swap_Slot) (p := .agg [.v (.int .i64 0), .v (.int .u8 0), .v (.int .u8 0), .v (.int .u8 0), .v (.int .u8 0), .v (.int .u8 0), .v (.int .u8 0), .v (.int .u8 0), .v (.int .u8 0), .v (.int .u8 0), .v (.int .u8 0), .v (.int .u8 0), .v (.int .u8 0), .v (.int .u8 0), .v (.int .u8 0), .v (.int .u8 0), .v (.int .u8 0)]) h3 rfl).2.2.2.2 .nil)))))))
inductive G_swap_Check_L1_R where
  | x0 (v_x17 : Int)
  | x1 
def G_swap_Check_L1_ex : G_swap_Check_L1_R → Ex
  | .x0 _ => .ret
  | .x1  => .exit 0
def G_swap_Check_L1_st (v_l13 : (List S_swap_Slot)) : G_swap_Check_L1_R → PS
  | .x0 v_x17 => ⟨[dd, dd, .d (.v (.int .i64 v_x17)), dd, dd, dd, dd, dd, dd, dd, dd, dd, dd, dd, dd, dd, dd, dd, dd, dd, dd, dd, dd, dd, dd, dd, dd, dd, dd, dd, dd, dd, dd], []⟩
  | .x1  => ⟨[dd, dd, dd, dd, dd, dd, dd, dd, dd, dd, dd, dd, dd, dd, dd, dd, dd, dd, dd, dd, dd, dd, dd, dd, dd, dd, dd, dd, dd, dd, dd, dd, dd], []⟩
def G_swap_Check_L1_hd (v_l13 : (List S_swap_Slot)) (v_x14 : Int) : PS := ⟨[dd, dd, dd, dd, dd, dd, dd, dd, .d (.sl (v_l13.map eS_swap_Slot)), .d (.v (.int .i64 (v_l13.length : Int))), .d (.v (.int .i64 v_x14)), dd, dd, dd, dd, dd, dd, dd, dd, dd, dd, dd, dd, dd, dd, dd, dd, dd, dd, dd, dd, dd, dd], []⟩
def G_swap_Check_L1 (n : Nat) (v_l13 : (List S_swap_Slot)) : Nat → Int → Option G_swap_Check_L1_R
  | 0, _ => none
  | k + 1, v_x14 =>
    if v_x14 < (v_l13.length : Int) then
     (getI v_l13 v_x14).bind fun (v_y16 : S_swap_Slot) =>
     if v_y16.fMany < 0 then
      some (.x0 1)
     else
      if v_y16.fMany > 1024 then
       some (.x0 1)
      else
       if v_y16.fMany = 0 then
        if (eqRes .neq (eqS_swap_Slot v_y16 (S_swap_Slot.mk 0 (fun i : Fin 16 => [0, 0, 0, 0, 0, 0, 0, 0, 0, 0, 0, 0, 0, 0, 0, 0].get i)))) = true then
         some (.x0 3)
        else
         G_swap_Check_L1 n v_l13 k (wi .i64 (v_x14 + 1))
       else
        G_swap_Check_L1 n v_l13 k (wi .i64 (v_x14 + 1))
    else
     some (.x1 )
theorem G_swap_Check_L1_ok {Fi : Ex → PS → Prop} (hF : KC 33 Fi) (ks : List Fr) (n : Nat) (v_l13 : (List S_swap_Slot))  : ∀ (k : Nat) (v_x14 : Int) (o : G_swap_Check_L1_R), G_swap_Check_L1 n v_l13 k v_x14 = some o → RunE Try.prog 33 Fi ks (G_swap_Check_L1_ex o) (G_swap_Check_L1_st v_l13 o) → RunE Try.prog 33 Fi (.l k (cP (cB (cR (cL (cR (cR (bodyOf Try.f36))))))) :: ks) .normal (G_swap_Check_L1_hd v_l13 v_x14)
  | 0, v_x14, o, h, q => by rw [G_swap_Check_L1] at h; cases h
  | k + 1, v_x14, o, h, q => by
    rw [G_swap_Check_L1] at h
    by_cases h6 : v_x14 < (v_l13.length : Int)
    · rw [if_pos h6] at h
      obtain ⟨v_y16, h22, h⟩ := bind_some h
      by_cases h30 : v_y16.fMany < 0
      · rw [if_pos h30] at h
        cases h
        exact pkk_sound TTok mix hF 21 (hs := [.t true, .y (eS_swap_Slot v_y16), .c, .c, .t true, .c, .c, .c]) (ts := []) (s := []) (l := [2]) (by kernel_rfl) (by kernel_rfl) (.cons (dt h6) (.cons (getI_ob (f := eS_swap_Slot) h22) (.cons (show 0 + 17 ≤ 17 by decide) (.cons (dt h30) .nil)))) q
      · rw [if_neg h30] at h
        by_cases h34 : v_y16.fMany > 1024
        · rw [if_pos h34] at h
          cases h
          exact pkk_sound TTok mix hF 21 (hs := [.t true, .y (eS_swap_Slot v_y16), .c, .c, .t false, .c, .c, .c, .t true]) (ts := []) (s := []) (l := [2]) (by kernel_rfl) (by kernel_rfl) (.cons (dt h6) (.cons (getI_ob (f := eS_swap_Slot) h22) (.cons (show 0 + 17 ≤ 17 by decide) (.cons (df h30) (.cons (dt h34) .nil))))) q
        · rw [if_neg h34] at h
          by_cases h35 : v_y16.fMany = 0
          · rw [if_pos h35] at h
            by_cases h36 : (eqRes .neq (eqS_swap_Slot v_y16 (S_swap_Slot.mk 0 (fun i : Fin 16 => [0, 0, 0, 0, 0, 0, 0, 0, 0, 0, 0, 0, 0, 0, 0, 0].get i)))) = true
            · rw [if_pos h36] at h
              cases h
              exact pkk_sound TTok mix hF 24 (hs := [.t true, .y (eS_swap_Slot v_y16), .c, .c, .t false, .c, .c, .c, .t false, .c, .t true, .c, .c, .c, .q (eqS_swap_Slot v_y16 (S_swap_Slot.mk 0 (fun i : Fin 16 => [0, 0, 0, 0, 0, 0, 0, 0, 0, 0, 0, 0, 0, 0, 0, 0].get i))), .t true]) (ts := []) (s := []) (l := [2]) (by kernel_rfl) (by kernel_rfl) (.cons (dt h6) (.cons (getI_ob (f := eS_swap_Slot) h22) (.cons (show 0 + 17 ≤ 17 by decide) (.cons (df h30) (.cons (df h34) (.cons (bt h35) (.cons (eqS_swap_Slot_ok v_y16 (S_swap_Slot.mk 0 (fun i : Fin 16 => [0, 0, 0, 0, 0, 0, 0, 0, 0, 0, 0, 0, 0, 0, 0, 0].get i))) (.cons h36 .nil)))))))) q
            · rw [if_neg h36] at h
              exact pkk_sound TTok mix hF 21 (hs := [.t true, .y (eS_swap_Slot v_y16), .c, .c, .t false, .c, .c, .c, .t false, .c, .t true, .c, .c, .c, .q (eqS_swap_Slot v_y16 (S_swap_Slot.mk 0 (fun i : Fin 16 => [0, 0, 0, 0, 0, 0, 0, 0, 0, 0, 0, 0, 0, 0, 0, 0].get i))), .t false]) (ts := []) (s := []) (l := [8, 9, 10]) (by kernel_rfl) (by kernel_rfl) (.cons (dt h6) (.cons (getI_ob (f := eS_swap_Slot) h22) (.cons (show 0 + 17 ≤ 17 by decide) (.cons (df h30) (.cons (df h34) (.cons (bt h35) (.cons (eqS_swap_Slot_ok v_y16 (S_swap_Slot.mk 0 (fun i : Fin 16 => [0, 0, 0, 0, 0, 0, 0, 0, 0, 0, 0, 0, 0, 0, 0, 0].get i))) (.cons (vf h36) .nil)))))))) (G_swap_Check_L1_ok hF ks n v_l13 k (wi .i64 (v_x14 + 1)) _ h q)
          · rw [if_neg h35] at h
            exact pkk_sound TTok mix hF 21 (hs := [.t true, .y (eS_swap_Slot v_y16), .c, .c, .t false, .c, .c, .c, .t false, .c, .t false, .c, .c, .c]) (ts := []) (s := []) (l := [8, 9, 10]) (by kernel_rfl) (by kernel_rfl) (.cons (dt h6) (.cons (getI_ob (f := eS_swap_Slot) h22) (.cons (show 0 + 17 ≤ 17 by decide) (.cons (df h30) (.cons (df h34) (.cons (bf h35) .nil)))))) (G_swap_Check_L1_ok hF ks n v_l13 k (wi .i64 (v_x14 + 1)) _ h q)
    · rw [if_neg h6] at h
      cases h
      exact pkk_sound TTok mix hF 8 (hs := [.t false]) (ts := []) (s := []) (l := []) (by kernel_rfl) (by kernel_rfl) (.cons (df h6) .nil) q
/- ringhall/swap.Check -/
def G_swap_Check (n : Nat) (v_l13 : (List S_swap_Slot)) : Option (Int) :=
  if (v_l13.length : Int) > 64 then
   some 2
  else
   (G_swap_Check_L1 n v_l13 n 0).bind fun v_o20 => match v_o20 with
   | .x0 v_z21 =>
     some v_z21
   | .x1  =>
     some 0
theorem G_swap_Check_ok (n : Nat) (v_l13 : (List S_swap_Slot)) (r : Int) (h : G_swap_Check n v_l13 = some r) : Ret Try.prog 36 [(eL eS_swap_Slot) v_l13] ((eI .i64) r) := by
  refine ret_run (n := 33) (fn := Try.f36) (c := bodyOf Try.f36) (by kernel_rfl) (by kernel_rfl) (by kernel_rfl) (by kernel_rfl) ?_
  have hF : KC 33 (FinR Try.prog Try.f36 ((eI .i64) r)) := FinR.kc' (by kernel_rfl)
  unfold G_swap_Check at h
  by_cases h5 : (v_l13.length : Int) > 64
  · rw [if_pos h5] at h
    obtain rfl := Option.some.inj h
    exact pend_sound TTok mix 10 (hs := [.u (.d (.v (.int .i64 (v_l13.length : Int)))), .t true]) (by kernel_rfl) (by kernel_rfl) (by kernel_rfl) (.cons (len_ob (f := eS_swap_Slot) (l := v_l13)) (.cons (dt h5) .nil))
  · rw [if_neg h5] at h
    obtain ⟨v_o20, h37, h⟩ := bind_some h
    refine pkk_sound TTok mix hF 12 (hs := [.u (.d (.v (.int .i64 (v_l13.length : Int)))), .t false, .u (.d (.v (.int .i64 (v_l13.length : Int)))), .n n]) (ts := []) (s := []) (l := [8, 9, 10]) (by kernel_rfl) (by kernel_rfl) (.cons (len_ob (f := eS_swap_Slot) (l := v_l13)) (.cons (df h5) (.cons (len_ob (f := eS_swap_Slot) (l := v_l13)) .nil))) (G_swap_Check_L1_ok hF (.b 0 :: .s (cR (cR (cR (bodyOf Try.f36)))) :: []) n v_l13 n 0 _ h37 ?_)
    cases v_o20 with
    | x0 v_z21 =>
      dsimp only at h
      obtain rfl := Option.some.inj h
      exact pend_sound TTok mix 2 (hs := []) (by kernel_rfl) (by kernel_rfl) (by kernel_rfl) .nil
    | x1  =>
      dsimp only at h
      obtain rfl := Option.some.inj h
      exact pend_sound TTok mix 4 (hs := []) (by kernel_rfl) (by kernel_rfl) (by kernel_rfl) .nil
inductive G_slices_IndexFunc_swap_Slot_swap_Slot_L1_R where
  | x0 (v_x30 : Int)
  | x1 
def G_slices_IndexFunc_swap_Slot_swap_Slot_L1_ex : G_slices_IndexFunc_swap_Slot_swap_Slot_L1_R → Ex
  | .x0 _ => .ret
  | .x1  => .exit 0
def G_slices_IndexFunc_swap_Slot_swap_Slot_L1_st (v_s23 : (List S_swap_Slot)) (v_f24 : (S_swap_Slot → Option (Bool))) (v_f24_g : FuncId) (v_f24_c : (List PV)) : G_slices_IndexFunc_swap_Slot_swap_Slot_L1_R → PS
  | .x0 v_x30 => ⟨[dd, dd, dd, dd, .d (.v (.int .i64 v_x30)), dd, dd, dd, dd, dd, dd, dd, dd, dd, dd, dd, dd, dd, dd], []⟩
  | .x1  => ⟨[dd, dd, dd, dd, dd, dd, dd, dd, dd, dd, dd, dd, dd, dd, dd, dd, dd, dd, dd], []⟩
def G_slices_IndexFunc_swap_Slot_swap_Slot_L1_hd (v_s23 : (List S_swap_Slot)) (v_f24 : (S_swap_Slot → Option (Bool))) (v_f24_g : FuncId) (v_f24_c : (List PV)) (v_x25 : Int) : PS := ⟨[.d (.sl (v_s23.map eS_swap_Slot)), .d (.clo v_f24_g v_f24_c), dd, dd, dd, dd, dd, .d (.v (.int .i64 (v_s23.length : Int))), .d (.v (.int .i64 v_x25)), dd, dd, dd, dd, dd, dd, dd, dd, dd, dd], []⟩
def G_slices_IndexFunc_swap_Slot_swap_Slot_L1 (n : Nat) (v_s23 : (List S_swap_Slot)) (v_f24 : (S_swap_Slot → Option (Bool))) : Nat → Int → Option G_slices_IndexFunc_swap_Slot_swap_Slot_L1_R
  | 0, _ => none
  | k + 1, v_x25 =>
    if v_x25 < (v_s23.length : Int) then
     (getI v_s23 v_x25).bind fun (v_y28 : S_swap_Slot) =>
     (v_f24 v_y28).bind fun (v_r29 : (Bool)) =>
     if v_r29 = true then
      some (.x0 v_x25)
     else
      G_slices_IndexFunc_swap_Slot_swap_Slot_L1 n v_s23 v_f24 k (wi .i64 (v_x25 + 1))
    else
     some (.x1 )
theorem G_slices_IndexFunc_swap_Slot_swap_Slot_L1_ok {Fi : Ex → PS → Prop} (hF : KC 19 Fi) (ks : List Fr) (n : Nat) (v_s23 : (List S_swap_Slot)) (v_f24 : (S_swap_Slot → Option (Bool))) (v_f24_g : FuncId) (v_f24_c : (List PV)) (v_f24_h : ∀ (x0 : S_swap_Slot) (r : Bool), v_f24 x0 = some r → Ret Try.prog v_f24_g ([eS_swap_Slot x0] ++ v_f24_c) (eB r)) : ∀ (k : Nat) (v_x25 : Int) (o : G_slices_IndexFunc_swap_Slot_swap_Slot_L1_R), G_slices_IndexFunc_swap_Slot_swap_Slot_L1 n v_s23 v_f24 k v_x25 = some o → RunE Try.prog 19 Fi ks (G_slices_IndexFunc_swap_Slot_swap_Slot_L1_ex o) (G_slices_IndexFunc_swap_Slot_swap_Slot_L1_st v_s23 v_f24 v_f24_g v_f24_c o) → RunE Try.prog 19 Fi (.l k (cP (cB (cR (cL (cR (bodyOf Try.f98)))))) :: ks) .normal (G_slices_IndexFunc_swap_Slot_swap_Slot_L1_hd v_s23 v_f24 v_f24_g v_f24_c v_x25)
  | 0, v_x25, o, h, q => by rw [G_slices_IndexFunc_swap_Slot_swap_Slot_L1] at h; cases h
  | k + 1, v_x25, o, h, q => by
    rw [G_slices_IndexFunc_swap_Slot_swap_Slot_L1] at h
    by_cases h53 : v_x25 < (v_s23.length : Int)
    · rw [if_pos h53] at h
      obtain ⟨v_y28, h57, h⟩ := bind_some h
      obtain ⟨v_r29, h58, h⟩ := bind_some h
      by_cases h59 : v_r29 = true
      · rw [if_pos h59] at h
        cases h
        exact pkk_sound TTok mix hF 19 (hs := [.t true, .y (eS_swap_Slot v_y28), .r (eB v_r29), .t true]) (ts := []) (s := []) (l := [4]) (by kernel_rfl) (by kernel_rfl) (.cons (dt h53) (.cons (getI_ob (f := eS_swap_Slot) h57) (.cons (v_f24_h v_y28 _ h58) (.cons h59 .nil)))) q
      · rw [if_neg h59] at h
        exact pkk_sound TTok mix hF 16 (hs := [.t true, .y (eS_swap_Slot v_y28), .r (eB v_r29), .t false]) (ts := []) (s := []) (l := [0, 1, 7, 8]) (by kernel_rfl) (by kernel_rfl) (.cons (dt h53) (.cons (getI_ob (f := eS_swap_Slot) h57) (.cons (v_f24_h v_y28 _ h58) (.cons (vf h59) .nil)))) (G_slices_IndexFunc_swap_Slot_swap_Slot_L1_ok hF ks n v_s23 v_f24 v_f24_g v_f24_c v_f24_h k (wi .i64 (v_x25 + 1)) _ h q)
    · rw [if_neg h53] at h
      cases h
      exact pkk_sound TTok mix hF 8 (hs := [.t false]) (ts := []) (s := []) (l := []) (by kernel_rfl) (by kernel_rfl) (.cons (df h53) .nil) q
/- slices.IndexFunc[[]ringhall/swap.Slot,ringhall/swap.Slot] -/
def G_slices_IndexFunc_swap_Slot_swap_Slot (n : Nat) (v_s23 : (List S_swap_Slot)) (v_f24 : (S_swap_Slot → Option (Bool))) : Option (Int) :=
  (G_slices_IndexFunc_swap_Slot_swap_Slot_L1 n v_s23 v_f24 n 0).bind fun v_o31 => match v_o31 with
  | .x0 v_z32 =>
    some v_z32
  | .x1  =>
    some (-1)
theorem G_slices_IndexFunc_swap_Slot_swap_Slot_ok (n : Nat) (v_s23 : (List S_swap_Slot)) (v_f24 : (S_swap_Slot → Option (Bool))) (v_f24_g : FuncId) (v_f24_c : List PV) (v_f24_h : ∀ (x0 : S_swap_Slot) (r : Bool), v_f24 x0 = some r → Ret Try.prog v_f24_g ([eS_swap_Slot x0] ++ v_f24_c) (eB r)) (r : Int) (h : G_slices_IndexFunc_swap_Slot_swap_Slot n v_s23 v_f24 = some r) : Ret Try.prog 98 [(eL eS_swap_Slot) v_s23, (.clo v_f24_g v_f24_c)] ((eI .i64) r) := by
  refine ret_run (n := 19) (fn := Try.f98) (c := bodyOf Try.f98) (by kernel_rfl) (by kernel_rfl) (by kernel_rfl) (by kernel_rfl) ?_
  have hF : KC 19 (FinR Try.prog Try.f98 ((eI .i64) r)) := FinR.kc' (by kernel_rfl)
  unfold G_slices_IndexFunc_swap_Slot_swap_Slot at h
  obtain ⟨v_o31, h60, h⟩ := bind_some h
  refine pkk_sound TTok mix hF 7 (hs := [.u (.d (.v (.int .i64 (v_s23.length : Int)))), .n n]) (ts := []) (s := []) (l := [0, 1, 7, 8]) (by kernel_rfl) (by kernel_rfl) (.cons (len_ob (f := eS_swap_Slot) (l := v_s23)) .nil) (G_slices_IndexFunc_swap_Slot_swap_Slot_L1_ok hF (.b 0 :: .s (cR (cR (bodyOf Try.f98))) :: []) n v_s23 v_f24 v_f24_g v_f24_c v_f24_h n 0 _ h60 ?_)
  cases v_o31 with
  | x0 v_z32 =>
    dsimp only at h
    obtain rfl := Option.some.inj h
    exact pend_sound TTok mix 2 (hs := []) (by kernel_rfl) (by kernel_rfl) (by kernel_rfl) .nil
  | x1  =>
    dsimp only at h
    obtain rfl := Option.some.inj h
    exact pend_sound TTok mix 4 (hs := []) (by kernel_rfl) (by kernel_rfl) (by kernel_rfl) .nil
/- ringhall/swap.Put$1 -/
def G_swap_Put_1 (n : Nat) (v_s33 : S_swap_Slot) : Option (Bool) :=
  some (v_s33.fMany == 0)
theorem G_swap_Put_1_ok (n : Nat) (v_s33 : S_swap_Slot) (r : Bool) (h : G_swap_Put_1 n v_s33 = some r) : Ret Try.prog 99 [eS_swap_Slot v_s33] (eB r) := by
  refine ret_run (n := 6) (fn := Try.f99) (c := bodyOf Try.f99) (by kernel_rfl) (by kernel_rfl) (by kernel_rfl) (by kernel_rfl) ?_
  have hF : KC 6 (FinR Try.prog Try.f99 (eB r)) := FinR.kc' (by kernel_rfl)
  unfold G_swap_Put_1 at h
  obtain rfl := Option.some.inj h
  exact pend_sound TTok mix 5 (hs := [.c]) (by kernel_rfl) (by kernel_rfl) (by kernel_rfl) .nil
/- slices.Clone[[]ringhall/swap.Slot,ringhall/swap.Slot] -/
def G_slices_Clone_swap_Slot_swap_Slot_A (n : Nat) (v_c35 : Nat) : Option ((List S_swap_Slot)) :=
  some ([] : List S_swap_Slot)
theorem G_slices_Clone_swap_Slot_swap_Slot_A_ok (n : Nat) (v_c35 : Nat) (r : (List S_swap_Slot)) (h : G_slices_Clone_swap_Slot_swap_Slot_A n v_c35 = some r) : RetH Try.prog 100 [.d (.v (.slice none 0 v_c35))] [] (.srf 0) [.row 64 17 (r.map eS_swap_Slot)] := by
  refine retH_run (n := 8) (fn := Try.f100) (c := bodyOf Try.f100) (by kernel_rfl) (by kernel_rfl) (by kernel_rfl) (by kernel_rfl) ?_
  have hF : KC 8 (FinH Try.prog Try.f100 [] (.srf 0) [.row 64 17 (r.map eS_swap_Slot)]) := FinH.kc' (by kernel_rfl)
  unfold G_slices_Clone_swap_Slot_swap_Slot_A at h
  obtain rfl := Option.some.inj h
  exact pendH_sound TTok mix 11 (hs := [.c, .dl 4, .th 2 64 17]) [12] (by kernel_rfl) (by kernel_rfl) (by kernel_rfl) .nil
/- slices.Clone[[]ringhall/swap.Slot,ringhall/swap.Slot] -/
def G_slices_Clone_swap_Slot_swap_Slot_B (n : Nat) (v_a36 : Addr) (v_c37 : Nat) : Option ((List S_swap_Slot)) :=
  (app 24 ([] : List S_swap_Slot) ([] : (List S_swap_Slot))).bind fun (v_a38 : (List S_swap_Slot)) =>
  some v_a38
theorem G_slices_Clone_swap_Slot_swap_Slot_B_ok (n : Nat) (v_a36 : Addr) (v_c37 : Nat) (r : (List S_swap_Slot)) (h : G_slices_Clone_swap_Slot_swap_Slot_B n v_a36 v_c37 = some r) : RetH Try.prog 100 [.d (.v (.slice (some v_a36) 0 v_c37))] [] (.srf 0) [.row 64 17 (r.map eS_swap_Slot)] := by
  refine retH_run (n := 8) (fn := Try.f100) (c := bodyOf Try.f100) (by kernel_rfl) (by kernel_rfl) (by kernel_rfl) (by kernel_rfl) ?_
  have hF : KC 8 (FinH Try.prog Try.f100 [] (.srf 0) [.row 64 17 (r.map eS_swap_Slot)]) := FinH.kc' (by kernel_rfl)
  unfold G_slices_Clone_swap_Slot_swap_Slot_B at h
  obtain ⟨v_a38, h64, h⟩ := bind_some h
  obtain rfl := Option.some.inj h
  exact pendH_sound TTok mix 10 (hs := [.c, .w (([] : List S_swap_Slot).map eS_swap_Slot), .w (v_a38.map eS_swap_Slot)]) [15] (by kernel_rfl) (by kernel_rfl) (by kernel_rfl) (.cons (Eq.refl (([] : List S_swap_Slot).map eS_swap_Slot)) (.cons (app_ob (f := eS_swap_Slot) (s := 17) h64 (fun _ => rfl)).1 (.cons (app_ob (f := eS_swap_Slot) (s := 17) h64 (fun _ => rfl)).2.1 (.cons (app_ob (f := eS_swap_Slot) (s := 17) h64 (fun _ => rfl)).2.2.1 (.cons (app_ob (f := eS_swap_Slot) (s := 17) h64 (fun _ => rfl)).2.2.2 .nil)))))
/- slices.Clone[[]ringhall/swap.Slot,ringhall/swap.Slot] -/
def G_slices_Clone_swap_Slot_swap_Slot_C (n : Nat) (v_y39 : S_swap_Slot) (v_ys40 : (List S_swap_Slot)) : Option ((List S_swap_Slot)) :=
  (app 24 ([] : List S_swap_Slot) (v_y39 :: v_ys40)).bind fun (v_a41 : (List S_swap_Slot)) =>
  some v_a41
theorem G_slices_Clone_swap_Slot_swap_Slot_C_ok (n : Nat) (v_y39 : S_swap_Slot) (v_ys40 : (List S_swap_Slot)) (r : (List S_swap_Slot)) (h : G_slices_Clone_swap_Slot_swap_Slot_C n v_y39 v_ys40 = some r) : RetH Try.prog 100 [.d (.sl (eS_swap_Slot v_y39 :: v_ys40.map eS_swap_Slot))] [] (.srf 0) [.row 64 17 (r.map eS_swap_Slot)] := by
  refine retH_run (n := 8) (fn := Try.f100) (c := bodyOf Try.f100) (by kernel_rfl) (by kernel_rfl) (by kernel_rfl) (by kernel_rfl) ?_
  have hF : KC 8 (FinH Try.prog Try.f100 [] (.srf 0) [.row 64 17 (r.map eS_swap_Slot)]) := FinH.kc' (by kernel_rfl)
  unfold G_slices_Clone_swap_Slot_swap_Slot_C at h
  obtain ⟨v_a41, h65, h⟩ := bind_some h
  obtain rfl := Option.some.inj h
  exact pendH_sound TTok mix 10 (hs := [.c, .w (([] : List S_swap_Slot).map eS_swap_Slot), .w (v_a41.map eS_swap_Slot)]) [15] (by kernel_rfl) (by kernel_rfl) (by kernel_rfl) (.cons (Eq.refl (([] : List S_swap_Slot).map eS_swap_Slot)) (.cons (app_ob (f := eS_swap_Slot) (s := 17) h65 (fun _ => rfl)).1 (.cons (app_ob (f := eS_swap_Slot) (s := 17) h65 (fun _ => rfl)).2.1 (.cons (app_ob (f := eS_swap_Slot) (s := 17) h65 (fun _ => rfl)).2.2.1 (.cons (app_ob (f := eS_swap_Slot) (s := 17) h65 (fun _ => rfl)).2.2.2 .nil)))))
def G_slices_Clone_swap_Slot_swap_Slot (n : Nat) (xs : (List S_swap_Slot)) : Option (List S_swap_Slot) := app 24 [] xs
theorem G_slices_Clone_swap_Slot_swap_Slot_ok (n : Nat) (xs : (List S_swap_Slot)) (r : (List S_swap_Slot)) (h : G_slices_Clone_swap_Slot_swap_Slot n xs = some r) : RetH Try.prog 100 [.d (.sl (xs.map eS_swap_Slot))] [] (.srf 0) [.row 64 17 (r.map eS_swap_Slot)] := by
  unfold G_slices_Clone_swap_Slot_swap_Slot at h
  have e : app 24 ([] : (List S_swap_Slot)) [] = some [] := by simp [app]
  cases xs with
  | nil =>
    rw [e] at h; obtain rfl := Option.some.inj h
    exact clone_nil (fun c => G_slices_Clone_swap_Slot_swap_Slot_A_ok n c _ (by unfold G_slices_Clone_swap_Slot_swap_Slot_A; rfl)) (fun a c => G_slices_Clone_swap_Slot_swap_Slot_B_ok n a c _ (by unfold G_slices_Clone_swap_Slot_swap_Slot_B; rw [e]; rfl))
  | cons y ys => exact G_slices_Clone_swap_Slot_swap_Slot_C_ok n y ys _ (by unfold G_slices_Clone_swap_Slot_swap_Slot_C; rw [h]; rfl)
/- ringhall/swap.Put -/
def G_swap_Put (n : Nat) (v_l10 : (List S_swap_Slot)) (v_data11 : (Fin 16 → Int)) (v_many12 : Int) : Option ((List S_swap_Slot) × Int × Int) :=
  (G_swap_Check n v_l10).bind fun (v_r22 : (Int)) =>
  if v_r22 = 0 then
   if v_many12 < 1 then
    some (([] : (List S_swap_Slot)), 0, 1)
   else
    if v_many12 > 1024 then
     some (([] : (List S_swap_Slot)), 0, 1)
    else
     (G_slices_IndexFunc_swap_Slot_swap_Slot n v_l10 (fun (y0 : S_swap_Slot) => G_swap_Put_1 n y0)).bind fun (v_r34 : (Int)) =>
     if v_r34 < 0 then
      some (([] : (List S_swap_Slot)), 0, 6)
     else
      (G_slices_Clone_swap_Slot_swap_Slot n v_l10).bind fun (v_r42 : ((List S_swap_Slot))) =>
      if 0 ≤ v_r34 ∧ (v_r34).toNat < v_r42.length then
       (v_r42[(v_r34).toNat]?).bind fun (v_y43 : S_swap_Slot) =>
       some ((v_r42.set (v_r34).toNat (S_swap_Slot.mk v_many12 v_data11)), v_r34, 0)
      else none
  else
   some (([] : (List S_swap_Slot)), 0, v_r22)
theorem G_swap_Put_ok (n : Nat) (v_l10 : (List S_swap_Slot)) (v_data11 : (Fin 16 → Int)) (v_many12 : Int) (r : (List S_swap_Slot) × Int × Int) (h : G_swap_Put n v_l10 v_data11 v_many12 = some r) : Ret Try.prog 29 [(eL eS_swap_Slot) v_l10, (fun x => PV.agg [.v (.int .u8 (x 0)), .v (.int .u8 (x 1)), .v (.int .u8 (x 2)), .v (.int .u8 (x 3)), .v (.int .u8 (x 4)), .v (.int .u8 (x 5)), .v (.int .u8 (x 6)), .v (.int .u8 (x 7)), .v (.int .u8 (x 8)), .v (.int .u8 (x 9)), .v (.int .u8 (x 10)), .v (.int .u8 (x 11)), .v (.int .u8 (x 12)), .v (.int .u8 (x 13)), .v (.int .u8 (x 14)), .v (.int .u8 (x 15))]) v_data11, (eI .i64) v_many12] (.tup [(eL eS_swap_Slot) r.1, (eI .i64) r.2.1, (eI .i64) r.2.2]) := by
  refine ret_run (n := 39) (fn := Try.f29) (c := bodyOf Try.f29) (by kernel_rfl) (by kernel_rfl) (by kernel_rfl) (by kernel_rfl) ?_
  have hF : KC 39 (FinR Try.prog Try.f29 (.tup [(eL eS_swap_Slot) r.1, (eI .i64) r.2.1, (eI .i64) r.2.2])) := FinR.kc' (by kernel_rfl)
  unfold G_swap_Put at h
  obtain ⟨v_r22, h38, h⟩ := bind_some h
  by_cases h49 : v_r22 = 0
  · rw [if_pos h49] at h
    by_cases h50 : v_many12 < 1
    · rw [if_pos h50] at h
      obtain rfl := Option.some.inj h
      exact pend_sound TTok mix 17 (hs := [.r ((eI .i64) v_r22), .t false, .t true, .c, .c]) (by kernel_rfl) (by kernel_rfl) (by kernel_rfl) (.cons (G_swap_Check_ok n v_l10 _ h38) (.cons (nf h49) (.cons (dt h50) .nil)))
    · rw [if_neg h50] at h
      by_cases h52 : v_many12 > 1024
      · rw [if_pos h52] at h
        obtain rfl := Option.some.inj h
        exact pend_sound TTok mix 17 (hs := [.r ((eI .i64) v_r22), .t false, .t false, .c, .t true]) (by kernel_rfl) (by kernel_rfl) (by kernel_rfl) (.cons (G_swap_Check_ok n v_l10 _ h38) (.cons (nf h49) (.cons (df h50) (.cons (dt h52) .nil))))
      · rw [if_neg h52] at h
        obtain ⟨v_r34, h61, h⟩ := bind_some h
        by_cases h63 : v_r34 < 0
        · rw [if_pos h63] at h
          obtain rfl := Option.some.inj h
          exact pend_sound TTok mix 24 (hs := [.r ((eI .i64) v_r22), .t false, .t false, .c, .t false, .r ((eI .i64) v_r34), .t true]) (by kernel_rfl) (by kernel_rfl) (by kernel_rfl) (.cons (G_swap_Check_ok n v_l10 _ h38) (.cons (nf h49) (.cons (df h50) (.cons (df h52) (.cons (G_slices_IndexFunc_swap_Slot_swap_Slot_ok n v_l10 (fun (y0 : S_swap_Slot) => G_swap_Put_1 n y0) 99 [] (fun y0 r h => G_swap_Put_1_ok n y0 r h) _ h61) (.cons (dt h63) .nil))))))
        · rw [if_neg h63] at h
          obtain ⟨v_r42, h66, h⟩ := bind_some h
          by_cases h67 : 0 ≤ v_r34 ∧ (v_r34).toNat < v_r42.length
          · rw [if_pos h67] at h
            obtain ⟨v_y43, h68, h⟩ := bind_some h
            obtain rfl := Option.some.inj h
            exact pend_sound TTok mix 28 (hs := [.r ((eI .i64) v_r22), .t false, .t false, .c, .t false, .r ((eI .i64) v_r34), .t false, .h [] [] [.row 64 17 (v_r42.map eS_swap_Slot)] (.srf 0), .c, .w ((v_r42.set (v_r34).toNat (S_swap_Slot.mk v_many12 v_data11)).map eS_swap_Slot), .y (eS_swap_Slot v_y43)]) (by kernel_rfl) (by kernel_rfl) (by kernel_rfl) (.cons (G_swap_Check_ok n v_l10 _ h38) (.cons (nf h49) (.cons (df h50) (.cons (df h52) (.cons (G_slices_IndexFunc_swap_Slot_swap_Slot_ok n v_l10 (fun (y0 : S_swap_Slot) => G_swap_Put_1 n y0) 99 [] (fun y0 r h => G_swap_Put_1_ok n y0 r h) _ h61) (.cons (df h63) (.cons (G_slices_Clone_swap_Slot_swap_Slot_ok n v_l10 _ h66) (.cons (idx_ob (f := eS_swap_Slot) h67) (.cons (get_ob (f := eS_swap_Slot) h68) (.cons (Eq.refl (pcells (.agg [.v (.int .i64 v_many12), .v (.int .u8 (v_data11 0)), .v (.int .u8 (v_data11 1)), .v (.int .u8 (v_data11 2)), .v (.int .u8 (v_data11 3)), .v (.int .u8 (v_data11 4)), .v (.int .u8 (v_data11 5)), .v (.int .u8 (v_data11 6)), .v (.int .u8 (v_data11 7)), .v (.int .u8 (v_data11 8)), .v (.int .u8 (v_data11 9)), .v (.int .u8 (v_data11 10)), .v (.int .u8 (v_data11 11)), .v (.int .u8 (v_data11 12)), .v (.int .u8 (v_data11 13)), .v (.int .u8 (v_data11 14)), .v (.int .u8 (v_data11 15))]))) (.cons (set_ob (f := eS_swap_Slot) (l := v_r42) (k := (v_r34).toNat) (z := (S_swap_Slot.mk v_many12 v_data11)) (p := .agg [.v (.int .i64 v_many12), .v (.int .u8 (v_data11 0)), .v (.int .u8 (v_data11 1)), .v (.int .u8 (v_data11 2)), .v (.int .u8 (v_data11 3)), .v (.int .u8 (v_data11 4)), .v (.int .u8 (v_data11 5)), .v (.int .u8 (v_data11 6)), .v (.int .u8 (v_data11 7)), .v (.int .u8 (v_data11 8)), .v (.int .u8 (v_data11 9)), .v (.int .u8 (v_data11 10)), .v (.int .u8 (v_data11 11)), .v (.int .u8 (v_data11 12)), .v (.int .u8 (v_data11 13)), .v (.int .u8 (v_data11 14)), .v (.int .u8 (v_data11 15))]) rfl) .nil)))))))))))
          · rw [if_neg h67] at h; cases h
  · rw [if_neg h49] at h
    obtain rfl := Option.some.inj h
    exact pend_sound TTok mix 14 (hs := [.r ((eI .i64) v_r22), .t true]) (by kernel_rfl) (by kernel_rfl) (by kernel_rfl) (.cons (G_swap_Check_ok n v_l10 _ h38) (.cons (nt h49) .nil))
inductive G_swap_used_C1_R where
  | x0 (v_x51 : Bool)
def G_swap_used_C1_ex : G_swap_used_C1_R → Ex
  | .x0 _ => .normal
def G_swap_used_C1_st (v_l47 : (List S_swap_Slot)) (v_k48 : Int) (v_r49 : (Int)) : G_swap_used_C1_R → PS
  | .x0 v_x51 => ⟨[dd, dd, dd, dd, dd, .d (.v (.int .i64 v_r49)), dd, dd, dd, dd, dd, dd, dd, dd, dd, dd, dd, dd, dd, dd, dd, dd, dd, dd, dd, dd, dd, .d (.v (.bool v_x51)), dd], []⟩
def G_swap_used_C1_hd (v_l47 : (List S_swap_Slot)) (v_k48 : Int) (v_r49 : (Int))  : PS := ⟨[.d (.sl (v_l47.map eS_swap_Slot)), .d (.v (.int .i64 v_k48)), dd, dd, dd, .d (.v (.int .i64 v_r49)), dd, dd, dd, dd, dd, dd, dd, dd, dd, dd, dd, dd, dd, dd, dd, dd, dd, dd, dd, dd, dd, dd, dd], []⟩
def G_swap_used_C1 (n : Nat) (v_l47 : (List S_swap_Slot)) (v_k48 : Int) (v_r49 : (Int)) : Option G_swap_used_C1_R :=
  if v_r49 = 0 then
   if v_k48 < 0 then
    some (.x0 true)
   else
    if v_k48 ≥ (v_l47.length : Int) then
     some (.x0 true)
    else
     (getI v_l47 v_k48).bind fun (v_y53 : S_swap_Slot) =>
     some (.x0 (v_y53.fMany == 0))
  else
   some (.x0 false)
theorem G_swap_used_C1_ok {Fi : Ex → PS → Prop} (hF : KC 29 Fi) (ks : List Fr) (n : Nat) (v_l47 : (List S_swap_Slot)) (v_k48 : Int) (v_r49 : (Int))  (o : G_swap_used_C1_R) (h : G_swap_used_C1 n v_l47 v_k48 v_r49 = some o) (q : RunE Try.prog 29 Fi ks (G_swap_used_C1_ex o) (G_swap_used_C1_st v_l47 v_k48 v_r49 o)) : RunE Try.prog 29 Fi (.s (cL (cL (cR (cR (bodyOf Try.f101))))) :: ks) .normal (G_swap_used_C1_hd v_l47 v_k48 v_r49) := by
  unfold G_swap_used_C1 at h
  by_cases h75 : v_r49 = 0
  · rw [if_pos h75] at h
    by_cases h76 : v_k48 < 0
    · rw [if_pos h76] at h
      cases h
      exact pkk_sound TTok mix hF 1 (hs := [.t true, .c, .c, .t true, .c, .c, .c, .c, .c, .c, .c, .c, .c, .c, .c, .c]) (ts := []) (s := []) (l := [5, 27]) (by kernel_rfl) (by kernel_rfl) (.cons (bt h75) (.cons (dt h76) .nil)) q
    · rw [if_neg h76] at h
      by_cases h77 : v_k48 ≥ (v_l47.length : Int)
      · rw [if_pos h77] at h
        cases h
        exact pkk_sound TTok mix hF 1 (hs := [.t true, .c, .c, .t false, .c, .c, .u (.d (.v (.int .i64 (v_l47.length : Int)))), .c, .c, .c, .t true, .c, .c, .c, .c, .c, .c]) (ts := []) (s := []) (l := [5, 27]) (by kernel_rfl) (by kernel_rfl) (.cons (bt h75) (.cons (df h76) (.cons (len_ob (f := eS_swap_Slot) (l := v_l47)) (.cons (dt h77) .nil)))) q
      · rw [if_neg h77] at h
        obtain ⟨v_y53, h78, h⟩ := bind_some h
        cases h
        exact pkk_sound TTok mix hF 1 (hs := [.t true, .c, .c, .t false, .c, .c, .u (.d (.v (.int .i64 (v_l47.length : Int)))), .c, .c, .c, .t false, .c, .c, .y (eS_swap_Slot v_y53), .c, .c, .c, .c, .c]) (ts := []) (s := []) (l := [5, 27]) (by kernel_rfl) (by kernel_rfl) (.cons (bt h75) (.cons (df h76) (.cons (len_ob (f := eS_swap_Slot) (l := v_l47)) (.cons (df h77) (.cons (getI_ob (f := eS_swap_Slot) h78) .nil))))) q
  · rw [if_neg h75] at h
    cases h
    exact pkk_sound TTok mix hF 1 (hs := [.t false, .c, .c, .c, .c, .c]) (ts := []) (s := []) (l := [5, 27]) (by kernel_rfl) (by kernel_rfl) (.cons (bf h75) .nil) q
/- ringhall/swap.used -/
def G_swap_used (n : Nat) (v_l47 : (List S_swap_Slot)) (v_k48 : Int) : Option (Int) :=
  (G_swap_Check n v_l47).bind fun (v_r49 : (Int)) =>
  (G_swap_used_C1 n v_l47 v_k48 v_r49).bind fun v_o56 => match v_o56 with
  | .x0 v_z57 =>
    if v_z57 = true then
     some 4
    else
     some v_r49
theorem G_swap_used_ok (n : Nat) (v_l47 : (List S_swap_Slot)) (v_k48 : Int) (r : Int) (h : G_swap_used n v_l47 v_k48 = some r) : Ret Try.prog 101 [(eL eS_swap_Slot) v_l47, (eI .i64) v_k48] ((eI .i64) r) := by
  refine ret_run (n := 29) (fn := Try.f101) (c := bodyOf Try.f101) (by kernel_rfl) (by kernel_rfl) (by kernel_rfl) (by kernel_rfl) ?_
  have hF : KC 29 (FinR Try.prog Try.f101 ((eI .i64) r)) := FinR.kc' (by kernel_rfl)
  unfold G_swap_used at h
  obtain ⟨v_r49, h70, h⟩ := bind_some h
  obtain ⟨v_o56, h79, h⟩ := bind_some h
  refine pkk_sound TTok mix hF 6 (hs := [.r ((eI .i64) v_r49)]) (ts := []) (s := []) (l := [0, 1, 5]) (by kernel_rfl) (by kernel_rfl) (.cons (G_swap_Check_ok n v_l47 _ h70) .nil) (G_swap_used_C1_ok hF (.s (cR (cL (cR (cR (bodyOf Try.f101))))) :: .s (cR (cR (cR (bodyOf Try.f101)))) :: []) n v_l47 v_k48 v_r49 _ h79 ?_)
  cases v_o56 with
  | x0 v_z57 =>
    dsimp only at h
    by_cases h80 : v_z57 = true
    · rw [if_pos h80] at h
      obtain rfl := Option.some.inj h
      exact pend_sound TTok mix 5 (hs := [.t true]) (by kernel_rfl) (by kernel_rfl) (by kernel_rfl) (.cons h80 .nil)
    · rw [if_neg h80] at h
      obtain rfl := Option.some.inj h
      exact pend_sound TTok mix 5 (hs := [.t false]) (by kernel_rfl) (by kernel_rfl) (by kernel_rfl) (.cons (vf h80) .nil)
/- ringhall/swap.Get -/
def G_swap_Get (n : Nat) (v_l45 : (List S_swap_Slot)) (v_k46 : Int) : Option ((Fin 16 → Int) × Int) :=
  (G_swap_used n v_l45 v_k46).bind fun (v_r58 : (Int)) =>
  if v_r58 = 0 then
   (getI v_l45 v_k46).bind fun (v_y59 : S_swap_Slot) =>
   some (v_y59.fData, 0)
  else
   some ((fun i : Fin 16 => [0, 0, 0, 0, 0, 0, 0, 0, 0, 0, 0, 0, 0, 0, 0, 0].get i), v_r58)
theorem G_swap_Get_ok (n : Nat) (v_l45 : (List S_swap_Slot)) (v_k46 : Int) (r : (Fin 16 → Int) × Int) (h : G_swap_Get n v_l45 v_k46 = some r) : Ret Try.prog 30 [(eL eS_swap_Slot) v_l45, (eI .i64) v_k46] (.tup [(fun x => PV.agg [.v (.int .u8 (x 0)), .v (.int .u8 (x 1)), .v (.int .u8 (x 2)), .v (.int .u8 (x 3)), .v (.int .u8 (x 4)), .v (.int .u8 (x 5)), .v (.int .u8 (x 6)), .v (.int .u8 (x 7)), .v (.int .u8 (x 8)), .v (.int .u8 (x 9)), .v (.int .u8 (x 10)), .v (.int .u8 (x 11)), .v (.int .u8 (x 12)), .v (.int .u8 (x 13)), .v (.int .u8 (x 14)), .v (.int .u8 (x 15))]) r.1, (eI .i64) r.2]) := by
  refine ret_run (n := 19) (fn := Try.f30) (c := bodyOf Try.f30) (by kernel_rfl) (by kernel_rfl) (by kernel_rfl) (by kernel_rfl) ?_
  have hF : KC 19 (FinR Try.prog Try.f30 (.tup [(fun x => PV.agg [.v (.int .u8 (x 0)), .v (.int .u8 (x 1)), .v (.int .u8 (x 2)), .v (.int .u8 (x 3)), .v (.int .u8 (x 4)), .v (.int .u8 (x 5)), .v (.int .u8 (x 6)), .v (.int .u8 (x 7)), .v (.int .u8 (x 8)), .v (.int .u8 (x 9)), .v (.int .u8 (x 10)), .v (.int .u8 (x 11)), .v (.int .u8 (x 12)), .v (.int .u8 (x 13)), .v (.int .u8 (x 14)), .v (.int .u8 (x 15))]) r.1, (eI .i64) r.2])) := FinR.kc' (by kernel_rfl)
  unfold G_swap_Get at h
  obtain ⟨v_r58, h81, h⟩ := bind_some h
  by_cases h83 : v_r58 = 0
  · rw [if_pos h83] at h
    obtain ⟨v_y59, h84, h⟩ := bind_some h
    obtain rfl := Option.some.inj h
    exact pend_sound TTok mix 12 (hs := [.r ((eI .i64) v_r58), .t false, .y (eS_swap_Slot v_y59), .c]) (by kernel_rfl) (by kernel_rfl) (by kernel_rfl) (.cons (G_swap_used_ok n v_l45 v_k46 _ h81) (.cons (nf h83) (.cons (getI_ob (f := eS_swap_Slot) h84) (.cons (show 0 + 16 ≤ 16 by decide) .nil))))
  · rw [if_neg h83] at h
    obtain rfl := Option.some.inj h
    exact pend_sound TTok mix 12 (hs := [.r ((eI .i64) v_r58), .t true, .c]) (by kernel_rfl) (by kernel_rfl) (by kernel_rfl) (.cons (G_swap_used_ok n v_l45 v_k46 _ h81) (.cons (nt h83) (.cons (show 0 + 16 ≤ 16 by decide) .nil)))
inductive G_swap_More_C1_R where
  | x0 (v_x68 : Bool)
def G_swap_More_C1_ex : G_swap_More_C1_R → Ex
  | .x0 _ => .normal
def G_swap_More_C1_st (v_l61 : (List S_swap_Slot)) (v_k62 : Int) (v_n63 : Int) : G_swap_More_C1_R → PS
  | .x0 v_x68 => ⟨[.d (.sl (v_l61.map eS_swap_Slot)), .d (.v (.int .i64 v_k62)), .d (.v (.int .i64 v_n63)), dd, dd, dd, dd, dd, dd, dd, dd, dd, dd, dd, dd, dd, dd, dd, dd, dd, dd, dd, dd, dd, dd, dd, dd, dd, dd, dd, dd, dd, dd, dd, .d (.v (.bool v_x68)), dd, dd, dd, dd, dd, dd, dd, dd, dd, dd, dd, dd, dd, dd, dd, dd, dd, dd, dd, dd, dd, dd, dd, dd, dd, dd, dd, dd], []⟩
def G_swap_More_C1_hd (v_l61 : (List S_swap_Slot)) (v_k62 : Int) (v_n63 : Int)  : PS := ⟨[.d (.sl (v_l61.map eS_swap_Slot)), .d (.v (.int .i64 v_k62)), .d (.v (.int .i64 v_n63)), dd, dd, dd, dd, dd, dd, dd, dd, dd, dd, dd, dd, dd, dd, dd, dd, dd, dd, dd, dd, dd, dd, dd, dd, dd, dd, dd, dd, dd, dd, dd, dd, dd, dd, dd, dd, dd, dd, dd, dd, dd, dd, dd, dd, dd, dd, dd, dd, dd, dd, dd, dd, dd, dd, dd, dd, dd, dd, dd, dd], []⟩
def G_swap_More_C1 (n : Nat) (v_l61 : (List S_swap_Slot)) (v_k62 : Int) (v_n63 : Int) : Option G_swap_More_C1_R :=
  (getI v_l61 v_k62).bind fun (v_y67 : S_swap_Slot) =>
  if v_n63 < (negI .i64 v_y67.fMany) then
   some (.x0 true)
  else
   (getI v_l61 v_k62).bind fun (v_y69 : S_swap_Slot) =>
   some (.x0 (decide (v_n63 > (wi .i64 (1024 - v_y69.fMany)))))
theorem G_swap_More_C1_ok {Fi : Ex → PS → Prop} (hF : KC 63 Fi) (ks : List Fr) (n : Nat) (v_l61 : (List S_swap_Slot)) (v_k62 : Int) (v_n63 : Int)  (o : G_swap_More_C1_R) (h : G_swap_More_C1 n v_l61 v_k62 v_n63 = some o) (q : RunE Try.prog 63 Fi ks (G_swap_More_C1_ex o) (G_swap_More_C1_st v_l61 v_k62 v_n63 o)) : RunE Try.prog 63 Fi (.s (cL (cL (cR (cR (bodyOf Try.f31))))) :: ks) .normal (G_swap_More_C1_hd v_l61 v_k62 v_n63) := by
  unfold G_swap_More_C1 at h
  obtain ⟨v_y67, h92, h⟩ := bind_some h
  by_cases h93 : v_n63 < (negI .i64 v_y67.fMany)
  · rw [if_pos h93] at h
    cases h
    exact pkk_sound TTok mix hF 1 (hs := [.y (eS_swap_Slot v_y67), .c, .t true, .c, .c, .c, .c, .c, .c, .c]) (ts := []) (s := []) (l := [0, 1, 2, 34]) (by kernel_rfl) (by kernel_rfl) (.cons (getI_ob (f := eS_swap_Slot) h92) (.cons (dt h93) .nil)) q
  · rw [if_neg h93] at h
    obtain ⟨v_y69, h94, h⟩ := bind_some h
    cases h
    exact pkk_sound TTok mix hF 1 (hs := [.y (eS_swap_Slot v_y67), .c, .t false, .c, .c, .c, .y (eS_swap_Slot v_y69), .c, .c, .c, .c, .c]) (ts := []) (s := []) (l := [0, 1, 2, 34]) (by kernel_rfl) (by kernel_rfl) (.cons (getI_ob (f := eS_swap_Slot) h92) (.cons (df h93) (.cons (getI_ob (f := eS_swap_Slot) h94) .nil))) q
/- ringhall/swap.More -/
def G_swap_More (n : Nat) (v_l61 : (List S_swap_Slot)) (v_k62 : Int) (v_n63 : Int) : Option ((List S_swap_Slot) × Bool × Int) :=
  (G_swap_used n v_l61 v_k62).bind fun (v_r64 : (Int)) =>
  if v_r64 = 0 then
   (G_swap_More_C1 n v_l61 v_k62 v_n63).bind fun v_o71 => match v_o71 with
   | .x0 v_z72 =>
     if v_z72 = true then
      some (([] : (List S_swap_Slot)), false, 1)
     else
      (G_slices_Clone_swap_Slot_swap_Slot n v_l61).bind fun (v_r73 : ((List S_swap_Slot))) =>
      if 0 ≤ v_k62 ∧ (v_k62).toNat < v_r73.length then
       (v_r73[(v_k62).toNat]?).bind fun (v_y74 : S_swap_Slot) =>
       if 0 ≤ v_k62 ∧ (v_k62).toNat < v_r73.length then
        (v_r73[(v_k62).toNat]?).bind fun (v_y75 : S_swap_Slot) =>
        if 0 ≤ v_k62 ∧ (v_k62).toNat < (v_r73.set (v_k62).toNat (S_swap_Slot.mk (wi .i64 (v_y74.fMany + v_n63)) v_y75.fData)).length then
         ((v_r73.set (v_k62).toNat (S_swap_Slot.mk (wi .i64 (v_y74.fMany + v_n63)) v_y75.fData))[(v_k62).toNat]?).bind fun (v_y76 : S_swap_Slot) =>
         if v_y76.fMany = 0 then
          if 0 ≤ v_k62 ∧ (v_k62).toNat < (v_r73.set (v_k62).toNat (S_swap_Slot.mk (wi .i64 (v_y74.fMany + v_n63)) v_y75.fData)).length then
           ((v_r73.set (v_k62).toNat (S_swap_Slot.mk (wi .i64 (v_y74.fMany + v_n63)) v_y75.fData))[(v_k62).toNat]?).bind fun (v_y78 : S_swap_Slot) =>
           if 0 ≤ v_k62 ∧ (v_k62).toNat < ((v_r73.set (v_k62).toNat (S_swap_Slot.mk (wi .i64 (v_y74.fMany + v_n63)) v_y75.fData)).set (v_k62).toNat (S_swap_Slot.mk 0 (fun i : Fin 16 => [0, 0, 0, 0, 0, 0, 0, 0, 0, 0, 0, 0, 0, 0, 0, 0].get i))).length then
            (((v_r73.set (v_k62).toNat (S_swap_Slot.mk (wi .i64 (v_y74.fMany + v_n63)) v_y75.fData)).set (v_k62).toNat (S_swap_Slot.mk 0 (fun i : Fin 16 => [0, 0, 0, 0, 0, 0, 0, 0, 0, 0, 0, 0, 0, 0, 0, 0].get i)))[(v_k62).toNat]?).bind fun (v_y79 : S_swap_Slot) =>
            some (((v_r73.set (v_k62).toNat (S_swap_Slot.mk (wi .i64 (v_y74.fMany + v_n63)) v_y75.fData)).set (v_k62).toNat (S_swap_Slot.mk 0 (fun i : Fin 16 => [0, 0, 0, 0, 0, 0, 0, 0, 0, 0, 0, 0, 0, 0, 0, 0].get i))), (v_y79.fMany == 0), 0)
           else none
          else none
         else
          if 0 ≤ v_k62 ∧ (v_k62).toNat < (v_r73.set (v_k62).toNat (S_swap_Slot.mk (wi .i64 (v_y74.fMany + v_n63)) v_y75.fData)).length then
           ((v_r73.set (v_k62).toNat (S_swap_Slot.mk (wi .i64 (v_y74.fMany + v_n63)) v_y75.fData))[(v_k62).toNat]?).bind fun (v_y80 : S_swap_Slot) =>
           some ((v_r73.set (v_k62).toNat (S_swap_Slot.mk (wi .i64 (v_y74.fMany + v_n63)) v_y75.fData)), (v_y80.fMany == 0), 0)
          else none
        else none
       else none
      else none
  else
   some (([] : (List S_swap_Slot)), false, v_r64)
theorem G_swap_More_ok (n : Nat) (v_l61 : (List S_swap_Slot)) (v_k62 : Int) (v_n63 : Int) (r : (List S_swap_Slot) × Bool × Int) (h : G_swap_More n v_l61 v_k62 v_n63 = some r) : Ret Try.prog 31 [(eL eS_swap_Slot) v_l61, (eI .i64) v_k62, (eI .i64) v_n63] (.tup [(eL eS_swap_Slot) r.1, eB r.2.1, (eI .i64) r.2.2]) := by
  refine ret_run (n := 63) (fn := Try.f31) (c := bodyOf Try.f31) (by kernel_rfl) (by kernel_rfl) (by kernel_rfl) (by kernel_rfl) ?_
  have hF : KC 63 (FinR Try.prog Try.f31 (.tup [(eL eS_swap_Slot) r.1, eB r.2.1, (eI .i64) r.2.2])) := FinR.kc' (by kernel_rfl)
  unfold G_swap_More at h
  obtain ⟨v_r64, h86, h⟩ := bind_some h
  by_cases h88 : v_r64 = 0
  · rw [if_pos h88] at h
    obtain ⟨v_o71, h95, h⟩ := bind_some h
    refine pkk_sound TTok mix hF 11 (hs := [.r ((eI .i64) v_r64), .t false]) (ts := []) (s := []) (l := [0, 1, 2]) (by kernel_rfl) (by kernel_rfl) (.cons (G_swap_used_ok n v_l61 v_k62 _ h86) (.cons (nf h88) .nil)) (G_swap_More_C1_ok hF (.s (cR (cL (cR (cR (bodyOf Try.f31))))) :: .s (cR (cR (cR (bodyOf Try.f31)))) :: []) n v_l61 v_k62 v_n63 _ h95 ?_)
    cases v_o71 with
    | x0 v_z72 =>
      dsimp only at h
      by_cases h97 : v_z72 = true
      · rw [if_pos h97] at h
        obtain rfl := Option.some.inj h
        exact pend_sound TTok mix 5 (hs := [.t true]) (by kernel_rfl) (by kernel_rfl) (by kernel_rfl) (.cons h97 .nil)
      · rw [if_neg h97] at h
        obtain ⟨v_r73, h98, h⟩ := bind_some h
        by_cases h99 : 0 ≤ v_k62 ∧ (v_k62).toNat < v_r73.length
        · rw [if_pos h99] at h
          obtain ⟨v_y74, h100, h⟩ := bind_some h
          by_cases h101 : 0 ≤ v_k62 ∧ (v_k62).toNat < v_r73.length
          · rw [if_pos h101] at h
            obtain ⟨v_y75, h102, h⟩ := bind_some h
            by_cases h103 : 0 ≤ v_k62 ∧ (v_k62).toNat < (v_r73.set (v_k62).toNat (S_swap_Slot.mk (wi .i64 (v_y74.fMany + v_n63)) v_y75.fData)).length
            · rw [if_pos h103] at h
              obtain ⟨v_y76, h104, h⟩ := bind_some h
              by_cases h108 : v_y76.fMany = 0
              · rw [if_pos h108] at h
                by_cases h109 : 0 ≤ v_k62 ∧ (v_k62).toNat < (v_r73.set (v_k62).toNat (S_swap_Slot.mk (wi .i64 (v_y74.fMany + v_n63)) v_y75.fData)).length
                · rw [if_pos h109] at h
                  obtain ⟨v_y78, h110, h⟩ := bind_some h
                  by_cases h111 : 0 ≤ v_k62 ∧ (v_k62).toNat < ((v_r73.set (v_k62).toNat (S_swap_Slot.mk (wi .i64 (v_y74.fMany + v_n63)) v_y75.fData)).set (v_k62).toNat (S_swap_Slot.mk 0 (fun i : Fin 16 => [0, 0, 0, 0, 0, 0, 0, 0, 0, 0, 0, 0, 0, 0, 0, 0].get i))).length
                  · rw [if_pos h111] at h
                    obtain ⟨v_y79, h112, h⟩ := bind_some h
                    obtain rfl := Option.some.inj h
                    exact pend_sound TTok mix 14 (hs := [.t false, .h [] [] [.row 64 17 (v_r73.map eS_swap_Slot)] (.srf 0), .y (eS_swap_Slot v_y74), .w ((v_r73.set (v_k62).toNat (S_swap_Slot.mk (wi .i64 (v_y74.fMany + v_n63)) v_y75.fData)).map eS_swap_Slot), .y (eS_swap_Slot v_y75), .y (eS_swap_Slot v_y76), .t true, .w (((v_r73.set (v_k62).toNat (S_swap_Slot.mk (wi .i64 (v_y74.fMany + v_n63)) v_y75.fData)).set (v_k62).toNat (S_swap_Slot.mk 0 (fun i : Fin 16 => [0, 0, 0, 0, 0, 0, 0, 0, 0, 0, 0, 0, 0, 0, 0, 0].get i))).map eS_swap_Slot), .y (eS_swap_Slot v_y78), .y (eS_swap_Slot v_y79)]) (by kernel_rfl) (by kernel_rfl) (by kernel_rfl) (.cons (vf h97) (.cons (G_slices_Clone_swap_Slot_swap_Slot_ok n v_l61 _ h98) (.cons (idx_ob (f := eS_swap_Slot) h99) (.cons (get_ob (f := eS_swap_Slot) h100) (.cons (idx_ob (f := eS_swap_Slot) h101) (.cons (get_ob (f := eS_swap_Slot) h102) (.cons (Eq.refl (pcells (.agg [.v (.int .i64 (wi .i64 (v_y74.fMany + v_n63))), .v (.int .u8 (v_y75.fData 0)), .v (.int .u8 (v_y75.fData 1)), .v (.int .u8 (v_y75.fData 2)), .v (.int .u8 (v_y75.fData 3)), .v (.int .u8 (v_y75.fData 4)), .v (.int .u8 (v_y75.fData 5)), .v (.int .u8 (v_y75.fData 6)), .v (.int .u8 (v_y75.fData 7)), .v (.int .u8 (v_y75.fData 8)), .v (.int .u8 (v_y75.fData 9)), .v (.int .u8 (v_y75.fData 10)), .v (.int .u8 (v_y75.fData 11)), .v (.int .u8 (v_y75.fData 12)), .v (.int .u8 (v_y75.fData 13)), .v (.int .u8 (v_y75.fData 14)), .v (.int .u8 (v_y75.fData 15))]))) (.cons (set_ob (f := eS_swap_Slot) (l := v_r73) (k := (v_k62).toNat) (z := (S_swap_Slot.mk (wi .i64 (v_y74.fMany + v_n63)) v_y75.fData)) (p := .agg [.v (.int .i64 (wi .i64 (v_y74.fMany + v_n63))), .v (.int .u8 (v_y75.fData 0)), .v (.int .u8 (v_y75.fData 1)), .v (.int .u8 (v_y75.fData 2)), .v (.int .u8 (v_y75.fData 3)), .v (.int .u8 (v_y75.fData 4)), .v (.int .u8 (v_y75.fData 5)), .v (.int .u8 (v_y75.fData 6)), .v (.int .u8 (v_y75.fData 7)), .v (.int .u8 (v_y75.fData 8)), .v (.int .u8 (v_y75.fData 9)), .v (.int .u8 (v_y75.fData 10)), .v (.int .u8 (v_y75.fData 11)), .v (.int .u8 (v_y75.fData 12)), .v (.int .u8 (v_y75.fData 13)), .v (.int .u8 (v_y75.fData 14)), .v (.int .u8 (v_y75.fData 15))]) rfl) (.cons (idx_ob (f := eS_swap_Slot) h103) (.cons (get_ob (f := eS_swap_Slot) h104) (.cons (bt h108) (.cons (idx_ob (f := eS_swap_Slot) h109) (.cons (get_ob (f := eS_swap_Slot) h110) (.cons (Eq.refl (pcells (.agg [.v (.int .i64 0), .v (.int .u8 0), .v (.int .u8 0), .v (.int .u8 0), .v (.int .u8 0), .v (.int .u8 0), .v (.int .u8 0), .v (.int .u8 0), .v (.int .u8 0), .v (.int .u8 0), .v (.int .u8 0), .v (.int .u8 0), .v (.int .u8 0), .v (.int .u8 0), .v (.int .u8 0), .v (.int .u8 0), .v (.int .u8 0)]))) (.cons (set_ob (f := eS_swap_Slot) (l := (v_r73.set (v_k62).toNat (S_swap_Slot.mk (wi .i64 (v_y74.fMany + v_n63)) v_y75.fData))) (k := (v_k62).toNat) (z := (S_swap_Slot.mk 0 (fun i : Fin 16 => [0, 0, 0, 0, 0, 0, 0, 0, 0, 0, 0, 0, 0, 0, 0, 0].get i))) (p := .agg [.v (.int .i64 0), .v (.int .u8 0), .v (.int .u8 0), .v (.int .u8 0), .v (.int .u8 0), .v (.int .u8 0), .v (.int .u8 0), .v (.int .u8 0), .v (.int .u8 0), .v (.int .u8 0), .v (.int .u8 0), .v (.int .u8 0), .v (.int .u8 0), .v (.int .u8 0), .v (.int .u8 0), .v (.int .u8 0), .v (.int .u8 0)]) rfl) (.cons (idx_ob (f := eS_swap_Slot) h111) (.cons (get_ob (f := eS_swap_Slot) h112) .nil)))))))))))))))))
                  · rw [if_neg h111] at h; cases h
                · rw [if_neg h109] at h; cases h
              · rw [if_neg h108] at h
                by_cases h113 : 0 ≤ v_k62 ∧ (v_k62).toNat < (v_r73.set (v_k62).toNat (S_swap_Slot.mk (wi .i64 (v_y74.fMany + v_n63)) v_y75.fData)).length
                · rw [if_pos h113] at h
                  obtain ⟨v_y80, h114, h⟩ := bind_some h
                  obtain rfl := Option.some.inj h
                  exact pend_sound TTok mix 14 (hs := [.t false, .h [] [] [.row 64 17 (v_r73.map eS_swap_Slot)] (.srf 0), .y (eS_swap_Slot v_y74), .w ((v_r73.set (v_k62).toNat (S_swap_Slot.mk (wi .i64 (v_y74.fMany + v_n63)) v_y75.fData)).map eS_swap_Slot), .y (eS_swap_Slot v_y75), .y (eS_swap_Slot v_y76), .t false, .y (eS_swap_Slot v_y80)]) (by kernel_rfl) (by kernel_rfl) (by kernel_rfl) (.cons (vf h97) (.cons (G_slices_Clone_swap_Slot_swap_Slot_ok n v_l61 _ h98) (.cons (idx_ob (f := eS_swap_Slot) h99) (.cons (get_ob (f := eS_swap_Slot) h100) (.cons (idx_ob (f := eS_swap_Slot) h101) (.cons (get_ob (f := eS_swap_Slot) h102) (.cons (Eq.refl (pcells (.agg [.v (.int .i64 (wi .i64 (v_y74.fMany + v_n63))), .v (.int .u8 (v_y75.fData 0)), .v (.int .u8 (v_y75.fData 1)), .v (.int .u8 (v_y75.fData 2)), .v (.int .u8 (v_y75.fData 3)), .v (.int .u8 (v_y75.fData 4)), .v (.int .u8 (v_y75.fData 5)), .v (.int .u8 (v_y75.fData 6)), .v (.int .u8 (v_y75.fData 7)), .v (.int .u8 (v_y75.fData 8)), .v (.int .u8 (v_y75.fData 9)), .v (.int .u8 (v_y75.fData 10)), .v (.int .u8 (v_y75.fData 11)), .v (.int .u8 (v_y75.fData 12)), .v (.int .u8 (v_y75.fData 13)), .v (.int .u8 (v_y75.fData 14)), .v (.int .u8 (v_y75.fData 15))]))) (.cons (set_ob (f := eS_swap_Slot) (l := v_r73) (k := (v_k62).toNat) (z := (S_swap_Slot.mk (wi .i64 (v_y74.fMany + v_n63)) v_y75.fData)) (p := .agg [.v (.int .i64 (wi .i64 (v_y74.fMany + v_n63))), .v (.int .u8 (v_y75.fData 0)), .v (.int .u8 (v_y75.fData 1)), .v (.int .u8 (v_y75.fData 2)), .v (.int .u8 (v_y75.fData 3)), .v (.int .u8 (v_y75.fData 4)), .v (.int .u8 (v_y75.fData 5)), .v (.int .u8 (v_y75.fData 6)), .v (.int .u8 (v_y75.fData 7)), .v (.int .u8 (v_y75.fData 8)), .v (.int .u8 (v_y75.fData 9)), .v (.int .u8 (v_y75.fData 10)), .v (.int .u8 (v_y75.fData 11)), .v (.int .u8 (v_y75.fData 12)), .v (.int .u8 (v_y75.fData 13)), .v (.int .u8 (v_y75.fData 14)), .v (.int .u8 (v_y75.fData 15))]) rfl) (.cons (idx_ob (f := eS_swap_Slot) h103) (.cons (get_ob (f := eS_swap_Slot) h104) (.cons (bf h108) (.cons (idx_ob (f := eS_swap_Slot) h113) (.cons (get_ob (f := eS_swap_Slot) h114) .nil)))))))))))))
                · rw [if_neg h113] at h; cases h
            · rw [if_neg h103] at h; cases h
          · rw [if_neg h101] at h; cases h
        · rw [if_neg h99] at h; cases h
  · rw [if_neg h88] at h
    obtain rfl := Option.some.inj h
    exact pend_sound TTok mix 12 (hs := [.r ((eI .i64) v_r64), .t true]) (by kernel_rfl) (by kernel_rfl) (by kernel_rfl) (.cons (G_swap_used_ok n v_l61 v_k62 _ h86) (.cons (nt h88) .nil))
inductive G_swap_Many_L1_R where
  | x0 (v_n89 : Int) (v_all90 : Int)
def G_swap_Many_L1_ex : G_swap_Many_L1_R → Ex
  | .x0 _ _ => .exit 0
def G_swap_Many_L1_st (v_l82 : (List S_swap_Slot)) : G_swap_Many_L1_R → PS
  | .x0 v_n89 v_all90 => ⟨[dd, dd, dd, dd, dd, dd, .d (.v (.int .i64 v_n89)), .d (.v (.int .i64 v_all90)), dd, dd, dd, dd, dd, dd, dd, dd, dd, dd, dd, dd, dd, dd, dd, dd, dd, dd, dd, dd, dd, dd, dd, dd, dd], []⟩
def G_swap_Many_L1_hd (v_l82 : (List S_swap_Slot)) (v_n84 : Int) (v_all85 : Int) (v_x86 : Int) : PS := ⟨[dd, dd, dd, dd, dd, dd, .d (.v (.int .i64 v_n84)), .d (.v (.int .i64 v_all85)), dd, dd, dd, dd, dd, dd, dd, .d (.sl (v_l82.map eS_swap_Slot)), .d (.v (.int .i64 (v_l82.length : Int))), .d (.v (.int .i64 v_x86)), dd, dd, dd, dd, dd, dd, dd, dd, dd, dd, dd, dd, dd, dd, dd], []⟩
def G_swap_Many_L1 (n : Nat) (v_l82 : (List S_swap_Slot)) : Nat → Int → Int → Int → Option G_swap_Many_L1_R
  | 0, _, _, _ => none
  | k + 1, v_n84, v_all85, v_x86 =>
    if v_x86 < (v_l82.length : Int) then
     (getI v_l82 v_x86).bind fun (v_y88 : S_swap_Slot) =>
     if v_y88.fMany > 0 then
      G_swap_Many_L1 n v_l82 k (wi .i64 (v_n84 + 1)) (wi .i64 (v_all85 + v_y88.fMany)) (wi .i64 (v_x86 + 1))
     else
      G_swap_Many_L1 n v_l82 k v_n84 (wi .i64 (v_all85 + v_y88.fMany)) (wi .i64 (v_x86 + 1))
    else
     some (.x0 v_n84 v_all85)
theorem G_swap_Many_L1_ok {Fi : Ex → PS → Prop} (hF : KC 33 Fi) (ks : List Fr) (n : Nat) (v_l82 : (List S_swap_Slot))  : ∀ (k : Nat) (v_n84 : Int) (v_all85 : Int) (v_x86 : Int) (o : G_swap_Many_L1_R), G_swap_Many_L1 n v_l82 k v_n84 v_all85 v_x86 = some o → RunE Try.prog 33 Fi ks (G_swap_Many_L1_ex o) (G_swap_Many_L1_st v_l82 o) → RunE Try.prog 33 Fi (.l k (cP (cB (cR (cL (cR (cR (cR (bodyOf Try.f32)))))))) :: ks) .normal (G_swap_Many_L1_hd v_l82 v_n84 v_all85 v_x86)
  | 0, v_n84, v_all85, v_x86, o, h, q => by rw [G_swap_Many_L1] at h; cases h
  | k + 1, v_n84, v_all85, v_x86, o, h, q => by
    rw [G_swap_Many_L1] at h
    by_cases h119 : v_x86 < (v_l82.length : Int)
    · rw [if_pos h119] at h
      obtain ⟨v_y88, h123, h⟩ := bind_some h
      by_cases h125 : v_y88.fMany > 0
      · rw [if_pos h125] at h
        exact pkk_sound TTok mix hF 18 (hs := [.t true, .y (eS_swap_Slot v_y88), .c, .c, .c, .t true]) (ts := []) (s := []) (l := [6, 7, 15, 16, 17]) (by kernel_rfl) (by kernel_rfl) (.cons (dt h119) (.cons (getI_ob (f := eS_swap_Slot) h123) (.cons (show 0 + 17 ≤ 17 by decide) (.cons (dt h125) .nil)))) (G_swap_Many_L1_ok hF ks n v_l82 k (wi .i64 (v_n84 + 1)) (wi .i64 (v_all85 + v_y88.fMany)) (wi .i64 (v_x86 + 1)) _ h q)
      · rw [if_neg h125] at h
        exact pkk_sound TTok mix hF 18 (hs := [.t true, .y (eS_swap_Slot v_y88), .c, .c, .c, .t false]) (ts := []) (s := []) (l := [6, 7, 15, 16, 17]) (by kernel_rfl) (by kernel_rfl) (.cons (dt h119) (.cons (getI_ob (f := eS_swap_Slot) h123) (.cons (show 0 + 17 ≤ 17 by decide) (.cons (df h125) .nil)))) (G_swap_Many_L1_ok hF ks n v_l82 k v_n84 (wi .i64 (v_all85 + v_y88.fMany)) (wi .i64 (v_x86 + 1)) _ h q)
    · rw [if_neg h119] at h
      cases h
      exact pkk_sound TTok mix hF 8 (hs := [.t false]) (ts := []) (s := []) (l := [6, 7]) (by kernel_rfl) (by kernel_rfl) (.cons (df h119) .nil) q
/- ringhall/swap.Many -/
def G_swap_Many (n : Nat) (v_l82 : (List S_swap_Slot)) : Option (Int × Int × Int) :=
  (G_swap_Check n v_l82).bind fun (v_r83 : (Int)) =>
  if v_r83 = 0 then
   (G_swap_Many_L1 n v_l82 n 0 0 0).bind fun v_o91 => match v_o91 with
   | .x0 v_z92 v_z93 =>
     some (v_z92, v_z93, 0)
  else
   some (0, 0, v_r83)
theorem G_swap_Many_ok (n : Nat) (v_l82 : (List S_swap_Slot)) (r : Int × Int × Int) (h : G_swap_Many n v_l82 = some r) : Ret Try.prog 32 [(eL eS_swap_Slot) v_l82] (.tup [(eI .i64) r.1, (eI .i64) r.2.1, (eI .i64) r.2.2]) := by
  refine ret_run (n := 33) (fn := Try.f32) (c := bodyOf Try.f32) (by kernel_rfl) (by kernel_rfl) (by kernel_rfl) (by kernel_rfl) ?_
  have hF : KC 33 (FinR Try.prog Try.f32 (.tup [(eI .i64) r.1, (eI .i64) r.2.1, (eI .i64) r.2.2])) := FinR.kc' (by kernel_rfl)
  unfold G_swap_Many at h
  obtain ⟨v_r83, h116, h⟩ := bind_some h
  by_cases h118 : v_r83 = 0
  · rw [if_pos h118] at h
    obtain ⟨v_o91, h126, h⟩ := bind_some h
    refine pkk_sound TTok mix hF 16 (hs := [.r ((eI .i64) v_r83), .t false, .u (.d (.v (.int .i64 (v_l82.length : Int)))), .n n]) (ts := []) (s := []) (l := [6, 7, 15, 16, 17]) (by kernel_rfl) (by kernel_rfl) (.cons (G_swap_Check_ok n v_l82 _ h116) (.cons (nf h118) (.cons (len_ob (f := eS_swap_Slot) (l := v_l82)) .nil))) (G_swap_Many_L1_ok hF (.b 0 :: .s (cR (cR (cR (cR (bodyOf Try.f32))))) :: []) n v_l82 n 0 0 0 _ h126 ?_)
    cases v_o91 with
    | x0 v_z92 v_z93 =>
      dsimp only at h
      obtain rfl := Option.some.inj h
      exact pend_sound TTok mix 4 (hs := []) (by kernel_rfl) (by kernel_rfl) (by kernel_rfl) .nil
  · rw [if_neg h118] at h
    obtain rfl := Option.some.inj h
    exact pend_sound TTok mix 12 (hs := [.r ((eI .i64) v_r83), .t true]) (by kernel_rfl) (by kernel_rfl) (by kernel_rfl) (.cons (G_swap_Check_ok n v_l82 _ h116) (.cons (nt h118) .nil))
/- ringhall/ringref2.In -/
def G_ringref2_In (n : Nat) (v_n95 : Int) (v_least96 : Int) (v_most97 : Int) : Option (Bool) :=
  if v_n95 ≥ v_least96 then
   some (decide (v_n95 ≤ v_most97))
  else
   some false
theorem G_ringref2_In_ok (n : Nat) (v_n95 : Int) (v_least96 : Int) (v_most97 : Int) (r : Bool) (h : G_ringref2_In n v_n95 v_least96 v_most97 = some r) : Ret Try.prog 33 [(eI .i64) v_n95, (eI .i64) v_least96, (eI .i64) v_most97] (eB r) := by
  refine ret_run (n := 15) (fn := Try.f33) (c := bodyOf Try.f33) (by kernel_rfl) (by kernel_rfl) (by kernel_rfl) (by kernel_rfl) ?_
  have hF : KC 15 (FinR Try.prog Try.f33 (eB r)) := FinR.kc' (by kernel_rfl)
  unfold G_ringref2_In at h
  by_cases h128 : v_n95 ≥ v_least96
  · rw [if_pos h128] at h
    obtain rfl := Option.some.inj h
    exact pend_sound TTok mix 5 (hs := [.t true, .c, .c]) (by kernel_rfl) (by kernel_rfl) (by kernel_rfl) (.cons (dt h128) .nil)
  · rw [if_neg h128] at h
    obtain rfl := Option.some.inj h
    exact pend_sound TTok mix 5 (hs := [.t false, .c, .c]) (by kernel_rfl) (by kernel_rfl) (by kernel_rfl) (.cons (df h128) .nil)
inductive G_ringref2_SlotSame_L1_R where
  | x0 (v_x108 : Bool)
  | x1 
def G_ringref2_SlotSame_L1_ex : G_ringref2_SlotSame_L1_R → Ex
  | .x0 _ => .ret
  | .x1  => .exit 0
def G_ringref2_SlotSame_L1_st (v_a101 : (List S_swap_Slot)) (v_b102 : (List S_swap_Slot)) : G_ringref2_SlotSame_L1_R → PS
  | .x0 v_x108 => ⟨[dd, dd, dd, dd, .d (.v (.bool v_x108)), dd, dd, dd, dd, dd, dd, dd, dd, dd, dd, dd, dd, dd, dd, dd, dd, dd, dd, dd, dd, dd], []⟩
  | .x1  => ⟨[dd, dd, dd, dd, dd, dd, dd, dd, dd, dd, dd, dd, dd, dd, dd, dd, dd, dd, dd, dd, dd, dd, dd, dd, dd, dd], []⟩
def G_ringref2_SlotSame_L1_hd (v_a101 : (List S_swap_Slot)) (v_b102 : (List S_swap_Slot)) (v_x103 : Int) : PS := ⟨[.d (.sl (v_a101.map eS_swap_Slot)), .d (.sl (v_b102.map eS_swap_Slot)), dd, dd, dd, dd, dd, dd, dd, dd, dd, dd, .d (.v (.int .i64 (v_a101.length : Int))), .d (.v (.int .i64 v_x103)), dd, dd, dd, dd, dd, dd, dd, dd, dd, dd, dd, dd], []⟩
def G_ringref2_SlotSame_L1 (n : Nat) (v_a101 : (List S_swap_Slot)) (v_b102 : (List S_swap_Slot)) : Nat → Int → Option G_ringref2_SlotSame_L1_R
  | 0, _ => none
  | k + 1, v_x103 =>
    if v_x103 < (v_a101.length : Int) then
     (getI v_a101 v_x103).bind fun (v_y106 : S_swap_Slot) =>
     (getI v_b102 v_x103).bind fun (v_y107 : S_swap_Slot) =>
     if (eqRes .neq (eqS_swap_Slot v_y106 v_y107)) = true then
      some (.x0 false)
     else
      G_ringref2_SlotSame_L1 n v_a101 v_b102 k (wi .i64 (v_x103 + 1))
    else
     some (.x1 )
theorem G_ringref2_SlotSame_L1_ok {Fi : Ex → PS → Prop} (hF : KC 26 Fi) (ks : List Fr) (n : Nat) (v_a101 : (List S_swap_Slot)) (v_b102 : (List S_swap_Slot))  : ∀ (k : Nat) (v_x103 : Int) (o : G_ringref2_SlotSame_L1_R), G_ringref2_SlotSame_L1 n v_a101 v_b102 k v_x103 = some o → RunE Try.prog 26 Fi ks (G_ringref2_SlotSame_L1_ex o) (G_ringref2_SlotSame_L1_st v_a101 v_b102 o) → RunE Try.prog 26 Fi (.l k (cP (cB (cR (cL (cR (cR (bodyOf Try.f34))))))) :: ks) .normal (G_ringref2_SlotSame_L1_hd v_a101 v_b102 v_x103)
  | 0, v_x103, o, h, q => by rw [G_ringref2_SlotSame_L1] at h; cases h
  | k + 1, v_x103, o, h, q => by
    rw [G_ringref2_SlotSame_L1] at h
    by_cases h137 : v_x103 < (v_a101.length : Int)
    · rw [if_pos h137] at h
      obtain ⟨v_y106, h141, h⟩ := bind_some h
      obtain ⟨v_y107, h142, h⟩ := bind_some h
      by_cases h143 : (eqRes .neq (eqS_swap_Slot v_y106 v_y107)) = true
      · rw [if_pos h143] at h
        cases h
        exact pkk_sound TTok mix hF 19 (hs := [.t true, .y (eS_swap_Slot v_y106), .y (eS_swap_Slot v_y107), .q (eqS_swap_Slot v_y106 v_y107), .t true]) (ts := []) (s := []) (l := [4]) (by kernel_rfl) (by kernel_rfl) (.cons (dt h137) (.cons (getI_ob (f := eS_swap_Slot) h141) (.cons (getI_ob (f := eS_swap_Slot) h142) (.cons (eqS_swap_Slot_ok v_y106 v_y107) (.cons h143 .nil))))) q
      · rw [if_neg h143] at h
        exact pkk_sound TTok mix hF 16 (hs := [.t true, .y (eS_swap_Slot v_y106), .y (eS_swap_Slot v_y107), .q (eqS_swap_Slot v_y106 v_y107), .t false]) (ts := []) (s := []) (l := [0, 1, 12, 13]) (by kernel_rfl) (by kernel_rfl) (.cons (dt h137) (.cons (getI_ob (f := eS_swap_Slot) h141) (.cons (getI_ob (f := eS_swap_Slot) h142) (.cons (eqS_swap_Slot_ok v_y106 v_y107) (.cons (vf h143) .nil))))) (G_ringref2_SlotSame_L1_ok hF ks n v_a101 v_b102 k (wi .i64 (v_x103 + 1)) _ h q)
    · rw [if_neg h137] at h
      cases h
      exact pkk_sound TTok mix hF 8 (hs := [.t false]) (ts := []) (s := []) (l := []) (by kernel_rfl) (by kernel_rfl) (.cons (df h137) .nil) q
/- ringhall/ringref2.SlotSame -/
def G_ringref2_SlotSame (n : Nat) (v_a101 : (List S_swap_Slot)) (v_b102 : (List S_swap_Slot)) : Option (Bool) :=
  if (v_a101.length : Int) = (v_b102.length : Int) then
   (G_ringref2_SlotSame_L1 n v_a101 v_b102 n 0).bind fun v_o109 => match v_o109 with
   | .x0 v_z110 =>
     some v_z110
   | .x1  =>
     some true
  else
   some false
theorem G_ringref2_SlotSame_ok (n : Nat) (v_a101 : (List S_swap_Slot)) (v_b102 : (List S_swap_Slot)) (r : Bool) (h : G_ringref2_SlotSame n v_a101 v_b102 = some r) : Ret Try.prog 34 [(eL eS_swap_Slot) v_a101, (eL eS_swap_Slot) v_b102] (eB r) := by
  refine ret_run (n := 26) (fn := Try.f34) (c := bodyOf Try.f34) (by kernel_rfl) (by kernel_rfl) (by kernel_rfl) (by kernel_rfl) ?_
  have hF : KC 26 (FinR Try.prog Try.f34 (eB r)) := FinR.kc' (by kernel_rfl)
  unfold G_ringref2_SlotSame at h
  by_cases h136 : (v_a101.length : Int) = (v_b102.length : Int)
  · rw [if_pos h136] at h
    obtain ⟨v_o109, h144, h⟩ := bind_some h
    refine pkk_sound TTok mix hF 12 (hs := [.u (.d (.v (.int .i64 (v_a101.length : Int)))), .u (.d (.v (.int .i64 (v_b102.length : Int)))), .t false, .u (.d (.v (.int .i64 (v_a101.length : Int)))), .n n]) (ts := []) (s := []) (l := [0, 1, 12, 13]) (by kernel_rfl) (by kernel_rfl) (.cons (len_ob (f := eS_swap_Slot) (l := v_a101)) (.cons (len_ob (f := eS_swap_Slot) (l := v_b102)) (.cons (nf h136) (.cons (len_ob (f := eS_swap_Slot) (l := v_a101)) .nil)))) (G_ringref2_SlotSame_L1_ok hF (.b 0 :: .s (cR (cR (cR (bodyOf Try.f34)))) :: []) n v_a101 v_b102 n 0 _ h144 ?_)
    cases v_o109 with
    | x0 v_z110 =>
      dsimp only at h
      obtain rfl := Option.some.inj h
      exact pend_sound TTok mix 2 (hs := []) (by kernel_rfl) (by kernel_rfl) (by kernel_rfl) .nil
    | x1  =>
      dsimp only at h
      obtain rfl := Option.some.inj h
      exact pend_sound TTok mix 4 (hs := []) (by kernel_rfl) (by kernel_rfl) (by kernel_rfl) .nil
  · rw [if_neg h136] at h
    obtain rfl := Option.some.inj h
    exact pend_sound TTok mix 10 (hs := [.u (.d (.v (.int .i64 (v_a101.length : Int)))), .u (.d (.v (.int .i64 (v_b102.length : Int)))), .t true]) (by kernel_rfl) (by kernel_rfl) (by kernel_rfl) (.cons (len_ob (f := eS_swap_Slot) (l := v_a101)) (.cons (len_ob (f := eS_swap_Slot) (l := v_b102)) (.cons (nt h136) .nil)))
inductive G_ringref2_Slots_L1_R where
  | x0 (v_x140 : Int)
  | x1 
def G_ringref2_Slots_L1_ex : G_ringref2_Slots_L1_R → Ex
  | .x0 _ => .ret
  | .x1  => .exit 2
def G_ringref2_Slots_L1_st (v_l132 : (List S_swap_Slot)) (v_x133 : Int) (v_y134 : S_swap_Slot) : G_ringref2_Slots_L1_R → PS
  | .x0 v_x140 => ⟨[dd, dd, .d (.v (.int .i64 v_x140)), dd, dd, dd, dd, dd, dd, dd, dd, dd, dd, dd, dd, dd, dd, dd, dd, dd, dd, dd, dd, dd, dd, dd, dd, dd, dd, dd, dd, dd, dd, dd], []⟩
  | .x1  => ⟨[dd, dd, dd, dd, dd, dd, dd, dd, dd, dd, .d (.sl (v_l132.map eS_swap_Slot)), .d (.v (.int .i64 (v_l132.length : Int))), .d (.v (.int .i64 v_x133)), dd, dd, dd, dd, dd, dd, dd, dd, dd, dd, dd, dd, dd, dd, dd, dd, dd, dd, dd, dd, dd], []⟩
def G_ringref2_Slots_L1_hd (v_l132 : (List S_swap_Slot)) (v_x133 : Int) (v_y134 : S_swap_Slot) (v_x137 : Int) : PS := ⟨[dd, dd, dd, dd, .ref 0 0, dd, dd, dd, dd, dd, .d (.sl (v_l132.map eS_swap_Slot)), .d (.v (.int .i64 (v_l132.length : Int))), .d (.v (.int .i64 v_x133)), dd, dd, dd, dd, dd, dd, dd, dd, .d (.agg [.v (.int .u8 (v_y134.fData 0)), .v (.int .u8 (v_y134.fData 1)), .v (.int .u8 (v_y134.fData 2)), .v (.int .u8 (v_y134.fData 3)), .v (.int .u8 (v_y134.fData 4)), .v (.int .u8 (v_y134.fData 5)), .v (.int .u8 (v_y134.fData 6)), .v (.int .u8 (v_y134.fData 7)), .v (.int .u8 (v_y134.fData 8)), .v (.int .u8 (v_y134.fData 9)), .v (.int .u8 (v_y134.fData 10)), .v (.int .u8 (v_y134.fData 11)), .v (.int .u8 (v_y134.fData 12)), .v (.int .u8 (v_y134.fData 13)), .v (.int .u8 (v_y134.fData 14)), .v (.int .u8 (v_y134.fData 15))]), .d (.v (.int .i64 v_x137)), dd, dd, dd, dd, dd, dd, dd, dd, dd, dd, dd], [.box [.d (.v (.int .i64 v_y134.fMany)), .d (.v (.int .u8 (v_y134.fData 0))), .d (.v (.int .u8 (v_y134.fData 1))), .d (.v (.int .u8 (v_y134.fData 2))), .d (.v (.int .u8 (v_y134.fData 3))), .d (.v (.int .u8 (v_y134.fData 4))), .d (.v (.int .u8 (v_y134.fData 5))), .d (.v (.int .u8 (v_y134.fData 6))), .d (.v (.int .u8 (v_y134.fData 7))), .d (.v (.int .u8 (v_y134.fData 8))), .d (.v (.int .u8 (v_y134.fData 9))), .d (.v (.int .u8 (v_y134.fData 10))), .d (.v (.int .u8 (v_y134.fData 11))), .d (.v (.int .u8 (v_y134.fData 12))), .d (.v (.int .u8 (v_y134.fData 13))), .d (.v (.int .u8 (v_y134.fData 14))), .d (.v (.int .u8 (v_y134.fData 15)))]]⟩
def G_ringref2_Slots_L1 (n : Nat) (v_l132 : (List S_swap_Slot)) (v_x133 : Int) (v_y134 : S_swap_Slot) : Nat → Int → Option G_ringref2_Slots_L1_R
  | 0, _ => none
  | k + 1, v_x137 =>
    if v_x137 < 16 then
     (getA v_y134.fData v_x137).bind fun (v_y139 : Int) =>
     if v_y134.fMany = 0 then
      if v_y139 = 0 then
       G_ringref2_Slots_L1 n v_l132 v_x133 v_y134 k (wi .i64 (v_x137 + 1))
      else
       some (.x0 3)
     else
      G_ringref2_Slots_L1 n v_l132 v_x133 v_y134 k (wi .i64 (v_x137 + 1))
    else
     some (.x1 )
theorem G_ringref2_Slots_L1_ok {Fi : Ex → PS → Prop} (hF : KC 34 Fi) (ks : List Fr) (n : Nat) (v_l132 : (List S_swap_Slot)) (v_x133 : Int) (v_y134 : S_swap_Slot)  : ∀ (k : Nat) (v_x137 : Int) (o : G_ringref2_Slots_L1_R), G_ringref2_Slots_L1 n v_l132 v_x133 v_y134 k v_x137 = some o → RunE Try.prog 34 Fi ks (G_ringref2_Slots_L1_ex o) (G_ringref2_Slots_L1_st v_l132 v_x133 v_y134 o) → RunE Try.prog 34 Fi (.l k (cP (cB (cR (cR (cR (cB (cL (cR (cR (cP (cB (cR (cL (cR (cR (bodyOf Try.f35)))))))))))))))) :: ks) .normal (G_ringref2_Slots_L1_hd v_l132 v_x133 v_y134 v_x137)
  | 0, v_x137, o, h, q => by rw [G_ringref2_Slots_L1] at h; cases h
  | k + 1, v_x137, o, h, q => by
    rw [G_ringref2_Slots_L1] at h
    by_cases h173 : v_x137 < 16
    · rw [if_pos h173] at h
      obtain ⟨v_y139, h177, h⟩ := bind_some h
      by_cases h178 : v_y134.fMany = 0
      · rw [if_pos h178] at h
        by_cases h179 : v_y139 = 0
        · rw [if_pos h179] at h
          exact pkk_sound TTok mix hF 16 (hs := [.t true, .l (.d (.v (.int .u8 v_y139))), .c, .t true, .c, .t false]) (ts := []) (s := [0]) (l := [4, 10, 11, 12, 21, 22]) (by kernel_rfl) (by kernel_rfl) (.cons (dt h173) (.cons (getA_ob0 (fun x => FV.d ((eI .u8) x)) h177) (.cons (bt h178) (.cons (nf h179) .nil)))) (G_ringref2_Slots_L1_ok hF ks n v_l132 v_x133 v_y134 k (wi .i64 (v_x137 + 1)) _ h q)
        · rw [if_neg h179] at h
          cases h
          exact pkk_sound TTok mix hF 19 (hs := [.t true, .l (.d (.v (.int .u8 v_y139))), .c, .t true, .c, .t true]) (ts := []) (s := []) (l := [2]) (by kernel_rfl) (by kernel_rfl) (.cons (dt h173) (.cons (getA_ob0 (fun x => FV.d ((eI .u8) x)) h177) (.cons (bt h178) (.cons (nt h179) .nil)))) q
      · rw [if_neg h178] at h
        exact pkk_sound TTok mix hF 16 (hs := [.t true, .l (.d (.v (.int .u8 v_y139))), .c, .t false, .c, .c]) (ts := []) (s := [0]) (l := [4, 10, 11, 12, 21, 22]) (by kernel_rfl) (by kernel_rfl) (.cons (dt h173) (.cons (getA_ob0 (fun x => FV.d ((eI .u8) x)) h177) (.cons (bf h178) .nil))) (G_ringref2_Slots_L1_ok hF ks n v_l132 v_x133 v_y134 k (wi .i64 (v_x137 + 1)) _ h q)
    · rw [if_neg h173] at h
      cases h
      exact pkk_sound TTok mix hF 8 (hs := [.t false]) (ts := []) (s := []) (l := [10, 11, 12]) (by kernel_rfl) (by kernel_rfl) (.cons (df h173) .nil) q
inductive G_ringref2_Slots_L2_R where
  | x0 (v_x136 : Int)
  | x1 
def G_ringref2_Slots_L2_ex : G_ringref2_Slots_L2_R → Ex
  | .x0 _ => .ret
  | .x1  => .exit 0
def G_ringref2_Slots_L2_st (v_l132 : (List S_swap_Slot)) : G_ringref2_Slots_L2_R → PS
  | .x0 v_x136 => ⟨[dd, dd, .d (.v (.int .i64 v_x136)), dd, dd, dd, dd, dd, dd, dd, dd, dd, dd, dd, dd, dd, dd, dd, dd, dd, dd, dd, dd, dd, dd, dd, dd, dd, dd, dd, dd, dd, dd, dd], []⟩
  | .x1  => ⟨[dd, dd, dd, dd, dd, dd, dd, dd, dd, dd, dd, dd, dd, dd, dd, dd, dd, dd, dd, dd, dd, dd, dd, dd, dd, dd, dd, dd, dd, dd, dd, dd, dd, dd], []⟩
def G_ringref2_Slots_L2_hd (v_l132 : (List S_swap_Slot)) (v_x133 : Int) : PS := ⟨[dd, dd, dd, dd, dd, dd, dd, dd, dd, dd, .d (.sl (v_l132.map eS_swap_Slot)), .d (.v (.int .i64 (v_l132.length : Int))), .d (.v (.int .i64 v_x133)), dd, dd, dd, dd, dd, dd, dd, dd, dd, dd, dd, dd, dd, dd, dd, dd, dd, dd, dd, dd, dd], []⟩
def G_ringref2_Slots_L2 (n : Nat) (v_l132 : (List S_swap_Slot)) : Nat → Int → Option G_ringref2_Slots_L2_R
  | 0, _ => none
  | k + 1, v_x133 =>
    if v_x133 < (v_l132.length : Int) then
     (getI v_l132 v_x133).bind fun (v_y134 : S_swap_Slot) =>
     (G_ringref2_In n v_y134.fMany 0 1024).bind fun (v_r135 : (Bool)) =>
     if v_r135 = true then
      (G_ringref2_Slots_L1 n v_l132 v_x133 v_y134 n 0).bind fun v_o141 => match v_o141 with
      | .x0 v_z142 =>
        some (.x0 v_z142)
      | .x1  =>
        G_ringref2_Slots_L2 n v_l132 k (wi .i64 (v_x133 + 1))
     else
      some (.x0 1)
    else
     some (.x1 )
theorem G_ringref2_Slots_L2_ok {Fi : Ex → PS → Prop} (hF : KC 34 Fi) (ks : List Fr) (n : Nat) (v_l132 : (List S_swap_Slot))  : ∀ (k : Nat) (v_x133 : Int) (o : G_ringref2_Slots_L2_R), G_ringref2_Slots_L2 n v_l132 k v_x133 = some o → RunE Try.prog 34 Fi ks (G_ringref2_Slots_L2_ex o) (G_ringref2_Slots_L2_st v_l132 o) → RunE Try.prog 34 Fi (.l k (cP (cB (cR (cL (cR (cR (bodyOf Try.f35))))))) :: ks) .normal (G_ringref2_Slots_L2_hd v_l132 v_x133)
  | 0, v_x133, o, h, q => by rw [G_ringref2_Slots_L2] at h; cases h
  | k + 1, v_x133, o, h, q => by
    rw [G_ringref2_Slots_L2] at h
    by_cases h169 : v_x133 < (v_l132.length : Int)
    · rw [if_pos h169] at h
      obtain ⟨v_y134, h170, h⟩ := bind_some h
      obtain ⟨v_r135, h171, h⟩ := bind_some h
      by_cases h172 : v_r135 = true
      · rw [if_pos h172] at h
        obtain ⟨v_o141, h180, h⟩ := bind_some h
        refine pkk_sound TTok mix hF 19 (hs := [.t true, .y (eS_swap_Slot v_y134), .c, .c, .r (eB v_r135), .t false, .c, .n n]) (ts := []) (s := [9]) (l := [4, 10, 11, 12, 21, 22]) (by kernel_rfl) (by kernel_rfl) (.cons (dt h169) (.cons (getI_ob (f := eS_swap_Slot) h170) (.cons (show 0 + 17 ≤ 17 by decide) (.cons (G_ringref2_In_ok n v_y134.fMany 0 1024 _ h171) (.cons (bnf h172) .nil))))) (G_ringref2_Slots_L1_ok hF (.b 2 :: .b 1 :: .s (cR (cR (cR (cP (cB (cR (cL (cR (cR (bodyOf Try.f35)))))))))) :: .l k (cP (cB (cR (cL (cR (cR (bodyOf Try.f35))))))) :: ks) n v_l132 v_x133 v_y134 n 0 _ h180 ?_)
        cases v_o141 with
        | x0 v_z142 =>
          dsimp only at h
          cases h
          exact pkk_sound TTok mix hF 4 (hs := []) (ts := []) (s := []) (l := [2]) (by kernel_rfl) (by kernel_rfl) .nil q
        | x1  =>
          dsimp only at h
          exact pkk_sound TTok mix hF 3 (hs := []) (ts := []) (s := []) (l := [10, 11, 12]) (by kernel_rfl) (by kernel_rfl) .nil (G_ringref2_Slots_L2_ok hF ks n v_l132 k (wi .i64 (v_x133 + 1)) _ h q)
      · rw [if_neg h172] at h
        cases h
        exact pkk_sound TTok mix hF 21 (hs := [.t true, .y (eS_swap_Slot v_y134), .c, .c, .r (eB v_r135), .t true]) (ts := []) (s := []) (l := [2]) (by kernel_rfl) (by kernel_rfl) (.cons (dt h169) (.cons (getI_ob (f := eS_swap_Slot) h170) (.cons (show 0 + 17 ≤ 17 by decide) (.cons (G_ringref2_In_ok n v_y134.fMany 0 1024 _ h171) (.cons (bnt (vf h172)) .nil))))) q
    · rw [if_neg h169] at h
      cases h
      exact pkk_sound TTok mix hF 8 (hs := [.t false]) (ts := []) (s := []) (l := []) (by kernel_rfl) (by kernel_rfl) (.cons (df h169) .nil) q
/- ringhall/ringref2.Slots -/
def G_ringref2_Slots (n : Nat) (v_l132 : (List S_swap_Slot)) : Option (Int) :=
  if (v_l132.length : Int) > 64 then
   some 2
  else
   (G_ringref2_Slots_L2 n v_l132 n 0).bind fun v_o144 => match v_o144 with
   | .x0 v_z145 =>
     some v_z145
   | .x1  =>
     some 0
theorem G_ringref2_Slots_ok (n : Nat) (v_l132 : (List S_swap_Slot)) (r : Int) (h : G_ringref2_Slots n v_l132 = some r) : Ret Try.prog 35 [(eL eS_swap_Slot) v_l132] ((eI .i64) r) := by
  refine ret_run (n := 34) (fn := Try.f35) (c := bodyOf Try.f35) (by kernel_rfl) (by kernel_rfl) (by kernel_rfl) (by kernel_rfl) ?_
  have hF : KC 34 (FinR Try.prog Try.f35 ((eI .i64) r)) := FinR.kc' (by kernel_rfl)
  unfold G_ringref2_Slots at h
  by_cases h168 : (v_l132.length : Int) > 64
  · rw [if_pos h168] at h
    obtain rfl := Option.some.inj h
    exact pend_sound TTok mix 10 (hs := [.u (.d (.v (.int .i64 (v_l132.length : Int)))), .t true]) (by kernel_rfl) (by kernel_rfl) (by kernel_rfl) (.cons (len_ob (f := eS_swap_Slot) (l := v_l132)) (.cons (dt h168) .nil))
  · rw [if_neg h168] at h
    obtain ⟨v_o144, h181, h⟩ := bind_some h
    refine pkk_sound TTok mix hF 12 (hs := [.u (.d (.v (.int .i64 (v_l132.length : Int)))), .t false, .u (.d (.v (.int .i64 (v_l132.length : Int)))), .n n]) (ts := []) (s := []) (l := [10, 11, 12]) (by kernel_rfl) (by kernel_rfl) (.cons (len_ob (f := eS_swap_Slot) (l := v_l132)) (.cons (df h168) (.cons (len_ob (f := eS_swap_Slot) (l := v_l132)) .nil))) (G_ringref2_Slots_L2_ok hF (.b 0 :: .s (cR (cR (cR (bodyOf Try.f35)))) :: []) n v_l132 n 0 _ h181 ?_)
    cases v_o144 with
    | x0 v_z145 =>
      dsimp only at h
      obtain rfl := Option.some.inj h
      exact pend_sound TTok mix 2 (hs := []) (by kernel_rfl) (by kernel_rfl) (by kernel_rfl) .nil
    | x1  =>
      dsimp only at h
      obtain rfl := Option.some.inj h
      exact pend_sound TTok mix 4 (hs := []) (by kernel_rfl) (by kernel_rfl) (by kernel_rfl) .nil
/- ringhall/ringref2.SlotWith -/
def G_ringref2_SlotWith (n : Nat) (v_l220 : (List S_swap_Slot)) (v_k221 : Int) (v_s222 : S_swap_Slot) : Option ((List S_swap_Slot)) :=
  (app 24 ([] : (List S_swap_Slot)) v_l220).bind fun (v_a223 : (List S_swap_Slot)) =>
  if 0 ≤ v_k221 ∧ (v_k221).toNat < v_a223.length then
   (v_a223[(v_k221).toNat]?).bind fun (v_y224 : S_swap_Slot) =>
   some (v_a223.set (v_k221).toNat v_s222)
  else none
theorem G_ringref2_SlotWith_ok (n : Nat) (v_l220 : (List S_swap_Slot)) (v_k221 : Int) (v_s222 : S_swap_Slot) (r : (List S_swap_Slot)) (h : G_ringref2_SlotWith n v_l220 v_k221 v_s222 = some r) : Ret Try.prog 37 [(eL eS_swap_Slot) v_l220, (eI .i64) v_k221, eS_swap_Slot v_s222] ((eL eS_swap_Slot) r) := by
  refine ret_run (n := 15) (fn := Try.f37) (c := bodyOf Try.f37) (by kernel_rfl) (by kernel_rfl) (by kernel_rfl) (by kernel_rfl) ?_
  have hF : KC 15 (FinR Try.prog Try.f37 ((eL eS_swap_Slot) r)) := FinR.kc' (by kernel_rfl)
  unfold G_ringref2_SlotWith at h
  obtain ⟨v_a223, h261, h⟩ := bind_some h
  by_cases h262 : 0 ≤ v_k221 ∧ (v_k221).toNat < v_a223.length
  · rw [if_pos h262] at h
    obtain ⟨v_y224, h263, h⟩ := bind_some h
    obtain rfl := Option.some.inj h
    exact pend_sound TTok mix 9 (hs := [.w (v_a223.map eS_swap_Slot), .c, .w ((v_a223.set (v_k221).toNat v_s222).map eS_swap_Slot), .y (eS_swap_Slot v_y224)]) (by kernel_rfl) (by kernel_rfl) (by kernel_rfl) (.cons (app_ob (f := eS_swap_Slot) (s := 17) h261 (fun _ => rfl)).1 (.cons (app_ob (f := eS_swap_Slot) (s := 17) h261 (fun _ => rfl)).2.1 (.cons (app_ob (f := eS_swap_Slot) (s := 17) h261 (fun _ => rfl)).2.2.1 (.cons (app_ob (f := eS_swap_Slot) (s := 17) h261 (fun _ => rfl)).2.2.2 (.cons (idx_ob (f := eS_swap_Slot) h262) (.cons (get_ob (f := eS_swap_Slot) h263) (.cons (Eq.refl (pcells (.agg [.v (.int .i64 v_s222.fMany), .v (.int .u8 (v_s222.fData 0)), .v (.int .u8 (v_s222.fData 1)), .v (.int .u8 (v_s222.fData 2)), .v (.int .u8 (v_s222.fData 3)), .v (.int .u8 (v_s222.fData 4)), .v (.int .u8 (v_s222.fData 5)), .v (.int .u8 (v_s222.fData 6)), .v (.int .u8 (v_s222.fData 7)), .v (.int .u8 (v_s222.fData 8)), .v (.int .u8 (v_s222.fData 9)), .v (.int .u8 (v_s222.fData 10)), .v (.int .u8 (v_s222.fData 11)), .v (.int .u8 (v_s222.fData 12)), .v (.int .u8 (v_s222.fData 13)), .v (.int .u8 (v_s222.fData 14)), .v (.int .u8 (v_s222.fData 15))]))) (.cons (set_ob (f := eS_swap_Slot) (l := v_a223) (k := (v_k221).toNat) (z := v_s222) (p := .agg [.v (.int .i64 v_s222.fMany), .v (.int .u8 (v_s222.fData 0)), .v (.int .u8 (v_s222.fData 1)), .v (.int .u8 (v_s222.fData 2)), .v (.int .u8 (v_s222.fData 3)), .v (.int .u8 (v_s222.fData 4)), .v (.int .u8 (v_s222.fData 5)), .v (.int .u8 (v_s222.fData 6)), .v (.int .u8 (v_s222.fData 7)), .v (.int .u8 (v_s222.fData 8)), .v (.int .u8 (v_s222.fData 9)), .v (.int .u8 (v_s222.fData 10)), .v (.int .u8 (v_s222.fData 11)), .v (.int .u8 (v_s222.fData 12)), .v (.int .u8 (v_s222.fData 13)), .v (.int .u8 (v_s222.fData 14)), .v (.int .u8 (v_s222.fData 15))]) rfl) .nil))))))))
  · rw [if_neg h262] at h; cases h
inductive G_ringlaw2_SwapTells_C1_R where
  | x0 (v_x116 : Bool)
def G_ringlaw2_SwapTells_C1_ex : G_ringlaw2_SwapTells_C1_R → Ex
  | .x0 _ => .normal
def G_ringlaw2_SwapTells_C1_st (v_l1 : (List S_swap_Slot)) (v_size2 : Int) (v_many4 : Int) (v_k5 : Int) (v_more6 : Int) (v_r9 : ((List S_swap_Slot) × Int)) (v_r44 : ((List S_swap_Slot) × Int × Int)) (v_r60 : ((Fin 16 → Int) × Int)) (v_r81 : ((List S_swap_Slot) × Bool × Int)) (v_r94 : (Int × Int × Int)) (v_data3 : (Fin 16 → Int)) : G_ringlaw2_SwapTells_C1_R → PS
  | .x0 v_x116 => ⟨[.d (.sl (v_l1.map eS_swap_Slot)), dd, dd, .d (.v (.int .i64 v_many4)), .d (.v (.int .i64 v_k5)), .d (.v (.int .i64 v_more6)), dd, dd, .ref 0 0, dd, dd, dd, dd, dd, dd, .d (.sl (v_r44.1.map eS_swap_Slot)), .d (.v (.int .i64 v_r44.2.1)), .d (.v (.int .i64 v_r44.2.2)), .ref 1 0, .d (.v (.int .i64 v_r60.2)), .d (.sl (v_r81.1.map eS_swap_Slot)), .d (.v (.bool v_r81.2.1)), .d (.v (.int .i64 v_r81.2.2)), .d (.v (.int .i64 v_r94.1)), .d (.v (.int .i64 v_r94.2.1)), .d (.v (.int .i64 v_r94.2.2)), dd, dd, dd, dd, dd, dd, dd, dd, dd, dd, dd, dd, dd, dd, dd, dd, dd, dd, dd, dd, dd, dd, dd, dd, dd, dd, dd, dd, dd, dd, dd, dd, dd, dd, dd, dd, dd, dd, dd, dd, dd, dd, dd, dd, dd, dd, dd, dd, dd, dd, dd, dd, dd, dd, dd, dd, dd, dd, dd, dd, dd, dd, dd, dd, dd, dd, dd, .d (.v (.bool v_x116)), dd, dd, dd, dd, dd, dd, dd, dd, dd, dd, dd, dd, dd, dd, dd, dd, dd, dd, dd, dd, dd, dd, dd, dd, dd, dd, dd, dd, dd, dd, dd, dd, dd, dd, dd, dd, dd, dd, dd, dd, dd, dd, dd, dd, dd, dd, dd, dd, dd, dd, dd, dd, dd, dd, dd, dd, dd, dd, dd, dd, dd, dd, dd, dd, dd, dd, dd, dd, dd, dd, dd, dd, dd, dd, dd, dd, dd, dd, dd, dd, dd, dd, dd, dd, dd, dd, dd, dd, dd, dd, dd, dd, dd, dd, dd, dd, dd, dd, dd, dd, dd, dd, dd, dd, dd, dd, dd, dd, dd, dd, dd, dd, dd, dd, dd, dd, dd, dd, dd, dd, dd, dd, dd, dd, dd, dd, dd, dd, dd, dd, dd, dd, dd, dd, dd, dd, dd, dd, dd, dd, dd, dd, dd, dd, dd, dd, dd, dd, dd, dd, dd, dd, dd, dd, dd, dd, dd, dd, dd, dd, dd, dd, dd, dd, dd, dd, dd, dd, dd, dd, dd, dd, dd, dd, dd, dd, dd, dd, dd, dd, dd, dd, dd, dd, dd, dd, dd, dd, dd, dd, dd, dd, dd, dd, dd, dd, dd, dd, dd, dd, dd, dd, dd, dd, dd, dd, dd, dd, dd, dd, dd, dd, dd, dd, dd, dd, dd, dd, dd, dd, dd, dd, dd, dd, dd, dd, dd, dd, dd, dd, dd, dd, dd, dd, dd, dd, dd, dd, dd], [.box [.d (.v (.int .u8 (v_data3 0))), .d (.v (.int .u8 (v_data3 1))), .d (.v (.int .u8 (v_data3 2))), .d (.v (.int .u8 (v_data3 3))), .d (.v (.int .u8 (v_data3 4))), .d (.v (.int .u8 (v_data3 5))), .d (.v (.int .u8 (v_data3 6))), .d (.v (.int .u8 (v_data3 7))), .d (.v (.int .u8 (v_data3 8))), .d (.v (.int .u8 (v_data3 9))), .d (.v (.int .u8 (v_data3 10))), .d (.v (.int .u8 (v_data3 11))), .d (.v (.int .u8 (v_data3 12))), .d (.v (.int .u8 (v_data3 13))), .d (.v (.int .u8 (v_data3 14))), .d (.v (.int .u8 (v_data3 15)))], .box [.d (.v (.int .u8 (v_r60.1 0))), .d (.v (.int .u8 (v_r60.1 1))), .d (.v (.int .u8 (v_r60.1 2))), .d (.v (.int .u8 (v_r60.1 3))), .d (.v (.int .u8 (v_r60.1 4))), .d (.v (.int .u8 (v_r60.1 5))), .d (.v (.int .u8 (v_r60.1 6))), .d (.v (.int .u8 (v_r60.1 7))), .d (.v (.int .u8 (v_r60.1 8))), .d (.v (.int .u8 (v_r60.1 9))), .d (.v (.int .u8 (v_r60.1 10))), .d (.v (.int .u8 (v_r60.1 11))), .d (.v (.int .u8 (v_r60.1 12))), .d (.v (.int .u8 (v_r60.1 13))), .d (.v (.int .u8 (v_r60.1 14))), .d (.v (.int .u8 (v_r60.1 15)))]]⟩
def G_ringlaw2_SwapTells_C1_hd (v_l1 : (List S_swap_Slot)) (v_size2 : Int) (v_many4 : Int) (v_k5 : Int) (v_more6 : Int) (v_r9 : ((List S_swap_Slot) × Int)) (v_r44 : ((List S_swap_Slot) × Int × Int)) (v_r60 : ((Fin 16 → Int) × Int)) (v_r81 : ((List S_swap_Slot) × Bool × Int)) (v_r94 : (Int × Int × Int)) (v_data3 : (Fin 16 → Int))  : PS := ⟨[.d (.sl (v_l1.map eS_swap_Slot)), .d (.v (.int .i64 v_size2)), dd, .d (.v (.int .i64 v_many4)), .d (.v (.int .i64 v_k5)), .d (.v (.int .i64 v_more6)), dd, dd, .ref 0 0, dd, dd, dd, dd, .d (.sl (v_r9.1.map eS_swap_Slot)), .d (.v (.int .i64 v_r9.2)), .d (.sl (v_r44.1.map eS_swap_Slot)), .d (.v (.int .i64 v_r44.2.1)), .d (.v (.int .i64 v_r44.2.2)), .ref 1 0, .d (.v (.int .i64 v_r60.2)), .d (.sl (v_r81.1.map eS_swap_Slot)), .d (.v (.bool v_r81.2.1)), .d (.v (.int .i64 v_r81.2.2)), .d (.v (.int .i64 v_r94.1)), .d (.v (.int .i64 v_r94.2.1)), .d (.v (.int .i64 v_r94.2.2)), dd, dd, dd, dd, dd, dd, dd, dd, dd, dd, dd, dd, dd, dd, dd, dd, dd, dd, dd, dd, dd, dd, dd, dd, dd, dd, dd, dd, dd, dd, dd, dd, dd, dd, dd, dd, dd, dd, dd, dd, dd, dd, dd, dd, dd, dd, dd, dd, dd, dd, dd, dd, dd, dd, dd, dd, dd, dd, dd, dd, dd, dd, dd, dd, dd, dd, dd, dd, dd, dd, dd, dd, dd, dd, dd, dd, dd, dd, dd, dd, dd, dd, dd, dd, dd, dd, dd, dd, dd, dd, dd, dd, dd, dd, dd, dd, dd, dd, dd, dd, dd, dd, dd, dd, dd, dd, dd, dd, dd, dd, dd, dd, dd, dd, dd, dd, dd, dd, dd, dd, dd, dd, dd, dd, dd, dd, dd, dd, dd, dd, dd, dd, dd, dd, dd, dd, dd, dd, dd, dd, dd, dd, dd, dd, dd, dd, dd, dd, dd, dd, dd, dd, dd, dd, dd, dd, dd, dd, dd, dd, dd, dd, dd, dd, dd, dd, dd, dd, dd, dd, dd, dd, dd, dd, dd, dd, dd, dd, dd, dd, dd, dd, dd, dd, dd, dd, dd, dd, dd, dd, dd, dd, dd, dd, dd, dd, dd, dd, dd, dd, dd, dd, dd, dd, dd, dd, dd, dd, dd, dd, dd, dd, dd, dd, dd, dd, dd, dd, dd, dd, dd, dd, dd, dd, dd, dd, dd, dd, dd, dd, dd, dd, dd, dd, dd, dd, dd, dd, dd, dd, dd, dd, dd, dd, dd, dd, dd, dd, dd, dd, dd, dd, dd, dd, dd, dd, dd, dd, dd, dd, dd, dd, dd, dd, dd, dd, dd, dd, dd, dd, dd, dd, dd, dd, dd, dd, dd, dd, dd, dd, dd, dd, dd, dd, dd, dd, dd, dd, dd, dd, dd, dd, dd, dd, dd, dd, dd, dd, dd, dd, dd, dd, dd, dd, dd, dd, dd], [.box [.d (.v (.int .u8 (v_data3 0))), .d (.v (.int .u8 (v_data3 1))), .d (.v (.int .u8 (v_data3 2))), .d (.v (.int .u8 (v_data3 3))), .d (.v (.int .u8 (v_data3 4))), .d (.v (.int .u8 (v_data3 5))), .d (.v (.int .u8 (v_data3 6))), .d (.v (.int .u8 (v_data3 7))), .d (.v (.int .u8 (v_data3 8))), .d (.v (.int .u8 (v_data3 9))), .d (.v (.int .u8 (v_data3 10))), .d (.v (.int .u8 (v_data3 11))), .d (.v (.int .u8 (v_data3 12))), .d (.v (.int .u8 (v_data3 13))), .d (.v (.int .u8 (v_data3 14))), .d (.v (.int .u8 (v_data3 15)))], .box [.d (.v (.int .u8 (v_r60.1 0))), .d (.v (.int .u8 (v_r60.1 1))), .d (.v (.int .u8 (v_r60.1 2))), .d (.v (.int .u8 (v_r60.1 3))), .d (.v (.int .u8 (v_r60.1 4))), .d (.v (.int .u8 (v_r60.1 5))), .d (.v (.int .u8 (v_r60.1 6))), .d (.v (.int .u8 (v_r60.1 7))), .d (.v (.int .u8 (v_r60.1 8))), .d (.v (.int .u8 (v_r60.1 9))), .d (.v (.int .u8 (v_r60.1 10))), .d (.v (.int .u8 (v_r60.1 11))), .d (.v (.int .u8 (v_r60.1 12))), .d (.v (.int .u8 (v_r60.1 13))), .d (.v (.int .u8 (v_r60.1 14))), .d (.v (.int .u8 (v_r60.1 15)))]]⟩
def G_ringlaw2_SwapTells_C1 (n : Nat) (v_l1 : (List S_swap_Slot)) (v_size2 : Int) (v_many4 : Int) (v_k5 : Int) (v_more6 : Int) (v_r9 : ((List S_swap_Slot) × Int)) (v_r44 : ((List S_swap_Slot) × Int × Int)) (v_r60 : ((Fin 16 → Int) × Int)) (v_r81 : ((List S_swap_Slot) × Bool × Int)) (v_r94 : (Int × Int × Int)) (v_data3 : (Fin 16 → Int)) : Option G_ringlaw2_SwapTells_C1_R :=
  (G_ringref2_In n v_size2 0 64).bind fun (v_r115 : (Bool)) =>
  if v_r115 = true then
   (G_ringref2_In n v_size2 0 64).bind fun (v_r124 : (Bool)) =>
   if v_r124 = true then
    (mkL 24 (S_swap_Slot.mk 0 (fun _ => 0)) v_size2).bind fun (v_m125 : (List S_swap_Slot)) =>
    (G_ringref2_SlotSame n v_r9.1 v_m125).bind fun (v_r126 : (Bool)) =>
    if v_r126 = true then
     some (.x0 (v_r9.2 != 0))
    else
     some (.x0 true)
   else
    some (.x0 false)
  else
   if (v_r9.1.length : Int) > 0 then
    some (.x0 true)
   else
    if v_r9.2 = 1 then
     (G_ringref2_In n v_size2 0 64).bind fun (v_r118 : (Bool)) =>
     if v_r118 = true then
      (mkL 24 (S_swap_Slot.mk 0 (fun _ => 0)) v_size2).bind fun (v_m119 : (List S_swap_Slot)) =>
      (G_ringref2_SlotSame n v_r9.1 v_m119).bind fun (v_r120 : (Bool)) =>
      if v_r120 = true then
       some (.x0 (v_r9.2 != 0))
      else
       some (.x0 true)
     else
      some (.x0 false)
    else
     some (.x0 true)
theorem G_ringlaw2_SwapTells_C1_ok {Fi : Ex → PS → Prop} (hF : KC 333 Fi) (ks : List Fr) (n : Nat) (v_l1 : (List S_swap_Slot)) (v_size2 : Int) (v_many4 : Int) (v_k5 : Int) (v_more6 : Int) (v_r9 : ((List S_swap_Slot) × Int)) (v_r44 : ((List S_swap_Slot) × Int × Int)) (v_r60 : ((Fin 16 → Int) × Int)) (v_r81 : ((List S_swap_Slot) × Bool × Int)) (v_r94 : (Int × Int × Int)) (v_data3 : (Fin 16 → Int))  (o : G_ringlaw2_SwapTells_C1_R) (h : G_ringlaw2_SwapTells_C1 n v_l1 v_size2 v_many4 v_k5 v_more6 v_r9 v_r44 v_r60 v_r81 v_r94 v_data3 = some o) (q : RunE Try.prog 333 Fi ks (G_ringlaw2_SwapTells_C1_ex o) (G_ringlaw2_SwapTells_C1_st v_l1 v_size2 v_many4 v_k5 v_more6 v_r9 v_r44 v_r60 v_r81 v_r94 v_data3 o)) : RunE Try.prog 333 Fi (.s (cL (cL (cR (cR (cR (cR (cR (cR (bodyOf Try.f5))))))))) :: ks) .normal (G_ringlaw2_SwapTells_C1_hd v_l1 v_size2 v_many4 v_k5 v_more6 v_r9 v_r44 v_r60 v_r81 v_r94 v_data3) := by
  unfold G_ringlaw2_SwapTells_C1 at h
  obtain ⟨v_r115, h152, h⟩ := bind_some h
  by_cases h153 : v_r115 = true
  · rw [if_pos h153] at h
    obtain ⟨v_r124, h161, h⟩ := bind_some h
    by_cases h162 : v_r124 = true
    · rw [if_pos h162] at h
      obtain ⟨v_m125, h163, h⟩ := bind_some h
      obtain ⟨v_r126, h164, h⟩ := bind_some h
      by_cases h165 : v_r126 = true
      · rw [if_pos h165] at h
        cases h
        exact pkk_sound TTok mix hF 1 (hs := [.r (eB v_r115), .t false, .c, .c, .c, .c, .c, .c, .r (eB v_r124), .c, .t true, .c, .c, .w (v_m125.map eS_swap_Slot), .c, .c, .r (eB v_r126), .c, .c, .t false, .c, .c, .c]) (ts := []) (s := [0, 1]) (l := [0, 3, 4, 5, 8, 15, 16, 17, 18, 19, 20, 21, 22, 23, 24, 25, 93]) (by kernel_rfl) (by kernel_rfl) (.cons (G_ringref2_In_ok n v_size2 0 64 _ h152) (.cons (bnf h153) (.cons (G_ringref2_In_ok n v_size2 0 64 _ h161) (.cons h162 (.cons (mkL_ob (f := eS_swap_Slot) (p := .agg [.v (.int .i64 0), .v (.int .u8 0), .v (.int .u8 0), .v (.int .u8 0), .v (.int .u8 0), .v (.int .u8 0), .v (.int .u8 0), .v (.int .u8 0), .v (.int .u8 0), .v (.int .u8 0), .v (.int .u8 0), .v (.int .u8 0), .v (.int .u8 0), .v (.int .u8 0), .v (.int .u8 0), .v (.int .u8 0), .v (.int .u8 0)]) h163 rfl).1 (.cons (mkL_ob (f := eS_swap_Slot) (p := .agg [.v (.int .i64 0), .v (.int .u8 0), .v (.int .u8 0), .v (.int .u8 0), .v (.int .u8 0), .v (.int .u8 0), .v (.int .u8 0), .v (.int .u8 0), .v (.int .u8 0), .v (.int .u8 0), .v (.int .u8 0), .v (.int .u8 0), .v (.int .u8 0), .v (.int .u8 0), .v (.int .u8 0), .v (.int .u8 0), .v (.int .u8 0)]) h163 rfl).2.1 (.cons (mkL_ob (f := eS_swap_Slot) (p := .agg [.v (.int .i64 0), .v (.int .u8 0), .v (.int .u8 0), .v (.int .u8 0), .v (.int .u8 0), .v (.int .u8 0), .v (.int .u8 0), .v (.int .u8 0), .v (.int .u8 0), .v (.int .u8 0), .v (.int .u8 0), .v (.int .u8 0), .v (.int .u8 0), .v (.int .u8 0), .v (.int .u8 0), .v (.int .u8 0), .v (.int .u8 0)]) h163 rfl).2.2.1 (.cons (mkL_ob (f := eS_swap_Slot) (p := .agg [.v (.int .i64 0), .v (.int .u8 0), .v (.int .u8 0), .v (.int .u8 0), .v (.int .u8 0), .v (.int .u8 0), .v (.int .u8 0), .v (.int .u8 0), .v (.int .u8 0), .v (.int .u8 0), .v (.int .u8 0), .v (.int .u8 0), .v (.int .u8 0), .v (.int .u8 0), .v (.int .u8 0), .v (.int .u8 0), .v (.int .u8 0)]) h163 rfl).2.2.2.1 (.cons (mkL_ob (f := eS_swap_Slot) (p := .agg [.v (.int .i64 0), .v (.int .u8 0), .v (.int .u8 0), .v (.int .u8 0), .v (.int .u8 0), .v (.int .u8 0), .v (.int .u8 0), .v (.int .u8 0), .v (.int .u8 0), .v (.int .u8 0), .v (.int .u8 0), .v (.int .u8 0), .v (.int .u8 0), .v (.int .u8 0), .v (.int .u8 0), .v (.int .u8 0), .v (.int .u8 0)]) h163 rfl).2.2.2.2 (.cons (G_ringref2_SlotSame_ok n v_r9.1 v_m125 _ h164) (.cons (bnf h165) .nil))))))))))) q
      · rw [if_neg h165] at h
        cases h
        exact pkk_sound TTok mix hF 1 (hs := [.r (eB v_r115), .t false, .c, .c, .c, .c, .c, .c, .r (eB v_r124), .c, .t true, .c, .c, .w (v_m125.map eS_swap_Slot), .c, .c, .r (eB v_r126), .c, .c, .t true, .c, .c, .c]) (ts := []) (s := [0, 1]) (l := [0, 3, 4, 5, 8, 15, 16, 17, 18, 19, 20, 21, 22, 23, 24, 25, 93]) (by kernel_rfl) (by kernel_rfl) (.cons (G_ringref2_In_ok n v_size2 0 64 _ h152) (.cons (bnf h153) (.cons (G_ringref2_In_ok n v_size2 0 64 _ h161) (.cons h162 (.cons (mkL_ob (f := eS_swap_Slot) (p := .agg [.v (.int .i64 0), .v (.int .u8 0), .v (.int .u8 0), .v (.int .u8 0), .v (.int .u8 0), .v (.int .u8 0), .v (.int .u8 0), .v (.int .u8 0), .v (.int .u8 0), .v (.int .u8 0), .v (.int .u8 0), .v (.int .u8 0), .v (.int .u8 0), .v (.int .u8 0), .v (.int .u8 0), .v (.int .u8 0), .v (.int .u8 0)]) h163 rfl).1 (.cons (mkL_ob (f := eS_swap_Slot) (p := .agg [.v (.int .i64 0), .v (.int .u8 0), .v (.int .u8 0), .v (.int .u8 0), .v (.int .u8 0), .v (.int .u8 0), .v (.int .u8 0), .v (.int .u8 0), .v (.int .u8 0), .v (.int .u8 0), .v (.int .u8 0), .v (.int .u8 0), .v (.int .u8 0), .v (.int .u8 0), .v (.int .u8 0), .v (.int .u8 0), .v (.int .u8 0)]) h163 rfl).2.1 (.cons (mkL_ob (f := eS_swap_Slot) (p := .agg [.v (.int .i64 0), .v (.int .u8 0), .v (.int .u8 0), .v (.int .u8 0), .v (.int .u8 0), .v (.int .u8 0), .v (.int .u8 0), .v (.int .u8 0), .v (.int .u8 0), .v (.int .u8 0), .v (.int .u8 0), .v (.int .u8 0), .v (.int .u8 0), .v (.int .u8 0), .v (.int .u8 0), .v (.int .u8 0), .v (.int .u8 0)]) h163 rfl).2.2.1 (.cons (mkL_ob (f := eS_swap_Slot) (p := .agg [.v (.int .i64 0), .v (.int .u8 0), .v (.int .u8 0), .v (.int .u8 0), .v (.int .u8 0), .v (.int .u8 0), .v (.int .u8 0), .v (.int .u8 0), .v (.int .u8 0), .v (.int .u8 0), .v (.int .u8 0), .v (.int .u8 0), .v (.int .u8 0), .v (.int .u8 0), .v (.int .u8 0), .v (.int .u8 0), .v (.int .u8 0)]) h163 rfl).2.2.2.1 (.cons (mkL_ob (f := eS_swap_Slot) (p := .agg [.v (.int .i64 0), .v (.int .u8 0), .v (.int .u8 0), .v (.int .u8 0), .v (.int .u8 0), .v (.int .u8 0), .v (.int .u8 0), .v (.int .u8 0), .v (.int .u8 0), .v (.int .u8 0), .v (.int .u8 0), .v (.int .u8 0), .v (.int .u8 0), .v (.int .u8 0), .v (.int .u8 0), .v (.int .u8 0), .v (.int .u8 0)]) h163 rfl).2.2.2.2 (.cons (G_ringref2_SlotSame_ok n v_r9.1 v_m125 _ h164) (.cons (bnt (vf h165)) .nil))))))))))) q
    · rw [if_neg h162] at h
      cases h
      exact pkk_sound TTok mix hF 1 (hs := [.r (eB v_r115), .t false, .c, .c, .c, .c, .c, .c, .r (eB v_r124), .c, .t false, .c, .c, .c, .c, .c, .c, .c]) (ts := []) (s := [0, 1]) (l := [0, 3, 4, 5, 8, 15, 16, 17, 18, 19, 20, 21, 22, 23, 24, 25, 93]) (by kernel_rfl) (by kernel_rfl) (.cons (G_ringref2_In_ok n v_size2 0 64 _ h152) (.cons (bnf h153) (.cons (G_ringref2_In_ok n v_size2 0 64 _ h161) (.cons (vf h162) .nil)))) q
  · rw [if_neg h153] at h
    by_cases h154 : (v_r9.1.length : Int) > 0
    · rw [if_pos h154] at h
      cases h
      exact pkk_sound TTok mix hF 1 (hs := [.r (eB v_r115), .t true, .c, .u (.d (.v (.int .i64 (v_r9.1.length : Int)))), .c, .c, .t true, .c, .c, .c, .c, .c, .c]) (ts := []) (s := [0, 1]) (l := [0, 3, 4, 5, 8, 15, 16, 17, 18, 19, 20, 21, 22, 23, 24, 25, 93]) (by kernel_rfl) (by kernel_rfl) (.cons (G_ringref2_In_ok n v_size2 0 64 _ h152) (.cons (bnt (vf h153)) (.cons (len_ob (f := eS_swap_Slot) (l := v_r9.1)) (.cons (dt h154) .nil)))) q
    · rw [if_neg h154] at h
      by_cases h155 : v_r9.2 = 1
      · rw [if_pos h155] at h
        obtain ⟨v_r118, h156, h⟩ := bind_some h
        by_cases h157 : v_r118 = true
        · rw [if_pos h157] at h
          obtain ⟨v_m119, h158, h⟩ := bind_some h
          obtain ⟨v_r120, h159, h⟩ := bind_some h
          by_cases h160 : v_r120 = true
          · rw [if_pos h160] at h
            cases h
            exact pkk_sound TTok mix hF 1 (hs := [.r (eB v_r115), .t true, .c, .u (.d (.v (.int .i64 (v_r9.1.length : Int)))), .c, .c, .t false, .c, .c, .t false, .c, .r (eB v_r118), .c, .t true, .c, .c, .w (v_m119.map eS_swap_Slot), .c, .c, .r (eB v_r120), .c, .c, .t false, .c, .c, .c]) (ts := []) (s := [0, 1]) (l := [0, 3, 4, 5, 8, 15, 16, 17, 18, 19, 20, 21, 22, 23, 24, 25, 93]) (by kernel_rfl) (by kernel_rfl) (.cons (G_ringref2_In_ok n v_size2 0 64 _ h152) (.cons (bnt (vf h153)) (.cons (len_ob (f := eS_swap_Slot) (l := v_r9.1)) (.cons (df h154) (.cons (nf h155) (.cons (G_ringref2_In_ok n v_size2 0 64 _ h156) (.cons h157 (.cons (mkL_ob (f := eS_swap_Slot) (p := .agg [.v (.int .i64 0), .v (.int .u8 0), .v (.int .u8 0), .v (.int .u8 0), .v (.int .u8 0), .v (.int .u8 0), .v (.int .u8 0), .v (.int .u8 0), .v (.int .u8 0), .v (.int .u8 0), .v (.int .u8 0), .v (.int .u8 0), .v (.int .u8 0), .v (.int .u8 0), .v (.int .u8 0), .v (.int .u8 0), .v (.int .u8 0)]) h158 rfl).1 (.cons (mkL_ob (f := eS_swap_Slot) (p := .agg [.v (.int .i64 0), .v (.int .u8 0), .v (.int .u8 0), .v (.int .u8 0), .v (.int .u8 0), .v (.int .u8 0), .v (.int .u8 0), .v (.int .u8 0), .v (.int .u8 0), .v (.int .u8 0), .v (.int .u8 0), .v (.int .u8 0), .v (.int .u8 0), .v (.int .u8 0), .v (.int .u8 0), .v (.int .u8 0), .v (.int .u8 0)]) h158 rfl).2.1 (.cons (mkL_ob (f := eS_swap_Slot) (p := .agg [.v (.int .i64 0), .v (.int .u8 0), .v (.int .u8 0), .v (.int .u8 0), .v (.int .u8 0), .v (.int .u8 0), .v (.int .u8 0), .v (.int .u8 0), .v (.int .u8 0), .v (.int .u8 0), .v (.int .u8 0), .v (.int .u8 0), .v (.int .u8 0), .v (.int .u8 0), .v (.int .u8 0), .v (.int .u8 0), .v (.int .u8 0)]) h158 rfl).2.2.1 (.cons (mkL_ob (f := eS_swap_Slot) (p := .agg [.v (.int .i64 0), .v (.int .u8 0), .v (.int .u8 0), .v (.int .u8 0), .v (.int .u8 0), .v (.int .u8 0), .v (.int .u8 0), .v (.int .u8 0), .v (.int .u8 0), .v (.int .u8 0), .v (.int .u8 0), .v (.int .u8 0), .v (.int .u8 0), .v (.int .u8 0), .v (.int .u8 0), .v (.int .u8 0), .v (.int .u8 0)]) h158 rfl).2.2.2.1 (.cons (mkL_ob (f := eS_swap_Slot) (p := .agg [.v (.int .i64 0), .v (.int .u8 0), .v (.int .u8 0), .v (.int .u8 0), .v (.int .u8 0), .v (.int .u8 0), .v (.int .u8 0), .v (.int .u8 0), .v (.int .u8 0), .v (.int .u8 0), .v (.int .u8 0), .v (.int .u8 0), .v (.int .u8 0), .v (.int .u8 0), .v (.int .u8 0), .v (.int .u8 0), .v (.int .u8 0)]) h158 rfl).2.2.2.2 (.cons (G_ringref2_SlotSame_ok n v_r9.1 v_m119 _ h159) (.cons (bnf h160) .nil)))))))))))))) q
          · rw [if_neg h160] at h
            cases h
            exact pkk_sound TTok mix hF 1 (hs := [.r (eB v_r115), .t true, .c, .u (.d (.v (.int .i64 (v_r9.1.length : Int)))), .c, .c, .t false, .c, .c, .t false, .c, .r (eB v_r118), .c, .t true, .c, .c, .w (v_m119.map eS_swap_Slot), .c, .c, .r (eB v_r120), .c, .c, .t true, .c, .c, .c]) (ts := []) (s := [0, 1]) (l := [0, 3, 4, 5, 8, 15, 16, 17, 18, 19, 20, 21, 22, 23, 24, 25, 93]) (by kernel_rfl) (by kernel_rfl) (.cons (G_ringref2_In_ok n v_size2 0 64 _ h152) (.cons (bnt (vf h153)) (.cons (len_ob (f := eS_swap_Slot) (l := v_r9.1)) (.cons (df h154) (.cons (nf h155) (.cons (G_ringref2_In_ok n v_size2 0 64 _ h156) (.cons h157 (.cons (mkL_ob (f := eS_swap_Slot) (p := .agg [.v (.int .i64 0), .v (.int .u8 0), .v (.int .u8 0), .v (.int .u8 0), .v (.int .u8 0), .v (.int .u8 0), .v (.int .u8 0), .v (.int .u8 0), .v (.int .u8 0), .v (.int .u8 0), .v (.int .u8 0), .v (.int .u8 0), .v (.int .u8 0), .v (.int .u8 0), .v (.int .u8 0), .v (.int .u8 0), .v (.int .u8 0)]) h158 rfl).1 (.cons (mkL_ob (f := eS_swap_Slot) (p := .agg [.v (.int .i64 0), .v (.int .u8 0), .v (.int .u8 0), .v (.int .u8 0), .v (.int .u8 0), .v (.int .u8 0), .v (.int .u8 0), .v (.int .u8 0), .v (.int .u8 0), .v (.int .u8 0), .v (.int .u8 0), .v (.int .u8 0), .v (.int .u8 0), .v (.int .u8 0), .v (.int .u8 0), .v (.int .u8 0), .v (.int .u8 0)]) h158 rfl).2.1 (.cons (mkL_ob (f := eS_swap_Slot) (p := .agg [.v (.int .i64 0), .v (.int .u8 0), .v (.int .u8 0), .v (.int .u8 0), .v (.int .u8 0), .v (.int .u8 0), .v (.int .u8 0), .v (.int .u8 0), .v (.int .u8 0), .v (.int .u8 0), .v (.int .u8 0), .v (.int .u8 0), .v (.int .u8 0), .v (.int .u8 0), .v (.int .u8 0), .v (.int .u8 0), .v (.int .u8 0)]) h158 rfl).2.2.1 (.cons (mkL_ob (f := eS_swap_Slot) (p := .agg [.v (.int .i64 0), .v (.int .u8 0), .v (.int .u8 0), .v (.int .u8 0), .v (.int .u8 0), .v (.int .u8 0), .v (.int .u8 0), .v (.int .u8 0), .v (.int .u8 0), .v (.int .u8 0), .v (.int .u8 0), .v (.int .u8 0), .v (.int .u8 0), .v (.int .u8 0), .v (.int .u8 0), .v (.int .u8 0), .v (.int .u8 0)]) h158 rfl).2.2.2.1 (.cons (mkL_ob (f := eS_swap_Slot) (p := .agg [.v (.int .i64 0), .v (.int .u8 0), .v (.int .u8 0), .v (.int .u8 0), .v (.int .u8 0), .v (.int .u8 0), .v (.int .u8 0), .v (.int .u8 0), .v (.int .u8 0), .v (.int .u8 0), .v (.int .u8 0), .v (.int .u8 0), .v (.int .u8 0), .v (.int .u8 0), .v (.int .u8 0), .v (.int .u8 0), .v (.int .u8 0)]) h158 rfl).2.2.2.2 (.cons (G_ringref2_SlotSame_ok n v_r9.1 v_m119 _ h159) (.cons (bnt (vf h160)) .nil)))))))))))))) q
        · rw [if_neg h157] at h
          cases h
          exact pkk_sound TTok mix hF 1 (hs := [.r (eB v_r115), .t true, .c, .u (.d (.v (.int .i64 (v_r9.1.length : Int)))), .c, .c, .t false, .c, .c, .t false, .c, .r (eB v_r118), .c, .t false, .c, .c, .c, .c, .c, .c, .c]) (ts := []) (s := [0, 1]) (l := [0, 3, 4, 5, 8, 15, 16, 17, 18, 19, 20, 21, 22, 23, 24, 25, 93]) (by kernel_rfl) (by kernel_rfl) (.cons (G_ringref2_In_ok n v_size2 0 64 _ h152) (.cons (bnt (vf h153)) (.cons (len_ob (f := eS_swap_Slot) (l := v_r9.1)) (.cons (df h154) (.cons (nf h155) (.cons (G_ringref2_In_ok n v_size2 0 64 _ h156) (.cons (vf h157) .nil))))))) q
      · rw [if_neg h155] at h
        cases h
        exact pkk_sound TTok mix hF 1 (hs := [.r (eB v_r115), .t true, .c, .u (.d (.v (.int .i64 (v_r9.1.length : Int)))), .c, .c, .t false, .c, .c, .t true, .c, .c, .c]) (ts := []) (s := [0, 1]) (l := [0, 3, 4, 5, 8, 15, 16, 17, 18, 19, 20, 21, 22, 23, 24, 25, 93]) (by kernel_rfl) (by kernel_rfl) (.cons (G_ringref2_In_ok n v_size2 0 64 _ h152) (.cons (bnt (vf h153)) (.cons (len_ob (f := eS_swap_Slot) (l := v_r9.1)) (.cons (df h154) (.cons (nt h155) .nil))))) q
inductive G_ringlaw2_SwapTells_C2_R where
  | x0 (v_x160 : Bool)
def G_ringlaw2_SwapTells_C2_ex : G_ringlaw2_SwapTells_C2_R → Ex
  | .x0 _ => .normal
def G_ringlaw2_SwapTells_C2_st (v_r44 : ((List S_swap_Slot) × Int × Int)) (v_r60 : ((Fin 16 → Int) × Int)) (v_r81 : ((List S_swap_Slot) × Bool × Int)) (v_r94 : (Int × Int × Int)) (v_r146 : (Int)) : G_ringlaw2_SwapTells_C2_R → PS
  | .x0 v_x160 => ⟨[dd, dd, dd, dd, dd, dd, dd, dd, dd, dd, dd, dd, .d (.v (.bool v_x160)), dd, dd, dd, dd, dd, dd, dd, dd, dd, dd, dd, dd, dd, dd, dd, dd, dd, dd, dd, dd, dd, dd, dd, dd, dd, dd, dd, dd, dd, dd, dd, dd, dd, dd, dd, dd, dd, dd, dd, dd, dd, dd, dd, dd, dd, dd, dd, dd, dd, dd, dd, dd, dd, dd, dd, dd, dd, dd, dd, dd, dd, dd, dd, dd, dd, dd, dd, dd, dd, dd, dd, dd, dd, dd, dd, dd, dd, dd, dd, dd, dd, dd, dd, dd, dd, dd, dd, dd, dd, dd, dd, dd, dd, dd, dd, dd, dd, dd, dd, dd, dd, dd, dd, dd, dd, dd, dd, dd, dd, dd, dd, dd, dd, dd, dd, dd, dd, dd, dd, dd, dd, dd, dd, dd, dd, dd, dd, dd, dd, dd, dd, dd, dd, dd, dd, dd, dd, dd, dd, dd, dd, dd, dd, dd, dd, dd, dd, dd, dd, dd, dd, dd, dd, dd, dd, dd, dd, dd, dd, dd, dd, dd, dd, dd, dd, dd, dd, dd, dd, dd, dd, dd, dd, dd, dd, dd, dd, dd, dd, dd, dd, dd, dd, dd, dd, dd, dd, dd, dd, dd, dd, dd, dd, dd, dd, dd, dd, dd, dd, dd, dd, dd, dd, dd, dd, dd, dd, dd, dd, dd, dd, dd, dd, dd, dd, dd, dd, dd, dd, dd, dd, dd, dd, dd, dd, dd, dd, dd, dd, dd, dd, dd, dd, dd, dd, dd, dd, dd, dd, dd, dd, dd, dd, dd, dd, dd, dd, dd, dd, dd, dd, dd, dd, dd, dd, dd, dd, dd, dd, dd, dd, dd, dd, dd, dd, dd, dd, dd, dd, dd, dd, dd, dd, dd, dd, dd, dd, dd, dd, dd, dd, dd, dd, dd, dd, dd, dd, dd, dd, dd, dd, dd, dd, dd, dd, dd, dd, dd, dd, dd, dd, dd, dd, dd, dd, dd, dd, dd, dd, dd, dd, dd, dd, dd, dd, dd, dd, dd, dd, dd], []⟩
def G_ringlaw2_SwapTells_C2_hd (v_r44 : ((List S_swap_Slot) × Int × Int)) (v_r60 : ((Fin 16 → Int) × Int)) (v_r81 : ((List S_swap_Slot) × Bool × Int)) (v_r94 : (Int × Int × Int)) (v_r146 : (Int))  : PS := ⟨[dd, dd, dd, dd, dd, dd, dd, dd, dd, dd, dd, dd, dd, dd, dd, .d (.sl (v_r44.1.map eS_swap_Slot)), .d (.v (.int .i64 v_r44.2.1)), .d (.v (.int .i64 v_r44.2.2)), .ref 0 0, .d (.v (.int .i64 v_r60.2)), .d (.sl (v_r81.1.map eS_swap_Slot)), .d (.v (.bool v_r81.2.1)), .d (.v (.int .i64 v_r81.2.2)), .d (.v (.int .i64 v_r94.1)), .d (.v (.int .i64 v_r94.2.1)), .d (.v (.int .i64 v_r94.2.2)), .d (.v (.int .i64 v_r146)), dd, dd, dd, dd, dd, dd, dd, dd, dd, dd, dd, dd, dd, dd, dd, dd, dd, dd, dd, dd, dd, dd, dd, dd, dd, dd, dd, dd, dd, dd, dd, dd, dd, dd, dd, dd, dd, dd, dd, dd, dd, dd, dd, dd, dd, dd, dd, dd, dd, dd, dd, dd, dd, dd, dd, dd, dd, dd, dd, dd, dd, dd, dd, dd, dd, dd, dd, dd, dd, dd, dd, dd, dd, dd, dd, dd, dd, dd, dd, dd, dd, dd, dd, dd, dd, dd, dd, dd, dd, dd, dd, dd, dd, dd, dd, dd, dd, dd, dd, dd, dd, dd, dd, dd, dd, dd, dd, dd, dd, dd, dd, dd, dd, dd, dd, dd, dd, dd, dd, dd, dd, dd, dd, dd, dd, dd, dd, dd, dd, dd, dd, dd, dd, dd, dd, dd, dd, dd, dd, dd, dd, dd, dd, dd, dd, dd, dd, dd, dd, dd, dd, dd, dd, dd, dd, dd, dd, dd, dd, dd, dd, dd, dd, dd, dd, dd, dd, dd, dd, dd, dd, dd, dd, dd, dd, dd, dd, dd, dd, dd, dd, dd, dd, dd, dd, dd, dd, dd, dd, dd, dd, dd, dd, dd, dd, dd, dd, dd, dd, dd, dd, dd, dd, dd, dd, dd, dd, dd, dd, dd, dd, dd, dd, dd, dd, dd, dd, dd, dd, dd, dd, dd, dd, dd, dd, dd, dd, dd, dd, dd, dd, dd, dd, dd, dd, dd, dd, dd, dd, dd, dd, dd, dd, dd, dd, dd, dd, dd, dd, dd, dd, dd, dd, dd, dd, dd, dd, dd, dd, dd, dd, dd, dd, dd, dd, dd, dd, dd, dd, dd, dd, dd, dd, dd, dd, dd, dd, dd, dd, dd, dd, dd, dd, dd, dd, dd, dd, dd, dd, dd, dd, dd, dd, dd, dd, dd, dd, dd, dd, dd, dd, dd, dd, dd, dd, dd], [.box [.d (.v (.int .u8 (v_r60.1 0))), .d (.v (.int .u8 (v_r60.1 1))), .d (.v (.int .u8 (v_r60.1 2))), .d (.v (.int .u8 (v_r60.1 3))), .d (.v (.int .u8 (v_r60.1 4))), .d (.v (.int .u8 (v_r60.1 5))), .d (.v (.int .u8 (v_r60.1 6))), .d (.v (.int .u8 (v_r60.1 7))), .d (.v (.int .u8 (v_r60.1 8))), .d (.v (.int .u8 (v_r60.1 9))), .d (.v (.int .u8 (v_r60.1 10))), .d (.v (.int .u8 (v_r60.1 11))), .d (.v (.int .u8 (v_r60.1 12))), .d (.v (.int .u8 (v_r60.1 13))), .d (.v (.int .u8 (v_r60.1 14))), .d (.v (.int .u8 (v_r60.1 15)))]]⟩
def G_ringlaw2_SwapTells_C2 (n : Nat) (v_r44 : ((List S_swap_Slot) × Int × Int)) (v_r60 : ((Fin 16 → Int) × Int)) (v_r81 : ((List S_swap_Slot) × Bool × Int)) (v_r94 : (Int × Int × Int)) (v_r146 : (Int)) : Option G_ringlaw2_SwapTells_C2_R :=
  if (wi .i64 ((v_r44.1.length : Int) + (v_r81.1.length : Int))) = 0 then
   if v_r44.2.1 = 0 then
    if (eqRes .eql (eqA_16_uint8 v_r60.1 (fun i : Fin 16 => [0, 0, 0, 0, 0, 0, 0, 0, 0, 0, 0, 0, 0, 0, 0, 0].get i))) = true then
     if v_r81.2.1 = true then
      some (.x0 false)
     else
      if v_r94.1 = 0 then
       if v_r94.2.1 = 0 then
        if v_r44.2.2 = v_r146 then
         if v_r60.2 = v_r146 then
          if v_r81.2.2 = v_r146 then
           some (.x0 (v_r94.2.2 == v_r146))
          else
           some (.x0 false)
         else
          some (.x0 false)
        else
         some (.x0 false)
       else
        some (.x0 false)
      else
       some (.x0 false)
    else
     some (.x0 false)
   else
    some (.x0 false)
  else
   some (.x0 false)
theorem G_ringlaw2_SwapTells_C2_ok {Fi : Ex → PS → Prop} (hF : KC 333 Fi) (ks : List Fr) (n : Nat) (v_r44 : ((List S_swap_Slot) × Int × Int)) (v_r60 : ((Fin 16 → Int) × Int)) (v_r81 : ((List S_swap_Slot) × Bool × Int)) (v_r94 : (Int × Int × Int)) (v_r146 : (Int))  (o : G_ringlaw2_SwapTells_C2_R) (h : G_ringlaw2_SwapTells_C2 n v_r44 v_r60 v_r81 v_r94 v_r146 = some o) (q : RunE Try.prog 333 Fi ks (G_ringlaw2_SwapTells_C2_ex o) (G_ringlaw2_SwapTells_C2_st v_r44 v_r60 v_r81 v_r94 v_r146 o)) : RunE Try.prog 333 Fi (.s (cL (cT (cR (cL (cR (cR (cR (cR (cR (cR (cR (cR (cR (bodyOf Try.f5)))))))))))))) :: ks) .normal (G_ringlaw2_SwapTells_C2_hd v_r44 v_r60 v_r81 v_r94 v_r146) := by
  unfold G_ringlaw2_SwapTells_C2 at h
  by_cases h215 : (wi .i64 ((v_r44.1.length : Int) + (v_r81.1.length : Int))) = 0
  · rw [if_pos h215] at h
    by_cases h216 : v_r44.2.1 = 0
    · rw [if_pos h216] at h
      by_cases h217 : (eqRes .eql (eqA_16_uint8 v_r60.1 (fun i : Fin 16 => [0, 0, 0, 0, 0, 0, 0, 0, 0, 0, 0, 0, 0, 0, 0, 0].get i))) = true
      · rw [if_pos h217] at h
        by_cases h218 : v_r81.2.1 = true
        · rw [if_pos h218] at h
          cases h
          exact pkk_sound TTok mix hF 1 (hs := [.u (.d (.v (.int .i64 (v_r44.1.length : Int)))), .u (.d (.v (.int .i64 (v_r81.1.length : Int)))), .t true, .c, .t true, .c, .c, .c, .q (eqA_16_uint8 v_r60.1 (fun i : Fin 16 => [0, 0, 0, 0, 0, 0, 0, 0, 0, 0, 0, 0, 0, 0, 0, 0].get i)), .t true, .c, .t false, .c, .c, .c, .c, .c, .c, .c, .c, .c, .c, .c, .c, .c, .c, .c]) (ts := []) (s := []) (l := [12]) (by kernel_rfl) (by kernel_rfl) (.cons (len_ob (f := eS_swap_Slot) (l := v_r44.1)) (.cons (len_ob (f := eS_swap_Slot) (l := v_r81.1)) (.cons (bt h215) (.cons (bt h216) (.cons (eqA_16_uint8_ok v_r60.1 (fun i : Fin 16 => [0, 0, 0, 0, 0, 0, 0, 0, 0, 0, 0, 0, 0, 0, 0, 0].get i)) (.cons h217 (.cons (bnf h218) .nil))))))) q
        · rw [if_neg h218] at h
          by_cases h219 : v_r94.1 = 0
          · rw [if_pos h219] at h
            by_cases h220 : v_r94.2.1 = 0
            · rw [if_pos h220] at h
              by_cases h221 : v_r44.2.2 = v_r146
              · rw [if_pos h221] at h
                by_cases h222 : v_r60.2 = v_r146
                · rw [if_pos h222] at h
                  by_cases h223 : v_r81.2.2 = v_r146
                  · rw [if_pos h223] at h
                    cases h
                    exact pkk_sound TTok mix hF 1 (hs := [.u (.d (.v (.int .i64 (v_r44.1.length : Int)))), .u (.d (.v (.int .i64 (v_r81.1.length : Int)))), .t true, .c, .t true, .c, .c, .c, .q (eqA_16_uint8 v_r60.1 (fun i : Fin 16 => [0, 0, 0, 0, 0, 0, 0, 0, 0, 0, 0, 0, 0, 0, 0, 0].get i)), .t true, .c, .t true, .c, .t true, .c, .t true, .c, .c, .t true, .c, .c, .t true, .c, .c, .t true, .c, .c]) (ts := []) (s := []) (l := [12]) (by kernel_rfl) (by kernel_rfl) (.cons (len_ob (f := eS_swap_Slot) (l := v_r44.1)) (.cons (len_ob (f := eS_swap_Slot) (l := v_r81.1)) (.cons (bt h215) (.cons (bt h216) (.cons (eqA_16_uint8_ok v_r60.1 (fun i : Fin 16 => [0, 0, 0, 0, 0, 0, 0, 0, 0, 0, 0, 0, 0, 0, 0, 0].get i)) (.cons h217 (.cons (bnt (vf h218)) (.cons (bt h219) (.cons (bt h220) (.cons (bt h221) (.cons (bt h222) (.cons (bt h223) .nil)))))))))))) q
                  · rw [if_neg h223] at h
                    cases h
                    exact pkk_sound TTok mix hF 1 (hs := [.u (.d (.v (.int .i64 (v_r44.1.length : Int)))), .u (.d (.v (.int .i64 (v_r81.1.length : Int)))), .t true, .c, .t true, .c, .c, .c, .q (eqA_16_uint8 v_r60.1 (fun i : Fin 16 => [0, 0, 0, 0, 0, 0, 0, 0, 0, 0, 0, 0, 0, 0, 0, 0].get i)), .t true, .c, .t true, .c, .t true, .c, .t true, .c, .c, .t true, .c, .c, .t true, .c, .c, .t false, .c, .c]) (ts := []) (s := []) (l := [12]) (by kernel_rfl) (by kernel_rfl) (.cons (len_ob (f := eS_swap_Slot) (l := v_r44.1)) (.cons (len_ob (f := eS_swap_Slot) (l := v_r81.1)) (.cons (bt h215) (.cons (bt h216) (.cons (eqA_16_uint8_ok v_r60.1 (fun i : Fin 16 => [0, 0, 0, 0, 0, 0, 0, 0, 0, 0, 0, 0, 0, 0, 0, 0].get i)) (.cons h217 (.cons (bnt (vf h218)) (.cons (bt h219) (.cons (bt h220) (.cons (bt h221) (.cons (bt h222) (.cons (bf h223) .nil)))))))))))) q
                · rw [if_neg h222] at h
                  cases h
                  exact pkk_sound TTok mix hF 1 (hs := [.u (.d (.v (.int .i64 (v_r44.1.length : Int)))), .u (.d (.v (.int .i64 (v_r81.1.length : Int)))), .t true, .c, .t true, .c, .c, .c, .q (eqA_16_uint8 v_r60.1 (fun i : Fin 16 => [0, 0, 0, 0, 0, 0, 0, 0, 0, 0, 0, 0, 0, 0, 0, 0].get i)), .t true, .c, .t true, .c, .t true, .c, .t true, .c, .c, .t true, .c, .c, .t false, .c, .c, .c, .c, .c]) (ts := []) (s := []) (l := [12]) (by kernel_rfl) (by kernel_rfl) (.cons (len_ob (f := eS_swap_Slot) (l := v_r44.1)) (.cons (len_ob (f := eS_swap_Slot) (l := v_r81.1)) (.cons (bt h215) (.cons (bt h216) (.cons (eqA_16_uint8_ok v_r60.1 (fun i : Fin 16 => [0, 0, 0, 0, 0, 0, 0, 0, 0, 0, 0, 0, 0, 0, 0, 0].get i)) (.cons h217 (.cons (bnt (vf h218)) (.cons (bt h219) (.cons (bt h220) (.cons (bt h221) (.cons (bf h222) .nil))))))))))) q
              · rw [if_neg h221] at h
                cases h
                exact pkk_sound TTok mix hF 1 (hs := [.u (.d (.v (.int .i64 (v_r44.1.length : Int)))), .u (.d (.v (.int .i64 (v_r81.1.length : Int)))), .t true, .c, .t true, .c, .c, .c, .q (eqA_16_uint8 v_r60.1 (fun i : Fin 16 => [0, 0, 0, 0, 0, 0, 0, 0, 0, 0, 0, 0, 0, 0, 0, 0].get i)), .t true, .c, .t true, .c, .t true, .c, .t true, .c, .c, .t false, .c, .c, .c, .c, .c, .c, .c, .c]) (ts := []) (s := []) (l := [12]) (by kernel_rfl) (by kernel_rfl) (.cons (len_ob (f := eS_swap_Slot) (l := v_r44.1)) (.cons (len_ob (f := eS_swap_Slot) (l := v_r81.1)) (.cons (bt h215) (.cons (bt h216) (.cons (eqA_16_uint8_ok v_r60.1 (fun i : Fin 16 => [0, 0, 0, 0, 0, 0, 0, 0, 0, 0, 0, 0, 0, 0, 0, 0].get i)) (.cons h217 (.cons (bnt (vf h218)) (.cons (bt h219) (.cons (bt h220) (.cons (bf h221) .nil)))))))))) q
            · rw [if_neg h220] at h
              cases h
              exact pkk_sound TTok mix hF 1 (hs := [.u (.d (.v (.int .i64 (v_r44.1.length : Int)))), .u (.d (.v (.int .i64 (v_r81.1.length : Int)))), .t true, .c, .t true, .c, .c, .c, .q (eqA_16_uint8 v_r60.1 (fun i : Fin 16 => [0, 0, 0, 0, 0, 0, 0, 0, 0, 0, 0, 0, 0, 0, 0, 0].get i)), .t true, .c, .t true, .c, .t true, .c, .t false, .c, .c, .c, .c, .c, .c, .c, .c, .c, .c, .c]) (ts := []) (s := []) (l := [12]) (by kernel_rfl) (by kernel_rfl) (.cons (len_ob (f := eS_swap_Slot) (l := v_r44.1)) (.cons (len_ob (f := eS_swap_Slot) (l := v_r81.1)) (.cons (bt h215) (.cons (bt h216) (.cons (eqA_16_uint8_ok v_r60.1 (fun i : Fin 16 => [0, 0, 0, 0, 0, 0, 0, 0, 0, 0, 0, 0, 0, 0, 0, 0].get i)) (.cons h217 (.cons (bnt (vf h218)) (.cons (bt h219) (.cons (bf h220) .nil))))))))) q
          · rw [if_neg h219] at h
            cases h
            exact pkk_sound TTok mix hF 1 (hs := [.u (.d (.v (.int .i64 (v_r44.1.length : Int)))), .u (.d (.v (.int .i64 (v_r81.1.length : Int)))), .t true, .c, .t true, .c, .c, .c, .q (eqA_16_uint8 v_r60.1 (fun i : Fin 16 => [0, 0, 0, 0, 0, 0, 0, 0, 0, 0, 0, 0, 0, 0, 0, 0].get i)), .t true, .c, .t true, .c, .t false, .c, .c, .c, .c, .c, .c, .c, .c, .c, .c, .c, .c, .c]) (ts := []) (s := []) (l := [12]) (by kernel_rfl) (by kernel_rfl) (.cons (len_ob (f := eS_swap_Slot) (l := v_r44.1)) (.cons (len_ob (f := eS_swap_Slot) (l := v_r81.1)) (.cons (bt h215) (.cons (bt h216) (.cons (eqA_16_uint8_ok v_r60.1 (fun i : Fin 16 => [0, 0, 0, 0, 0, 0, 0, 0, 0, 0, 0, 0, 0, 0, 0, 0].get i)) (.cons h217 (.cons (bnt (vf h218)) (.cons (bf h219) .nil)))))))) q
      · rw [if_neg h217] at h
        cases h
        exact pkk_sound TTok mix hF 1 (hs := [.u (.d (.v (.int .i64 (v_r44.1.length : Int)))), .u (.d (.v (.int .i64 (v_r81.1.length : Int)))), .t true, .c, .t true, .c, .c, .c, .q (eqA_16_uint8 v_r60.1 (fun i : Fin 16 => [0, 0, 0, 0, 0, 0, 0, 0, 0, 0, 0, 0, 0, 0, 0, 0].get i)), .t false, .c, .c, .c, .c, .c, .c, .c, .c, .c, .c, .c, .c, .c, .c, .c, .c, .c]) (ts := []) (s := []) (l := [12]) (by kernel_rfl) (by kernel_rfl) (.cons (len_ob (f := eS_swap_Slot) (l := v_r44.1)) (.cons (len_ob (f := eS_swap_Slot) (l := v_r81.1)) (.cons (bt h215) (.cons (bt h216) (.cons (eqA_16_uint8_ok v_r60.1 (fun i : Fin 16 => [0, 0, 0, 0, 0, 0, 0, 0, 0, 0, 0, 0, 0, 0, 0, 0].get i)) (.cons (vf h217) .nil)))))) q
    · rw [if_neg h216] at h
      cases h
      exact pkk_sound TTok mix hF 1 (hs := [.u (.d (.v (.int .i64 (v_r44.1.length : Int)))), .u (.d (.v (.int .i64 (v_r81.1.length : Int)))), .t true, .c, .t false, .c, .c, .c, .c, .c, .c, .c, .c, .c, .c, .c, .c, .c, .c, .c, .c, .c, .c, .c, .c]) (ts := []) (s := []) (l := [12]) (by kernel_rfl) (by kernel_rfl) (.cons (len_ob (f := eS_swap_Slot) (l := v_r44.1)) (.cons (len_ob (f := eS_swap_Slot) (l := v_r81.1)) (.cons (bt h215) (.cons (bf h216) .nil)))) q
  · rw [if_neg h215] at h
    cases h
    exact pkk_sound TTok mix hF 1 (hs := [.u (.d (.v (.int .i64 (v_r44.1.length : Int)))), .u (.d (.v (.int .i64 (v_r81.1.length : Int)))), .t false, .c, .c, .c, .c, .c, .c, .c, .c, .c, .c, .c, .c, .c, .c, .c, .c, .c, .c, .c, .c, .c, .c]) (ts := []) (s := []) (l := [12]) (by kernel_rfl) (by kernel_rfl) (.cons (len_ob (f := eS_swap_Slot) (l := v_r44.1)) (.cons (len_ob (f := eS_swap_Slot) (l := v_r81.1)) (.cons (bf h215) .nil))) q
inductive G_ringlaw2_SwapTells_C3_R where
  | x0 (v_free187 : Int) (v_have188 : Int)
def G_ringlaw2_SwapTells_C3_ex : G_ringlaw2_SwapTells_C3_R → Ex
  | .x0 _ _ => .normal
def G_ringlaw2_SwapTells_C3_st (v_l1 : (List S_swap_Slot)) (v_many4 : Int) (v_k5 : Int) (v_more6 : Int) (v_r44 : ((List S_swap_Slot) × Int × Int)) (v_r60 : ((Fin 16 → Int) × Int)) (v_r81 : ((List S_swap_Slot) × Bool × Int)) (v_r94 : (Int × Int × Int)) (v_free172 : Int) (v_have173 : Int) (v_named174 : Int) (v_y186 : S_swap_Slot) (v_x175 : Int) (v_data3 : (Fin 16 → Int)) : G_ringlaw2_SwapTells_C3_R → PS
  | .x0 v_free187 v_have188 => ⟨[.d (.sl (v_l1.map eS_swap_Slot)), dd, dd, .d (.v (.int .i64 v_many4)), .d (.v (.int .i64 v_k5)), .d (.v (.int .i64 v_more6)), dd, dd, .ref 0 0, dd, dd, dd, dd, dd, dd, .d (.sl (v_r44.1.map eS_swap_Slot)), .d (.v (.int .i64 v_r44.2.1)), .d (.v (.int .i64 v_r44.2.2)), .ref 1 0, .d (.v (.int .i64 v_r60.2)), .d (.sl (v_r81.1.map eS_swap_Slot)), .d (.v (.bool v_r81.2.1)), .d (.v (.int .i64 v_r81.2.2)), .d (.v (.int .i64 v_r94.1)), .d (.v (.int .i64 v_r94.2.1)), .d (.v (.int .i64 v_r94.2.2)), dd, .d (.v (.int .i64 v_free187)), .d (.v (.int .i64 v_have188)), .d (.v (.int .i64 (wi .i64 (v_named174 + v_y186.fMany)))), dd, dd, dd, dd, dd, dd, dd, dd, dd, dd, dd, dd, dd, dd, dd, dd, dd, dd, dd, dd, dd, dd, dd, dd, dd, dd, dd, dd, dd, dd, dd, dd, dd, dd, dd, dd, dd, dd, dd, dd, dd, dd, dd, dd, dd, dd, dd, dd, dd, dd, dd, dd, dd, dd, dd, dd, dd, dd, dd, dd, dd, dd, dd, dd, dd, dd, dd, dd, dd, dd, dd, dd, dd, dd, dd, dd, dd, dd, dd, dd, dd, dd, dd, dd, dd, dd, dd, dd, dd, dd, dd, dd, dd, dd, dd, dd, dd, dd, dd, dd, dd, dd, dd, dd, dd, dd, dd, dd, dd, dd, dd, dd, dd, dd, dd, dd, dd, dd, dd, .d (.sl (v_l1.map eS_swap_Slot)), .d (.v (.int .i64 (v_l1.length : Int))), .d (.v (.int .i64 v_x175)), dd, dd, dd, dd, dd, dd, dd, dd, dd, dd, dd, dd, dd, dd, dd, dd, dd, dd, dd, dd, dd, dd, dd, dd, dd, dd, dd, dd, dd, dd, dd, dd, dd, dd, dd, dd, dd, dd, dd, dd, dd, dd, dd, dd, dd, dd, dd, dd, dd, dd, dd, dd, dd, dd, dd, dd, dd, dd, dd, dd, dd, dd, dd, dd, dd, dd, dd, dd, dd, dd, dd, dd, dd, dd, dd, dd, dd, dd, dd, dd, dd, dd, dd, dd, dd, dd, dd, dd, dd, dd, dd, dd, dd, dd, dd, dd, dd, dd, dd, dd, dd, dd, dd, dd, dd, dd, dd, dd, dd, dd, dd, dd, dd, dd, dd, dd, dd, dd, dd, dd, dd, dd, dd, dd, dd, dd, dd, dd, dd, dd, dd, dd, dd, dd, dd, dd, dd, dd, dd, dd, dd, dd, dd, dd, dd, dd, dd, dd, dd, dd, dd, dd, dd, dd, dd, dd, dd, dd, dd, dd, dd, dd, dd, dd, dd, dd, dd, dd, dd, dd, dd, dd, dd, dd, dd, dd, dd, dd, dd, dd, dd], [.box [.d (.v (.int .u8 (v_data3 0))), .d (.v (.int .u8 (v_data3 1))), .d (.v (.int .u8 (v_data3 2))), .d (.v (.int .u8 (v_data3 3))), .d (.v (.int .u8 (v_data3 4))), .d (.v (.int .u8 (v_data3 5))), .d (.v (.int .u8 (v_data3 6))), .d (.v (.int .u8 (v_data3 7))), .d (.v (.int .u8 (v_data3 8))), .d (.v (.int .u8 (v_data3 9))), .d (.v (.int .u8 (v_data3 10))), .d (.v (.int .u8 (v_data3 11))), .d (.v (.int .u8 (v_data3 12))), .d (.v (.int .u8 (v_data3 13))), .d (.v (.int .u8 (v_data3 14))), .d (.v (.int .u8 (v_data3 15)))], .box [.d (.v (.int .u8 (v_r60.1 0))), .d (.v (.int .u8 (v_r60.1 1))), .d (.v (.int .u8 (v_r60.1 2))), .d (.v (.int .u8 (v_r60.1 3))), .d (.v (.int .u8 (v_r60.1 4))), .d (.v (.int .u8 (v_r60.1 5))), .d (.v (.int .u8 (v_r60.1 6))), .d (.v (.int .u8 (v_r60.1 7))), .d (.v (.int .u8 (v_r60.1 8))), .d (.v (.int .u8 (v_r60.1 9))), .d (.v (.int .u8 (v_r60.1 10))), .d (.v (.int .u8 (v_r60.1 11))), .d (.v (.int .u8 (v_r60.1 12))), .d (.v (.int .u8 (v_r60.1 13))), .d (.v (.int .u8 (v_r60.1 14))), .d (.v (.int .u8 (v_r60.1 15)))]]⟩
def G_ringlaw2_SwapTells_C3_hd (v_l1 : (List S_swap_Slot)) (v_many4 : Int) (v_k5 : Int) (v_more6 : Int) (v_r44 : ((List S_swap_Slot) × Int × Int)) (v_r60 : ((Fin 16 → Int) × Int)) (v_r81 : ((List S_swap_Slot) × Bool × Int)) (v_r94 : (Int × Int × Int)) (v_free172 : Int) (v_have173 : Int) (v_named174 : Int) (v_y186 : S_swap_Slot) (v_x175 : Int) (v_data3 : (Fin 16 → Int))  : PS := ⟨[.d (.sl (v_l1.map eS_swap_Slot)), dd, dd, .d (.v (.int .i64 v_many4)), .d (.v (.int .i64 v_k5)), .d (.v (.int .i64 v_more6)), dd, dd, .ref 0 0, dd, dd, dd, dd, dd, dd, .d (.sl (v_r44.1.map eS_swap_Slot)), .d (.v (.int .i64 v_r44.2.1)), .d (.v (.int .i64 v_r44.2.2)), .ref 1 0, .d (.v (.int .i64 v_r60.2)), .d (.sl (v_r81.1.map eS_swap_Slot)), .d (.v (.bool v_r81.2.1)), .d (.v (.int .i64 v_r81.2.2)), .d (.v (.int .i64 v_r94.1)), .d (.v (.int .i64 v_r94.2.1)), .d (.v (.int .i64 v_r94.2.2)), dd, .d (.v (.int .i64 v_free172)), .d (.v (.int .i64 v_have173)), .d (.v (.int .i64 (wi .i64 (v_named174 + v_y186.fMany)))), .d (.v (.int .i64 v_x175)), dd, dd, dd, dd, dd, dd, dd, dd, dd, dd, dd, dd, dd, dd, dd, dd, dd, dd, dd, dd, dd, dd, dd, dd, dd, dd, dd, dd, dd, dd, dd, dd, dd, dd, dd, dd, dd, dd, dd, dd, dd, dd, dd, dd, dd, dd, dd, dd, dd, dd, dd, dd, dd, dd, dd, dd, dd, dd, dd, dd, dd, dd, dd, dd, dd, dd, dd, dd, dd, dd, dd, dd, dd, dd, dd, dd, dd, dd, dd, dd, dd, dd, dd, dd, dd, dd, dd, dd, dd, dd, dd, dd, dd, dd, dd, dd, dd, dd, dd, dd, dd, dd, dd, dd, dd, dd, dd, dd, dd, dd, dd, dd, dd, dd, dd, dd, dd, dd, .d (.sl (v_l1.map eS_swap_Slot)), .d (.v (.int .i64 (v_l1.length : Int))), .d (.v (.int .i64 v_x175)), dd, dd, dd, dd, dd, dd, dd, dd, dd, dd, .d (.v (.bool (decide (v_y186.fMany > 0)))), dd, dd, dd, dd, dd, dd, dd, dd, dd, dd, dd, dd, dd, dd, dd, dd, dd, dd, dd, dd, dd, dd, dd, dd, dd, dd, dd, dd, dd, dd, dd, dd, dd, dd, dd, dd, dd, dd, dd, dd, dd, dd, dd, dd, dd, dd, dd, dd, dd, dd, dd, dd, dd, dd, dd, dd, dd, dd, dd, dd, dd, dd, dd, dd, dd, dd, dd, dd, dd, dd, dd, dd, dd, dd, dd, dd, dd, dd, dd, dd, dd, dd, dd, dd, dd, dd, dd, dd, dd, dd, dd, dd, dd, dd, dd, dd, dd, dd, dd, dd, dd, dd, dd, dd, dd, dd, dd, dd, dd, dd, dd, dd, dd, dd, dd, dd, dd, dd, dd, dd, dd, dd, dd, dd, dd, dd, dd, dd, dd, dd, dd, dd, dd, dd, dd, dd, dd, dd, dd, dd, dd, dd, dd, dd, dd, dd, dd, dd, dd, dd, dd, dd, dd, dd, dd, dd, dd, dd, dd, dd, dd, dd, dd, dd, dd, dd, dd, dd, dd, dd], [.box [.d (.v (.int .u8 (v_data3 0))), .d (.v (.int .u8 (v_data3 1))), .d (.v (.int .u8 (v_data3 2))), .d (.v (.int .u8 (v_data3 3))), .d (.v (.int .u8 (v_data3 4))), .d (.v (.int .u8 (v_data3 5))), .d (.v (.int .u8 (v_data3 6))), .d (.v (.int .u8 (v_data3 7))), .d (.v (.int .u8 (v_data3 8))), .d (.v (.int .u8 (v_data3 9))), .d (.v (.int .u8 (v_data3 10))), .d (.v (.int .u8 (v_data3 11))), .d (.v (.int .u8 (v_data3 12))), .d (.v (.int .u8 (v_data3 13))), .d (.v (.int .u8 (v_data3 14))), .d (.v (.int .u8 (v_data3 15)))], .box [.d (.v (.int .u8 (v_r60.1 0))), .d (.v (.int .u8 (v_r60.1 1))), .d (.v (.int .u8 (v_r60.1 2))), .d (.v (.int .u8 (v_r60.1 3))), .d (.v (.int .u8 (v_r60.1 4))), .d (.v (.int .u8 (v_r60.1 5))), .d (.v (.int .u8 (v_r60.1 6))), .d (.v (.int .u8 (v_r60.1 7))), .d (.v (.int .u8 (v_r60.1 8))), .d (.v (.int .u8 (v_r60.1 9))), .d (.v (.int .u8 (v_r60.1 10))), .d (.v (.int .u8 (v_r60.1 11))), .d (.v (.int .u8 (v_r60.1 12))), .d (.v (.int .u8 (v_r60.1 13))), .d (.v (.int .u8 (v_r60.1 14))), .d (.v (.int .u8 (v_r60.1 15)))]]⟩
def G_ringlaw2_SwapTells_C3 (n : Nat) (v_l1 : (List S_swap_Slot)) (v_many4 : Int) (v_k5 : Int) (v_more6 : Int) (v_r44 : ((List S_swap_Slot) × Int × Int)) (v_r60 : ((Fin 16 → Int) × Int)) (v_r81 : ((List S_swap_Slot) × Bool × Int)) (v_r94 : (Int × Int × Int)) (v_free172 : Int) (v_have173 : Int) (v_named174 : Int) (v_y186 : S_swap_Slot) (v_x175 : Int) (v_data3 : (Fin 16 → Int)) : Option G_ringlaw2_SwapTells_C3_R :=
  if v_y186.fMany > 0 then
   some (.x0 v_free172 (wi .i64 (v_have173 + 1)))
  else
   if v_free172 < 0 then
    some (.x0 v_x175 v_have173)
   else
    some (.x0 v_free172 v_have173)
theorem G_ringlaw2_SwapTells_C3_ok {Fi : Ex → PS → Prop} (hF : KC 333 Fi) (ks : List Fr) (n : Nat) (v_l1 : (List S_swap_Slot)) (v_many4 : Int) (v_k5 : Int) (v_more6 : Int) (v_r44 : ((List S_swap_Slot) × Int × Int)) (v_r60 : ((Fin 16 → Int) × Int)) (v_r81 : ((List S_swap_Slot) × Bool × Int)) (v_r94 : (Int × Int × Int)) (v_free172 : Int) (v_have173 : Int) (v_named174 : Int) (v_y186 : S_swap_Slot) (v_x175 : Int) (v_data3 : (Fin 16 → Int))  (o : G_ringlaw2_SwapTells_C3_R) (h : G_ringlaw2_SwapTells_C3 n v_l1 v_many4 v_k5 v_more6 v_r44 v_r60 v_r81 v_r94 v_free172 v_have173 v_named174 v_y186 v_x175 v_data3 = some o) (q : RunE Try.prog 333 Fi ks (G_ringlaw2_SwapTells_C3_ex o) (G_ringlaw2_SwapTells_C3_st v_l1 v_many4 v_k5 v_more6 v_r44 v_r60 v_r81 v_r94 v_free172 v_have173 v_named174 v_y186 v_x175 v_data3 o)) : RunE Try.prog 333 Fi (.s (cR (cR (cR (cB (cL (cR (cR (cP (cB (cR (cL (cR (cR (cR (cR (cR (cR (cR (cR (cR (cR (cR (bodyOf Try.f5))))))))))))))))))))))) :: ks) .normal (G_ringlaw2_SwapTells_C3_hd v_l1 v_many4 v_k5 v_more6 v_r44 v_r60 v_r81 v_r94 v_free172 v_have173 v_named174 v_y186 v_x175 v_data3) := by
  unfold G_ringlaw2_SwapTells_C3 at h
  by_cases h235 : v_y186.fMany > 0
  · rw [if_pos h235] at h
    cases h
    exact pkk_sound TTok mix hF 2 (hs := [.t true]) (ts := []) (s := [0, 1]) (l := [0, 3, 4, 5, 8, 15, 16, 17, 18, 19, 20, 21, 22, 23, 24, 25, 27, 28, 29, 149, 150, 151]) (by kernel_rfl) (by kernel_rfl) (.cons (dt h235) .nil) q
  · rw [if_neg h235] at h
    by_cases h236 : v_free172 < 0
    · rw [if_pos h236] at h
      cases h
      exact pkk_sound TTok mix hF 5 (hs := [.t false, .t true]) (ts := []) (s := [0, 1]) (l := [0, 3, 4, 5, 8, 15, 16, 17, 18, 19, 20, 21, 22, 23, 24, 25, 27, 28, 29, 149, 150, 151]) (by kernel_rfl) (by kernel_rfl) (.cons (df h235) (.cons (dt h236) .nil)) q
    · rw [if_neg h236] at h
      cases h
      exact pkk_sound TTok mix hF 5 (hs := [.t false, .t false]) (ts := []) (s := [0, 1]) (l := [0, 3, 4, 5, 8, 15, 16, 17, 18, 19, 20, 21, 22, 23, 24, 25, 27, 28, 29, 149, 150, 151]) (by kernel_rfl) (by kernel_rfl) (.cons (df h235) (.cons (df h236) .nil)) q
inductive G_ringlaw2_SwapTells_L4_R where
  | x0 (v_free196 : Int) (v_have197 : Int) (v_named198 : Int)
def G_ringlaw2_SwapTells_L4_ex : G_ringlaw2_SwapTells_L4_R → Ex
  | .x0 _ _ _ => .exit 0
def G_ringlaw2_SwapTells_L4_st (v_l1 : (List S_swap_Slot)) (v_many4 : Int) (v_k5 : Int) (v_more6 : Int) (v_r44 : ((List S_swap_Slot) × Int × Int)) (v_r60 : ((Fin 16 → Int) × Int)) (v_r81 : ((List S_swap_Slot) × Bool × Int)) (v_r94 : (Int × Int × Int)) (v_data3 : (Fin 16 → Int)) : G_ringlaw2_SwapTells_L4_R → PS
  | .x0 v_free196 v_have197 v_named198 => ⟨[.d (.sl (v_l1.map eS_swap_Slot)), dd, dd, .d (.v (.int .i64 v_many4)), .d (.v (.int .i64 v_k5)), .d (.v (.int .i64 v_more6)), dd, dd, .ref 0 0, dd, dd, dd, dd, dd, dd, .d (.sl (v_r44.1.map eS_swap_Slot)), .d (.v (.int .i64 v_r44.2.1)), .d (.v (.int .i64 v_r44.2.2)), .ref 1 0, .d (.v (.int .i64 v_r60.2)), .d (.sl (v_r81.1.map eS_swap_Slot)), .d (.v (.bool v_r81.2.1)), .d (.v (.int .i64 v_r81.2.2)), .d (.v (.int .i64 v_r94.1)), .d (.v (.int .i64 v_r94.2.1)), .d (.v (.int .i64 v_r94.2.2)), dd, .d (.v (.int .i64 v_free196)), .d (.v (.int .i64 v_have197)), .d (.v (.int .i64 v_named198)), dd, dd, dd, dd, dd, dd, dd, dd, dd, dd, dd, dd, dd, dd, dd, dd, dd, dd, dd, dd, dd, dd, dd, dd, dd, dd, dd, dd, dd, dd, dd, dd, dd, dd, dd, dd, dd, dd, dd, dd, dd, dd, dd, dd, dd, dd, dd, dd, dd, dd, dd, dd, dd, dd, dd, dd, dd, dd, dd, dd, dd, dd, dd, dd, dd, dd, dd, dd, dd, dd, dd, dd, dd, dd, dd, dd, dd, dd, dd, dd, dd, dd, dd, dd, dd, dd, dd, dd, dd, dd, dd, dd, dd, dd, dd, dd, dd, dd, dd, dd, dd, dd, dd, dd, dd, dd, dd, dd, dd, dd, dd, dd, dd, dd, dd, dd, dd, dd, dd, dd, dd, dd, dd, dd, dd, dd, dd, dd, dd, dd, dd, dd, dd, dd, dd, dd, dd, dd, dd, dd, dd, dd, dd, dd, dd, dd, dd, dd, dd, dd, dd, dd, dd, dd, dd, dd, dd, dd, dd, dd, dd, dd, dd, dd, dd, dd, dd, dd, dd, dd, dd, dd, dd, dd, dd, dd, dd, dd, dd, dd, dd, dd, dd, dd, dd, dd, dd, dd, dd, dd, dd, dd, dd, dd, dd, dd, dd, dd, dd, dd, dd, dd, dd, dd, dd, dd, dd, dd, dd, dd, dd, dd, dd, dd, dd, dd, dd, dd, dd, dd, dd, dd, dd, dd, dd, dd, dd, dd, dd, dd, dd, dd, dd, dd, dd, dd, dd, dd, dd, dd, dd, dd, dd, dd, dd, dd, dd, dd, dd, dd, dd, dd, dd, dd, dd, dd, dd, dd, dd, dd, dd, dd, dd, dd, dd, dd, dd, dd, dd, dd, dd, dd, dd, dd, dd, dd, dd, dd, dd, dd, dd, dd, dd, dd, dd, dd, dd, dd, dd, dd, dd, dd, dd, dd, dd, dd, dd, dd, dd, dd, dd, dd, dd], [.box [.d (.v (.int .u8 (v_data3 0))), .d (.v (.int .u8 (v_data3 1))), .d (.v (.int .u8 (v_data3 2))), .d (.v (.int .u8 (v_data3 3))), .d (.v (.int .u8 (v_data3 4))), .d (.v (.int .u8 (v_data3 5))), .d (.v (.int .u8 (v_data3 6))), .d (.v (.int .u8 (v_data3 7))), .d (.v (.int .u8 (v_data3 8))), .d (.v (.int .u8 (v_data3 9))), .d (.v (.int .u8 (v_data3 10))), .d (.v (.int .u8 (v_data3 11))), .d (.v (.int .u8 (v_data3 12))), .d (.v (.int .u8 (v_data3 13))), .d (.v (.int .u8 (v_data3 14))), .d (.v (.int .u8 (v_data3 15)))], .box [.d (.v (.int .u8 (v_r60.1 0))), .d (.v (.int .u8 (v_r60.1 1))), .d (.v (.int .u8 (v_r60.1 2))), .d (.v (.int .u8 (v_r60.1 3))), .d (.v (.int .u8 (v_r60.1 4))), .d (.v (.int .u8 (v_r60.1 5))), .d (.v (.int .u8 (v_r60.1 6))), .d (.v (.int .u8 (v_r60.1 7))), .d (.v (.int .u8 (v_r60.1 8))), .d (.v (.int .u8 (v_r60.1 9))), .d (.v (.int .u8 (v_r60.1 10))), .d (.v (.int .u8 (v_r60.1 11))), .d (.v (.int .u8 (v_r60.1 12))), .d (.v (.int .u8 (v_r60.1 13))), .d (.v (.int .u8 (v_r60.1 14))), .d (.v (.int .u8 (v_r60.1 15)))]]⟩
def G_ringlaw2_SwapTells_L4_hd (v_l1 : (List S_swap_Slot)) (v_many4 : Int) (v_k5 : Int) (v_more6 : Int) (v_r44 : ((List S_swap_Slot) × Int × Int)) (v_r60 : ((Fin 16 → Int) × Int)) (v_r81 : ((List S_swap_Slot) × Bool × Int)) (v_r94 : (Int × Int × Int)) (v_data3 : (Fin 16 → Int)) (v_free172 : Int) (v_have173 : Int) (v_named174 : Int) (v_x175 : Int) : PS := ⟨[.d (.sl (v_l1.map eS_swap_Slot)), dd, dd, .d (.v (.int .i64 v_many4)), .d (.v (.int .i64 v_k5)), .d (.v (.int .i64 v_more6)), dd, dd, .ref 0 0, dd, dd, dd, dd, dd, dd, .d (.sl (v_r44.1.map eS_swap_Slot)), .d (.v (.int .i64 v_r44.2.1)), .d (.v (.int .i64 v_r44.2.2)), .ref 1 0, .d (.v (.int .i64 v_r60.2)), .d (.sl (v_r81.1.map eS_swap_Slot)), .d (.v (.bool v_r81.2.1)), .d (.v (.int .i64 v_r81.2.2)), .d (.v (.int .i64 v_r94.1)), .d (.v (.int .i64 v_r94.2.1)), .d (.v (.int .i64 v_r94.2.2)), dd, .d (.v (.int .i64 v_free172)), .d (.v (.int .i64 v_have173)), .d (.v (.int .i64 v_named174)), dd, dd, dd, dd, dd, dd, dd, dd, dd, dd, dd, dd, dd, dd, dd, dd, dd, dd, dd, dd, dd, dd, dd, dd, dd, dd, dd, dd, dd, dd, dd, dd, dd, dd, dd, dd, dd, dd, dd, dd, dd, dd, dd, dd, dd, dd, dd, dd, dd, dd, dd, dd, dd, dd, dd, dd, dd, dd, dd, dd, dd, dd, dd, dd, dd, dd, dd, dd, dd, dd, dd, dd, dd, dd, dd, dd, dd, dd, dd, dd, dd, dd, dd, dd, dd, dd, dd, dd, dd, dd, dd, dd, dd, dd, dd, dd, dd, dd, dd, dd, dd, dd, dd, dd, dd, dd, dd, dd, dd, dd, dd, dd, dd, dd, dd, dd, dd, dd, dd, .d (.sl (v_l1.map eS_swap_Slot)), .d (.v (.int .i64 (v_l1.length : Int))), .d (.v (.int .i64 v_x175)), dd, dd, dd, dd, dd, dd, dd, dd, dd, dd, dd, dd, dd, dd, dd, dd, dd, dd, dd, dd, dd, dd, dd, dd, dd, dd, dd, dd, dd, dd, dd, dd, dd, dd, dd, dd, dd, dd, dd, dd, dd, dd, dd, dd, dd, dd, dd, dd, dd, dd, dd, dd, dd, dd, dd, dd, dd, dd, dd, dd, dd, dd, dd, dd, dd, dd, dd, dd, dd, dd, dd, dd, dd, dd, dd, dd, dd, dd, dd, dd, dd, dd, dd, dd, dd, dd, dd, dd, dd, dd, dd, dd, dd, dd, dd, dd, dd, dd, dd, dd, dd, dd, dd, dd, dd, dd, dd, dd, dd, dd, dd, dd, dd, dd, dd, dd, dd, dd, dd, dd, dd, dd, dd, dd, dd, dd, dd, dd, dd, dd, dd, dd, dd, dd, dd, dd, dd, dd, dd, dd, dd, dd, dd, dd, dd, dd, dd, dd, dd, dd, dd, dd, dd, dd, dd, dd, dd, dd, dd, dd, dd, dd, dd, dd, dd, dd, dd, dd, dd, dd, dd, dd, dd, dd, dd, dd, dd, dd, dd, dd, dd], [.box [.d (.v (.int .u8 (v_data3 0))), .d (.v (.int .u8 (v_data3 1))), .d (.v (.int .u8 (v_data3 2))), .d (.v (.int .u8 (v_data3 3))), .d (.v (.int .u8 (v_data3 4))), .d (.v (.int .u8 (v_data3 5))), .d (.v (.int .u8 (v_data3 6))), .d (.v (.int .u8 (v_data3 7))), .d (.v (.int .u8 (v_data3 8))), .d (.v (.int .u8 (v_data3 9))), .d (.v (.int .u8 (v_data3 10))), .d (.v (.int .u8 (v_data3 11))), .d (.v (.int .u8 (v_data3 12))), .d (.v (.int .u8 (v_data3 13))), .d (.v (.int .u8 (v_data3 14))), .d (.v (.int .u8 (v_data3 15)))], .box [.d (.v (.int .u8 (v_r60.1 0))), .d (.v (.int .u8 (v_r60.1 1))), .d (.v (.int .u8 (v_r60.1 2))), .d (.v (.int .u8 (v_r60.1 3))), .d (.v (.int .u8 (v_r60.1 4))), .d (.v (.int .u8 (v_r60.1 5))), .d (.v (.int .u8 (v_r60.1 6))), .d (.v (.int .u8 (v_r60.1 7))), .d (.v (.int .u8 (v_r60.1 8))), .d (.v (.int .u8 (v_r60.1 9))), .d (.v (.int .u8 (v_r60.1 10))), .d (.v (.int .u8 (v_r60.1 11))), .d (.v (.int .u8 (v_r60.1 12))), .d (.v (.int .u8 (v_r60.1 13))), .d (.v (.int .u8 (v_r60.1 14))), .d (.v (.int .u8 (v_r60.1 15)))]]⟩
def G_ringlaw2_SwapTells_L4 (n : Nat) (v_l1 : (List S_swap_Slot)) (v_many4 : Int) (v_k5 : Int) (v_more6 : Int) (v_r44 : ((List S_swap_Slot) × Int × Int)) (v_r60 : ((Fin 16 → Int) × Int)) (v_r81 : ((List S_swap_Slot) × Bool × Int)) (v_r94 : (Int × Int × Int)) (v_data3 : (Fin 16 → Int)) : Nat → Int → Int → Int → Int → Option G_ringlaw2_SwapTells_L4_R
  | 0, _, _, _, _ => none
  | k + 1, v_free172, v_have173, v_named174, v_x175 =>
    if v_x175 < (v_l1.length : Int) then
     (getI v_l1 v_x175).bind fun (v_y186 : S_swap_Slot) =>
     (G_ringlaw2_SwapTells_C3 n v_l1 v_many4 v_k5 v_more6 v_r44 v_r60 v_r81 v_r94 v_free172 v_have173 v_named174 v_y186 v_x175 v_data3).bind fun v_o193 => match v_o193 with
     | .x0 v_z194 v_z195 =>
       G_ringlaw2_SwapTells_L4 n v_l1 v_many4 v_k5 v_more6 v_r44 v_r60 v_r81 v_r94 v_data3 k v_z194 v_z195 (wi .i64 (v_named174 + v_y186.fMany)) (wi .i64 (v_x175 + 1))
    else
     some (.x0 v_free172 v_have173 v_named174)
theorem G_ringlaw2_SwapTells_L4_ok {Fi : Ex → PS → Prop} (hF : KC 333 Fi) (ks : List Fr) (n : Nat) (v_l1 : (List S_swap_Slot)) (v_many4 : Int) (v_k5 : Int) (v_more6 : Int) (v_r44 : ((List S_swap_Slot) × Int × Int)) (v_r60 : ((Fin 16 → Int) × Int)) (v_r81 : ((List S_swap_Slot) × Bool × Int)) (v_r94 : (Int × Int × Int)) (v_data3 : (Fin 16 → Int))  : ∀ (k : Nat) (v_free172 : Int) (v_have173 : Int) (v_named174 : Int) (v_x175 : Int) (o : G_ringlaw2_SwapTells_L4_R), G_ringlaw2_SwapTells_L4 n v_l1 v_many4 v_k5 v_more6 v_r44 v_r60 v_r81 v_r94 v_data3 k v_free172 v_have173 v_named174 v_x175 = some o → RunE Try.prog 333 Fi ks (G_ringlaw2_SwapTells_L4_ex o) (G_ringlaw2_SwapTells_L4_st v_l1 v_many4 v_k5 v_more6 v_r44 v_r60 v_r81 v_r94 v_data3 o) → RunE Try.prog 333 Fi (.l k (cP (cB (cR (cL (cR (cR (cR (cR (cR (cR (cR (cR (cR (cR (cR (bodyOf Try.f5)))))))))))))))) :: ks) .normal (G_ringlaw2_SwapTells_L4_hd v_l1 v_many4 v_k5 v_more6 v_r44 v_r60 v_r81 v_r94 v_data3 v_free172 v_have173 v_named174 v_x175)
  | 0, v_free172, v_have173, v_named174, v_x175, o, h, q => by rw [G_ringlaw2_SwapTells_L4] at h; cases h
  | k + 1, v_free172, v_have173, v_named174, v_x175, o, h, q => by
    rw [G_ringlaw2_SwapTells_L4] at h
    by_cases h225 : v_x175 < (v_l1.length : Int)
    · rw [if_pos h225] at h
      obtain ⟨v_y186, h232, h⟩ := bind_some h
      obtain ⟨v_o193, h237, h⟩ := bind_some h
      refine pkk_sound TTok mix hF 14 (hs := [.t true, .y (eS_swap_Slot v_y186), .c, .c, .c]) (ts := []) (s := [0, 1]) (l := [0, 3, 4, 5, 8, 15, 16, 17, 18, 19, 20, 21, 22, 23, 24, 25, 27, 28, 29, 30, 149, 150, 151, 162]) (by kernel_rfl) (by kernel_rfl) (.cons (dt h225) (.cons (getI_ob (f := eS_swap_Slot) h232) (.cons (show 0 + 17 ≤ 17 by decide) .nil))) (G_ringlaw2_SwapTells_C3_ok hF (.b 1 :: .s (cR (cR (cR (cP (cB (cR (cL (cR (cR (cR (cR (cR (cR (cR (cR (cR (cR (cR (bodyOf Try.f5))))))))))))))))))) :: .l k (cP (cB (cR (cL (cR (cR (cR (cR (cR (cR (cR (cR (cR (cR (cR (bodyOf Try.f5)))))))))))))))) :: ks) n v_l1 v_many4 v_k5 v_more6 v_r44 v_r60 v_r81 v_r94 v_free172 v_have173 v_named174 v_y186 v_x175 v_data3 _ h237 ?_)
      cases v_o193 with
      | x0 v_z194 v_z195 =>
        dsimp only at h
        exact pkk_sound TTok mix hF 2 (hs := []) (ts := []) (s := [0, 1]) (l := [0, 3, 4, 5, 8, 15, 16, 17, 18, 19, 20, 21, 22, 23, 24, 25, 27, 28, 29, 149, 150, 151]) (by kernel_rfl) (by kernel_rfl) .nil (G_ringlaw2_SwapTells_L4_ok hF ks n v_l1 v_many4 v_k5 v_more6 v_r44 v_r60 v_r81 v_r94 v_data3 k v_z194 v_z195 (wi .i64 (v_named174 + v_y186.fMany)) (wi .i64 (v_x175 + 1)) _ h q)
    · rw [if_neg h225] at h
      cases h
      exact pkk_sound TTok mix hF 8 (hs := [.t false]) (ts := []) (s := [0, 1]) (l := [0, 3, 4, 5, 8, 15, 16, 17, 18, 19, 20, 21, 22, 23, 24, 25, 27, 28, 29]) (by kernel_rfl) (by kernel_rfl) (.cons (df h225) .nil) q
inductive G_ringlaw2_SwapTells_C5_R where
  | x0 (v_x203 : Bool)
def G_ringlaw2_SwapTells_C5_ex : G_ringlaw2_SwapTells_C5_R → Ex
  | .x0 _ => .normal
def G_ringlaw2_SwapTells_C5_st (v_l1 : (List S_swap_Slot)) (v_many4 : Int) (v_k5 : Int) (v_more6 : Int) (v_r44 : ((List S_swap_Slot) × Int × Int)) (v_r60 : ((Fin 16 → Int) × Int)) (v_r81 : ((List S_swap_Slot) × Bool × Int)) (v_r94 : (Int × Int × Int)) (v_z200 : Int) (v_z201 : Int) (v_z202 : Int) (v_data3 : (Fin 16 → Int)) : G_ringlaw2_SwapTells_C5_R → PS
  | .x0 v_x203 => ⟨[.d (.sl (v_l1.map eS_swap_Slot)), dd, dd, .d (.v (.int .i64 v_many4)), .d (.v (.int .i64 v_k5)), .d (.v (.int .i64 v_more6)), dd, dd, .ref 0 0, dd, dd, dd, dd, dd, dd, .d (.sl (v_r44.1.map eS_swap_Slot)), .d (.v (.int .i64 v_r44.2.1)), .d (.v (.int .i64 v_r44.2.2)), .ref 1 0, .d (.v (.int .i64 v_r60.2)), .d (.sl (v_r81.1.map eS_swap_Slot)), .d (.v (.bool v_r81.2.1)), .d (.v (.int .i64 v_r81.2.2)), dd, dd, dd, dd, .d (.v (.int .i64 v_z200)), dd, dd, dd, dd, dd, dd, dd, dd, dd, dd, dd, dd, dd, dd, dd, dd, dd, dd, dd, dd, dd, dd, dd, dd, dd, dd, dd, dd, dd, dd, dd, dd, dd, dd, dd, dd, dd, dd, dd, dd, dd, dd, dd, dd, dd, dd, dd, dd, dd, dd, dd, dd, dd, dd, dd, dd, dd, dd, dd, dd, dd, dd, dd, dd, dd, dd, dd, dd, dd, dd, dd, dd, dd, dd, dd, dd, dd, dd, dd, dd, dd, dd, dd, dd, dd, dd, dd, dd, dd, dd, dd, dd, dd, dd, dd, dd, dd, dd, dd, dd, dd, dd, dd, dd, dd, dd, dd, dd, dd, dd, dd, dd, dd, dd, dd, dd, dd, dd, dd, dd, dd, dd, dd, dd, dd, dd, dd, dd, dd, dd, dd, dd, dd, dd, dd, dd, dd, dd, dd, dd, dd, dd, dd, dd, dd, dd, dd, dd, dd, dd, dd, dd, .d (.v (.bool v_x203)), dd, dd, dd, dd, dd, dd, dd, dd, dd, dd, dd, dd, dd, dd, dd, dd, dd, dd, dd, dd, dd, dd, dd, dd, dd, dd, dd, dd, dd, dd, dd, dd, dd, dd, dd, dd, dd, dd, dd, dd, dd, dd, dd, dd, dd, dd, dd, dd, dd, dd, dd, dd, dd, dd, dd, dd, dd, dd, dd, dd, dd, dd, dd, dd, dd, dd, dd, dd, dd, dd, dd, dd, dd, dd, dd, dd, dd, dd, dd, dd, dd, dd, dd, dd, dd, dd, dd, dd, dd, dd, dd, dd, dd, dd, dd, dd, dd, dd, dd, dd, dd, dd, dd, dd, dd, dd, dd, dd, dd, dd, dd, dd, dd, dd, dd, dd, dd, dd, dd, dd, dd, dd, dd, dd, dd, dd, dd, dd, dd, dd, dd, dd, dd, dd, dd, dd, dd, dd, dd, dd, dd, dd, dd, dd, dd, dd, dd, dd, dd, dd, dd, dd], [.box [.d (.v (.int .u8 (v_data3 0))), .d (.v (.int .u8 (v_data3 1))), .d (.v (.int .u8 (v_data3 2))), .d (.v (.int .u8 (v_data3 3))), .d (.v (.int .u8 (v_data3 4))), .d (.v (.int .u8 (v_data3 5))), .d (.v (.int .u8 (v_data3 6))), .d (.v (.int .u8 (v_data3 7))), .d (.v (.int .u8 (v_data3 8))), .d (.v (.int .u8 (v_data3 9))), .d (.v (.int .u8 (v_data3 10))), .d (.v (.int .u8 (v_data3 11))), .d (.v (.int .u8 (v_data3 12))), .d (.v (.int .u8 (v_data3 13))), .d (.v (.int .u8 (v_data3 14))), .d (.v (.int .u8 (v_data3 15)))], .box [.d (.v (.int .u8 (v_r60.1 0))), .d (.v (.int .u8 (v_r60.1 1))), .d (.v (.int .u8 (v_r60.1 2))), .d (.v (.int .u8 (v_r60.1 3))), .d (.v (.int .u8 (v_r60.1 4))), .d (.v (.int .u8 (v_r60.1 5))), .d (.v (.int .u8 (v_r60.1 6))), .d (.v (.int .u8 (v_r60.1 7))), .d (.v (.int .u8 (v_r60.1 8))), .d (.v (.int .u8 (v_r60.1 9))), .d (.v (.int .u8 (v_r60.1 10))), .d (.v (.int .u8 (v_r60.1 11))), .d (.v (.int .u8 (v_r60.1 12))), .d (.v (.int .u8 (v_r60.1 13))), .d (.v (.int .u8 (v_r60.1 14))), .d (.v (.int .u8 (v_r60.1 15)))]]⟩
def G_ringlaw2_SwapTells_C5_hd (v_l1 : (List S_swap_Slot)) (v_many4 : Int) (v_k5 : Int) (v_more6 : Int) (v_r44 : ((List S_swap_Slot) × Int × Int)) (v_r60 : ((Fin 16 → Int) × Int)) (v_r81 : ((List S_swap_Slot) × Bool × Int)) (v_r94 : (Int × Int × Int)) (v_z200 : Int) (v_z201 : Int) (v_z202 : Int) (v_data3 : (Fin 16 → Int))  : PS := ⟨[.d (.sl (v_l1.map eS_swap_Slot)), dd, dd, .d (.v (.int .i64 v_many4)), .d (.v (.int .i64 v_k5)), .d (.v (.int .i64 v_more6)), dd, dd, .ref 0 0, dd, dd, dd, dd, dd, dd, .d (.sl (v_r44.1.map eS_swap_Slot)), .d (.v (.int .i64 v_r44.2.1)), .d (.v (.int .i64 v_r44.2.2)), .ref 1 0, .d (.v (.int .i64 v_r60.2)), .d (.sl (v_r81.1.map eS_swap_Slot)), .d (.v (.bool v_r81.2.1)), .d (.v (.int .i64 v_r81.2.2)), .d (.v (.int .i64 v_r94.1)), .d (.v (.int .i64 v_r94.2.1)), .d (.v (.int .i64 v_r94.2.2)), dd, .d (.v (.int .i64 v_z200)), .d (.v (.int .i64 v_z201)), .d (.v (.int .i64 v_z202)), dd, dd, dd, dd, dd, dd, dd, dd, dd, dd, dd, dd, dd, dd, dd, dd, dd, dd, dd, dd, dd, dd, dd, dd, dd, dd, dd, dd, dd, dd, dd, dd, dd, dd, dd, dd, dd, dd, dd, dd, dd, dd, dd, dd, dd, dd, dd, dd, dd, dd, dd, dd, dd, dd, dd, dd, dd, dd, dd, dd, dd, dd, dd, dd, dd, dd, dd, dd, dd, dd, dd, dd, dd, dd, dd, dd, dd, dd, dd, dd, dd, dd, dd, dd, dd, dd, dd, dd, dd, dd, dd, dd, dd, dd, dd, dd, dd, dd, dd, dd, dd, dd, dd, dd, dd, dd, dd, dd, dd, dd, dd, dd, dd, dd, dd, dd, dd, dd, dd, dd, dd, dd, dd, dd, dd, dd, dd, dd, dd, dd, dd, dd, dd, dd, dd, dd, dd, dd, dd, dd, dd, dd, dd, dd, dd, dd, dd, dd, dd, dd, dd, dd, dd, dd, dd, dd, dd, dd, dd, dd, dd, dd, dd, dd, dd, dd, dd, dd, dd, dd, dd, dd, dd, dd, dd, dd, dd, dd, dd, dd, dd, dd, dd, dd, dd, dd, dd, dd, dd, dd, dd, dd, dd, dd, dd, dd, dd, dd, dd, dd, dd, dd, dd, dd, dd, dd, dd, dd, dd, dd, dd, dd, dd, dd, dd, dd, dd, dd, dd, dd, dd, dd, dd, dd, dd, dd, dd, dd, dd, dd, dd, dd, dd, dd, dd, dd, dd, dd, dd, dd, dd, dd, dd, dd, dd, dd, dd, dd, dd, dd, dd, dd, dd, dd, dd, dd, dd, dd, dd, dd, dd, dd, dd, dd, dd, dd, dd, dd, dd, dd, dd, dd, dd, dd, dd, dd, dd, dd, dd, dd, dd, dd, dd, dd, dd, dd, dd, dd, dd, dd, dd, dd, dd, dd, dd, dd, dd, dd, dd, dd, dd, dd, dd], [.box [.d (.v (.int .u8 (v_data3 0))), .d (.v (.int .u8 (v_data3 1))), .d (.v (.int .u8 (v_data3 2))), .d (.v (.int .u8 (v_data3 3))), .d (.v (.int .u8 (v_data3 4))), .d (.v (.int .u8 (v_data3 5))), .d (.v (.int .u8 (v_data3 6))), .d (.v (.int .u8 (v_data3 7))), .d (.v (.int .u8 (v_data3 8))), .d (.v (.int .u8 (v_data3 9))), .d (.v (.int .u8 (v_data3 10))), .d (.v (.int .u8 (v_data3 11))), .d (.v (.int .u8 (v_data3 12))), .d (.v (.int .u8 (v_data3 13))), .d (.v (.int .u8 (v_data3 14))), .d (.v (.int .u8 (v_data3 15)))], .box [.d (.v (.int .u8 (v_r60.1 0))), .d (.v (.int .u8 (v_r60.1 1))), .d (.v (.int .u8 (v_r60.1 2))), .d (.v (.int .u8 (v_r60.1 3))), .d (.v (.int .u8 (v_r60.1 4))), .d (.v (.int .u8 (v_r60.1 5))), .d (.v (.int .u8 (v_r60.1 6))), .d (.v (.int .u8 (v_r60.1 7))), .d (.v (.int .u8 (v_r60.1 8))), .d (.v (.int .u8 (v_r60.1 9))), .d (.v (.int .u8 (v_r60.1 10))), .d (.v (.int .u8 (v_r60.1 11))), .d (.v (.int .u8 (v_r60.1 12))), .d (.v (.int .u8 (v_r60.1 13))), .d (.v (.int .u8 (v_r60.1 14))), .d (.v (.int .u8 (v_r60.1 15)))]]⟩
def G_ringlaw2_SwapTells_C5 (n : Nat) (v_l1 : (List S_swap_Slot)) (v_many4 : Int) (v_k5 : Int) (v_more6 : Int) (v_r44 : ((List S_swap_Slot) × Int × Int)) (v_r60 : ((Fin 16 → Int) × Int)) (v_r81 : ((List S_swap_Slot) × Bool × Int)) (v_r94 : (Int × Int × Int)) (v_z200 : Int) (v_z201 : Int) (v_z202 : Int) (v_data3 : (Fin 16 → Int)) : Option G_ringlaw2_SwapTells_C5_R :=
  if v_r94.1 = v_z201 then
   if v_r94.2.1 = v_z202 then
    some (.x0 (v_r94.2.2 != 0))
   else
    some (.x0 true)
  else
   some (.x0 true)
theorem G_ringlaw2_SwapTells_C5_ok {Fi : Ex → PS → Prop} (hF : KC 333 Fi) (ks : List Fr) (n : Nat) (v_l1 : (List S_swap_Slot)) (v_many4 : Int) (v_k5 : Int) (v_more6 : Int) (v_r44 : ((List S_swap_Slot) × Int × Int)) (v_r60 : ((Fin 16 → Int) × Int)) (v_r81 : ((List S_swap_Slot) × Bool × Int)) (v_r94 : (Int × Int × Int)) (v_z200 : Int) (v_z201 : Int) (v_z202 : Int) (v_data3 : (Fin 16 → Int))  (o : G_ringlaw2_SwapTells_C5_R) (h : G_ringlaw2_SwapTells_C5 n v_l1 v_many4 v_k5 v_more6 v_r44 v_r60 v_r81 v_r94 v_z200 v_z201 v_z202 v_data3 = some o) (q : RunE Try.prog 333 Fi ks (G_ringlaw2_SwapTells_C5_ex o) (G_ringlaw2_SwapTells_C5_st v_l1 v_many4 v_k5 v_more6 v_r44 v_r60 v_r81 v_r94 v_z200 v_z201 v_z202 v_data3 o)) : RunE Try.prog 333 Fi (.s (cL (cL (cR (cR (cR (cR (cR (cR (cR (cR (cR (cR (cR (cR (bodyOf Try.f5))))))))))))))) :: ks) .normal (G_ringlaw2_SwapTells_C5_hd v_l1 v_many4 v_k5 v_more6 v_r44 v_r60 v_r81 v_r94 v_z200 v_z201 v_z202 v_data3) := by
  unfold G_ringlaw2_SwapTells_C5 at h
  by_cases h241 : v_r94.1 = v_z201
  · rw [if_pos h241] at h
    by_cases h242 : v_r94.2.1 = v_z202
    · rw [if_pos h242] at h
      cases h
      exact pkk_sound TTok mix hF 1 (hs := [.t false, .c, .c, .t false, .c]) (ts := []) (s := [0, 1]) (l := [0, 3, 4, 5, 8, 15, 16, 17, 18, 19, 20, 21, 22, 27, 180]) (by kernel_rfl) (by kernel_rfl) (.cons (nf h241) (.cons (nf h242) .nil)) q
    · rw [if_neg h242] at h
      cases h
      exact pkk_sound TTok mix hF 1 (hs := [.t false, .c, .c, .t true, .c]) (ts := []) (s := [0, 1]) (l := [0, 3, 4, 5, 8, 15, 16, 17, 18, 19, 20, 21, 22, 27, 180]) (by kernel_rfl) (by kernel_rfl) (.cons (nf h241) (.cons (nt h242) .nil)) q
  · rw [if_neg h241] at h
    cases h
    exact pkk_sound TTok mix hF 1 (hs := [.t true, .c, .c, .c, .c]) (ts := []) (s := [0, 1]) (l := [0, 3, 4, 5, 8, 15, 16, 17, 18, 19, 20, 21, 22, 27, 180]) (by kernel_rfl) (by kernel_rfl) (.cons (nt h241) .nil) q
inductive G_ringlaw2_SwapTells_C6_R where
  | x0 (v_put215 : Int)
def G_ringlaw2_SwapTells_C6_ex : G_ringlaw2_SwapTells_C6_R → Ex
  | .x0 _ => .normal
def G_ringlaw2_SwapTells_C6_st (v_l1 : (List S_swap_Slot)) (v_many4 : Int) (v_k5 : Int) (v_more6 : Int) (v_r44 : ((List S_swap_Slot) × Int × Int)) (v_r60 : ((Fin 16 → Int) × Int)) (v_r81 : ((List S_swap_Slot) × Bool × Int)) (v_z200 : Int) (v_r214 : (Bool)) (v_data3 : (Fin 16 → Int)) : G_ringlaw2_SwapTells_C6_R → PS
  | .x0 v_put215 => ⟨[.d (.sl (v_l1.map eS_swap_Slot)), dd, dd, .d (.v (.int .i64 v_many4)), .d (.v (.int .i64 v_k5)), .d (.v (.int .i64 v_more6)), dd, dd, .ref 0 0, dd, dd, dd, dd, dd, dd, .d (.sl (v_r44.1.map eS_swap_Slot)), .d (.v (.int .i64 v_r44.2.1)), .d (.v (.int .i64 v_r44.2.2)), .ref 1 0, .d (.v (.int .i64 v_r60.2)), .d (.sl (v_r81.1.map eS_swap_Slot)), .d (.v (.bool v_r81.2.1)), .d (.v (.int .i64 v_r81.2.2)), dd, dd, dd, dd, .d (.v (.int .i64 v_z200)), dd, dd, dd, dd, .d (.v (.int .i64 v_put215)), dd, dd, dd, dd, dd, dd, dd, dd, dd, dd, dd, dd, dd, dd, dd, dd, dd, dd, dd, dd, dd, dd, dd, dd, dd, dd, dd, dd, dd, dd, dd, dd, dd, dd, dd, dd, dd, dd, dd, dd, dd, dd, dd, dd, dd, dd, dd, dd, dd, dd, dd, dd, dd, dd, dd, dd, dd, dd, dd, dd, dd, dd, dd, dd, dd, dd, dd, dd, dd, dd, dd, dd, dd, dd, dd, dd, dd, dd, dd, dd, dd, dd, dd, dd, dd, dd, dd, dd, dd, dd, dd, dd, dd, dd, dd, dd, dd, dd, dd, dd, dd, dd, dd, dd, dd, dd, dd, dd, dd, dd, dd, dd, dd, dd, dd, dd, dd, dd, dd, dd, dd, dd, dd, dd, dd, dd, dd, dd, dd, dd, dd, dd, dd, dd, dd, dd, dd, dd, dd, dd, dd, dd, dd, dd, dd, dd, dd, dd, dd, dd, dd, dd, dd, dd, dd, dd, dd, dd, dd, dd, dd, dd, dd, dd, dd, dd, dd, dd, dd, dd, dd, dd, dd, dd, dd, dd, dd, dd, dd, dd, dd, dd, dd, dd, dd, dd, dd, dd, dd, dd, dd, dd, dd, dd, dd, dd, dd, dd, dd, dd, dd, dd, dd, dd, dd, dd, dd, dd, dd, dd, dd, dd, dd, dd, dd, dd, dd, dd, dd, dd, dd, dd, dd, dd, dd, dd, dd, dd, dd, dd, dd, dd, dd, dd, dd, dd, dd, dd, dd, dd, dd, dd, dd, dd, dd, dd, dd, dd, dd, dd, dd, dd, dd, dd, dd, dd, dd, dd, dd, dd, dd, dd, dd, dd, dd, dd, dd, dd, dd, dd, dd, dd, dd, dd, dd, dd, dd, dd, dd, dd, dd, dd, dd, dd, dd, dd, dd, dd, dd, dd, dd, dd, dd, dd, dd, dd, dd, dd, dd, dd], [.box [.d (.v (.int .u8 (v_data3 0))), .d (.v (.int .u8 (v_data3 1))), .d (.v (.int .u8 (v_data3 2))), .d (.v (.int .u8 (v_data3 3))), .d (.v (.int .u8 (v_data3 4))), .d (.v (.int .u8 (v_data3 5))), .d (.v (.int .u8 (v_data3 6))), .d (.v (.int .u8 (v_data3 7))), .d (.v (.int .u8 (v_data3 8))), .d (.v (.int .u8 (v_data3 9))), .d (.v (.int .u8 (v_data3 10))), .d (.v (.int .u8 (v_data3 11))), .d (.v (.int .u8 (v_data3 12))), .d (.v (.int .u8 (v_data3 13))), .d (.v (.int .u8 (v_data3 14))), .d (.v (.int .u8 (v_data3 15)))], .box [.d (.v (.int .u8 (v_r60.1 0))), .d (.v (.int .u8 (v_r60.1 1))), .d (.v (.int .u8 (v_r60.1 2))), .d (.v (.int .u8 (v_r60.1 3))), .d (.v (.int .u8 (v_r60.1 4))), .d (.v (.int .u8 (v_r60.1 5))), .d (.v (.int .u8 (v_r60.1 6))), .d (.v (.int .u8 (v_r60.1 7))), .d (.v (.int .u8 (v_r60.1 8))), .d (.v (.int .u8 (v_r60.1 9))), .d (.v (.int .u8 (v_r60.1 10))), .d (.v (.int .u8 (v_r60.1 11))), .d (.v (.int .u8 (v_r60.1 12))), .d (.v (.int .u8 (v_r60.1 13))), .d (.v (.int .u8 (v_r60.1 14))), .d (.v (.int .u8 (v_r60.1 15)))]]⟩
def G_ringlaw2_SwapTells_C6_hd (v_l1 : (List S_swap_Slot)) (v_many4 : Int) (v_k5 : Int) (v_more6 : Int) (v_r44 : ((List S_swap_Slot) × Int × Int)) (v_r60 : ((Fin 16 → Int) × Int)) (v_r81 : ((List S_swap_Slot) × Bool × Int)) (v_z200 : Int) (v_r214 : (Bool)) (v_data3 : (Fin 16 → Int))  : PS := ⟨[.d (.sl (v_l1.map eS_swap_Slot)), dd, dd, .d (.v (.int .i64 v_many4)), .d (.v (.int .i64 v_k5)), .d (.v (.int .i64 v_more6)), dd, dd, .ref 0 0, dd, dd, dd, dd, dd, dd, .d (.sl (v_r44.1.map eS_swap_Slot)), .d (.v (.int .i64 v_r44.2.1)), .d (.v (.int .i64 v_r44.2.2)), .ref 1 0, .d (.v (.int .i64 v_r60.2)), .d (.sl (v_r81.1.map eS_swap_Slot)), .d (.v (.bool v_r81.2.1)), .d (.v (.int .i64 v_r81.2.2)), dd, dd, dd, dd, .d (.v (.int .i64 v_z200)), dd, dd, dd, dd, .d (.v (.int .i64 0)), dd, dd, dd, dd, dd, dd, dd, dd, dd, dd, dd, dd, dd, dd, dd, dd, dd, dd, dd, dd, dd, dd, dd, dd, dd, dd, dd, dd, dd, dd, dd, dd, dd, dd, dd, dd, dd, dd, dd, dd, dd, dd, dd, dd, dd, dd, dd, dd, dd, dd, dd, dd, dd, dd, dd, dd, dd, dd, dd, dd, dd, dd, dd, dd, dd, dd, dd, dd, dd, dd, dd, dd, dd, dd, dd, dd, dd, dd, dd, dd, dd, dd, dd, dd, dd, dd, dd, dd, dd, dd, dd, dd, dd, dd, dd, dd, dd, dd, dd, dd, dd, dd, dd, dd, dd, dd, dd, dd, dd, dd, dd, dd, dd, dd, dd, dd, dd, dd, dd, dd, dd, dd, dd, dd, dd, dd, dd, dd, dd, dd, dd, dd, dd, dd, dd, dd, dd, dd, dd, dd, dd, dd, dd, dd, dd, dd, dd, dd, .d (.v (.bool (!v_r214))), dd, dd, dd, dd, dd, dd, dd, dd, dd, dd, dd, dd, dd, dd, dd, dd, dd, dd, dd, dd, dd, dd, dd, dd, dd, dd, dd, dd, dd, dd, dd, dd, dd, dd, dd, dd, dd, dd, dd, dd, dd, dd, dd, dd, dd, dd, dd, dd, dd, dd, dd, dd, dd, dd, dd, dd, dd, dd, dd, dd, dd, dd, dd, dd, dd, dd, dd, dd, dd, dd, dd, dd, dd, dd, dd, dd, dd, dd, dd, dd, dd, dd, dd, dd, dd, dd, dd, dd, dd, dd, dd, dd, dd, dd, dd, dd, dd, dd, dd, dd, dd, dd, dd, dd, dd, dd, dd, dd, dd, dd, dd, dd, dd, dd, dd, dd, dd, dd, dd, dd, dd, dd, dd, dd, dd, dd, dd, dd, dd, dd, dd, dd, dd, dd, dd, dd, dd, dd, dd, dd, dd, dd, dd, dd, dd, dd, dd, dd, dd, dd, dd], [.box [.d (.v (.int .u8 (v_data3 0))), .d (.v (.int .u8 (v_data3 1))), .d (.v (.int .u8 (v_data3 2))), .d (.v (.int .u8 (v_data3 3))), .d (.v (.int .u8 (v_data3 4))), .d (.v (.int .u8 (v_data3 5))), .d (.v (.int .u8 (v_data3 6))), .d (.v (.int .u8 (v_data3 7))), .d (.v (.int .u8 (v_data3 8))), .d (.v (.int .u8 (v_data3 9))), .d (.v (.int .u8 (v_data3 10))), .d (.v (.int .u8 (v_data3 11))), .d (.v (.int .u8 (v_data3 12))), .d (.v (.int .u8 (v_data3 13))), .d (.v (.int .u8 (v_data3 14))), .d (.v (.int .u8 (v_data3 15)))], .box [.d (.v (.int .u8 (v_r60.1 0))), .d (.v (.int .u8 (v_r60.1 1))), .d (.v (.int .u8 (v_r60.1 2))), .d (.v (.int .u8 (v_r60.1 3))), .d (.v (.int .u8 (v_r60.1 4))), .d (.v (.int .u8 (v_r60.1 5))), .d (.v (.int .u8 (v_r60.1 6))), .d (.v (.int .u8 (v_r60.1 7))), .d (.v (.int .u8 (v_r60.1 8))), .d (.v (.int .u8 (v_r60.1 9))), .d (.v (.int .u8 (v_r60.1 10))), .d (.v (.int .u8 (v_r60.1 11))), .d (.v (.int .u8 (v_r60.1 12))), .d (.v (.int .u8 (v_r60.1 13))), .d (.v (.int .u8 (v_r60.1 14))), .d (.v (.int .u8 (v_r60.1 15)))]]⟩
def G_ringlaw2_SwapTells_C6 (n : Nat) (v_l1 : (List S_swap_Slot)) (v_many4 : Int) (v_k5 : Int) (v_more6 : Int) (v_r44 : ((List S_swap_Slot) × Int × Int)) (v_r60 : ((Fin 16 → Int) × Int)) (v_r81 : ((List S_swap_Slot) × Bool × Int)) (v_z200 : Int) (v_r214 : (Bool)) (v_data3 : (Fin 16 → Int)) : Option G_ringlaw2_SwapTells_C6_R :=
  if v_r214 = true then
   if v_z200 < 0 then
    some (.x0 6)
   else
    some (.x0 0)
  else
   some (.x0 1)
theorem G_ringlaw2_SwapTells_C6_ok {Fi : Ex → PS → Prop} (hF : KC 333 Fi) (ks : List Fr) (n : Nat) (v_l1 : (List S_swap_Slot)) (v_many4 : Int) (v_k5 : Int) (v_more6 : Int) (v_r44 : ((List S_swap_Slot) × Int × Int)) (v_r60 : ((Fin 16 → Int) × Int)) (v_r81 : ((List S_swap_Slot) × Bool × Int)) (v_z200 : Int) (v_r214 : (Bool)) (v_data3 : (Fin 16 → Int))  (o : G_ringlaw2_SwapTells_C6_R) (h : G_ringlaw2_SwapTells_C6 n v_l1 v_many4 v_k5 v_more6 v_r44 v_r60 v_r81 v_z200 v_r214 v_data3 = some o) (q : RunE Try.prog 333 Fi ks (G_ringlaw2_SwapTells_C6_ex o) (G_ringlaw2_SwapTells_C6_st v_l1 v_many4 v_k5 v_more6 v_r44 v_r60 v_r81 v_z200 v_r214 v_data3 o)) : RunE Try.prog 333 Fi (.s (cR (cB (cL (cR (cR (cR (cR (cR (cR (cR (cR (cR (cR (cR (cR (cR (cR (bodyOf Try.f5)))))))))))))))))) :: ks) .normal (G_ringlaw2_SwapTells_C6_hd v_l1 v_many4 v_k5 v_more6 v_r44 v_r60 v_r81 v_z200 v_r214 v_data3) := by
  unfold G_ringlaw2_SwapTells_C6 at h
  by_cases h254 : v_r214 = true
  · rw [if_pos h254] at h
    by_cases h255 : v_z200 < 0
    · rw [if_pos h255] at h
      cases h
      exact pkk_sound TTok mix hF 5 (hs := [.t false, .t true]) (ts := []) (s := [0, 1]) (l := [0, 3, 4, 5, 8, 15, 16, 17, 18, 19, 20, 21, 22, 27, 32]) (by kernel_rfl) (by kernel_rfl) (.cons (bnf h254) (.cons (dt h255) .nil)) q
    · rw [if_neg h255] at h
      cases h
      exact pkk_sound TTok mix hF 5 (hs := [.t false, .t false]) (ts := []) (s := [0, 1]) (l := [0, 3, 4, 5, 8, 15, 16, 17, 18, 19, 20, 21, 22, 27, 32]) (by kernel_rfl) (by kernel_rfl) (.cons (bnf h254) (.cons (df h255) .nil)) q
  · rw [if_neg h254] at h
    cases h
    exact pkk_sound TTok mix hF 2 (hs := [.t true]) (ts := []) (s := [0, 1]) (l := [0, 3, 4, 5, 8, 15, 16, 17, 18, 19, 20, 21, 22, 27, 32]) (by kernel_rfl) (by kernel_rfl) (.cons (bnt (vf h254)) .nil) q
inductive G_ringlaw2_SwapTells_C7_R where
  | x0 (v_x227 : Bool)
def G_ringlaw2_SwapTells_C7_ex : G_ringlaw2_SwapTells_C7_R → Ex
  | .x0 _ => .normal
def G_ringlaw2_SwapTells_C7_st (v_l1 : (List S_swap_Slot)) (v_many4 : Int) (v_k5 : Int) (v_more6 : Int) (v_r44 : ((List S_swap_Slot) × Int × Int)) (v_r60 : ((Fin 16 → Int) × Int)) (v_r81 : ((List S_swap_Slot) × Bool × Int)) (v_z200 : Int) (v_z219 : Int) (v_data3 : (Fin 16 → Int)) : G_ringlaw2_SwapTells_C7_R → PS
  | .x0 v_x227 => ⟨[.d (.sl (v_l1.map eS_swap_Slot)), dd, dd, dd, .d (.v (.int .i64 v_k5)), .d (.v (.int .i64 v_more6)), dd, dd, dd, dd, dd, dd, dd, dd, dd, dd, dd, dd, .ref 0 0, .d (.v (.int .i64 v_r60.2)), .d (.sl (v_r81.1.map eS_swap_Slot)), .d (.v (.bool v_r81.2.1)), .d (.v (.int .i64 v_r81.2.2)), dd, dd, dd, dd, dd, dd, dd, dd, dd, dd, dd, dd, dd, dd, dd, dd, dd, dd, dd, dd, dd, dd, dd, dd, dd, dd, dd, dd, dd, dd, dd, dd, dd, dd, dd, dd, dd, dd, dd, dd, dd, dd, dd, dd, dd, dd, dd, dd, dd, dd, dd, dd, dd, dd, dd, dd, dd, dd, dd, dd, dd, dd, dd, dd, dd, dd, dd, dd, dd, dd, dd, dd, dd, dd, dd, dd, dd, dd, dd, dd, dd, dd, dd, dd, dd, dd, dd, dd, dd, dd, dd, dd, dd, dd, dd, dd, dd, dd, dd, dd, dd, dd, dd, dd, dd, dd, dd, dd, dd, dd, dd, dd, dd, dd, dd, dd, dd, dd, dd, dd, dd, dd, dd, dd, dd, dd, dd, dd, dd, dd, dd, dd, dd, dd, dd, dd, dd, dd, dd, dd, dd, dd, dd, dd, dd, dd, dd, dd, dd, dd, dd, dd, dd, dd, dd, dd, dd, dd, dd, dd, dd, dd, dd, dd, dd, dd, dd, dd, dd, dd, dd, dd, dd, dd, dd, dd, dd, dd, dd, dd, dd, dd, dd, dd, dd, dd, dd, dd, dd, dd, dd, dd, dd, dd, dd, dd, dd, dd, dd, dd, dd, dd, dd, dd, .d (.v (.bool v_x227)), dd, dd, dd, dd, dd, dd, dd, dd, dd, dd, dd, dd, dd, dd, dd, dd, dd, dd, dd, dd, dd, dd, dd, dd, dd, dd, dd, dd, dd, dd, dd, dd, dd, dd, dd, dd, dd, dd, dd, dd, dd, dd, dd, dd, dd, dd, dd, dd, dd, dd, dd, dd, dd, dd, dd, dd, dd, dd, dd, dd, dd, dd, dd, dd, dd, dd, dd, dd, dd, dd, dd, dd, dd, dd, dd, dd, dd, dd, dd, dd, dd, dd, dd, dd, dd, dd, dd, dd, dd, dd, dd, dd, dd, dd, dd, dd, dd, dd, dd, dd, dd, dd, dd, dd, dd], [.box [.d (.v (.int .u8 (v_r60.1 0))), .d (.v (.int .u8 (v_r60.1 1))), .d (.v (.int .u8 (v_r60.1 2))), .d (.v (.int .u8 (v_r60.1 3))), .d (.v (.int .u8 (v_r60.1 4))), .d (.v (.int .u8 (v_r60.1 5))), .d (.v (.int .u8 (v_r60.1 6))), .d (.v (.int .u8 (v_r60.1 7))), .d (.v (.int .u8 (v_r60.1 8))), .d (.v (.int .u8 (v_r60.1 9))), .d (.v (.int .u8 (v_r60.1 10))), .d (.v (.int .u8 (v_r60.1 11))), .d (.v (.int .u8 (v_r60.1 12))), .d (.v (.int .u8 (v_r60.1 13))), .d (.v (.int .u8 (v_r60.1 14))), .d (.v (.int .u8 (v_r60.1 15)))]]⟩
def G_ringlaw2_SwapTells_C7_hd (v_l1 : (List S_swap_Slot)) (v_many4 : Int) (v_k5 : Int) (v_more6 : Int) (v_r44 : ((List S_swap_Slot) × Int × Int)) (v_r60 : ((Fin 16 → Int) × Int)) (v_r81 : ((List S_swap_Slot) × Bool × Int)) (v_z200 : Int) (v_z219 : Int) (v_data3 : (Fin 16 → Int))  : PS := ⟨[.d (.sl (v_l1.map eS_swap_Slot)), dd, dd, .d (.v (.int .i64 v_many4)), .d (.v (.int .i64 v_k5)), .d (.v (.int .i64 v_more6)), dd, dd, .ref 0 0, dd, dd, dd, dd, dd, dd, .d (.sl (v_r44.1.map eS_swap_Slot)), .d (.v (.int .i64 v_r44.2.1)), .d (.v (.int .i64 v_r44.2.2)), .ref 1 0, .d (.v (.int .i64 v_r60.2)), .d (.sl (v_r81.1.map eS_swap_Slot)), .d (.v (.bool v_r81.2.1)), .d (.v (.int .i64 v_r81.2.2)), dd, dd, dd, dd, .d (.v (.int .i64 v_z200)), dd, dd, dd, dd, .d (.v (.int .i64 v_z219)), dd, dd, dd, dd, dd, dd, dd, dd, dd, dd, dd, dd, dd, dd, dd, dd, dd, dd, dd, dd, dd, dd, dd, dd, dd, dd, dd, dd, dd, dd, dd, dd, dd, dd, dd, dd, dd, dd, dd, dd, dd, dd, dd, dd, dd, dd, dd, dd, dd, dd, dd, dd, dd, dd, dd, dd, dd, dd, dd, dd, dd, dd, dd, dd, dd, dd, dd, dd, dd, dd, dd, dd, dd, dd, dd, dd, dd, dd, dd, dd, dd, dd, dd, dd, dd, dd, dd, dd, dd, dd, dd, dd, dd, dd, dd, dd, dd, dd, dd, dd, dd, dd, dd, dd, dd, dd, dd, dd, dd, dd, dd, dd, dd, dd, dd, dd, dd, dd, dd, dd, dd, dd, dd, dd, dd, dd, dd, dd, dd, dd, dd, dd, dd, dd, dd, dd, dd, dd, dd, dd, dd, dd, dd, dd, dd, dd, dd, dd, dd, dd, dd, dd, dd, dd, dd, dd, dd, dd, dd, dd, dd, dd, dd, dd, dd, dd, dd, dd, dd, dd, dd, dd, dd, dd, dd, dd, dd, dd, dd, dd, dd, dd, dd, dd, dd, dd, dd, dd, dd, dd, dd, dd, dd, dd, dd, dd, dd, dd, dd, dd, dd, dd, dd, dd, dd, dd, dd, dd, dd, dd, dd, dd, dd, dd, dd, dd, dd, dd, dd, dd, dd, dd, dd, dd, dd, dd, dd, dd, dd, dd, dd, dd, dd, dd, dd, dd, dd, dd, dd, dd, dd, dd, dd, dd, dd, dd, dd, dd, dd, dd, dd, dd, dd, dd, dd, dd, dd, dd, dd, dd, dd, dd, dd, dd, dd, dd, dd, dd, dd, dd, dd, dd, dd, dd, dd, dd, dd, dd, dd, dd, dd, dd, dd, dd, dd, dd, dd, dd, dd, dd, dd, dd, dd, dd, dd, dd, dd, dd, dd, dd], [.box [.d (.v (.int .u8 (v_data3 0))), .d (.v (.int .u8 (v_data3 1))), .d (.v (.int .u8 (v_data3 2))), .d (.v (.int .u8 (v_data3 3))), .d (.v (.int .u8 (v_data3 4))), .d (.v (.int .u8 (v_data3 5))), .d (.v (.int .u8 (v_data3 6))), .d (.v (.int .u8 (v_data3 7))), .d (.v (.int .u8 (v_data3 8))), .d (.v (.int .u8 (v_data3 9))), .d (.v (.int .u8 (v_data3 10))), .d (.v (.int .u8 (v_data3 11))), .d (.v (.int .u8 (v_data3 12))), .d (.v (.int .u8 (v_data3 13))), .d (.v (.int .u8 (v_data3 14))), .d (.v (.int .u8 (v_data3 15)))], .box [.d (.v (.int .u8 (v_r60.1 0))), .d (.v (.int .u8 (v_r60.1 1))), .d (.v (.int .u8 (v_r60.1 2))), .d (.v (.int .u8 (v_r60.1 3))), .d (.v (.int .u8 (v_r60.1 4))), .d (.v (.int .u8 (v_r60.1 5))), .d (.v (.int .u8 (v_r60.1 6))), .d (.v (.int .u8 (v_r60.1 7))), .d (.v (.int .u8 (v_r60.1 8))), .d (.v (.int .u8 (v_r60.1 9))), .d (.v (.int .u8 (v_r60.1 10))), .d (.v (.int .u8 (v_r60.1 11))), .d (.v (.int .u8 (v_r60.1 12))), .d (.v (.int .u8 (v_r60.1 13))), .d (.v (.int .u8 (v_r60.1 14))), .d (.v (.int .u8 (v_r60.1 15)))]]⟩
def G_ringlaw2_SwapTells_C7 (n : Nat) (v_l1 : (List S_swap_Slot)) (v_many4 : Int) (v_k5 : Int) (v_more6 : Int) (v_r44 : ((List S_swap_Slot) × Int × Int)) (v_r60 : ((Fin 16 → Int) × Int)) (v_r81 : ((List S_swap_Slot) × Bool × Int)) (v_z200 : Int) (v_z219 : Int) (v_data3 : (Fin 16 → Int)) : Option G_ringlaw2_SwapTells_C7_R :=
  if v_z219 = 0 then
   (G_ringref2_SlotWith n v_l1 v_z200 (S_swap_Slot.mk v_many4 v_data3)).bind fun (v_r231 : ((List S_swap_Slot))) =>
   (G_ringref2_SlotSame n v_r44.1 v_r231).bind fun (v_r232 : (Bool)) =>
   if v_r232 = true then
    if v_r44.2.1 = v_z200 then
     some (.x0 (v_r44.2.2 != 0))
    else
     some (.x0 true)
   else
    some (.x0 true)
  else
   if (v_r44.1.length : Int) > 0 then
    some (.x0 true)
   else
    if v_r44.2.1 = 0 then
     if v_r44.2.2 = v_z219 then
      some (.x0 false)
     else
      some (.x0 true)
    else
     some (.x0 true)
theorem G_ringlaw2_SwapTells_C7_ok {Fi : Ex → PS → Prop} (hF : KC 333 Fi) (ks : List Fr) (n : Nat) (v_l1 : (List S_swap_Slot)) (v_many4 : Int) (v_k5 : Int) (v_more6 : Int) (v_r44 : ((List S_swap_Slot) × Int × Int)) (v_r60 : ((Fin 16 → Int) × Int)) (v_r81 : ((List S_swap_Slot) × Bool × Int)) (v_z200 : Int) (v_z219 : Int) (v_data3 : (Fin 16 → Int))  (o : G_ringlaw2_SwapTells_C7_R) (h : G_ringlaw2_SwapTells_C7 n v_l1 v_many4 v_k5 v_more6 v_r44 v_r60 v_r81 v_z200 v_z219 v_data3 = some o) (q : RunE Try.prog 333 Fi ks (G_ringlaw2_SwapTells_C7_ex o) (G_ringlaw2_SwapTells_C7_st v_l1 v_many4 v_k5 v_more6 v_r44 v_r60 v_r81 v_z200 v_z219 v_data3 o)) : RunE Try.prog 333 Fi (.s (cL (cL (cR (cR (cR (cR (cR (cR (cR (cR (cR (cR (cR (cR (cR (cR (cR (bodyOf Try.f5)))))))))))))))))) :: ks) .normal (G_ringlaw2_SwapTells_C7_hd v_l1 v_many4 v_k5 v_more6 v_r44 v_r60 v_r81 v_z200 v_z219 v_data3) := by
  unfold G_ringlaw2_SwapTells_C7 at h
  by_cases h268 : v_z219 = 0
  · rw [if_pos h268] at h
    obtain ⟨v_r231, h272, h⟩ := bind_some h
    obtain ⟨v_r232, h273, h⟩ := bind_some h
    by_cases h274 : v_r232 = true
    · rw [if_pos h274] at h
      by_cases h275 : v_r44.2.1 = v_z200
      · rw [if_pos h275] at h
        cases h
        exact pkk_sound TTok mix hF 1 (hs := [.t false, .c, .c, .c, .c, .c, .c, .c, .c, .c, .t true, .c, .c, .c, .c, .c, .c, .c, .r ((eL eS_swap_Slot) v_r231), .c, .r (eB v_r232), .c, .c, .t false, .c, .c, .c, .c, .t false, .c, .c, .c]) (ts := []) (s := [1]) (l := [0, 4, 5, 18, 19, 20, 21, 22, 227]) (by kernel_rfl) (by kernel_rfl) (.cons (nf h268) (.cons (bt h268) (.cons (G_ringref2_SlotWith_ok n v_l1 v_z200 (S_swap_Slot.mk v_many4 v_data3) _ h272) (.cons (G_ringref2_SlotSame_ok n v_r44.1 v_r231 _ h273) (.cons (bnf h274) (.cons (nf h275) .nil)))))) q
      · rw [if_neg h275] at h
        cases h
        exact pkk_sound TTok mix hF 1 (hs := [.t false, .c, .c, .c, .c, .c, .c, .c, .c, .c, .t true, .c, .c, .c, .c, .c, .c, .c, .r ((eL eS_swap_Slot) v_r231), .c, .r (eB v_r232), .c, .c, .t false, .c, .c, .c, .c, .t true, .c, .c, .c]) (ts := []) (s := [1]) (l := [0, 4, 5, 18, 19, 20, 21, 22, 227]) (by kernel_rfl) (by kernel_rfl) (.cons (nf h268) (.cons (bt h268) (.cons (G_ringref2_SlotWith_ok n v_l1 v_z200 (S_swap_Slot.mk v_many4 v_data3) _ h272) (.cons (G_ringref2_SlotSame_ok n v_r44.1 v_r231 _ h273) (.cons (bnf h274) (.cons (nt h275) .nil)))))) q
    · rw [if_neg h274] at h
      cases h
      exact pkk_sound TTok mix hF 1 (hs := [.t false, .c, .c, .c, .c, .c, .c, .c, .c, .c, .t true, .c, .c, .c, .c, .c, .c, .c, .r ((eL eS_swap_Slot) v_r231), .c, .r (eB v_r232), .c, .c, .t true, .c, .c, .c, .c, .c, .c, .c, .c]) (ts := []) (s := [1]) (l := [0, 4, 5, 18, 19, 20, 21, 22, 227]) (by kernel_rfl) (by kernel_rfl) (.cons (nf h268) (.cons (bt h268) (.cons (G_ringref2_SlotWith_ok n v_l1 v_z200 (S_swap_Slot.mk v_many4 v_data3) _ h272) (.cons (G_ringref2_SlotSame_ok n v_r44.1 v_r231 _ h273) (.cons (bnt (vf h274)) .nil))))) q
  · rw [if_neg h268] at h
    by_cases h269 : (v_r44.1.length : Int) > 0
    · rw [if_pos h269] at h
      cases h
      exact pkk_sound TTok mix hF 1 (hs := [.t true, .c, .u (.d (.v (.int .i64 (v_r44.1.length : Int)))), .c, .c, .t true, .c, .c, .c, .c, .c, .c, .c, .c, .c, .c, .c]) (ts := []) (s := [1]) (l := [0, 4, 5, 18, 19, 20, 21, 22, 227]) (by kernel_rfl) (by kernel_rfl) (.cons (nt h268) (.cons (len_ob (f := eS_swap_Slot) (l := v_r44.1)) (.cons (dt h269) .nil))) q
    · rw [if_neg h269] at h
      by_cases h270 : v_r44.2.1 = 0
      · rw [if_pos h270] at h
        by_cases h271 : v_r44.2.2 = v_z219
        · rw [if_pos h271] at h
          cases h
          exact pkk_sound TTok mix hF 1 (hs := [.t true, .c, .u (.d (.v (.int .i64 (v_r44.1.length : Int)))), .c, .c, .t false, .c, .c, .c, .t false, .c, .c, .c, .t false, .c, .c, .t false, .c, .c, .c, .c, .c, .c, .c, .c, .c, .c, .c, .c, .c]) (ts := []) (s := [1]) (l := [0, 4, 5, 18, 19, 20, 21, 22, 227]) (by kernel_rfl) (by kernel_rfl) (.cons (nt h268) (.cons (len_ob (f := eS_swap_Slot) (l := v_r44.1)) (.cons (df h269) (.cons (nf h270) (.cons (nf h271) (.cons (bf h268) .nil)))))) q
        · rw [if_neg h271] at h
          cases h
          exact pkk_sound TTok mix hF 1 (hs := [.t true, .c, .u (.d (.v (.int .i64 (v_r44.1.length : Int)))), .c, .c, .t false, .c, .c, .c, .t false, .c, .c, .c, .t true, .c, .c, .c]) (ts := []) (s := [1]) (l := [0, 4, 5, 18, 19, 20, 21, 22, 227]) (by kernel_rfl) (by kernel_rfl) (.cons (nt h268) (.cons (len_ob (f := eS_swap_Slot) (l := v_r44.1)) (.cons (df h269) (.cons (nf h270) (.cons (nt h271) .nil))))) q
      · rw [if_neg h270] at h
        cases h
        exact pkk_sound TTok mix hF 1 (hs := [.t true, .c, .u (.d (.v (.int .i64 (v_r44.1.length : Int)))), .c, .c, .t false, .c, .c, .c, .t true, .c, .c, .c, .c, .c, .c, .c]) (ts := []) (s := [1]) (l := [0, 4, 5, 18, 19, 20, 21, 22, 227]) (by kernel_rfl) (by kernel_rfl) (.cons (nt h268) (.cons (len_ob (f := eS_swap_Slot) (l := v_r44.1)) (.cons (df h269) (.cons (nt h270) .nil)))) q
inductive G_ringlaw2_SwapTells_C8_R where
  | x0 (v_x241 : Bool)
def G_ringlaw2_SwapTells_C8_ex : G_ringlaw2_SwapTells_C8_R → Ex
  | .x0 _ => .normal
def G_ringlaw2_SwapTells_C8_st (v_l1 : (List S_swap_Slot)) (v_k5 : Int) (v_more6 : Int) (v_r60 : ((Fin 16 → Int) × Int)) (v_r81 : ((List S_swap_Slot) × Bool × Int)) : G_ringlaw2_SwapTells_C8_R → PS
  | .x0 v_x241 => ⟨[.d (.sl (v_l1.map eS_swap_Slot)), dd, dd, dd, .d (.v (.int .i64 v_k5)), .d (.v (.int .i64 v_more6)), dd, dd, dd, dd, dd, dd, dd, dd, dd, dd, dd, dd, .ref 0 0, .d (.v (.int .i64 v_r60.2)), .d (.sl (v_r81.1.map eS_swap_Slot)), .d (.v (.bool v_r81.2.1)), .d (.v (.int .i64 v_r81.2.2)), dd, dd, dd, dd, dd, dd, dd, dd, dd, dd, dd, dd, dd, dd, dd, dd, dd, dd, dd, dd, dd, dd, dd, dd, dd, dd, dd, dd, dd, dd, dd, dd, dd, dd, dd, dd, dd, dd, dd, dd, dd, dd, dd, dd, dd, dd, dd, dd, dd, dd, dd, dd, dd, dd, dd, dd, dd, dd, dd, dd, dd, dd, dd, dd, dd, dd, dd, dd, dd, dd, dd, dd, dd, dd, dd, dd, dd, dd, dd, dd, dd, dd, dd, dd, dd, dd, dd, dd, dd, dd, dd, dd, dd, dd, dd, dd, dd, dd, dd, dd, dd, dd, dd, dd, dd, dd, dd, dd, dd, dd, dd, dd, dd, dd, dd, dd, dd, dd, dd, dd, dd, dd, dd, dd, dd, dd, dd, dd, dd, dd, dd, dd, dd, dd, dd, dd, dd, dd, dd, dd, dd, dd, dd, dd, dd, dd, dd, dd, dd, dd, dd, dd, dd, dd, dd, dd, dd, dd, dd, dd, dd, dd, dd, dd, dd, dd, dd, dd, dd, dd, dd, dd, dd, dd, dd, dd, dd, dd, dd, dd, dd, dd, dd, dd, dd, dd, dd, dd, dd, dd, dd, dd, dd, dd, dd, dd, dd, dd, dd, dd, dd, dd, dd, dd, dd, dd, dd, dd, dd, dd, dd, dd, dd, dd, dd, dd, dd, dd, .d (.v (.bool v_x241)), dd, dd, dd, dd, dd, dd, dd, dd, dd, dd, dd, dd, dd, dd, dd, dd, dd, dd, dd, dd, dd, dd, dd, dd, dd, dd, dd, dd, dd, dd, dd, dd, dd, dd, dd, dd, dd, dd, dd, dd, dd, dd, dd, dd, dd, dd, dd, dd, dd, dd, dd, dd, dd, dd, dd, dd, dd, dd, dd, dd, dd, dd, dd, dd, dd, dd, dd, dd, dd, dd, dd, dd, dd, dd, dd, dd, dd, dd, dd, dd, dd, dd, dd, dd, dd, dd, dd, dd, dd, dd, dd], [.box [.d (.v (.int .u8 (v_r60.1 0))), .d (.v (.int .u8 (v_r60.1 1))), .d (.v (.int .u8 (v_r60.1 2))), .d (.v (.int .u8 (v_r60.1 3))), .d (.v (.int .u8 (v_r60.1 4))), .d (.v (.int .u8 (v_r60.1 5))), .d (.v (.int .u8 (v_r60.1 6))), .d (.v (.int .u8 (v_r60.1 7))), .d (.v (.int .u8 (v_r60.1 8))), .d (.v (.int .u8 (v_r60.1 9))), .d (.v (.int .u8 (v_r60.1 10))), .d (.v (.int .u8 (v_r60.1 11))), .d (.v (.int .u8 (v_r60.1 12))), .d (.v (.int .u8 (v_r60.1 13))), .d (.v (.int .u8 (v_r60.1 14))), .d (.v (.int .u8 (v_r60.1 15)))]]⟩
def G_ringlaw2_SwapTells_C8_hd (v_l1 : (List S_swap_Slot)) (v_k5 : Int) (v_more6 : Int) (v_r60 : ((Fin 16 → Int) × Int)) (v_r81 : ((List S_swap_Slot) × Bool × Int))  : PS := ⟨[.d (.sl (v_l1.map eS_swap_Slot)), dd, dd, dd, .d (.v (.int .i64 v_k5)), .d (.v (.int .i64 v_more6)), dd, dd, dd, dd, dd, dd, dd, dd, dd, dd, dd, dd, .ref 0 0, .d (.v (.int .i64 v_r60.2)), .d (.sl (v_r81.1.map eS_swap_Slot)), .d (.v (.bool v_r81.2.1)), .d (.v (.int .i64 v_r81.2.2)), dd, dd, dd, dd, dd, dd, dd, dd, dd, dd, dd, dd, dd, dd, dd, dd, dd, dd, dd, dd, dd, dd, dd, dd, dd, dd, dd, dd, dd, dd, dd, dd, dd, dd, dd, dd, dd, dd, dd, dd, dd, dd, dd, dd, dd, dd, dd, dd, dd, dd, dd, dd, dd, dd, dd, dd, dd, dd, dd, dd, dd, dd, dd, dd, dd, dd, dd, dd, dd, dd, dd, dd, dd, dd, dd, dd, dd, dd, dd, dd, dd, dd, dd, dd, dd, dd, dd, dd, dd, dd, dd, dd, dd, dd, dd, dd, dd, dd, dd, dd, dd, dd, dd, dd, dd, dd, dd, dd, dd, dd, dd, dd, dd, dd, dd, dd, dd, dd, dd, dd, dd, dd, dd, dd, dd, dd, dd, dd, dd, dd, dd, dd, dd, dd, dd, dd, dd, dd, dd, dd, dd, dd, dd, dd, dd, dd, dd, dd, dd, dd, dd, dd, dd, dd, dd, dd, dd, dd, dd, dd, dd, dd, dd, dd, dd, dd, dd, dd, dd, dd, dd, dd, dd, dd, dd, dd, dd, dd, dd, dd, dd, dd, dd, dd, dd, dd, dd, dd, dd, dd, dd, dd, dd, dd, dd, dd, dd, dd, dd, dd, dd, dd, dd, dd, dd, dd, dd, dd, dd, dd, dd, dd, dd, dd, dd, dd, dd, dd, dd, dd, dd, dd, dd, dd, dd, dd, dd, dd, dd, dd, dd, dd, dd, dd, dd, dd, dd, dd, dd, dd, dd, dd, dd, dd, dd, dd, dd, dd, dd, dd, dd, dd, dd, dd, dd, dd, dd, dd, dd, dd, dd, dd, dd, dd, dd, dd, dd, dd, dd, dd, dd, dd, dd, dd, dd, dd, dd, dd, dd, dd, dd, dd, dd, dd, dd, dd, dd, dd, dd, dd, dd, dd, dd, dd, dd, dd, dd, dd, dd, dd, dd, dd, dd, dd, dd, dd, dd, dd, dd, dd], [.box [.d (.v (.int .u8 (v_r60.1 0))), .d (.v (.int .u8 (v_r60.1 1))), .d (.v (.int .u8 (v_r60.1 2))), .d (.v (.int .u8 (v_r60.1 3))), .d (.v (.int .u8 (v_r60.1 4))), .d (.v (.int .u8 (v_r60.1 5))), .d (.v (.int .u8 (v_r60.1 6))), .d (.v (.int .u8 (v_r60.1 7))), .d (.v (.int .u8 (v_r60.1 8))), .d (.v (.int .u8 (v_r60.1 9))), .d (.v (.int .u8 (v_r60.1 10))), .d (.v (.int .u8 (v_r60.1 11))), .d (.v (.int .u8 (v_r60.1 12))), .d (.v (.int .u8 (v_r60.1 13))), .d (.v (.int .u8 (v_r60.1 14))), .d (.v (.int .u8 (v_r60.1 15)))]]⟩
def G_ringlaw2_SwapTells_C8 (n : Nat) (v_l1 : (List S_swap_Slot)) (v_k5 : Int) (v_more6 : Int) (v_r60 : ((Fin 16 → Int) × Int)) (v_r81 : ((List S_swap_Slot) × Bool × Int)) : Option G_ringlaw2_SwapTells_C8_R :=
  (G_ringref2_In n v_k5 0 (wi .i64 ((v_l1.length : Int) - 1))).bind fun (v_r240 : (Bool)) =>
  if v_r240 = true then
   (getI v_l1 v_k5).bind fun (v_y242 : S_swap_Slot) =>
   some (.x0 (v_y242.fMany == 0))
  else
   some (.x0 true)
theorem G_ringlaw2_SwapTells_C8_ok {Fi : Ex → PS → Prop} (hF : KC 333 Fi) (ks : List Fr) (n : Nat) (v_l1 : (List S_swap_Slot)) (v_k5 : Int) (v_more6 : Int) (v_r60 : ((Fin 16 → Int) × Int)) (v_r81 : ((List S_swap_Slot) × Bool × Int))  (o : G_ringlaw2_SwapTells_C8_R) (h : G_ringlaw2_SwapTells_C8 n v_l1 v_k5 v_more6 v_r60 v_r81 = some o) (q : RunE Try.prog 333 Fi ks (G_ringlaw2_SwapTells_C8_ex o) (G_ringlaw2_SwapTells_C8_st v_l1 v_k5 v_more6 v_r60 v_r81 o)) : RunE Try.prog 333 Fi (.s (cL (cL (cR (cR (cR (cR (cR (cR (cR (cR (cR (cR (cR (cR (cR (cR (cR (cR (bodyOf Try.f5))))))))))))))))))) :: ks) .normal (G_ringlaw2_SwapTells_C8_hd v_l1 v_k5 v_more6 v_r60 v_r81) := by
  unfold G_ringlaw2_SwapTells_C8 at h
  obtain ⟨v_r240, h281, h⟩ := bind_some h
  by_cases h282 : v_r240 = true
  · rw [if_pos h282] at h
    obtain ⟨v_y242, h283, h⟩ := bind_some h
    cases h
    exact pkk_sound TTok mix hF 1 (hs := [.u (.d (.v (.int .i64 (v_l1.length : Int)))), .r (eB v_r240), .t false, .c, .c, .y (eS_swap_Slot v_y242), .c, .c, .c, .c]) (ts := []) (s := [0]) (l := [0, 4, 5, 18, 19, 20, 21, 22, 241]) (by kernel_rfl) (by kernel_rfl) (.cons (len_ob (f := eS_swap_Slot) (l := v_l1)) (.cons (G_ringref2_In_ok n v_k5 0 (wi .i64 ((v_l1.length : Int) - 1)) _ h281) (.cons (bnf h282) (.cons (getI_ob (f := eS_swap_Slot) h283) .nil)))) q
  · rw [if_neg h282] at h
    cases h
    exact pkk_sound TTok mix hF 1 (hs := [.u (.d (.v (.int .i64 (v_l1.length : Int)))), .r (eB v_r240), .t true, .c, .c, .c, .c, .c]) (ts := []) (s := [0]) (l := [0, 4, 5, 18, 19, 20, 21, 22, 241]) (by kernel_rfl) (by kernel_rfl) (.cons (len_ob (f := eS_swap_Slot) (l := v_l1)) (.cons (G_ringref2_In_ok n v_k5 0 (wi .i64 ((v_l1.length : Int) - 1)) _ h281) (.cons (bnt (vf h282)) .nil))) q
inductive G_ringlaw2_SwapTells_C9_R where
  | x0 (v_x253 : Bool)
def G_ringlaw2_SwapTells_C9_ex : G_ringlaw2_SwapTells_C9_R → Ex
  | .x0 _ => .normal
def G_ringlaw2_SwapTells_C9_st (v_r60 : ((Fin 16 → Int) × Int)) (v_r81 : ((List S_swap_Slot) × Bool × Int)) : G_ringlaw2_SwapTells_C9_R → PS
  | .x0 v_x253 => ⟨[dd, dd, dd, dd, dd, dd, dd, dd, dd, dd, dd, dd, .d (.v (.bool v_x253)), dd, dd, dd, dd, dd, dd, dd, dd, dd, dd, dd, dd, dd, dd, dd, dd, dd, dd, dd, dd, dd, dd, dd, dd, dd, dd, dd, dd, dd, dd, dd, dd, dd, dd, dd, dd, dd, dd, dd, dd, dd, dd, dd, dd, dd, dd, dd, dd, dd, dd, dd, dd, dd, dd, dd, dd, dd, dd, dd, dd, dd, dd, dd, dd, dd, dd, dd, dd, dd, dd, dd, dd, dd, dd, dd, dd, dd, dd, dd, dd, dd, dd, dd, dd, dd, dd, dd, dd, dd, dd, dd, dd, dd, dd, dd, dd, dd, dd, dd, dd, dd, dd, dd, dd, dd, dd, dd, dd, dd, dd, dd, dd, dd, dd, dd, dd, dd, dd, dd, dd, dd, dd, dd, dd, dd, dd, dd, dd, dd, dd, dd, dd, dd, dd, dd, dd, dd, dd, dd, dd, dd, dd, dd, dd, dd, dd, dd, dd, dd, dd, dd, dd, dd, dd, dd, dd, dd, dd, dd, dd, dd, dd, dd, dd, dd, dd, dd, dd, dd, dd, dd, dd, dd, dd, dd, dd, dd, dd, dd, dd, dd, dd, dd, dd, dd, dd, dd, dd, dd, dd, dd, dd, dd, dd, dd, dd, dd, dd, dd, dd, dd, dd, dd, dd, dd, dd, dd, dd, dd, dd, dd, dd, dd, dd, dd, dd, dd, dd, dd, dd, dd, dd, dd, dd, dd, dd, dd, dd, dd, dd, dd, dd, dd, dd, dd, dd, dd, dd, dd, dd, dd, dd, dd, dd, dd, dd, dd, dd, dd, dd, dd, dd, dd, dd, dd, dd, dd, dd, dd, dd, dd, dd, dd, dd, dd, dd, dd, dd, dd, dd, dd, dd, dd, dd, dd, dd, dd, dd, dd, dd, dd, dd, dd, dd, dd, dd, dd, dd, dd, dd, dd, dd, dd, dd, dd, dd, dd, dd, dd, dd, dd, dd, dd, dd, dd, dd, dd, dd, dd, dd, dd, dd, dd, dd, dd, dd, dd, dd, dd, dd], []⟩
def G_ringlaw2_SwapTells_C9_hd (v_r60 : ((Fin 16 → Int) × Int)) (v_r81 : ((List S_swap_Slot) × Bool × Int))  : PS := ⟨[dd, dd, dd, dd, dd, dd, dd, dd, dd, dd, dd, dd, dd, dd, dd, dd, dd, dd, .ref 0 0, .d (.v (.int .i64 v_r60.2)), .d (.sl (v_r81.1.map eS_swap_Slot)), .d (.v (.bool v_r81.2.1)), .d (.v (.int .i64 v_r81.2.2)), dd, dd, dd, dd, dd, dd, dd, dd, dd, dd, dd, dd, dd, dd, dd, dd, dd, dd, dd, dd, dd, dd, dd, dd, dd, dd, dd, dd, dd, dd, dd, dd, dd, dd, dd, dd, dd, dd, dd, dd, dd, dd, dd, dd, dd, dd, dd, dd, dd, dd, dd, dd, dd, dd, dd, dd, dd, dd, dd, dd, dd, dd, dd, dd, dd, dd, dd, dd, dd, dd, dd, dd, dd, dd, dd, dd, dd, dd, dd, dd, dd, dd, dd, dd, dd, dd, dd, dd, dd, dd, dd, dd, dd, dd, dd, dd, dd, dd, dd, dd, dd, dd, dd, dd, dd, dd, dd, dd, dd, dd, dd, dd, dd, dd, dd, dd, dd, dd, dd, dd, dd, dd, dd, dd, dd, dd, dd, dd, dd, dd, dd, dd, dd, dd, dd, dd, dd, dd, dd, dd, dd, dd, dd, dd, dd, dd, dd, dd, dd, dd, dd, dd, dd, dd, dd, dd, dd, dd, dd, dd, dd, dd, dd, dd, dd, dd, dd, dd, dd, dd, dd, dd, dd, dd, dd, dd, dd, dd, dd, dd, dd, dd, dd, dd, dd, dd, dd, dd, dd, dd, dd, dd, dd, dd, dd, dd, dd, dd, dd, dd, dd, dd, dd, dd, dd, dd, dd, dd, dd, dd, dd, dd, dd, dd, dd, dd, dd, dd, dd, dd, dd, dd, dd, dd, dd, dd, dd, dd, dd, dd, dd, dd, dd, dd, dd, dd, dd, dd, dd, dd, dd, dd, dd, dd, dd, dd, dd, dd, dd, dd, dd, dd, dd, dd, dd, dd, dd, dd, dd, dd, dd, dd, dd, dd, dd, dd, dd, dd, dd, dd, dd, dd, dd, dd, dd, dd, dd, dd, dd, dd, dd, dd, dd, dd, dd, dd, dd, dd, dd, dd, dd, dd, dd, dd, dd, dd, dd, dd, dd, dd, dd, dd, dd, dd, dd, dd, dd, dd, dd, dd], [.box [.d (.v (.int .u8 (v_r60.1 0))), .d (.v (.int .u8 (v_r60.1 1))), .d (.v (.int .u8 (v_r60.1 2))), .d (.v (.int .u8 (v_r60.1 3))), .d (.v (.int .u8 (v_r60.1 4))), .d (.v (.int .u8 (v_r60.1 5))), .d (.v (.int .u8 (v_r60.1 6))), .d (.v (.int .u8 (v_r60.1 7))), .d (.v (.int .u8 (v_r60.1 8))), .d (.v (.int .u8 (v_r60.1 9))), .d (.v (.int .u8 (v_r60.1 10))), .d (.v (.int .u8 (v_r60.1 11))), .d (.v (.int .u8 (v_r60.1 12))), .d (.v (.int .u8 (v_r60.1 13))), .d (.v (.int .u8 (v_r60.1 14))), .d (.v (.int .u8 (v_r60.1 15)))]]⟩
def G_ringlaw2_SwapTells_C9 (n : Nat) (v_r60 : ((Fin 16 → Int) × Int)) (v_r81 : ((List S_swap_Slot) × Bool × Int)) : Option G_ringlaw2_SwapTells_C9_R :=
  if (eqRes .eql (eqA_16_uint8 v_r60.1 (fun i : Fin 16 => [0, 0, 0, 0, 0, 0, 0, 0, 0, 0, 0, 0, 0, 0, 0, 0].get i))) = true then
   if v_r60.2 = 4 then
    if (v_r81.1.length : Int) = 0 then
     if v_r81.2.1 = true then
      some (.x0 false)
     else
      some (.x0 (v_r81.2.2 == 4))
    else
     some (.x0 false)
   else
    some (.x0 false)
  else
   some (.x0 false)
theorem G_ringlaw2_SwapTells_C9_ok {Fi : Ex → PS → Prop} (hF : KC 333 Fi) (ks : List Fr) (n : Nat) (v_r60 : ((Fin 16 → Int) × Int)) (v_r81 : ((List S_swap_Slot) × Bool × Int))  (o : G_ringlaw2_SwapTells_C9_R) (h : G_ringlaw2_SwapTells_C9 n v_r60 v_r81 = some o) (q : RunE Try.prog 333 Fi ks (G_ringlaw2_SwapTells_C9_ex o) (G_ringlaw2_SwapTells_C9_st v_r60 v_r81 o)) : RunE Try.prog 333 Fi (.s (cL (cT (cR (cL (cR (cR (cR (cR (cR (cR (cR (cR (cR (cR (cR (cR (cR (cR (cR (cR (bodyOf Try.f5))))))))))))))))))))) :: ks) .normal (G_ringlaw2_SwapTells_C9_hd v_r60 v_r81) := by
  unfold G_ringlaw2_SwapTells_C9 at h
  by_cases h300 : (eqRes .eql (eqA_16_uint8 v_r60.1 (fun i : Fin 16 => [0, 0, 0, 0, 0, 0, 0, 0, 0, 0, 0, 0, 0, 0, 0, 0].get i))) = true
  · rw [if_pos h300] at h
    by_cases h301 : v_r60.2 = 4
    · rw [if_pos h301] at h
      by_cases h302 : (v_r81.1.length : Int) = 0
      · rw [if_pos h302] at h
        by_cases h303 : v_r81.2.1 = true
        · rw [if_pos h303] at h
          cases h
          exact pkk_sound TTok mix hF 1 (hs := [.c, .q (eqA_16_uint8 v_r60.1 (fun i : Fin 16 => [0, 0, 0, 0, 0, 0, 0, 0, 0, 0, 0, 0, 0, 0, 0, 0].get i)), .t true, .c, .t true, .c, .u (.d (.v (.int .i64 (v_r81.1.length : Int)))), .c, .t true, .c, .t false, .c]) (ts := []) (s := []) (l := [12]) (by kernel_rfl) (by kernel_rfl) (.cons (eqA_16_uint8_ok v_r60.1 (fun i : Fin 16 => [0, 0, 0, 0, 0, 0, 0, 0, 0, 0, 0, 0, 0, 0, 0, 0].get i)) (.cons h300 (.cons (bt h301) (.cons (len_ob (f := eS_swap_Slot) (l := v_r81.1)) (.cons (bt h302) (.cons (bnf h303) .nil)))))) q
        · rw [if_neg h303] at h
          cases h
          exact pkk_sound TTok mix hF 1 (hs := [.c, .q (eqA_16_uint8 v_r60.1 (fun i : Fin 16 => [0, 0, 0, 0, 0, 0, 0, 0, 0, 0, 0, 0, 0, 0, 0, 0].get i)), .t true, .c, .t true, .c, .u (.d (.v (.int .i64 (v_r81.1.length : Int)))), .c, .t true, .c, .t true, .c]) (ts := []) (s := []) (l := [12]) (by kernel_rfl) (by kernel_rfl) (.cons (eqA_16_uint8_ok v_r60.1 (fun i : Fin 16 => [0, 0, 0, 0, 0, 0, 0, 0, 0, 0, 0, 0, 0, 0, 0, 0].get i)) (.cons h300 (.cons (bt h301) (.cons (len_ob (f := eS_swap_Slot) (l := v_r81.1)) (.cons (bt h302) (.cons (bnt (vf h303)) .nil)))))) q
      · rw [if_neg h302] at h
        cases h
        exact pkk_sound TTok mix hF 1 (hs := [.c, .q (eqA_16_uint8 v_r60.1 (fun i : Fin 16 => [0, 0, 0, 0, 0, 0, 0, 0, 0, 0, 0, 0, 0, 0, 0, 0].get i)), .t true, .c, .t true, .c, .u (.d (.v (.int .i64 (v_r81.1.length : Int)))), .c, .t false, .c, .c, .c]) (ts := []) (s := []) (l := [12]) (by kernel_rfl) (by kernel_rfl) (.cons (eqA_16_uint8_ok v_r60.1 (fun i : Fin 16 => [0, 0, 0, 0, 0, 0, 0, 0, 0, 0, 0, 0, 0, 0, 0, 0].get i)) (.cons h300 (.cons (bt h301) (.cons (len_ob (f := eS_swap_Slot) (l := v_r81.1)) (.cons (bf h302) .nil))))) q
    · rw [if_neg h301] at h
      cases h
      exact pkk_sound TTok mix hF 1 (hs := [.c, .q (eqA_16_uint8 v_r60.1 (fun i : Fin 16 => [0, 0, 0, 0, 0, 0, 0, 0, 0, 0, 0, 0, 0, 0, 0, 0].get i)), .t true, .c, .t false, .c, .c, .c, .c, .c, .c]) (ts := []) (s := []) (l := [12]) (by kernel_rfl) (by kernel_rfl) (.cons (eqA_16_uint8_ok v_r60.1 (fun i : Fin 16 => [0, 0, 0, 0, 0, 0, 0, 0, 0, 0, 0, 0, 0, 0, 0, 0].get i)) (.cons h300 (.cons (bf h301) .nil))) q
  · rw [if_neg h300] at h
    cases h
    exact pkk_sound TTok mix hF 1 (hs := [.c, .q (eqA_16_uint8 v_r60.1 (fun i : Fin 16 => [0, 0, 0, 0, 0, 0, 0, 0, 0, 0, 0, 0, 0, 0, 0, 0].get i)), .t false, .c, .c, .c, .c, .c, .c, .c, .c]) (ts := []) (s := []) (l := [12]) (by kernel_rfl) (by kernel_rfl) (.cons (eqA_16_uint8_ok v_r60.1 (fun i : Fin 16 => [0, 0, 0, 0, 0, 0, 0, 0, 0, 0, 0, 0, 0, 0, 0, 0].get i)) (.cons (vf h300) .nil)) q
inductive G_ringlaw2_SwapTells_C10_R where
  | x0 (v_x269 : Bool)
def G_ringlaw2_SwapTells_C10_ex : G_ringlaw2_SwapTells_C10_R → Ex
  | .x0 _ => .normal
def G_ringlaw2_SwapTells_C10_st (v_r81 : ((List S_swap_Slot) × Bool × Int)) : G_ringlaw2_SwapTells_C10_R → PS
  | .x0 v_x269 => ⟨[dd, dd, dd, dd, dd, dd, dd, dd, dd, dd, dd, dd, .d (.v (.bool v_x269)), dd, dd, dd, dd, dd, dd, dd, dd, dd, dd, dd, dd, dd, dd, dd, dd, dd, dd, dd, dd, dd, dd, dd, dd, dd, dd, dd, dd, dd, dd, dd, dd, dd, dd, dd, dd, dd, dd, dd, dd, dd, dd, dd, dd, dd, dd, dd, dd, dd, dd, dd, dd, dd, dd, dd, dd, dd, dd, dd, dd, dd, dd, dd, dd, dd, dd, dd, dd, dd, dd, dd, dd, dd, dd, dd, dd, dd, dd, dd, dd, dd, dd, dd, dd, dd, dd, dd, dd, dd, dd, dd, dd, dd, dd, dd, dd, dd, dd, dd, dd, dd, dd, dd, dd, dd, dd, dd, dd, dd, dd, dd, dd, dd, dd, dd, dd, dd, dd, dd, dd, dd, dd, dd, dd, dd, dd, dd, dd, dd, dd, dd, dd, dd, dd, dd, dd, dd, dd, dd, dd, dd, dd, dd, dd, dd, dd, dd, dd, dd, dd, dd, dd, dd, dd, dd, dd, dd, dd, dd, dd, dd, dd, dd, dd, dd, dd, dd, dd, dd, dd, dd, dd, dd, dd, dd, dd, dd, dd, dd, dd, dd, dd, dd, dd, dd, dd, dd, dd, dd, dd, dd, dd, dd, dd, dd, dd, dd, dd, dd, dd, dd, dd, dd, dd, dd, dd, dd, dd, dd, dd, dd, dd, dd, dd, dd, dd, dd, dd, dd, dd, dd, dd, dd, dd, dd, dd, dd, dd, dd, dd, dd, dd, dd, dd, dd, dd, dd, dd, dd, dd, dd, dd, dd, dd, dd, dd, dd, dd, dd, dd, dd, dd, dd, dd, dd, dd, dd, dd, dd, dd, dd, dd, dd, dd, dd, dd, dd, dd, dd, dd, dd, dd, dd, dd, dd, dd, dd, dd, dd, dd, dd, dd, dd, dd, dd, dd, dd, dd, dd, dd, dd, dd, dd, dd, dd, dd, dd, dd, dd, dd, dd, dd, dd, dd, dd, dd, dd, dd, dd, dd, dd, dd, dd, dd, dd, dd, dd, dd, dd, dd], []⟩
def G_ringlaw2_SwapTells_C10_hd (v_r81 : ((List S_swap_Slot) × Bool × Int))  : PS := ⟨[dd, dd, dd, dd, dd, dd, dd, dd, dd, dd, dd, dd, dd, dd, dd, dd, dd, dd, dd, dd, .d (.sl (v_r81.1.map eS_swap_Slot)), .d (.v (.bool v_r81.2.1)), .d (.v (.int .i64 v_r81.2.2)), dd, dd, dd, dd, dd, dd, dd, dd, dd, dd, dd, dd, dd, dd, dd, dd, dd, dd, dd, dd, dd, dd, dd, dd, dd, dd, dd, dd, dd, dd, dd, dd, dd, dd, dd, dd, dd, dd, dd, dd, dd, dd, dd, dd, dd, dd, dd, dd, dd, dd, dd, dd, dd, dd, dd, dd, dd, dd, dd, dd, dd, dd, dd, dd, dd, dd, dd, dd, dd, dd, dd, dd, dd, dd, dd, dd, dd, dd, dd, dd, dd, dd, dd, dd, dd, dd, dd, dd, dd, dd, dd, dd, dd, dd, dd, dd, dd, dd, dd, dd, dd, dd, dd, dd, dd, dd, dd, dd, dd, dd, dd, dd, dd, dd, dd, dd, dd, dd, dd, dd, dd, dd, dd, dd, dd, dd, dd, dd, dd, dd, dd, dd, dd, dd, dd, dd, dd, dd, dd, dd, dd, dd, dd, dd, dd, dd, dd, dd, dd, dd, dd, dd, dd, dd, dd, dd, dd, dd, dd, dd, dd, dd, dd, dd, dd, dd, dd, dd, dd, dd, dd, dd, dd, dd, dd, dd, dd, dd, dd, dd, dd, dd, dd, dd, dd, dd, dd, dd, dd, dd, dd, dd, dd, dd, dd, dd, dd, dd, dd, dd, dd, dd, dd, dd, dd, dd, dd, dd, dd, dd, dd, dd, dd, dd, dd, dd, dd, dd, dd, dd, dd, dd, dd, dd, dd, dd, dd, dd, dd, dd, dd, dd, dd, dd, dd, dd, dd, dd, dd, dd, dd, dd, dd, dd, dd, dd, dd, dd, dd, dd, dd, dd, dd, dd, dd, dd, dd, dd, dd, dd, dd, dd, dd, dd, dd, dd, dd, dd, dd, dd, dd, dd, dd, dd, dd, dd, dd, dd, dd, dd, dd, dd, dd, dd, dd, dd, dd, dd, dd, dd, dd, dd, dd, dd, dd, dd, dd, dd, dd, dd, dd, dd, dd, dd, dd, dd, dd, dd, dd, dd], []⟩
def G_ringlaw2_SwapTells_C10 (n : Nat) (v_r81 : ((List S_swap_Slot) × Bool × Int)) : Option G_ringlaw2_SwapTells_C10_R :=
  if (v_r81.1.length : Int) = 0 then
   if v_r81.2.1 = true then
    some (.x0 false)
   else
    some (.x0 (v_r81.2.2 == 1))
  else
   some (.x0 false)
theorem G_ringlaw2_SwapTells_C10_ok {Fi : Ex → PS → Prop} (hF : KC 333 Fi) (ks : List Fr) (n : Nat) (v_r81 : ((List S_swap_Slot) × Bool × Int))  (o : G_ringlaw2_SwapTells_C10_R) (h : G_ringlaw2_SwapTells_C10 n v_r81 = some o) (q : RunE Try.prog 333 Fi ks (G_ringlaw2_SwapTells_C10_ex o) (G_ringlaw2_SwapTells_C10_st v_r81 o)) : RunE Try.prog 333 Fi (.s (cL (cT (cR (cL (cR (cR (cR (cR (cR (cR (cR (cR (cR (cR (cR (cR (cR (cR (cR (cR (cR (cR (bodyOf Try.f5))))))))))))))))))))))) :: ks) .normal (G_ringlaw2_SwapTells_C10_hd v_r81) := by
  unfold G_ringlaw2_SwapTells_C10 at h
  by_cases h320 : (v_r81.1.length : Int) = 0
  · rw [if_pos h320] at h
    by_cases h321 : v_r81.2.1 = true
    · rw [if_pos h321] at h
      cases h
      exact pkk_sound TTok mix hF 1 (hs := [.u (.d (.v (.int .i64 (v_r81.1.length : Int)))), .t true, .c, .t false, .c]) (ts := []) (s := []) (l := [12]) (by kernel_rfl) (by kernel_rfl) (.cons (len_ob (f := eS_swap_Slot) (l := v_r81.1)) (.cons (bt h320) (.cons (bnf h321) .nil))) q
    · rw [if_neg h321] at h
      cases h
      exact pkk_sound TTok mix hF 1 (hs := [.u (.d (.v (.int .i64 (v_r81.1.length : Int)))), .t true, .c, .t true, .c]) (ts := []) (s := []) (l := [12]) (by kernel_rfl) (by kernel_rfl) (.cons (len_ob (f := eS_swap_Slot) (l := v_r81.1)) (.cons (bt h320) (.cons (bnt (vf h321)) .nil))) q
  · rw [if_neg h320] at h
    cases h
    exact pkk_sound TTok mix hF 1 (hs := [.u (.d (.v (.int .i64 (v_r81.1.length : Int)))), .t false, .c, .c, .c]) (ts := []) (s := []) (l := [12]) (by kernel_rfl) (by kernel_rfl) (.cons (len_ob (f := eS_swap_Slot) (l := v_r81.1)) (.cons (bf h320) .nil)) q
inductive G_ringlaw2_SwapTells_C11_R where
  | x0 (v_x280 : Bool)
def G_ringlaw2_SwapTells_C11_ex : G_ringlaw2_SwapTells_C11_R → Ex
  | .x0 _ => .normal
def G_ringlaw2_SwapTells_C11_st (v_l1 : (List S_swap_Slot)) (v_k5 : Int) (v_r81 : ((List S_swap_Slot) × Bool × Int)) : G_ringlaw2_SwapTells_C11_R → PS
  | .x0 v_x280 => ⟨[dd, dd, dd, dd, dd, dd, dd, dd, dd, dd, dd, dd, .d (.v (.bool v_x280)), dd, dd, dd, dd, dd, dd, dd, dd, dd, dd, dd, dd, dd, dd, dd, dd, dd, dd, dd, dd, dd, dd, dd, dd, dd, dd, dd, dd, dd, dd, dd, dd, dd, dd, dd, dd, dd, dd, dd, dd, dd, dd, dd, dd, dd, dd, dd, dd, dd, dd, dd, dd, dd, dd, dd, dd, dd, dd, dd, dd, dd, dd, dd, dd, dd, dd, dd, dd, dd, dd, dd, dd, dd, dd, dd, dd, dd, dd, dd, dd, dd, dd, dd, dd, dd, dd, dd, dd, dd, dd, dd, dd, dd, dd, dd, dd, dd, dd, dd, dd, dd, dd, dd, dd, dd, dd, dd, dd, dd, dd, dd, dd, dd, dd, dd, dd, dd, dd, dd, dd, dd, dd, dd, dd, dd, dd, dd, dd, dd, dd, dd, dd, dd, dd, dd, dd, dd, dd, dd, dd, dd, dd, dd, dd, dd, dd, dd, dd, dd, dd, dd, dd, dd, dd, dd, dd, dd, dd, dd, dd, dd, dd, dd, dd, dd, dd, dd, dd, dd, dd, dd, dd, dd, dd, dd, dd, dd, dd, dd, dd, dd, dd, dd, dd, dd, dd, dd, dd, dd, dd, dd, dd, dd, dd, dd, dd, dd, dd, dd, dd, dd, dd, dd, dd, dd, dd, dd, dd, dd, dd, dd, dd, dd, dd, dd, dd, dd, dd, dd, dd, dd, dd, dd, dd, dd, dd, dd, dd, dd, dd, dd, dd, dd, dd, dd, dd, dd, dd, dd, dd, dd, dd, dd, dd, dd, dd, dd, dd, dd, dd, dd, dd, dd, dd, dd, dd, dd, dd, dd, dd, dd, dd, dd, dd, dd, dd, dd, dd, dd, dd, dd, dd, dd, dd, dd, dd, dd, dd, dd, dd, dd, dd, dd, dd, dd, dd, dd, dd, dd, dd, dd, dd, dd, dd, dd, dd, dd, dd, dd, dd, dd, dd, dd, dd, dd, dd, dd, dd, dd, dd, dd, dd, dd, dd, dd, dd, dd, dd, dd, dd], []⟩
def G_ringlaw2_SwapTells_C11_hd (v_l1 : (List S_swap_Slot)) (v_k5 : Int) (v_r81 : ((List S_swap_Slot) × Bool × Int))  : PS := ⟨[.d (.sl (v_l1.map eS_swap_Slot)), dd, dd, dd, .d (.v (.int .i64 v_k5)), dd, dd, dd, dd, dd, dd, dd, dd, dd, dd, dd, dd, dd, dd, dd, .d (.sl (v_r81.1.map eS_swap_Slot)), .d (.v (.bool v_r81.2.1)), .d (.v (.int .i64 v_r81.2.2)), dd, dd, dd, dd, dd, dd, dd, dd, dd, dd, .ref 0 0, dd, dd, dd, dd, dd, dd, dd, dd, dd, dd, dd, dd, dd, dd, dd, dd, dd, dd, dd, dd, dd, dd, dd, dd, dd, dd, dd, dd, dd, dd, dd, dd, dd, dd, dd, dd, dd, dd, dd, dd, dd, dd, dd, dd, dd, dd, dd, dd, dd, dd, dd, dd, dd, dd, dd, dd, dd, dd, dd, dd, dd, dd, dd, dd, dd, dd, dd, dd, dd, dd, dd, dd, dd, dd, dd, dd, dd, dd, dd, dd, dd, dd, dd, dd, dd, dd, dd, dd, dd, dd, dd, dd, dd, dd, dd, dd, dd, dd, dd, dd, dd, dd, dd, dd, dd, dd, dd, dd, dd, dd, dd, dd, dd, dd, dd, dd, dd, dd, dd, dd, dd, dd, dd, dd, dd, dd, dd, dd, dd, dd, dd, dd, dd, dd, dd, dd, dd, dd, dd, dd, dd, dd, dd, dd, dd, dd, dd, dd, dd, dd, dd, dd, dd, dd, dd, dd, dd, dd, dd, dd, dd, dd, dd, dd, dd, dd, dd, dd, dd, dd, dd, dd, dd, dd, dd, dd, dd, dd, dd, dd, dd, dd, dd, dd, dd, dd, dd, dd, dd, dd, dd, dd, dd, dd, dd, dd, dd, dd, dd, dd, dd, dd, dd, dd, dd, dd, dd, dd, dd, dd, dd, dd, dd, dd, dd, dd, dd, dd, dd, dd, dd, dd, dd, dd, dd, dd, dd, dd, dd, dd, dd, dd, dd, dd, dd, dd, dd, dd, dd, dd, dd, dd, dd, dd, dd, dd, dd, dd, dd, dd, dd, dd, dd, dd, dd, dd, dd, dd, dd, dd, dd, dd, dd, dd, dd, dd, dd, dd, dd, dd, dd, dd, dd, dd, dd, dd, dd, dd, dd, dd, dd, dd, dd, dd, dd, dd, dd, dd, dd, dd, dd, dd, dd, dd, dd, dd, dd, dd, dd], [.box [.d (.v (.int .i64 0)), .d (.v (.int .u8 0)), .d (.v (.int .u8 0)), .d (.v (.int .u8 0)), .d (.v (.int .u8 0)), .d (.v (.int .u8 0)), .d (.v (.int .u8 0)), .d (.v (.int .u8 0)), .d (.v (.int .u8 0)), .d (.v (.int .u8 0)), .d (.v (.int .u8 0)), .d (.v (.int .u8 0)), .d (.v (.int .u8 0)), .d (.v (.int .u8 0)), .d (.v (.int .u8 0)), .d (.v (.int .u8 0)), .d (.v (.int .u8 0))]]⟩
def G_ringlaw2_SwapTells_C11 (n : Nat) (v_l1 : (List S_swap_Slot)) (v_k5 : Int) (v_r81 : ((List S_swap_Slot) × Bool × Int)) : Option G_ringlaw2_SwapTells_C11_R :=
  (G_ringref2_SlotWith n v_l1 v_k5 (S_swap_Slot.mk 0 (fun i : Fin 16 => [0, 0, 0, 0, 0, 0, 0, 0, 0, 0, 0, 0, 0, 0, 0, 0].get i))).bind fun (v_r278 : ((List S_swap_Slot))) =>
  (G_ringref2_SlotSame n v_r81.1 v_r278).bind fun (v_r279 : (Bool)) =>
  if v_r279 = true then
   if (eqRes .eql (v_r81.2.1 == true)) = true then
    some (.x0 (v_r81.2.2 == 0))
   else
    some (.x0 false)
  else
   some (.x0 false)
theorem G_ringlaw2_SwapTells_C11_ok {Fi : Ex → PS → Prop} (hF : KC 333 Fi) (ks : List Fr) (n : Nat) (v_l1 : (List S_swap_Slot)) (v_k5 : Int) (v_r81 : ((List S_swap_Slot) × Bool × Int))  (o : G_ringlaw2_SwapTells_C11_R) (h : G_ringlaw2_SwapTells_C11 n v_l1 v_k5 v_r81 = some o) (q : RunE Try.prog 333 Fi ks (G_ringlaw2_SwapTells_C11_ex o) (G_ringlaw2_SwapTells_C11_st v_l1 v_k5 v_r81 o)) : RunE Try.prog 333 Fi (.s (cL (cR (cR (cR (cR (cR (cR (cR (cR (cR (cR (cR (cR (cR (cR (cR (cR (cR (cR (cR (cR (cR (bodyOf Try.f5))))))))))))))))))))))) :: ks) .normal (G_ringlaw2_SwapTells_C11_hd v_l1 v_k5 v_r81) := by
  unfold G_ringlaw2_SwapTells_C11 at h
  obtain ⟨v_r278, h330, h⟩ := bind_some h
  obtain ⟨v_r279, h331, h⟩ := bind_some h
  by_cases h332 : v_r279 = true
  · rw [if_pos h332] at h
    by_cases h333 : (eqRes .eql (v_r81.2.1 == true)) = true
    · rw [if_pos h333] at h
      cases h
      exact pkk_sound TTok mix hF 1 (hs := [.c, .r ((eL eS_swap_Slot) v_r278), .r (eB v_r279), .t true, .c, .c, .c, .c, .c, .t true, .c]) (ts := []) (s := []) (l := [12]) (by kernel_rfl) (by kernel_rfl) (.cons (G_ringref2_SlotWith_ok n v_l1 v_k5 (S_swap_Slot.mk 0 (fun i : Fin 16 => [0, 0, 0, 0, 0, 0, 0, 0, 0, 0, 0, 0, 0, 0, 0, 0].get i)) _ h330) (.cons (G_ringref2_SlotSame_ok n v_r81.1 v_r278 _ h331) (.cons h332 (.cons h333 .nil)))) q
    · rw [if_neg h333] at h
      cases h
      exact pkk_sound TTok mix hF 1 (hs := [.c, .r ((eL eS_swap_Slot) v_r278), .r (eB v_r279), .t true, .c, .c, .c, .c, .c, .t false, .c]) (ts := []) (s := []) (l := [12]) (by kernel_rfl) (by kernel_rfl) (.cons (G_ringref2_SlotWith_ok n v_l1 v_k5 (S_swap_Slot.mk 0 (fun i : Fin 16 => [0, 0, 0, 0, 0, 0, 0, 0, 0, 0, 0, 0, 0, 0, 0, 0].get i)) _ h330) (.cons (G_ringref2_SlotSame_ok n v_r81.1 v_r278 _ h331) (.cons h332 (.cons (vf h333) .nil)))) q
  · rw [if_neg h332] at h
    cases h
    exact pkk_sound TTok mix hF 1 (hs := [.c, .r ((eL eS_swap_Slot) v_r278), .r (eB v_r279), .t false, .c, .c, .c, .c, .c, .c]) (ts := []) (s := []) (l := [12]) (by kernel_rfl) (by kernel_rfl) (.cons (G_ringref2_SlotWith_ok n v_l1 v_k5 (S_swap_Slot.mk 0 (fun i : Fin 16 => [0, 0, 0, 0, 0, 0, 0, 0, 0, 0, 0, 0, 0, 0, 0, 0].get i)) _ h330) (.cons (G_ringref2_SlotSame_ok n v_r81.1 v_r278 _ h331) (.cons (vf h332) .nil))) q
inductive G_ringlaw2_SwapTells_C12_R where
  | x0 (v_x289 : Bool)
def G_ringlaw2_SwapTells_C12_ex : G_ringlaw2_SwapTells_C12_R → Ex
  | .x0 _ => .normal
def G_ringlaw2_SwapTells_C12_st (v_l1 : (List S_swap_Slot)) (v_k5 : Int) (v_r81 : ((List S_swap_Slot) × Bool × Int)) (v_y274 : S_swap_Slot) (v_more6 : Int) (v_y275 : S_swap_Slot) : G_ringlaw2_SwapTells_C12_R → PS
  | .x0 v_x289 => ⟨[dd, dd, dd, dd, dd, dd, dd, dd, dd, dd, dd, dd, .d (.v (.bool v_x289)), dd, dd, dd, dd, dd, dd, dd, dd, dd, dd, dd, dd, dd, dd, dd, dd, dd, dd, dd, dd, dd, dd, dd, dd, dd, dd, dd, dd, dd, dd, dd, dd, dd, dd, dd, dd, dd, dd, dd, dd, dd, dd, dd, dd, dd, dd, dd, dd, dd, dd, dd, dd, dd, dd, dd, dd, dd, dd, dd, dd, dd, dd, dd, dd, dd, dd, dd, dd, dd, dd, dd, dd, dd, dd, dd, dd, dd, dd, dd, dd, dd, dd, dd, dd, dd, dd, dd, dd, dd, dd, dd, dd, dd, dd, dd, dd, dd, dd, dd, dd, dd, dd, dd, dd, dd, dd, dd, dd, dd, dd, dd, dd, dd, dd, dd, dd, dd, dd, dd, dd, dd, dd, dd, dd, dd, dd, dd, dd, dd, dd, dd, dd, dd, dd, dd, dd, dd, dd, dd, dd, dd, dd, dd, dd, dd, dd, dd, dd, dd, dd, dd, dd, dd, dd, dd, dd, dd, dd, dd, dd, dd, dd, dd, dd, dd, dd, dd, dd, dd, dd, dd, dd, dd, dd, dd, dd, dd, dd, dd, dd, dd, dd, dd, dd, dd, dd, dd, dd, dd, dd, dd, dd, dd, dd, dd, dd, dd, dd, dd, dd, dd, dd, dd, dd, dd, dd, dd, dd, dd, dd, dd, dd, dd, dd, dd, dd, dd, dd, dd, dd, dd, dd, dd, dd, dd, dd, dd, dd, dd, dd, dd, dd, dd, dd, dd, dd, dd, dd, dd, dd, dd, dd, dd, dd, dd, dd, dd, dd, dd, dd, dd, dd, dd, dd, dd, dd, dd, dd, dd, dd, dd, dd, dd, dd, dd, dd, dd, dd, dd, dd, dd, dd, dd, dd, dd, dd, dd, dd, dd, dd, dd, dd, dd, dd, dd, dd, dd, dd, dd, dd, dd, dd, dd, dd, dd, dd, dd, dd, dd, dd, dd, dd, dd, dd, dd, dd, dd, dd, dd, dd, dd, dd, dd, dd, dd, dd, dd, dd, dd, dd], []⟩
def G_ringlaw2_SwapTells_C12_hd (v_l1 : (List S_swap_Slot)) (v_k5 : Int) (v_r81 : ((List S_swap_Slot) × Bool × Int)) (v_y274 : S_swap_Slot) (v_more6 : Int) (v_y275 : S_swap_Slot)  : PS := ⟨[.d (.sl (v_l1.map eS_swap_Slot)), dd, dd, dd, .d (.v (.int .i64 v_k5)), dd, dd, dd, dd, dd, dd, dd, dd, dd, dd, dd, dd, dd, dd, dd, .d (.sl (v_r81.1.map eS_swap_Slot)), .d (.v (.bool v_r81.2.1)), .d (.v (.int .i64 v_r81.2.2)), dd, dd, dd, dd, dd, dd, dd, dd, dd, dd, .ref 0 0, dd, dd, dd, dd, dd, dd, dd, dd, dd, dd, dd, dd, dd, dd, dd, dd, dd, dd, dd, dd, dd, dd, dd, dd, dd, dd, dd, dd, dd, dd, dd, dd, dd, dd, dd, dd, dd, dd, dd, dd, dd, dd, dd, dd, dd, dd, dd, dd, dd, dd, dd, dd, dd, dd, dd, dd, dd, dd, dd, dd, dd, dd, dd, dd, dd, dd, dd, dd, dd, dd, dd, dd, dd, dd, dd, dd, dd, dd, dd, dd, dd, dd, dd, dd, dd, dd, dd, dd, dd, dd, dd, dd, dd, dd, dd, dd, dd, dd, dd, dd, dd, dd, dd, dd, dd, dd, dd, dd, dd, dd, dd, dd, dd, dd, dd, dd, dd, dd, dd, dd, dd, dd, dd, dd, dd, dd, dd, dd, dd, dd, dd, dd, dd, dd, dd, dd, dd, dd, dd, dd, dd, dd, dd, dd, dd, dd, dd, dd, dd, dd, dd, dd, dd, dd, dd, dd, dd, dd, dd, dd, dd, dd, dd, dd, dd, dd, dd, dd, dd, dd, dd, dd, dd, dd, dd, dd, dd, dd, dd, dd, dd, dd, dd, dd, dd, dd, dd, dd, dd, dd, dd, dd, dd, dd, dd, dd, dd, dd, dd, dd, dd, dd, dd, dd, dd, dd, dd, dd, dd, dd, dd, dd, dd, dd, dd, dd, dd, dd, dd, dd, dd, dd, dd, dd, dd, dd, dd, dd, dd, dd, dd, dd, dd, dd, dd, dd, dd, dd, dd, dd, dd, dd, dd, dd, dd, dd, dd, dd, dd, dd, dd, dd, dd, dd, dd, dd, dd, dd, dd, dd, dd, dd, dd, dd, dd, dd, dd, dd, dd, dd, dd, dd, dd, dd, dd, dd, dd, dd, dd, dd, dd, dd, dd, dd, dd, dd, dd, dd, dd, dd, dd, dd, dd, dd, dd, dd, dd, dd, dd], [.box [.d (.v (.int .i64 (wi .i64 (v_y274.fMany + v_more6)))), .d (.v (.int .u8 (v_y275.fData 0))), .d (.v (.int .u8 (v_y275.fData 1))), .d (.v (.int .u8 (v_y275.fData 2))), .d (.v (.int .u8 (v_y275.fData 3))), .d (.v (.int .u8 (v_y275.fData 4))), .d (.v (.int .u8 (v_y275.fData 5))), .d (.v (.int .u8 (v_y275.fData 6))), .d (.v (.int .u8 (v_y275.fData 7))), .d (.v (.int .u8 (v_y275.fData 8))), .d (.v (.int .u8 (v_y275.fData 9))), .d (.v (.int .u8 (v_y275.fData 10))), .d (.v (.int .u8 (v_y275.fData 11))), .d (.v (.int .u8 (v_y275.fData 12))), .d (.v (.int .u8 (v_y275.fData 13))), .d (.v (.int .u8 (v_y275.fData 14))), .d (.v (.int .u8 (v_y275.fData 15)))]]⟩
def G_ringlaw2_SwapTells_C12 (n : Nat) (v_l1 : (List S_swap_Slot)) (v_k5 : Int) (v_r81 : ((List S_swap_Slot) × Bool × Int)) (v_y274 : S_swap_Slot) (v_more6 : Int) (v_y275 : S_swap_Slot) : Option G_ringlaw2_SwapTells_C12_R :=
  (G_ringref2_SlotWith n v_l1 v_k5 (S_swap_Slot.mk (wi .i64 (v_y274.fMany + v_more6)) v_y275.fData)).bind fun (v_r287 : ((List S_swap_Slot))) =>
  (G_ringref2_SlotSame n v_r81.1 v_r287).bind fun (v_r288 : (Bool)) =>
  if v_r288 = true then
   if (eqRes .eql (v_r81.2.1 == ((wi .i64 (v_y274.fMany + v_more6)) == 0))) = true then
    some (.x0 (v_r81.2.2 == 0))
   else
    some (.x0 false)
  else
   some (.x0 false)
theorem G_ringlaw2_SwapTells_C12_ok {Fi : Ex → PS → Prop} (hF : KC 333 Fi) (ks : List Fr) (n : Nat) (v_l1 : (List S_swap_Slot)) (v_k5 : Int) (v_r81 : ((List S_swap_Slot) × Bool × Int)) (v_y274 : S_swap_Slot) (v_more6 : Int) (v_y275 : S_swap_Slot)  (o : G_ringlaw2_SwapTells_C12_R) (h : G_ringlaw2_SwapTells_C12 n v_l1 v_k5 v_r81 v_y274 v_more6 v_y275 = some o) (q : RunE Try.prog 333 Fi ks (G_ringlaw2_SwapTells_C12_ex o) (G_ringlaw2_SwapTells_C12_st v_l1 v_k5 v_r81 v_y274 v_more6 v_y275 o)) : RunE Try.prog 333 Fi (.s (cL (cR (cR (cR (cR (cR (cR (cR (cR (cR (cR (cR (cR (cR (cR (cR (cR (cR (cR (cR (cR (cR (bodyOf Try.f5))))))))))))))))))))))) :: ks) .normal (G_ringlaw2_SwapTells_C12_hd v_l1 v_k5 v_r81 v_y274 v_more6 v_y275) := by
  unfold G_ringlaw2_SwapTells_C12 at h
  obtain ⟨v_r287, h339, h⟩ := bind_some h
  obtain ⟨v_r288, h340, h⟩ := bind_some h
  by_cases h341 : v_r288 = true
  · rw [if_pos h341] at h
    by_cases h342 : (eqRes .eql (v_r81.2.1 == ((wi .i64 (v_y274.fMany + v_more6)) == 0))) = true
    · rw [if_pos h342] at h
      cases h
      exact pkk_sound TTok mix hF 1 (hs := [.c, .r ((eL eS_swap_Slot) v_r287), .r (eB v_r288), .t true, .c, .c, .c, .c, .c, .t true, .c]) (ts := []) (s := []) (l := [12]) (by kernel_rfl) (by kernel_rfl) (.cons (G_ringref2_SlotWith_ok n v_l1 v_k5 (S_swap_Slot.mk (wi .i64 (v_y274.fMany + v_more6)) v_y275.fData) _ h339) (.cons (G_ringref2_SlotSame_ok n v_r81.1 v_r287 _ h340) (.cons h341 (.cons h342 .nil)))) q
    · rw [if_neg h342] at h
      cases h
      exact pkk_sound TTok mix hF 1 (hs := [.c, .r ((eL eS_swap_Slot) v_r287), .r (eB v_r288), .t true, .c, .c, .c, .c, .c, .t false, .c]) (ts := []) (s := []) (l := [12]) (by kernel_rfl) (by kernel_rfl) (.cons (G_ringref2_SlotWith_ok n v_l1 v_k5 (S_swap_Slot.mk (wi .i64 (v_y274.fMany + v_more6)) v_y275.fData) _ h339) (.cons (G_ringref2_SlotSame_ok n v_r81.1 v_r287 _ h340) (.cons h341 (.cons (vf h342) .nil)))) q
  · rw [if_neg h341] at h
    cases h
    exact pkk_sound TTok mix hF 1 (hs := [.c, .r ((eL eS_swap_Slot) v_r287), .r (eB v_r288), .t false, .c, .c, .c, .c, .c, .c]) (ts := []) (s := []) (l := [12]) (by kernel_rfl) (by kernel_rfl) (.cons (G_ringref2_SlotWith_ok n v_l1 v_k5 (S_swap_Slot.mk (wi .i64 (v_y274.fMany + v_more6)) v_y275.fData) _ h339) (.cons (G_ringref2_SlotSame_ok n v_r81.1 v_r287 _ h340) (.cons (vf h341) .nil))) q
/- ringhall/ringlaw2.SwapTells -/
def G_ringlaw2_SwapTells (n : Nat) (v_l1 : (List S_swap_Slot)) (v_size2 : Int) (v_data3 : (Fin 16 → Int)) (v_many4 : Int) (v_k5 : Int) (v_more6 : Int) : Option (Bool) :=
  (G_swap_New n v_size2).bind fun (v_r9 : ((List S_swap_Slot) × Int)) =>
  (G_swap_Put n v_l1 v_data3 v_many4).bind fun (v_r44 : ((List S_swap_Slot) × Int × Int)) =>
  (G_swap_Get n v_l1 v_k5).bind fun (v_r60 : ((Fin 16 → Int) × Int)) =>
  (G_swap_More n v_l1 v_k5 v_more6).bind fun (v_r81 : ((List S_swap_Slot) × Bool × Int)) =>
  (G_swap_Many n v_l1).bind fun (v_r94 : (Int × Int × Int)) =>
  (G_ringlaw2_SwapTells_C1 n v_l1 v_size2 v_many4 v_k5 v_more6 v_r9 v_r44 v_r60 v_r81 v_r94 v_data3).bind fun v_o130 => match v_o130 with
  | .x0 v_z131 =>
    if v_z131 = true then
     some false
    else
     (G_ringref2_Slots n v_l1).bind fun (v_r146 : (Int)) =>
     (G_swap_Check n v_l1).bind fun (v_r147 : (Int)) =>
     if v_r147 = v_r146 then
      if v_r146 = 0 then
       (G_ringlaw2_SwapTells_L4 n v_l1 v_many4 v_k5 v_more6 v_r44 v_r60 v_r81 v_r94 v_data3 n (-1) 0 0 0).bind fun v_o199 => match v_o199 with
       | .x0 v_z200 v_z201 v_z202 =>
         (G_ringlaw2_SwapTells_C5 n v_l1 v_many4 v_k5 v_more6 v_r44 v_r60 v_r81 v_r94 v_z200 v_z201 v_z202 v_data3).bind fun v_o206 => match v_o206 with
         | .x0 v_z207 =>
           if v_z207 = true then
            some false
           else
            (G_ringref2_In n v_many4 1 1024).bind fun (v_r214 : (Bool)) =>
            (G_ringlaw2_SwapTells_C6 n v_l1 v_many4 v_k5 v_more6 v_r44 v_r60 v_r81 v_z200 v_r214 v_data3).bind fun v_o218 => match v_o218 with
            | .x0 v_z219 =>
              (G_ringlaw2_SwapTells_C7 n v_l1 v_many4 v_k5 v_more6 v_r44 v_r60 v_r81 v_z200 v_z219 v_data3).bind fun v_o236 => match v_o236 with
              | .x0 v_z237 =>
                if v_z237 = true then
                 some false
                else
                 (G_ringlaw2_SwapTells_C8 n v_l1 v_k5 v_more6 v_r60 v_r81).bind fun v_o244 => match v_o244 with
                 | .x0 v_z245 =>
                   if v_z245 = true then
                    (G_ringlaw2_SwapTells_C9 n v_r60 v_r81).bind fun v_o258 => match v_o258 with
                    | .x0 v_z259 =>
                      some v_z259
                   else
                    (getI v_l1 v_k5).bind fun (v_y260 : S_swap_Slot) =>
                    if (eqRes .neq (eqA_16_uint8 v_r60.1 v_y260.fData)) = true then
                     some false
                    else
                     if v_r60.2 = 0 then
                      (getI v_l1 v_k5).bind fun (v_y261 : S_swap_Slot) =>
                      (getI v_l1 v_k5).bind fun (v_y262 : S_swap_Slot) =>
                      (G_ringref2_In n v_more6 (negI .i64 v_y261.fMany) (wi .i64 (1024 - v_y262.fMany))).bind fun (v_r263 : (Bool)) =>
                      if v_r263 = true then
                       (getI v_l1 v_k5).bind fun (v_y274 : S_swap_Slot) =>
                       (getI v_l1 v_k5).bind fun (v_y275 : S_swap_Slot) =>
                       if (wi .i64 (v_y274.fMany + v_more6)) = 0 then
                        (G_ringlaw2_SwapTells_C11 n v_l1 v_k5 v_r81).bind fun v_o283 => match v_o283 with
                        | .x0 v_z284 =>
                          some v_z284
                       else
                        (G_ringlaw2_SwapTells_C12 n v_l1 v_k5 v_r81 v_y274 v_more6 v_y275).bind fun v_o292 => match v_o292 with
                        | .x0 v_z293 =>
                          some v_z293
                      else
                       (G_ringlaw2_SwapTells_C10 n v_r81).bind fun v_o272 => match v_o272 with
                       | .x0 v_z273 =>
                         some v_z273
                     else
                      some false
      else
       (G_ringlaw2_SwapTells_C2 n v_r44 v_r60 v_r81 v_r94 v_r146).bind fun v_o170 => match v_o170 with
       | .x0 v_z171 =>
         some v_z171
     else
      some false
theorem G_ringlaw2_SwapTells_ok (n : Nat) (v_l1 : (List S_swap_Slot)) (v_size2 : Int) (v_data3 : (Fin 16 → Int)) (v_many4 : Int) (v_k5 : Int) (v_more6 : Int) (r : Bool) (h : G_ringlaw2_SwapTells n v_l1 v_size2 v_data3 v_many4 v_k5 v_more6 = some r) : Ret Try.prog 5 [(eL eS_swap_Slot) v_l1, (eI .i64) v_size2, (fun x => PV.agg [.v (.int .u8 (x 0)), .v (.int .u8 (x 1)), .v (.int .u8 (x 2)), .v (.int .u8 (x 3)), .v (.int .u8 (x 4)), .v (.int .u8 (x 5)), .v (.int .u8 (x 6)), .v (.int .u8 (x 7)), .v (.int .u8 (x 8)), .v (.int .u8 (x 9)), .v (.int .u8 (x 10)), .v (.int .u8 (x 11)), .v (.int .u8 (x 12)), .v (.int .u8 (x 13)), .v (.int .u8 (x 14)), .v (.int .u8 (x 15))]) v_data3, (eI .i64) v_many4, (eI .i64) v_k5, (eI .i64) v_more6] (eB r) := by
  refine ret_run (n := 333) (fn := Try.f5) (c := bodyOf Try.f5) (by kernel_rfl) (by kernel_rfl) (by kernel_rfl) (by kernel_rfl) ?_
  have hF : KC 333 (FinR Try.prog Try.f5 (eB r)) := FinR.kc' (by kernel_rfl)
  unfold G_ringlaw2_SwapTells at h
  obtain ⟨v_r9, h4, h⟩ := bind_some h
  obtain ⟨v_r44, h69, h⟩ := bind_some h
  obtain ⟨v_r60, h85, h⟩ := bind_some h
  obtain ⟨v_r81, h115, h⟩ := bind_some h
  obtain ⟨v_r94, h127, h⟩ := bind_some h
  obtain ⟨v_o130, h166, h⟩ := bind_some h
  refine pkk_sound TTok mix hF 14 (hs := [.r (.tup [(eL eS_swap_Slot) v_r9.1, (eI .i64) v_r9.2]), .c, .r (.tup [(eL eS_swap_Slot) v_r44.1, (eI .i64) v_r44.2.1, (eI .i64) v_r44.2.2]), .r (.tup [(fun x => PV.agg [.v (.int .u8 (x 0)), .v (.int .u8 (x 1)), .v (.int .u8 (x 2)), .v (.int .u8 (x 3)), .v (.int .u8 (x 4)), .v (.int .u8 (x 5)), .v (.int .u8 (x 6)), .v (.int .u8 (x 7)), .v (.int .u8 (x 8)), .v (.int .u8 (x 9)), .v (.int .u8 (x 10)), .v (.int .u8 (x 11)), .v (.int .u8 (x 12)), .v (.int .u8 (x 13)), .v (.int .u8 (x 14)), .v (.int .u8 (x 15))]) v_r60.1, (eI .i64) v_r60.2]), .c, .r (.tup [(eL eS_swap_Slot) v_r81.1, eB v_r81.2.1, (eI .i64) v_r81.2.2]), .r (.tup [(eI .i64) v_r94.1, (eI .i64) v_r94.2.1, (eI .i64) v_r94.2.2])]) (ts := []) (s := [0, 78]) (l := [0, 1, 3, 4, 5, 8, 13, 14, 15, 16, 17, 18, 19, 20, 21, 22, 23, 24, 25]) (by kernel_rfl) (by kernel_rfl) (.cons (G_swap_New_ok n v_size2 _ h4) (.cons (G_swap_Put_ok n v_l1 v_data3 v_many4 _ h69) (.cons (G_swap_Get_ok n v_l1 v_k5 _ h85) (.cons (show 0 + 16 ≤ 16 by decide) (.cons (G_swap_More_ok n v_l1 v_k5 v_more6 _ h115) (.cons (G_swap_Many_ok n v_l1 _ h127) .nil)))))) (G_ringlaw2_SwapTells_C1_ok hF (.s (cR (cL (cR (cR (cR (cR (cR (cR (bodyOf Try.f5))))))))) :: .s (cR (cR (cR (cR (cR (cR (cR (bodyOf Try.f5)))))))) :: []) n v_l1 v_size2 v_many4 v_k5 v_more6 v_r9 v_r44 v_r60 v_r81 v_r94 v_data3 _ h166 ?_)
  cases v_o130 with
  | x0 v_z131 =>
    dsimp only at h
    by_cases h167 : v_z131 = true
    · rw [if_pos h167] at h
      obtain rfl := Option.some.inj h
      exact pend_sound TTok mix 5 (hs := [.t true]) (by kernel_rfl) (by kernel_rfl) (by kernel_rfl) (.cons h167 .nil)
    · rw [if_neg h167] at h
      obtain ⟨v_r146, h182, h⟩ := bind_some h
      obtain ⟨v_r147, h183, h⟩ := bind_some h
      by_cases h184 : v_r147 = v_r146
      · rw [if_pos h184] at h
        by_cases h205 : v_r146 = 0
        · rw [if_pos h205] at h
          obtain ⟨v_o199, h238, h⟩ := bind_some h
          refine pkk_sound TTok mix hF 21 (hs := [.t false, .r ((eI .i64) v_r146), .r ((eI .i64) v_r147), .t false, .t false, .u (.d (.v (.int .i64 (v_l1.length : Int)))), .n n]) (ts := []) (s := [0, 1]) (l := [0, 3, 4, 5, 8, 15, 16, 17, 18, 19, 20, 21, 22, 23, 24, 25, 27, 28, 29, 149, 150, 151]) (by kernel_rfl) (by kernel_rfl) (.cons (vf h167) (.cons (G_ringref2_Slots_ok n v_l1 _ h182) (.cons (G_swap_Check_ok n v_l1 _ h183) (.cons (nf h184) (.cons (nf h205) (.cons (len_ob (f := eS_swap_Slot) (l := v_l1)) .nil)))))) (G_ringlaw2_SwapTells_L4_ok hF (.b 0 :: .s (cR (cR (cR (cR (cR (cR (cR (cR (cR (cR (cR (cR (bodyOf Try.f5))))))))))))) :: []) n v_l1 v_many4 v_k5 v_more6 v_r44 v_r60 v_r81 v_r94 v_data3 n (-1) 0 0 0 _ h238 ?_)
          cases v_o199 with
          | x0 v_z200 v_z201 v_z202 =>
            dsimp only at h
            obtain ⟨v_o206, h243, h⟩ := bind_some h
            refine pkk_sound TTok mix hF 3 (hs := []) (ts := []) (s := [0, 1]) (l := [0, 3, 4, 5, 8, 15, 16, 17, 18, 19, 20, 21, 22, 23, 24, 25, 27, 28, 29]) (by kernel_rfl) (by kernel_rfl) .nil (G_ringlaw2_SwapTells_C5_ok hF (.s (cR (cL (cR (cR (cR (cR (cR (cR (cR (cR (cR (cR (cR (cR (bodyOf Try.f5))))))))))))))) :: .s (cR (cR (cR (cR (cR (cR (cR (cR (cR (cR (cR (cR (cR (bodyOf Try.f5)))))))))))))) :: []) n v_l1 v_many4 v_k5 v_more6 v_r44 v_r60 v_r81 v_r94 v_z200 v_z201 v_z202 v_data3 _ h243 ?_)
            cases v_o206 with
            | x0 v_z207 =>
              dsimp only at h
              by_cases h244 : v_z207 = true
              · rw [if_pos h244] at h
                obtain rfl := Option.some.inj h
                exact pend_sound TTok mix 5 (hs := [.t true]) (by kernel_rfl) (by kernel_rfl) (by kernel_rfl) (.cons h244 .nil)
              · rw [if_neg h244] at h
                obtain ⟨v_r214, h251, h⟩ := bind_some h
                obtain ⟨v_o218, h256, h⟩ := bind_some h
                refine pkk_sound TTok mix hF 8 (hs := [.t false, .r (eB v_r214)]) (ts := []) (s := [0, 1]) (l := [0, 3, 4, 5, 8, 15, 16, 17, 18, 19, 20, 21, 22, 27, 32, 181]) (by kernel_rfl) (by kernel_rfl) (.cons (vf h244) (.cons (G_ringref2_In_ok n v_many4 1 1024 _ h251) .nil)) (G_ringlaw2_SwapTells_C6_ok hF (.b 2 :: .s (cR (cR (cR (cR (cR (cR (cR (cR (cR (cR (cR (cR (cR (cR (cR (bodyOf Try.f5)))))))))))))))) :: []) n v_l1 v_many4 v_k5 v_more6 v_r44 v_r60 v_r81 v_z200 v_r214 v_data3 _ h256 ?_)
                cases v_o218 with
                | x0 v_z219 =>
                  dsimp only at h
                  obtain ⟨v_o236, h276, h⟩ := bind_some h
                  refine pkk_sound TTok mix hF 3 (hs := []) (ts := []) (s := [0, 1]) (l := [0, 3, 4, 5, 8, 15, 16, 17, 18, 19, 20, 21, 22, 27, 32]) (by kernel_rfl) (by kernel_rfl) .nil (G_ringlaw2_SwapTells_C7_ok hF (.s (cR (cL (cR (cR (cR (cR (cR (cR (cR (cR (cR (cR (cR (cR (cR (cR (cR (bodyOf Try.f5)))))))))))))))))) :: .s (cR (cR (cR (cR (cR (cR (cR (cR (cR (cR (cR (cR (cR (cR (cR (cR (bodyOf Try.f5))))))))))))))))) :: []) n v_l1 v_many4 v_k5 v_more6 v_r44 v_r60 v_r81 v_z200 v_z219 v_data3 _ h276 ?_)
                  cases v_o236 with
                  | x0 v_z237 =>
                    dsimp only at h
                    by_cases h277 : v_z237 = true
                    · rw [if_pos h277] at h
                      obtain rfl := Option.some.inj h
                      exact pend_sound TTok mix 5 (hs := [.t true]) (by kernel_rfl) (by kernel_rfl) (by kernel_rfl) (.cons h277 .nil)
                    · rw [if_neg h277] at h
                      obtain ⟨v_o244, h284, h⟩ := bind_some h
                      refine pkk_sound TTok mix hF 4 (hs := [.t false]) (ts := []) (s := [0]) (l := [0, 4, 5, 18, 19, 20, 21, 22]) (by kernel_rfl) (by kernel_rfl) (.cons (vf h277) .nil) (G_ringlaw2_SwapTells_C8_ok hF (.s (cR (cL (cR (cR (cR (cR (cR (cR (cR (cR (cR (cR (cR (cR (cR (cR (cR (cR (bodyOf Try.f5))))))))))))))))))) :: .s (cR (cR (cR (cR (cR (cR (cR (cR (cR (cR (cR (cR (cR (cR (cR (cR (cR (bodyOf Try.f5)))))))))))))))))) :: []) n v_l1 v_k5 v_more6 v_r60 v_r81 _ h284 ?_)
                      cases v_o244 with
                      | x0 v_z245 =>
                        dsimp only at h
                        by_cases h295 : v_z245 = true
                        · rw [if_pos h295] at h
                          obtain ⟨v_o258, h304, h⟩ := bind_some h
                          refine pkk_sound TTok mix hF 2 (hs := [.t true]) (ts := []) (s := [0]) (l := [18, 19, 20, 21, 22]) (by kernel_rfl) (by kernel_rfl) (.cons h295 .nil) (G_ringlaw2_SwapTells_C9_ok hF (.s (cR (cT (cR (cL (cR (cR (cR (cR (cR (cR (cR (cR (cR (cR (cR (cR (cR (cR (cR (cR (bodyOf Try.f5))))))))))))))))))))) :: .s (cR (cR (cR (cR (cR (cR (cR (cR (cR (cR (cR (cR (cR (cR (cR (cR (cR (bodyOf Try.f5)))))))))))))))))) :: []) n v_r60 v_r81 _ h304 ?_)
                          cases v_o258 with
                          | x0 v_z259 =>
                            dsimp only at h
                            obtain rfl := Option.some.inj h
                            exact pend_sound TTok mix 2 (hs := []) (by kernel_rfl) (by kernel_rfl) (by kernel_rfl) .nil
                        · rw [if_neg h295] at h
                          obtain ⟨v_y260, h305, h⟩ := bind_some h
                          by_cases h306 : (eqRes .neq (eqA_16_uint8 v_r60.1 v_y260.fData)) = true
                          · rw [if_pos h306] at h
                            obtain rfl := Option.some.inj h
                            exact pend_sound TTok mix 10 (hs := [.t false, .c, .y (eS_swap_Slot v_y260), .q (eqA_16_uint8 v_r60.1 v_y260.fData), .t true, .c, .c]) (by kernel_rfl) (by kernel_rfl) (by kernel_rfl) (.cons (vf h295) (.cons (getI_ob (f := eS_swap_Slot) h305) (.cons (eqA_16_uint8_ok v_r60.1 v_y260.fData) (.cons h306 .nil))))
                          · rw [if_neg h306] at h
                            by_cases h307 : v_r60.2 = 0
                            · rw [if_pos h307] at h
                              obtain ⟨v_y261, h308, h⟩ := bind_some h
                              obtain ⟨v_y262, h309, h⟩ := bind_some h
                              obtain ⟨v_r263, h310, h⟩ := bind_some h
                              by_cases h317 : v_r263 = true
                              · rw [if_pos h317] at h
                                obtain ⟨v_y274, h323, h⟩ := bind_some h
                                obtain ⟨v_y275, h324, h⟩ := bind_some h
                                by_cases h325 : (wi .i64 (v_y274.fMany + v_more6)) = 0
                                · rw [if_pos h325] at h
                                  obtain ⟨v_o283, h334, h⟩ := bind_some h
                                  refine pkk_sound TTok mix hF 20 (hs := [.t false, .c, .y (eS_swap_Slot v_y260), .q (eqA_16_uint8 v_r60.1 v_y260.fData), .t false, .c, .t false, .y (eS_swap_Slot v_y261), .c, .y (eS_swap_Slot v_y262), .c, .r (eB v_r263), .t false, .y (eS_swap_Slot v_y274), .c, .y (eS_swap_Slot v_y275), .c, .c, .t true, .c]) (ts := []) (s := [118]) (l := [0, 4, 20, 21, 22, 33]) (by kernel_rfl) (by kernel_rfl) (.cons (vf h295) (.cons (getI_ob (f := eS_swap_Slot) h305) (.cons (eqA_16_uint8_ok v_r60.1 v_y260.fData) (.cons (vf h306) (.cons (nf h307) (.cons (getI_ob (f := eS_swap_Slot) h308) (.cons (getI_ob (f := eS_swap_Slot) h309) (.cons (G_ringref2_In_ok n v_more6 (negI .i64 v_y261.fMany) (wi .i64 (1024 - v_y262.fMany)) _ h310) (.cons (bnf h317) (.cons (getI_ob (f := eS_swap_Slot) h323) (.cons (getI_ob (f := eS_swap_Slot) h324) (.cons (show 0 + 17 ≤ 17 by decide) (.cons (bt h325) (.cons (show 0 + 17 ≤ 17 by decide) .nil)))))))))))))) (G_ringlaw2_SwapTells_C11_ok hF (.s (cR (cR (cR (cR (cR (cR (cR (cR (cR (cR (cR (cR (cR (cR (cR (cR (cR (cR (cR (cR (cR (cR (bodyOf Try.f5))))))))))))))))))))))) :: []) n v_l1 v_k5 v_r81 _ h334 ?_)
                                  cases v_o283 with
                                  | x0 v_z284 =>
                                    dsimp only at h
                                    obtain rfl := Option.some.inj h
                                    exact pend_sound TTok mix 1 (hs := []) (by kernel_rfl) (by kernel_rfl) (by kernel_rfl) .nil
                                · rw [if_neg h325] at h
                                  obtain ⟨v_o292, h343, h⟩ := bind_some h
                                  refine pkk_sound TTok mix hF 20 (hs := [.t false, .c, .y (eS_swap_Slot v_y260), .q (eqA_16_uint8 v_r60.1 v_y260.fData), .t false, .c, .t false, .y (eS_swap_Slot v_y261), .c, .y (eS_swap_Slot v_y262), .c, .r (eB v_r263), .t false, .y (eS_swap_Slot v_y274), .c, .y (eS_swap_Slot v_y275), .c, .c, .t false]) (ts := []) (s := [118]) (l := [0, 4, 20, 21, 22, 33]) (by kernel_rfl) (by kernel_rfl) (.cons (vf h295) (.cons (getI_ob (f := eS_swap_Slot) h305) (.cons (eqA_16_uint8_ok v_r60.1 v_y260.fData) (.cons (vf h306) (.cons (nf h307) (.cons (getI_ob (f := eS_swap_Slot) h308) (.cons (getI_ob (f := eS_swap_Slot) h309) (.cons (G_ringref2_In_ok n v_more6 (negI .i64 v_y261.fMany) (wi .i64 (1024 - v_y262.fMany)) _ h310) (.cons (bnf h317) (.cons (getI_ob (f := eS_swap_Slot) h323) (.cons (getI_ob (f := eS_swap_Slot) h324) (.cons (show 0 + 17 ≤ 17 by decide) (.cons (bf h325) .nil))))))))))))) (G_ringlaw2_SwapTells_C12_ok hF (.s (cR (cR (cR (cR (cR (cR (cR (cR (cR (cR (cR (cR (cR (cR (cR (cR (cR (cR (cR (cR (cR (cR (bodyOf Try.f5))))))))))))))))))))))) :: []) n v_l1 v_k5 v_r81 v_y274 v_more6 v_y275 _ h343 ?_)
                                  cases v_o292 with
                                  | x0 v_z293 =>
                                    dsimp only at h
                                    obtain rfl := Option.some.inj h
                                    exact pend_sound TTok mix 1 (hs := []) (by kernel_rfl) (by kernel_rfl) (by kernel_rfl) .nil
                              · rw [if_neg h317] at h
                                obtain ⟨v_o272, h322, h⟩ := bind_some h
                                refine pkk_sound TTok mix hF 12 (hs := [.t false, .c, .y (eS_swap_Slot v_y260), .q (eqA_16_uint8 v_r60.1 v_y260.fData), .t false, .c, .t false, .y (eS_swap_Slot v_y261), .c, .y (eS_swap_Slot v_y262), .c, .r (eB v_r263), .t true]) (ts := []) (s := []) (l := [20, 21, 22]) (by kernel_rfl) (by kernel_rfl) (.cons (vf h295) (.cons (getI_ob (f := eS_swap_Slot) h305) (.cons (eqA_16_uint8_ok v_r60.1 v_y260.fData) (.cons (vf h306) (.cons (nf h307) (.cons (getI_ob (f := eS_swap_Slot) h308) (.cons (getI_ob (f := eS_swap_Slot) h309) (.cons (G_ringref2_In_ok n v_more6 (negI .i64 v_y261.fMany) (wi .i64 (1024 - v_y262.fMany)) _ h310) (.cons (bnt (vf h317)) .nil))))))))) (G_ringlaw2_SwapTells_C10_ok hF (.s (cR (cT (cR (cL (cR (cR (cR (cR (cR (cR (cR (cR (cR (cR (cR (cR (cR (cR (cR (cR (cR (cR (bodyOf Try.f5))))))))))))))))))))))) :: .s (cR (cR (cR (cR (cR (cR (cR (cR (cR (cR (cR (cR (cR (cR (cR (cR (cR (cR (cR (bodyOf Try.f5)))))))))))))))))))) :: []) n v_r81 _ h322 ?_)
                                cases v_o272 with
                                | x0 v_z273 =>
                                  dsimp only at h
                                  obtain rfl := Option.some.inj h
                                  exact pend_sound TTok mix 2 (hs := []) (by kernel_rfl) (by kernel_rfl) (by kernel_rfl) .nil
                            · rw [if_neg h307] at h
                              obtain rfl := Option.some.inj h
                              exact pend_sound TTok mix 10 (hs := [.t false, .c, .y (eS_swap_Slot v_y260), .q (eqA_16_uint8 v_r60.1 v_y260.fData), .t false, .c, .t true]) (by kernel_rfl) (by kernel_rfl) (by kernel_rfl) (.cons (vf h295) (.cons (getI_ob (f := eS_swap_Slot) h305) (.cons (eqA_16_uint8_ok v_r60.1 v_y260.fData) (.cons (vf h306) (.cons (nt h307) .nil)))))
        · rw [if_neg h205] at h
          obtain ⟨v_o170, h224, h⟩ := bind_some h
          refine pkk_sound TTok mix hF 14 (hs := [.t false, .r ((eI .i64) v_r146), .r ((eI .i64) v_r147), .t false, .t true]) (ts := []) (s := [1]) (l := [15, 16, 17, 18, 19, 20, 21, 22, 23, 24, 25, 26]) (by kernel_rfl) (by kernel_rfl) (.cons (vf h167) (.cons (G_ringref2_Slots_ok n v_l1 _ h182) (.cons (G_swap_Check_ok n v_l1 _ h183) (.cons (nf h184) (.cons (nt h205) .nil))))) (G_ringlaw2_SwapTells_C2_ok hF (.s (cR (cT (cR (cL (cR (cR (cR (cR (cR (cR (cR (cR (cR (bodyOf Try.f5)))))))))))))) :: .s (cR (cR (cR (cR (cR (cR (cR (cR (cR (cR (bodyOf Try.f5))))))))))) :: []) n v_r44 v_r60 v_r81 v_r94 v_r146 _ h224 ?_)
          cases v_o170 with
          | x0 v_z171 =>
            dsimp only at h
            obtain rfl := Option.some.inj h
            exact pend_sound TTok mix 2 (hs := []) (by kernel_rfl) (by kernel_rfl) (by kernel_rfl) .nil
      · rw [if_neg h184] at h
        obtain rfl := Option.some.inj h
        exact pend_sound TTok mix 12 (hs := [.t false, .r ((eI .i64) v_r146), .r ((eI .i64) v_r147), .t true]) (by kernel_rfl) (by kernel_rfl) (by kernel_rfl) (.cons (vf h167) (.cons (G_ringref2_Slots_ok n v_l1 _ h182) (.cons (G_swap_Check_ok n v_l1 _ h183) (.cons (nt h184) .nil))))
def okA {n : Nat} {α : Type} (ok : α → Prop) (A : Fin n → α) : Prop := ∀ i, ok (A i)
theorem br_congr {α : Type} {s : rep.Sh} {g g' : α → List PV} {ok : α → Prop} (h : Br s g ok) (h' : ∀ a, g' a = g a) : Br s g' ok := by
  intro w x cs hr
  obtain ⟨a, o, q⟩ := h w x cs hr
  exact ⟨a, o, by rw [h' a]; exact q⟩
theorem RL_flat {α : Type} {w : World} {s : Nat} {g : α → List PV} : ∀ (l : List α) (cs : List Value), cs.length = l.length * s → (∀ i (hi : i < l.length), RL (fun _ => false) w (g l[i]) ((cs.drop (i * s)).take s)) → RL (fun _ => false) w (l.flatMap g) cs
  | [], cs, h, _ => by
    have : cs = [] := by simpa using h
    subst this
    simp [RL]
  | a :: l, cs, h, hp => by
    have h0 := hp 0 (by simp)
    simp only [Nat.zero_mul, List.drop_zero, List.getElem_cons_zero] at h0
    have h1 := RL_flat (w := w) (s := s) (g := g) l (cs.drop s) (by rw [List.length_drop, h, List.length_cons, Nat.succ_mul]; omega) (fun i hi => by
      have := hp (i + 1) (by simpa using hi)
      rw [List.getElem_cons_succ, Nat.succ_mul] at this
      rw [List.drop_drop]
      rwa [Nat.add_comm s (i * s)])
    rw [List.flatMap_cons, ← List.take_append_drop s cs]
    exact h0.append h1
theorem br_arr {n : Nat} {α : Type} {e : rep.Sh} {g : α → List PV} {ok : α → Prop} (h : Br e g ok) : Br (.arr n e) (fun A : Fin n → α => (List.ofFn A).flatMap g) (okA ok) := by
  intro w xs cs hr
  obtain ⟨h1, h2, h3⟩ := hr
  have hx : ∀ i, i < n → ∃ a : α, ok a ∧ RL (fun _ => false) w (g a) ((cs.drop (i * e.size)).take e.size) := fun i hi => h w _ _ (h3 i (by rw [h1]; exact hi))
  obtain ⟨l, hl, hp⟩ := rep.exists_list n _ hx
  subst hl
  refine ⟨fun i => l[i.val], fun i => (hp i.val i.isLt).1, ?_⟩
  have e1 : List.ofFn (fun i : Fin l.length => l[i.val]) = l := List.ofFn_getElem
  show RL (fun _ => false) w ((List.ofFn (fun i : Fin l.length => l[i.val])).flatMap g) cs
  rw [e1]
  exact RL_flat l cs h2 (fun i hi => (hp i hi).2)
def okS_swap_Slot (x : S_swap_Slot) : Prop := (fun a => (Lit.int .i64 a).wf = true) x.fMany ∧ (okA (n := 16) (fun a => (Lit.int .u8 a).wf = true)) x.fData ∧ True
theorem brS_swap_Slot : Br (.pair (.int .i64) (.pair (.arr 16 (.int .u8)) .unit)) (fun x : S_swap_Slot => [.v (.int .i64 x.fMany), .v (.int .u8 (x.fData 0)), .v (.int .u8 (x.fData 1)), .v (.int .u8 (x.fData 2)), .v (.int .u8 (x.fData 3)), .v (.int .u8 (x.fData 4)), .v (.int .u8 (x.fData 5)), .v (.int .u8 (x.fData 6)), .v (.int .u8 (x.fData 7)), .v (.int .u8 (x.fData 8)), .v (.int .u8 (x.fData 9)), .v (.int .u8 (x.fData 10)), .v (.int .u8 (x.fData 11)), .v (.int .u8 (x.fData 12)), .v (.int .u8 (x.fData 13)), .v (.int .u8 (x.fData 14)), .v (.int .u8 (x.fData 15))]) okS_swap_Slot := br_map (br_pair (br_int .i64) (br_pair (br_congr (g' := fun x : (Fin 16 → Int) => [.v (.int .u8 (x 0)), .v (.int .u8 (x 1)), .v (.int .u8 (x 2)), .v (.int .u8 (x 3)), .v (.int .u8 (x 4)), .v (.int .u8 (x 5)), .v (.int .u8 (x 6)), .v (.int .u8 (x 7)), .v (.int .u8 (x 8)), .v (.int .u8 (x 9)), .v (.int .u8 (x 10)), .v (.int .u8 (x 11)), .v (.int .u8 (x 12)), .v (.int .u8 (x 13)), .v (.int .u8 (x 14)), .v (.int .u8 (x 15))]) (br_arr (n := 16) (g := fun a : Int => [.v (.int .u8 a)]) (ok := (fun a => (Lit.int .u8 a).wf = true)) (br_int .u8)) (fun x => rfl)) br_unit)) (fun p => S_swap_Slot.mk p.1 p.2.1) (fun p h => ⟨rfl, h⟩)
theorem SwapTells_walk (H : ∀ (a0 : (List S_swap_Slot)) (a1 : Int) (a2 : (Fin 16 → Int)) (a3 : Int) (a4 : Int) (a5 : Int), (okL 24 okS_swap_Slot) a0 → (fun a => (Lit.int .i64 a).wf = true) a1 → (okA (n := 16) (fun a => (Lit.int .u8 a).wf = true)) a2 → (fun a => (Lit.int .i64 a).wf = true) a3 → (fun a => (Lit.int .i64 a).wf = true) a4 → (fun a => (Lit.int .i64 a).wf = true) a5 → ∃ n, G_ringlaw2_SwapTells n a0 a1 a2 a3 a4 a5 = some true) (w : World) (v0 : Value) (v1 : Value) (v2 : Value) (v3 : Value) (v4 : Value) (v5 : Value) (h0 : rep.Arg w (.slice 24 (.pair (.int .i64) (.pair (.arr 16 (.int .u8)) .unit))) v0) (h1 : rep.Arg w (.int .i64) v1) (h2 : rep.Arg w (.arr 16 (.int .u8)) v2) (h3 : rep.Arg w (.int .i64) v3) (h4 : rep.Arg w (.int .i64) v4) (h5 : rep.Arg w (.int .i64) v5) : Calls Try.prog 5 #[v0, v1, v2, v3, v4, v5] w (help.Ret (.bool true) w) := by
  obtain ⟨a0, o0, r0⟩ := arg_one (br_slice (f := eS_swap_Slot) (ok := okS_swap_Slot) brS_swap_Slot (fun _ => rfl) (by decide)) (by rfl) h0
  obtain ⟨a1, o1, r1⟩ := arg_one (br_int .i64) (by rfl) h1
  obtain ⟨a2, o2, r2⟩ := arg_agg (br_congr (g' := fun x : (Fin 16 → Int) => [.v (.int .u8 (x 0)), .v (.int .u8 (x 1)), .v (.int .u8 (x 2)), .v (.int .u8 (x 3)), .v (.int .u8 (x 4)), .v (.int .u8 (x 5)), .v (.int .u8 (x 6)), .v (.int .u8 (x 7)), .v (.int .u8 (x 8)), .v (.int .u8 (x 9)), .v (.int .u8 (x 10)), .v (.int .u8 (x 11)), .v (.int .u8 (x 12)), .v (.int .u8 (x 13)), .v (.int .u8 (x 14)), .v (.int .u8 (x 15))]) (br_arr (n := 16) (g := fun a : Int => [.v (.int .u8 a)]) (ok := (fun a => (Lit.int .u8 a).wf = true)) (br_int .u8)) (fun x => rfl)) (by rfl) h2
  obtain ⟨a3, o3, r3⟩ := arg_one (br_int .i64) (by rfl) h3
  obtain ⟨a4, o4, r4⟩ := arg_one (br_int .i64) (by rfl) h4
  obtain ⟨a5, o5, r5⟩ := arg_one (br_int .i64) (by rfl) h5
  obtain ⟨n, hn⟩ := H a0 a1 a2 a3 a4 a5 o0 o1 o2 o3 o4 o5
  exact walk_of (G_ringlaw2_SwapTells_ok n a0 a1 a2 a3 a4 a5 true hn) (RT_cons r0 (RT_cons r1 (RT_cons r2 (RT_cons r3 (RT_cons r4 (RT_cons r5 RT_nil))))))
/- FRAME SwapTells; ringhall/ringlaw2.SwapTells; (.slice 24 (.pair (.int .i64) (.pair (.arr 16 (.int .u8)) .unit))) | (.int .i64) | (.arr 16 (.int .u8)) | (.int .i64) | (.int .i64) | (.int .i64); .slice none 0 0 | .int .i64 0 | .agg #[.int .u8 0, .int .u8 0, .int .u8 0, .int .u8 0, .int .u8 0, .int .u8 0, .int .u8 0, .int .u8 0, .int .u8 0, .int .u8 0, .int .u8 0, .int .u8 0, .int .u8 0, .int .u8 0, .int .u8 0, .int .u8 0] | .int .i64 0 | .int .i64 0 | .int .i64 0 -/
end Go.Proofs.YtccmjndnjpjohaaR.pv
