/- What the functions compute, as functions over plain data, with their contracts: written by gen.py. -/
import Derived.Test.YtccmjndnjpjohaaRProg
import Derived.Test.YtccmjndnjpjohaaRQr
set_option maxRecDepth 100000
set_option linter.all false
namespace Go.Proofs.YtccmjndnjpjohaaR.pv
open Go.RowKit
def TT : List TI := [
⟨1, 0, .oth, []⟩,
⟨1, 8, .oth, [.nf]⟩,
⟨1, 8, .int .i64, [.i .i64]⟩,
⟨1, 8, .int .i64, [.i .i64]⟩,
⟨1, 1, .bool, [.b]⟩,
⟨1, 1, .int .u8, [.i .u8]⟩,
⟨1, 1, .int .u8, [.i .u8]⟩,
⟨4, 24, .st [(0, 2), (1, 3), (2, 4), (3, 6)], [.i .i64, .i .i64, .b, .i .u8]⟩,
⟨4, 24, .st [(0, 2), (1, 3), (2, 4), (3, 6)], [.i .i64, .i .i64, .b, .i .u8]⟩,
⟨1, 16, .str, [.s]⟩,
⟨1, 16, .str, [.s]⟩,
⟨1, 16, .str, [.s]⟩,
⟨1, 8, .int .u64, [.i .u64]⟩,
⟨2, 24, .st [(0, 9), (1, 12)], [.s, .i .u64]⟩,
⟨2, 24, .st [(0, 9), (1, 12)], [.s, .i .u64]⟩,
⟨1, 8, .oth, [.np]⟩,
⟨1, 8, .oth, [.np]⟩,
⟨1, 8, .oth, [.np]⟩,
⟨1, 8, .st [(0, 17)], [.np]⟩,
⟨1, 8, .st [(0, 17)], [.np]⟩,
⟨1, 16, .oth, [.ni]⟩,
⟨1, 4, .int .i32, [.i .i32]⟩,
⟨4, 32, .st [(0, 3), (1, 3), (2, 3), (3, 3)], [.i .i64, .i .i64, .i .i64, .i .i64]⟩,
⟨4, 32, .st [(0, 3), (1, 3), (2, 3), (3, 3)], [.i .i64, .i .i64, .i .i64, .i .i64]⟩,
⟨1, 8, .int .i64, [.i .i64]⟩,
⟨1, 0, .oth, []⟩,
⟨1, 8, .oth, [.nf]⟩,
⟨1, 0, .oth, []⟩,
⟨1, 8, .oth, [.nf]⟩,
⟨1, 0, .oth, []⟩,
⟨1, 8, .oth, [.nf]⟩,
⟨1, 8, .oth, [.nf]⟩,
⟨1, 8, .oth, [.nf]⟩,
⟨4, 4, .st [(0, 4), (1, 4), (2, 4), (3, 4)], [.b, .b, .b, .b]⟩,
⟨4, 4, .st [(0, 4), (1, 4), (2, 4), (3, 4)], [.b, .b, .b, .b]⟩,
⟨32, 32, .arr 8 34, List.replicate 32 (.b)⟩,
⟨1, 8, .oth, [.nf]⟩,
⟨1, 8, .oth, [.nf]⟩,
⟨1, 24, .sl 34, [.sl]⟩,
⟨1, 8, .oth, [.nf]⟩,
⟨1, 8, .oth, [.nf]⟩,
⟨1, 8, .oth, [.nf]⟩,
⟨1, 24, .sl 3, [.sl]⟩,
⟨1, 8, .oth, [.nf]⟩,
⟨1, 8, .oth, [.nf]⟩,
⟨1, 8, .oth, [.nf]⟩,
⟨1, 8, .oth, [.nf]⟩,
⟨1, 8, .oth, [.nf]⟩,
⟨1, 24, .sl 64, [.sl]⟩,
⟨16, 16, .arr 16 5, List.replicate 16 (.i .u8)⟩,
⟨1, 0, .oth, []⟩,
⟨1, 8, .oth, [.nf]⟩,
⟨1, 0, .oth, []⟩,
⟨1, 8, .oth, [.nf]⟩,
⟨1, 0, .oth, []⟩,
⟨1, 8, .oth, [.nf]⟩,
⟨1, 0, .oth, []⟩,
⟨1, 8, .oth, [.nf]⟩,
⟨1, 0, .oth, []⟩,
⟨1, 8, .oth, [.nf]⟩,
⟨1, 8, .oth, [.nf]⟩,
⟨1, 8, .oth, [.nf]⟩,
⟨1, 8, .oth, [.nf]⟩,
⟨17, 24, .st [(0, 3), (1, 49)], List.replicate 1 (.i .i64) ++ List.replicate 16 (.i .u8)⟩,
⟨17, 24, .st [(0, 3), (1, 49)], List.replicate 1 (.i .i64) ++ List.replicate 16 (.i .u8)⟩,
⟨1, 8, .oth, [.nf]⟩,
⟨1, 8, .oth, [.nf]⟩,
⟨1, 24, .sl 79, [.sl]⟩,
⟨1, 24, .sl 70, [.sl]⟩,
⟨1, 24, .sl 71, [.sl]⟩,
⟨1, 24, .sl 73, [.sl]⟩,
⟨1, 24, .sl 74, [.sl]⟩,
⟨3, 24, .st [(0, 3), (1, 3), (2, 3)], [.i .i64, .i .i64, .i .i64]⟩,
⟨3, 24, .st [(0, 3), (1, 3), (2, 3)], [.i .i64, .i .i64, .i .i64]⟩,
⟨3, 24, .st [(0, 3), (1, 3), (2, 3)], [.i .i64, .i .i64, .i .i64]⟩,
⟨1, 0, .oth, []⟩,
⟨1, 8, .oth, [.nf]⟩,
⟨1, 8, .oth, [.nf]⟩,
⟨1, 8, .oth, [.nf]⟩,
⟨1, 4, .int .u32, [.i .u32]⟩,
⟨1, 8, .oth, [.nf]⟩,
⟨1, 24, .sl 91, [.sl]⟩,
⟨1, 0, .oth, []⟩,
⟨1, 8, .oth, [.nf]⟩,
⟨1, 8, .oth, [.nf]⟩,
⟨1, 0, .oth, []⟩,
⟨1, 8, .oth, [.nf]⟩,
⟨1, 0, .oth, []⟩,
⟨1, 8, .oth, [.nf]⟩,
⟨1, 8, .oth, [.nf]⟩,
⟨3, 24, .st [(0, 3), (1, 3), (2, 3)], [.i .i64, .i .i64, .i .i64]⟩,
⟨3, 24, .st [(0, 3), (1, 3), (2, 3)], [.i .i64, .i .i64, .i .i64]⟩,
⟨1, 8, .oth, [.nf]⟩,
⟨1, 8, .oth, [.nf]⟩,
⟨1, 8, .oth, [.nf]⟩,
⟨1, 8, .oth, [.nf]⟩,
⟨7, 32, .st [(0, 4), (1, 4), (2, 3), (3, 3), (4, 4), (5, 4), (6, 4)], [.b, .b, .i .i64, .i .i64, .b, .b, .b]⟩,
⟨7, 32, .st [(0, 4), (1, 4), (2, 3), (3, 3), (4, 4), (5, 4), (6, 4)], [.b, .b, .i .i64, .i .i64, .b, .b, .b]⟩,
⟨10, 56, .st [(0, 3), (1, 97), (8, 3), (9, 3)], [.i .i64, .b, .b, .i .i64, .i .i64, .b, .b, .b, .i .i64, .i .i64]⟩,
⟨10, 56, .st [(0, 3), (1, 97), (8, 3), (9, 3)], [.i .i64, .b, .b, .i .i64, .i .i64, .b, .b, .b, .i .i64, .i .i64]⟩,
⟨1, 8, .oth, [.nf]⟩,
⟨1, 0, .oth, []⟩,
⟨1, 8, .oth, [.nf]⟩,
⟨1, 0, .oth, []⟩,
⟨1, 8, .oth, [.nf]⟩,
⟨1, 8, .oth, [.nf]⟩,
⟨1, 8, .oth, [.nf]⟩,
⟨1, 8, .oth, [.nf]⟩,
⟨1, 8, .oth, [.nf]⟩,
⟨1, 8, .oth, [.nf]⟩,
⟨1, 8, .oth, [.nf]⟩,
⟨1, 8, .oth, [.nf]⟩,
⟨1, 8, .oth, [.nf]⟩,
⟨1, 8, .oth, [.nf]⟩,
⟨1, 8, .oth, [.nf]⟩,
⟨1, 8, .oth, [.nf]⟩,
⟨1, 24, .sl 122, [.sl]⟩,
⟨1, 0, .oth, []⟩,
⟨1, 8, .oth, [.nf]⟩,
⟨1, 8, .oth, [.nf]⟩,
⟨1, 24, .sl 123, [.sl]⟩,
⟨3, 24, .st [(0, 3), (1, 3), (2, 3)], [.i .i64, .i .i64, .i .i64]⟩,
⟨3, 24, .st [(0, 3), (1, 3), (2, 3)], [.i .i64, .i .i64, .i .i64]⟩,
⟨3, 24, .arr 3 3, [.i .i64, .i .i64, .i .i64]⟩,
⟨1, 8, .oth, [.nf]⟩,
⟨1, 8, .oth, [.nf]⟩,
⟨1, 8, .oth, [.nf]⟩,
⟨1, 8, .oth, [.nf]⟩,
⟨1, 8, .oth, [.nf]⟩,
⟨1, 8, .oth, [.nf]⟩,
⟨1, 8, .oth, [.nf]⟩,
⟨6, 48, .st [(0, 3), (1, 3), (2, 3), (3, 3), (4, 3), (5, 3)], [.i .i64, .i .i64, .i .i64, .i .i64, .i .i64, .i .i64]⟩,
⟨6, 48, .st [(0, 3), (1, 3), (2, 3), (3, 3), (4, 3), (5, 3)], [.i .i64, .i .i64, .i .i64, .i .i64, .i .i64, .i .i64]⟩,
⟨1, 24, .sl 140, [.sl]⟩,
⟨6, 64, .st [(0, 3), (1, 3), (2, 42), (3, 3), (4, 3), (5, 3)], [.i .i64, .i .i64, .sl, .i .i64, .i .i64, .i .i64]⟩,
⟨6, 64, .st [(0, 3), (1, 3), (2, 42), (3, 3), (4, 3), (5, 3)], [.i .i64, .i .i64, .sl, .i .i64, .i .i64, .i .i64]⟩,
⟨1, 0, .oth, []⟩,
⟨1, 8, .oth, [.nf]⟩,
⟨1, 8, .oth, [.nf]⟩,
⟨3, 24, .st [(0, 4), (1, 3), (2, 3)], [.b, .i .i64, .i .i64]⟩,
⟨3, 24, .st [(0, 4), (1, 3), (2, 3)], [.b, .i .i64, .i .i64]⟩,
⟨1, 8, .oth, [.nf]⟩,
⟨1, 8, .oth, [.nf]⟩,
⟨1, 8, .oth, [.nf]⟩,
⟨1, 24, .sl 4, [.sl]⟩,
⟨1, 8, .oth, [.nf]⟩,
⟨1, 8, .oth, [.nf]⟩,
⟨1, 0, .oth, []⟩,
⟨1, 8, .oth, [.nf]⟩,
⟨1, 8, .oth, [.nf]⟩,
⟨1, 8, .oth, [.nf]⟩,
⟨1, 8, .oth, [.nf]⟩,
⟨1, 8, .oth, [.nf]⟩,
⟨1, 8, .oth, [.nf]⟩,
⟨1, 8, .oth, [.nf]⟩,
⟨1, 8, .oth, [.nf]⟩,
⟨1, 8, .oth, [.nf]⟩,
⟨1, 8, .oth, [.nf]⟩,
⟨1, 8, .oth, [.nf]⟩,
⟨1, 8, .oth, [.nf]⟩,
⟨1, 8, .oth, [.nf]⟩,
⟨1, 8, .oth, [.nf]⟩,
⟨1, 8, .oth, [.np]⟩,
⟨1, 8, .oth, [.nf]⟩,
⟨1, 8, .oth, [.nf]⟩,
⟨1, 8, .oth, [.nf]⟩,
⟨1, 8, .oth, [.nf]⟩,
⟨1, 8, .oth, [.nf]⟩,
⟨1, 8, .oth, [.np]⟩,
⟨1, 8, .oth, [.nf]⟩,
⟨1, 8, .oth, [.nf]⟩,
⟨7, 7, .arr 7 4, [.b, .b, .b, .b, .b, .b, .b]⟩,
⟨1, 8, .oth, [.nf]⟩,
⟨1, 8, .oth, [.nf]⟩,
⟨4, 32, .arr 4 3, [.i .i64, .i .i64, .i .i64, .i .i64]⟩,
⟨1, 8, .oth, [.nf]⟩,
⟨1, 8, .oth, [.nf]⟩,
⟨1, 8, .oth, [.nf]⟩,
⟨1, 8, .oth, [.nf]⟩,
⟨1, 8, .oth, [.nf]⟩,
⟨1, 8, .oth, [.nf]⟩,
⟨1, 8, .oth, [.nf]⟩,
⟨1, 24, .sl 42, [.sl]⟩,
⟨1, 8, .oth, [.nf]⟩,
⟨1, 8, .oth, [.nf]⟩,
⟨1, 8, .oth, [.nf]⟩,
⟨1, 8, .oth, [.nf]⟩,
⟨1, 8, .oth, [.nm]⟩,
⟨1, 8, .oth, [.nf]⟩,
⟨1, 8, .int .u64, [.i .u64]⟩,
⟨1, 8, .oth, [.nf]⟩,
⟨4, 40, .st [(0, 17), (1, 17), (2, 17), (3, 9)], [.np, .np, .np, .s]⟩,
⟨4, 40, .st [(0, 17), (1, 17), (2, 17), (3, 9)], [.np, .np, .np, .s]⟩,
⟨0, 0, .arr 0 16, []⟩,
⟨0, 0, .st [(0, 193)], []⟩,
⟨0, 0, .st [(0, 193)], []⟩,
⟨1, 8, .oth, [.nf]⟩,
⟨1, 1, .int .u8, [.i .u8]⟩,
⟨1, 1, .int .u8, [.i .u8]⟩,
⟨1, 8, .oth, [.nf]⟩,
⟨1, 8, .oth, [.np]⟩,
⟨1, 4, .int .i32, [.i .i32]⟩,
⟨1, 4, .int .i32, [.i .i32]⟩,
⟨11, 48, .st [(0, 12), (1, 12), (2, 79), (3, 197), (4, 5), (5, 5), (6, 198), (7, 199), (8, 200), (9, 201), (10, 202)], [.i .u64, .i .u64, .i .u32, .i .u8, .i .u8, .i .u8, .i .u8, .nf, .np, .i .i32, .i .i32]⟩,
⟨11, 48, .st [(0, 12), (1, 12), (2, 79), (3, 197), (4, 5), (5, 5), (6, 198), (7, 199), (8, 200), (9, 201), (10, 202)], [.i .u64, .i .u64, .i .u32, .i .u8, .i .u8, .i .u8, .i .u8, .nf, .np, .i .i32, .i .i32]⟩,
⟨1, 8, .oth, [.np]⟩]
theorem TTok : TOk Try.prog TT := by unfold TOk; kernel_rfl
theorem mix : Try.prog.follows .mixedOrders = true := by kernel_rfl
structure S_irq_Lines where
  fEdge : Int
  fUp : Int
  fMasked : Int
  fPending : Int
def eS_irq_Lines (x : S_irq_Lines) : PV := .agg [.v (.int .i64 x.fEdge), .v (.int .i64 x.fUp), .v (.int .i64 x.fMasked), .v (.int .i64 x.fPending)]
structure S_ringref5_Line where
  fEdge : Bool
  fUp : Bool
  fMasked : Bool
  fPending : Bool
def eS_ringref5_Line (x : S_ringref5_Line) : PV := .agg [.v (.bool x.fEdge), .v (.bool x.fUp), .v (.bool x.fMasked), .v (.bool x.fPending)]
def eqS_irq_Lines (x y : S_irq_Lines) : Bool := ((x.fEdge == y.fEdge) && ((x.fUp == y.fUp) && ((x.fMasked == y.fMasked) && ((x.fPending == y.fPending) && true))))
theorem eqS_irq_Lines_ok (x y : S_irq_Lines) : EqA Try.prog 23 [((.int .i64 x.fEdge)), ((.int .i64 x.fUp)), ((.int .i64 x.fMasked)), ((.int .i64 x.fPending))] [((.int .i64 y.fEdge)), ((.int .i64 y.fUp)), ((.int .i64 y.fMasked)), ((.int .i64 y.fPending))] (eqS_irq_Lines x y) := eqA_of TTok (by kernel_rfl) (by kernel_rfl) (by kernel_rfl)
def eqA_8_ringref5_Line (x y : (Fin 8 → S_ringref5_Line)) : Bool := ((((x 0).fEdge == (y 0).fEdge) && (((x 0).fUp == (y 0).fUp) && (((x 0).fMasked == (y 0).fMasked) && (((x 0).fPending == (y 0).fPending) && true)))) && ((((x 1).fEdge == (y 1).fEdge) && (((x 1).fUp == (y 1).fUp) && (((x 1).fMasked == (y 1).fMasked) && (((x 1).fPending == (y 1).fPending) && true)))) && ((((x 2).fEdge == (y 2).fEdge) && (((x 2).fUp == (y 2).fUp) && (((x 2).fMasked == (y 2).fMasked) && (((x 2).fPending == (y 2).fPending) && true)))) && ((((x 3).fEdge == (y 3).fEdge) && (((x 3).fUp == (y 3).fUp) && (((x 3).fMasked == (y 3).fMasked) && (((x 3).fPending == (y 3).fPending) && true)))) && ((((x 4).fEdge == (y 4).fEdge) && (((x 4).fUp == (y 4).fUp) && (((x 4).fMasked == (y 4).fMasked) && (((x 4).fPending == (y 4).fPending) && true)))) && ((((x 5).fEdge == (y 5).fEdge) && (((x 5).fUp == (y 5).fUp) && (((x 5).fMasked == (y 5).fMasked) && (((x 5).fPending == (y 5).fPending) && true)))) && ((((x 6).fEdge == (y 6).fEdge) && (((x 6).fUp == (y 6).fUp) && (((x 6).fMasked == (y 6).fMasked) && (((x 6).fPending == (y 6).fPending) && true)))) && ((((x 7).fEdge == (y 7).fEdge) && (((x 7).fUp == (y 7).fUp) && (((x 7).fMasked == (y 7).fMasked) && (((x 7).fPending == (y 7).fPending) && true)))) && true))))))))
theorem eqA_8_ringref5_Line_ok (x y : (Fin 8 → S_ringref5_Line)) : EqA Try.prog 35 [((.bool ((x 0).fEdge))), ((.bool ((x 0).fUp))), ((.bool ((x 0).fMasked))), ((.bool ((x 0).fPending))), ((.bool ((x 1).fEdge))), ((.bool ((x 1).fUp))), ((.bool ((x 1).fMasked))), ((.bool ((x 1).fPending))), ((.bool ((x 2).fEdge))), ((.bool ((x 2).fUp))), ((.bool ((x 2).fMasked))), ((.bool ((x 2).fPending))), ((.bool ((x 3).fEdge))), ((.bool ((x 3).fUp))), ((.bool ((x 3).fMasked))), ((.bool ((x 3).fPending))), ((.bool ((x 4).fEdge))), ((.bool ((x 4).fUp))), ((.bool ((x 4).fMasked))), ((.bool ((x 4).fPending))), ((.bool ((x 5).fEdge))), ((.bool ((x 5).fUp))), ((.bool ((x 5).fMasked))), ((.bool ((x 5).fPending))), ((.bool ((x 6).fEdge))), ((.bool ((x 6).fUp))), ((.bool ((x 6).fMasked))), ((.bool ((x 6).fPending))), ((.bool ((x 7).fEdge))), ((.bool ((x 7).fUp))), ((.bool ((x 7).fMasked))), ((.bool ((x 7).fPending)))] [((.bool ((y 0).fEdge))), ((.bool ((y 0).fUp))), ((.bool ((y 0).fMasked))), ((.bool ((y 0).fPending))), ((.bool ((y 1).fEdge))), ((.bool ((y 1).fUp))), ((.bool ((y 1).fMasked))), ((.bool ((y 1).fPending))), ((.bool ((y 2).fEdge))), ((.bool ((y 2).fUp))), ((.bool ((y 2).fMasked))), ((.bool ((y 2).fPending))), ((.bool ((y 3).fEdge))), ((.bool ((y 3).fUp))), ((.bool ((y 3).fMasked))), ((.bool ((y 3).fPending))), ((.bool ((y 4).fEdge))), ((.bool ((y 4).fUp))), ((.bool ((y 4).fMasked))), ((.bool ((y 4).fPending))), ((.bool ((y 5).fEdge))), ((.bool ((y 5).fUp))), ((.bool ((y 5).fMasked))), ((.bool ((y 5).fPending))), ((.bool ((y 6).fEdge))), ((.bool ((y 6).fUp))), ((.bool ((y 6).fMasked))), ((.bool ((y 6).fPending))), ((.bool ((y 7).fEdge))), ((.bool ((y 7).fUp))), ((.bool ((y 7).fMasked))), ((.bool ((y 7).fPending)))] (eqA_8_ringref5_Line x y) := eqA_of TTok (by kernel_rfl) (by kernel_rfl) (by kernel_rfl)
inductive G_irq_Check_L1_R where
  | x0 (v_x16 : Int)
  | x1 
def G_irq_Check_L1_ex : G_irq_Check_L1_R → Ex
  | .x0 _ => .ret
  | .x1  => .exit 0
def G_irq_Check_L1_st (v_l12 : S_irq_Lines) : G_irq_Check_L1_R → PS
  | .x0 v_x16 => ⟨[dd, dd, .d (.v (.int .i64 v_x16)), dd, dd, dd, dd, dd, dd, dd, dd, dd, dd, dd, dd, dd, dd, dd, dd, dd, dd, dd, dd, dd, dd, dd, dd, dd, dd, dd, dd, dd], []⟩
  | .x1  => ⟨[dd, .ref 0 0, dd, dd, dd, dd, dd, dd, dd, dd, dd, dd, dd, dd, dd, dd, dd, dd, dd, dd, dd, dd, dd, dd, dd, dd, dd, dd, dd, dd, dd, dd], [.box [.d (.v (.int .i64 v_l12.fEdge)), .d (.v (.int .i64 v_l12.fUp)), .d (.v (.int .i64 v_l12.fMasked)), .d (.v (.int .i64 v_l12.fPending))]]⟩
def G_irq_Check_L1_hd (v_l12 : S_irq_Lines) (v_x13 : Int) : PS := ⟨[dd, .ref 0 0, dd, dd, dd, dd, dd, dd, dd, dd, dd, dd, dd, .d (.sl (([v_l12.fEdge, v_l12.fUp, v_l12.fMasked, v_l12.fPending]).map (eI .i64))), .d (.v (.int .i64 (([v_l12.fEdge, v_l12.fUp, v_l12.fMasked, v_l12.fPending]).length : Int))), .d (.v (.int .i64 v_x13)), dd, dd, dd, dd, dd, dd, dd, dd, dd, dd, dd, dd, dd, dd, dd, dd], [.box [.d (.v (.int .i64 v_l12.fEdge)), .d (.v (.int .i64 v_l12.fUp)), .d (.v (.int .i64 v_l12.fMasked)), .d (.v (.int .i64 v_l12.fPending))]]⟩
def G_irq_Check_L1 (n : Nat) (v_l12 : S_irq_Lines) : Nat → Int → Option G_irq_Check_L1_R
  | 0, _ => none
  | k + 1, v_x13 =>
    if v_x13 < (([v_l12.fEdge, v_l12.fUp, v_l12.fMasked, v_l12.fPending]).length : Int) then
     (getI ([v_l12.fEdge, v_l12.fUp, v_l12.fMasked, v_l12.fPending]) v_x13).bind fun (v_y15 : Int) =>
     if v_y15 < 0 then
      some (.x0 1)
     else
      if v_y15 > 255 then
       some (.x0 1)
      else
       G_irq_Check_L1 n v_l12 k (wi .i64 (v_x13 + 1))
    else
     some (.x1 )
theorem G_irq_Check_L1_ok {Fi : Ex → PS → Prop} (hF : KC 32 Fi) (ks : List Fr) (n : Nat) (v_l12 : S_irq_Lines)  : ∀ (k : Nat) (v_x13 : Int) (o : G_irq_Check_L1_R), G_irq_Check_L1 n v_l12 k v_x13 = some o → RunE Try.prog 32 Fi ks (G_irq_Check_L1_ex o) (G_irq_Check_L1_st v_l12 o) → RunE Try.prog 32 Fi (.l k (cP (cB (cR (cL (cR (bodyOf Try.f18)))))) :: ks) .normal (G_irq_Check_L1_hd v_l12 v_x13)
  | 0, v_x13, o, h, q => by rw [G_irq_Check_L1] at h; cases h
  | k + 1, v_x13, o, h, q => by
    rw [G_irq_Check_L1] at h
    by_cases h1 : v_x13 < (([v_l12.fEdge, v_l12.fUp, v_l12.fMasked, v_l12.fPending]).length : Int)
    · rw [if_pos h1] at h
      obtain ⟨v_y15, h5, h⟩ := bind_some h
      by_cases h6 : v_y15 < 0
      · rw [if_pos h6] at h
        cases h
        exact pkk_sound TTok mix hF 19 (hs := [.t true, .y ((eI .i64) v_y15), .c, .t true, .c, .c]) (ts := []) (s := []) (l := [2]) (by kernel_rfl) (by kernel_rfl) (.cons (dt h1) (.cons (getI_ob (f := (eI .i64)) h5) (.cons (dt h6) .nil))) q
      · rw [if_neg h6] at h
        by_cases h7 : v_y15 > 255
        · rw [if_pos h7] at h
          cases h
          exact pkk_sound TTok mix hF 19 (hs := [.t true, .y ((eI .i64) v_y15), .c, .t false, .c, .t true]) (ts := []) (s := []) (l := [2]) (by kernel_rfl) (by kernel_rfl) (.cons (dt h1) (.cons (getI_ob (f := (eI .i64)) h5) (.cons (df h6) (.cons (dt h7) .nil)))) q
        · rw [if_neg h7] at h
          exact pkk_sound TTok mix hF 16 (hs := [.t true, .y ((eI .i64) v_y15), .c, .t false, .c, .t false]) (ts := []) (s := [0]) (l := [1, 13, 14, 15]) (by kernel_rfl) (by kernel_rfl) (.cons (dt h1) (.cons (getI_ob (f := (eI .i64)) h5) (.cons (df h6) (.cons (df h7) .nil)))) (G_irq_Check_L1_ok hF ks n v_l12 k (wi .i64 (v_x13 + 1)) _ h q)
    · rw [if_neg h1] at h
      cases h
      exact pkk_sound TTok mix hF 8 (hs := [.t false]) (ts := []) (s := [0]) (l := [1]) (by kernel_rfl) (by kernel_rfl) (.cons (df h1) .nil) q
/- ringhall/irq.Check -/
def G_irq_Check (n : Nat) (v_l12 : S_irq_Lines) : Option (Int) :=
  (G_irq_Check_L1 n v_l12 n 0).bind fun v_o18 => match v_o18 with
  | .x0 v_z19 =>
    some v_z19
  | .x1  =>
    if (bits .andNot .i64 v_l12.fPending v_l12.fEdge) = 0 then
     some 0
    else
     some 3
theorem G_irq_Check_ok (n : Nat) (v_l12 : S_irq_Lines) (r : Int) (h : G_irq_Check n v_l12 = some r) : Ret Try.prog 18 [eS_irq_Lines v_l12] ((eI .i64) r) := by
  refine ret_run (n := 32) (fn := Try.f18) (c := bodyOf Try.f18) (by kernel_rfl) (by kernel_rfl) (by kernel_rfl) (by kernel_rfl) ?_
  have hF : KC 32 (FinR Try.prog Try.f18 ((eI .i64) r)) := FinR.kc' (by kernel_rfl)
  unfold G_irq_Check at h
  obtain ⟨v_o18, h8, h⟩ := bind_some h
  refine pkk_sound TTok mix hF 7 (hs := [.c, .c, .c, .c, .q true, .u (.d (.v (.int .i64 (([v_l12.fEdge, v_l12.fUp, v_l12.fMasked, v_l12.fPending]).length : Int)))), .n n]) (ts := []) (s := [0]) (l := [1, 13, 14, 15]) (by kernel_rfl) (by kernel_rfl) (.cons (len_ob (f := (eI .i64)) (l := [v_l12.fEdge, v_l12.fUp, v_l12.fMasked, v_l12.fPending])) .nil) (G_irq_Check_L1_ok hF (.b 0 :: .s (cR (cR (bodyOf Try.f18))) :: []) n v_l12 n 0 _ h8 ?_)
  cases v_o18 with
  | x0 v_z19 =>
    dsimp only at h
    obtain rfl := Option.some.inj h
    exact pend_sound TTok mix 2 (hs := []) (by kernel_rfl) (by kernel_rfl) (by kernel_rfl) .nil
  | x1  =>
    dsimp only at h
    by_cases h9 : (bits .andNot .i64 v_l12.fPending v_l12.fEdge) = 0
    · rw [if_pos h9] at h
      obtain rfl := Option.some.inj h
      exact pend_sound TTok mix 9 (hs := [.c, .c, .t false]) (by kernel_rfl) (by kernel_rfl) (by kernel_rfl) (.cons (nf h9) .nil)
    · rw [if_neg h9] at h
      obtain rfl := Option.some.inj h
      exact pend_sound TTok mix 9 (hs := [.c, .c, .t true]) (by kernel_rfl) (by kernel_rfl) (by kernel_rfl) (.cons (nt h9) .nil)
/- ringhall/irq.line -/
def G_irq_line (n : Nat) (v_l10 : S_irq_Lines) (v_k11 : Int) : Option (Int × Int) :=
  (G_irq_Check n v_l10).bind fun (v_r20 : (Int)) =>
  if v_r20 = 0 then
   if v_k11 < 0 then
    some (0, 1)
   else
    if v_k11 ≥ 8 then
     some (0, 1)
    else
     if 0 ≤ v_k11 then
      some ((shlI .i64 1 v_k11), 0)
     else none
  else
   some (0, v_r20)
theorem G_irq_line_ok (n : Nat) (v_l10 : S_irq_Lines) (v_k11 : Int) (r : Int × Int) (h : G_irq_line n v_l10 v_k11 = some r) : Ret Try.prog 88 [eS_irq_Lines v_l10, (eI .i64) v_k11] (.tup [(eI .i64) r.1, (eI .i64) r.2]) := by
  refine ret_run (n := 20) (fn := Try.f88) (c := bodyOf Try.f88) (by kernel_rfl) (by kernel_rfl) (by kernel_rfl) (by kernel_rfl) ?_
  have hF : KC 20 (FinR Try.prog Try.f88 (.tup [(eI .i64) r.1, (eI .i64) r.2])) := FinR.kc' (by kernel_rfl)
  unfold G_irq_line at h
  obtain ⟨v_r20, h10, h⟩ := bind_some h
  by_cases h12 : v_r20 = 0
  · rw [if_pos h12] at h
    by_cases h13 : v_k11 < 0
    · rw [if_pos h13] at h
      obtain rfl := Option.some.inj h
      exact pend_sound TTok mix 17 (hs := [.c, .r ((eI .i64) v_r20), .t false, .t true, .c, .c]) (by kernel_rfl) (by kernel_rfl) (by kernel_rfl) (.cons (G_irq_Check_ok n v_l10 _ h10) (.cons (nf h12) (.cons (dt h13) .nil)))
    · rw [if_neg h13] at h
      by_cases h14 : v_k11 ≥ 8
      · rw [if_pos h14] at h
        obtain rfl := Option.some.inj h
        exact pend_sound TTok mix 17 (hs := [.c, .r ((eI .i64) v_r20), .t false, .t false, .c, .t true]) (by kernel_rfl) (by kernel_rfl) (by kernel_rfl) (.cons (G_irq_Check_ok n v_l10 _ h10) (.cons (nf h12) (.cons (df h13) (.cons (dt h14) .nil))))
      · rw [if_neg h14] at h
        by_cases h15 : 0 ≤ v_k11
        · rw [if_pos h15] at h
          obtain rfl := Option.some.inj h
          exact pend_sound TTok mix 17 (hs := [.c, .r ((eI .i64) v_r20), .t false, .t false, .c, .t false]) (by kernel_rfl) (by kernel_rfl) (by kernel_rfl) (.cons (G_irq_Check_ok n v_l10 _ h10) (.cons (nf h12) (.cons (df h13) (.cons (df h14) (.cons h15 .nil)))))
        · rw [if_neg h15] at h; cases h
  · rw [if_neg h12] at h
    obtain rfl := Option.some.inj h
    exact pend_sound TTok mix 12 (hs := [.c, .r ((eI .i64) v_r20), .t true]) (by kernel_rfl) (by kernel_rfl) (by kernel_rfl) (.cons (G_irq_Check_ok n v_l10 _ h10) (.cons (nt h12) .nil))
/- ringhall/irq.Set -/
def G_irq_Set (n : Nat) (v_l7 : S_irq_Lines) (v_k8 : Int) (v_up9 : Bool) : Option (S_irq_Lines × Int) :=
  (G_irq_line n v_l7 v_k8).bind fun (v_r21 : (Int × Int)) =>
  if v_r21.2 = 0 then
   if v_up9 = true then
    some ((S_irq_Lines.mk v_l7.fEdge (bits .or .i64 v_l7.fUp v_r21.1) v_l7.fMasked (bits .or .i64 v_l7.fPending (bits .andNot .i64 (bits .and .i64 v_r21.1 v_l7.fEdge) v_l7.fUp))), 0)
   else
    some ((S_irq_Lines.mk v_l7.fEdge (bits .andNot .i64 v_l7.fUp v_r21.1) v_l7.fMasked v_l7.fPending), 0)
  else
   some ((S_irq_Lines.mk 0 0 0 0), v_r21.2)
theorem G_irq_Set_ok (n : Nat) (v_l7 : S_irq_Lines) (v_k8 : Int) (v_up9 : Bool) (r : S_irq_Lines × Int) (h : G_irq_Set n v_l7 v_k8 v_up9 = some r) : Ret Try.prog 13 [eS_irq_Lines v_l7, (eI .i64) v_k8, eB v_up9] (.tup [eS_irq_Lines r.1, (eI .i64) r.2]) := by
  refine ret_run (n := 43) (fn := Try.f13) (c := bodyOf Try.f13) (by kernel_rfl) (by kernel_rfl) (by kernel_rfl) (by kernel_rfl) ?_
  have hF : KC 43 (FinR Try.prog Try.f13 (.tup [eS_irq_Lines r.1, (eI .i64) r.2])) := FinR.kc' (by kernel_rfl)
  unfold G_irq_Set at h
  obtain ⟨v_r21, h16, h⟩ := bind_some h
  by_cases h18 : v_r21.2 = 0
  · rw [if_pos h18] at h
    by_cases h20 : v_up9 = true
    · rw [if_pos h20] at h
      obtain rfl := Option.some.inj h
      exact pend_sound TTok mix 19 (hs := [.c, .r (.tup [(eI .i64) v_r21.1, (eI .i64) v_r21.2]), .t false, .t true, .c, .c, .c, .c, .c, .c, .c, .c]) (by kernel_rfl) (by kernel_rfl) (by kernel_rfl) (.cons (G_irq_line_ok n v_l7 v_k8 _ h16) (.cons (nf h18) (.cons h20 (.cons (show 3 + 1 ≤ 4 by decide) (.cons (show 1 + 1 ≤ 4 by decide) (.cons (show 0 + 4 ≤ 4 by decide) .nil))))))
    · rw [if_neg h20] at h
      obtain rfl := Option.some.inj h
      exact pend_sound TTok mix 17 (hs := [.c, .r (.tup [(eI .i64) v_r21.1, (eI .i64) v_r21.2]), .t false, .t false, .c, .c, .c, .c]) (by kernel_rfl) (by kernel_rfl) (by kernel_rfl) (.cons (G_irq_line_ok n v_l7 v_k8 _ h16) (.cons (nf h18) (.cons (vf h20) (.cons (show 1 + 1 ≤ 4 by decide) (.cons (show 0 + 4 ≤ 4 by decide) .nil)))))
  · rw [if_neg h18] at h
    obtain rfl := Option.some.inj h
    exact pend_sound TTok mix 12 (hs := [.c, .r (.tup [(eI .i64) v_r21.1, (eI .i64) v_r21.2]), .t true, .c]) (by kernel_rfl) (by kernel_rfl) (by kernel_rfl) (.cons (G_irq_line_ok n v_l7 v_k8 _ h16) (.cons (nt h18) (.cons (show 0 + 4 ≤ 4 by decide) .nil)))
/- ringhall/irq.Mask -/
def G_irq_Mask (n : Nat) (v_l23 : S_irq_Lines) (v_k24 : Int) (v_on25 : Bool) : Option (S_irq_Lines × Int) :=
  (G_irq_line n v_l23 v_k24).bind fun (v_r26 : (Int × Int)) =>
  if v_r26.2 = 0 then
   if v_on25 = true then
    some ((S_irq_Lines.mk v_l23.fEdge v_l23.fUp (bits .or .i64 v_l23.fMasked v_r26.1) v_l23.fPending), 0)
   else
    some ((S_irq_Lines.mk v_l23.fEdge v_l23.fUp (bits .andNot .i64 v_l23.fMasked v_r26.1) v_l23.fPending), 0)
  else
   some ((S_irq_Lines.mk 0 0 0 0), v_r26.2)
theorem G_irq_Mask_ok (n : Nat) (v_l23 : S_irq_Lines) (v_k24 : Int) (v_on25 : Bool) (r : S_irq_Lines × Int) (h : G_irq_Mask n v_l23 v_k24 v_on25 = some r) : Ret Try.prog 14 [eS_irq_Lines v_l23, (eI .i64) v_k24, eB v_on25] (.tup [eS_irq_Lines r.1, (eI .i64) r.2]) := by
  refine ret_run (n := 32) (fn := Try.f14) (c := bodyOf Try.f14) (by kernel_rfl) (by kernel_rfl) (by kernel_rfl) (by kernel_rfl) ?_
  have hF : KC 32 (FinR Try.prog Try.f14 (.tup [eS_irq_Lines r.1, (eI .i64) r.2])) := FinR.kc' (by kernel_rfl)
  unfold G_irq_Mask at h
  obtain ⟨v_r26, h22, h⟩ := bind_some h
  by_cases h24 : v_r26.2 = 0
  · rw [if_pos h24] at h
    by_cases h26 : v_on25 = true
    · rw [if_pos h26] at h
      obtain rfl := Option.some.inj h
      exact pend_sound TTok mix 17 (hs := [.c, .r (.tup [(eI .i64) v_r26.1, (eI .i64) v_r26.2]), .t false, .t true, .c, .c, .c, .c]) (by kernel_rfl) (by kernel_rfl) (by kernel_rfl) (.cons (G_irq_line_ok n v_l23 v_k24 _ h22) (.cons (nf h24) (.cons h26 (.cons (show 2 + 1 ≤ 4 by decide) (.cons (show 0 + 4 ≤ 4 by decide) .nil)))))
    · rw [if_neg h26] at h
      obtain rfl := Option.some.inj h
      exact pend_sound TTok mix 17 (hs := [.c, .r (.tup [(eI .i64) v_r26.1, (eI .i64) v_r26.2]), .t false, .t false, .c, .c, .c, .c]) (by kernel_rfl) (by kernel_rfl) (by kernel_rfl) (.cons (G_irq_line_ok n v_l23 v_k24 _ h22) (.cons (nf h24) (.cons (vf h26) (.cons (show 2 + 1 ≤ 4 by decide) (.cons (show 0 + 4 ≤ 4 by decide) .nil)))))
  · rw [if_neg h24] at h
    obtain rfl := Option.some.inj h
    exact pend_sound TTok mix 12 (hs := [.c, .r (.tup [(eI .i64) v_r26.1, (eI .i64) v_r26.2]), .t true, .c]) (by kernel_rfl) (by kernel_rfl) (by kernel_rfl) (.cons (G_irq_line_ok n v_l23 v_k24 _ h22) (.cons (nt h24) (.cons (show 0 + 4 ≤ 4 by decide) .nil)))
inductive G_irq_Next_L1_R where
  | x0 (v_x31 : Int) (v_x32 : Int)
  | x1 
def G_irq_Next_L1_ex : G_irq_Next_L1_R → Ex
  | .x0 _ _ => .ret
  | .x1  => .exit 0
def G_irq_Next_L1_st (v_l28 : S_irq_Lines) : G_irq_Next_L1_R → PS
  | .x0 v_x31 v_x32 => ⟨[dd, dd, .d (.v (.int .i64 v_x31)), .d (.v (.int .i64 v_x32)), dd, dd, dd, dd, dd, dd, dd, dd, dd, dd, dd, dd, dd, dd, dd, dd, dd, dd, dd, dd, dd, dd, dd, dd, dd, dd, dd, dd, dd], []⟩
  | .x1  => ⟨[dd, dd, dd, dd, dd, dd, dd, dd, dd, dd, dd, dd, dd, dd, dd, dd, dd, dd, dd, dd, dd, dd, dd, dd, dd, dd, dd, dd, dd, dd, dd, dd, dd], []⟩
def G_irq_Next_L1_hd (v_l28 : S_irq_Lines) (v_x30 : Int) : PS := ⟨[dd, dd, dd, dd, dd, .d (.v (.int .i64 (bits .andNot .i64 (bits .or .i64 v_l28.fPending (bits .andNot .i64 v_l28.fUp v_l28.fEdge)) v_l28.fMasked))), dd, dd, dd, dd, dd, dd, dd, dd, dd, dd, dd, dd, dd, dd, dd, dd, dd, .d (.v (.int .i64 v_x30)), dd, dd, dd, dd, dd, dd, dd, dd, dd], []⟩
def G_irq_Next_L1 (n : Nat) (v_l28 : S_irq_Lines) : Nat → Int → Option G_irq_Next_L1_R
  | 0, _ => none
  | k + 1, v_x30 =>
    if v_x30 < 8 then
     if 0 ≤ v_x30 then
      if (bits .and .i64 (shrI .i64 (bits .andNot .i64 (bits .or .i64 v_l28.fPending (bits .andNot .i64 v_l28.fUp v_l28.fEdge)) v_l28.fMasked) v_x30) 1) = 1 then
       some (.x0 v_x30 0)
      else
       G_irq_Next_L1 n v_l28 k (wi .i64 (v_x30 + 1))
     else none
    else
     some (.x1 )
theorem G_irq_Next_L1_ok {Fi : Ex → PS → Prop} (hF : KC 33 Fi) (ks : List Fr) (n : Nat) (v_l28 : S_irq_Lines)  : ∀ (k : Nat) (v_x30 : Int) (o : G_irq_Next_L1_R), G_irq_Next_L1 n v_l28 k v_x30 = some o → RunE Try.prog 33 Fi ks (G_irq_Next_L1_ex o) (G_irq_Next_L1_st v_l28 o) → RunE Try.prog 33 Fi (.l k (cP (cB (cR (cL (cR (cR (cR (bodyOf Try.f15)))))))) :: ks) .normal (G_irq_Next_L1_hd v_l28 v_x30)
  | 0, v_x30, o, h, q => by rw [G_irq_Next_L1] at h; cases h
  | k + 1, v_x30, o, h, q => by
    rw [G_irq_Next_L1] at h
    by_cases h31 : v_x30 < 8
    · rw [if_pos h31] at h
      by_cases h35 : 0 ≤ v_x30
      · rw [if_pos h35] at h
        by_cases h37 : (bits .and .i64 (shrI .i64 (bits .andNot .i64 (bits .or .i64 v_l28.fPending (bits .andNot .i64 v_l28.fUp v_l28.fEdge)) v_l28.fMasked) v_x30) 1) = 1
        · rw [if_pos h37] at h
          cases h
          exact pkk_sound TTok mix hF 19 (hs := [.t true, .t true]) (ts := []) (s := []) (l := [2, 3]) (by kernel_rfl) (by kernel_rfl) (.cons (dt h31) (.cons h35 (.cons (bt h37) .nil))) q
        · rw [if_neg h37] at h
          exact pkk_sound TTok mix hF 16 (hs := [.t true, .t false]) (ts := []) (s := []) (l := [5, 23]) (by kernel_rfl) (by kernel_rfl) (.cons (dt h31) (.cons h35 (.cons (bf h37) .nil))) (G_irq_Next_L1_ok hF ks n v_l28 k (wi .i64 (v_x30 + 1)) _ h q)
      · rw [if_neg h35] at h; cases h
    · rw [if_neg h31] at h
      cases h
      exact pkk_sound TTok mix hF 8 (hs := [.t false]) (ts := []) (s := []) (l := []) (by kernel_rfl) (by kernel_rfl) (.cons (df h31) .nil) q
/- ringhall/irq.Next -/
def G_irq_Next (n : Nat) (v_l28 : S_irq_Lines) : Option (Int × Int) :=
  (G_irq_Check n v_l28).bind fun (v_r29 : (Int)) =>
  if v_r29 = 0 then
   (G_irq_Next_L1 n v_l28 n 0).bind fun v_o33 => match v_o33 with
   | .x0 v_z34 v_z35 =>
     some (v_z34, v_z35)
   | .x1  =>
     some (0, 4)
  else
   some (0, v_r29)
theorem G_irq_Next_ok (n : Nat) (v_l28 : S_irq_Lines) (r : Int × Int) (h : G_irq_Next n v_l28 = some r) : Ret Try.prog 15 [eS_irq_Lines v_l28] (.tup [(eI .i64) r.1, (eI .i64) r.2]) := by
  refine ret_run (n := 33) (fn := Try.f15) (c := bodyOf Try.f15) (by kernel_rfl) (by kernel_rfl) (by kernel_rfl) (by kernel_rfl) ?_
  have hF : KC 33 (FinR Try.prog Try.f15 (.tup [(eI .i64) r.1, (eI .i64) r.2])) := FinR.kc' (by kernel_rfl)
  unfold G_irq_Next at h
  obtain ⟨v_r29, h28, h⟩ := bind_some h
  by_cases h30 : v_r29 = 0
  · rw [if_pos h30] at h
    obtain ⟨v_o33, h38, h⟩ := bind_some h
    refine pkk_sound TTok mix hF 16 (hs := [.c, .r ((eI .i64) v_r29), .t false, .c, .c, .c, .c, .n n]) (ts := []) (s := []) (l := [5, 23]) (by kernel_rfl) (by kernel_rfl) (.cons (G_irq_Check_ok n v_l28 _ h28) (.cons (nf h30) .nil)) (G_irq_Next_L1_ok hF (.b 0 :: .s (cR (cR (cR (cR (bodyOf Try.f15))))) :: []) n v_l28 n 0 _ h38 ?_)
    cases v_o33 with
    | x0 v_z34 v_z35 =>
      dsimp only at h
      obtain rfl := Option.some.inj h
      exact pend_sound TTok mix 2 (hs := []) (by kernel_rfl) (by kernel_rfl) (by kernel_rfl) .nil
    | x1  =>
      dsimp only at h
      obtain rfl := Option.some.inj h
      exact pend_sound TTok mix 4 (hs := []) (by kernel_rfl) (by kernel_rfl) (by kernel_rfl) .nil
  · rw [if_neg h30] at h
    obtain rfl := Option.some.inj h
    exact pend_sound TTok mix 12 (hs := [.c, .r ((eI .i64) v_r29), .t true]) (by kernel_rfl) (by kernel_rfl) (by kernel_rfl) (.cons (G_irq_Check_ok n v_l28 _ h28) (.cons (nt h30) .nil))
/- ringhall/irq.Take -/
def G_irq_Take (n : Nat) (v_l37 : S_irq_Lines) : Option (S_irq_Lines × Int × Int) :=
  (G_irq_Next n v_l37).bind fun (v_r38 : (Int × Int)) =>
  if v_r38.2 = 0 then
   if 0 ≤ v_r38.1 then
    some ((S_irq_Lines.mk v_l37.fEdge v_l37.fUp v_l37.fMasked (bits .andNot .i64 v_l37.fPending (shlI .i64 1 v_r38.1))), v_r38.1, 0)
   else none
  else
   some ((S_irq_Lines.mk 0 0 0 0), 0, v_r38.2)
theorem G_irq_Take_ok (n : Nat) (v_l37 : S_irq_Lines) (r : S_irq_Lines × Int × Int) (h : G_irq_Take n v_l37 = some r) : Ret Try.prog 16 [eS_irq_Lines v_l37] (.tup [eS_irq_Lines r.1, (eI .i64) r.2.1, (eI .i64) r.2.2]) := by
  refine ret_run (n := 24) (fn := Try.f16) (c := bodyOf Try.f16) (by kernel_rfl) (by kernel_rfl) (by kernel_rfl) (by kernel_rfl) ?_
  have hF : KC 24 (FinR Try.prog Try.f16 (.tup [eS_irq_Lines r.1, (eI .i64) r.2.1, (eI .i64) r.2.2])) := FinR.kc' (by kernel_rfl)
  unfold G_irq_Take at h
  obtain ⟨v_r38, h40, h⟩ := bind_some h
  by_cases h42 : v_r38.2 = 0
  · rw [if_pos h42] at h
    by_cases h43 : 0 ≤ v_r38.1
    · rw [if_pos h43] at h
      obtain rfl := Option.some.inj h
      exact pend_sound TTok mix 14 (hs := [.c, .r (.tup [(eI .i64) v_r38.1, (eI .i64) v_r38.2]), .t false, .c, .c, .c, .c]) (by kernel_rfl) (by kernel_rfl) (by kernel_rfl) (.cons (G_irq_Next_ok n v_l37 _ h40) (.cons (nf h42) (.cons h43 (.cons (show 3 + 1 ≤ 4 by decide) (.cons (show 0 + 4 ≤ 4 by decide) .nil)))))
    · rw [if_neg h43] at h; cases h
  · rw [if_neg h42] at h
    obtain rfl := Option.some.inj h
    exact pend_sound TTok mix 12 (hs := [.c, .r (.tup [(eI .i64) v_r38.1, (eI .i64) v_r38.2]), .t true, .c]) (by kernel_rfl) (by kernel_rfl) (by kernel_rfl) (.cons (G_irq_Next_ok n v_l37 _ h40) (.cons (nt h42) (.cons (show 0 + 4 ≤ 4 by decide) .nil)))
inductive G_ringref5_LinesErr_L1_R where
  | x0 (v_x47 : Int)
  | x1 
def G_ringref5_LinesErr_L1_ex : G_ringref5_LinesErr_L1_R → Ex
  | .x0 _ => .ret
  | .x1  => .exit 0
def G_ringref5_LinesErr_L1_st (v_edge40 : Int) (v_pending43 : Int) (v_up41 : Int) (v_masked42 : Int) : G_ringref5_LinesErr_L1_R → PS
  | .x0 v_x47 => ⟨[dd, dd, dd, dd, dd, dd, dd, dd, .d (.v (.int .i64 v_x47)), dd, dd, dd, dd, dd, dd, dd, dd, dd, dd, dd, dd, dd, dd, dd, dd, dd, dd, dd, dd, dd, dd, dd, dd, dd, dd, dd, dd, dd, dd, dd, dd, dd], []⟩
  | .x1  => ⟨[.d (.v (.int .i64 v_edge40)), dd, dd, .d (.v (.int .i64 v_pending43)), dd, dd, dd, dd, dd, dd, dd, dd, dd, dd, dd, dd, dd, dd, dd, dd, dd, dd, dd, dd, dd, dd, dd, dd, dd, dd, dd, dd, dd, dd, dd, dd, dd, dd, dd, dd, dd, dd], []⟩
def G_ringref5_LinesErr_L1_hd (v_edge40 : Int) (v_pending43 : Int) (v_up41 : Int) (v_masked42 : Int) (v_x44 : Int) : PS := ⟨[.d (.v (.int .i64 v_edge40)), dd, dd, .d (.v (.int .i64 v_pending43)), dd, dd, dd, dd, dd, dd, dd, dd, dd, dd, dd, dd, .d (.sl (([v_edge40, v_up41, v_masked42, v_pending43]).map (eI .i64))), .d (.v (.int .i64 (([v_edge40, v_up41, v_masked42, v_pending43]).length : Int))), .d (.v (.int .i64 v_x44)), dd, dd, dd, dd, dd, dd, dd, dd, dd, dd, dd, dd, dd, dd, dd, dd, dd, dd, dd, dd, dd, dd, dd], []⟩
def G_ringref5_LinesErr_L1 (n : Nat) (v_edge40 : Int) (v_pending43 : Int) (v_up41 : Int) (v_masked42 : Int) : Nat → Int → Option G_ringref5_LinesErr_L1_R
  | 0, _ => none
  | k + 1, v_x44 =>
    if v_x44 < (([v_edge40, v_up41, v_masked42, v_pending43]).length : Int) then
     (getI ([v_edge40, v_up41, v_masked42, v_pending43]) v_x44).bind fun (v_y46 : Int) =>
     if v_y46 < 0 then
      some (.x0 1)
     else
      if v_y46 > 255 then
       some (.x0 1)
      else
       G_ringref5_LinesErr_L1 n v_edge40 v_pending43 v_up41 v_masked42 k (wi .i64 (v_x44 + 1))
    else
     some (.x1 )
theorem G_ringref5_LinesErr_L1_ok {Fi : Ex → PS → Prop} (hF : KC 42 Fi) (ks : List Fr) (n : Nat) (v_edge40 : Int) (v_pending43 : Int) (v_up41 : Int) (v_masked42 : Int)  : ∀ (k : Nat) (v_x44 : Int) (o : G_ringref5_LinesErr_L1_R), G_ringref5_LinesErr_L1 n v_edge40 v_pending43 v_up41 v_masked42 k v_x44 = some o → RunE Try.prog 42 Fi ks (G_ringref5_LinesErr_L1_ex o) (G_ringref5_LinesErr_L1_st v_edge40 v_pending43 v_up41 v_masked42 o) → RunE Try.prog 42 Fi (.l k (cP (cB (cR (cL (cR (bodyOf Try.f17)))))) :: ks) .normal (G_ringref5_LinesErr_L1_hd v_edge40 v_pending43 v_up41 v_masked42 v_x44)
  | 0, v_x44, o, h, q => by rw [G_ringref5_LinesErr_L1] at h; cases h
  | k + 1, v_x44, o, h, q => by
    rw [G_ringref5_LinesErr_L1] at h
    by_cases h45 : v_x44 < (([v_edge40, v_up41, v_masked42, v_pending43]).length : Int)
    · rw [if_pos h45] at h
      obtain ⟨v_y46, h49, h⟩ := bind_some h
      by_cases h50 : v_y46 < 0
      · rw [if_pos h50] at h
        cases h
        exact pkk_sound TTok mix hF 19 (hs := [.t true, .y ((eI .i64) v_y46), .c, .t true, .c, .c]) (ts := []) (s := []) (l := [8]) (by kernel_rfl) (by kernel_rfl) (.cons (dt h45) (.cons (getI_ob (f := (eI .i64)) h49) (.cons (dt h50) .nil))) q
      · rw [if_neg h50] at h
        by_cases h51 : v_y46 > 255
        · rw [if_pos h51] at h
          cases h
          exact pkk_sound TTok mix hF 19 (hs := [.t true, .y ((eI .i64) v_y46), .c, .t false, .c, .t true]) (ts := []) (s := []) (l := [8]) (by kernel_rfl) (by kernel_rfl) (.cons (dt h45) (.cons (getI_ob (f := (eI .i64)) h49) (.cons (df h50) (.cons (dt h51) .nil)))) q
        · rw [if_neg h51] at h
          exact pkk_sound TTok mix hF 16 (hs := [.t true, .y ((eI .i64) v_y46), .c, .t false, .c, .t false]) (ts := []) (s := []) (l := [0, 3, 16, 17, 18]) (by kernel_rfl) (by kernel_rfl) (.cons (dt h45) (.cons (getI_ob (f := (eI .i64)) h49) (.cons (df h50) (.cons (df h51) .nil)))) (G_ringref5_LinesErr_L1_ok hF ks n v_edge40 v_pending43 v_up41 v_masked42 k (wi .i64 (v_x44 + 1)) _ h q)
    · rw [if_neg h45] at h
      cases h
      exact pkk_sound TTok mix hF 8 (hs := [.t false]) (ts := []) (s := []) (l := [0, 3]) (by kernel_rfl) (by kernel_rfl) (.cons (df h45) .nil) q
inductive G_ringref5_LinesErr_L2_R where
  | x0 (v_x52 : Int)
  | x1 
def G_ringref5_LinesErr_L2_ex : G_ringref5_LinesErr_L2_R → Ex
  | .x0 _ => .ret
  | .x1  => .exit 2
def G_ringref5_LinesErr_L2_st (v_edge40 : Int) (v_pending43 : Int) : G_ringref5_LinesErr_L2_R → PS
  | .x0 v_x52 => ⟨[dd, dd, dd, dd, dd, dd, dd, dd, .d (.v (.int .i64 v_x52)), dd, dd, dd, dd, dd, dd, dd, dd, dd, dd, dd, dd, dd, dd, dd, dd, dd, dd, dd, dd, dd, dd, dd, dd, dd, dd, dd, dd, dd, dd, dd, dd, dd], []⟩
  | .x1  => ⟨[dd, dd, dd, dd, dd, dd, dd, dd, dd, dd, dd, dd, dd, dd, dd, dd, dd, dd, dd, dd, dd, dd, dd, dd, dd, dd, dd, dd, dd, dd, dd, dd, dd, dd, dd, dd, dd, dd, dd, dd, dd, dd], []⟩
def G_ringref5_LinesErr_L2_hd (v_edge40 : Int) (v_pending43 : Int) (v_x51 : Int) : PS := ⟨[.d (.v (.int .i64 v_edge40)), dd, dd, .d (.v (.int .i64 v_pending43)), dd, dd, dd, dd, dd, dd, dd, dd, dd, dd, dd, dd, dd, dd, dd, dd, dd, dd, dd, dd, dd, dd, dd, dd, dd, .d (.v (.int .i64 v_x51)), dd, dd, dd, dd, dd, dd, dd, dd, dd, dd, dd, dd], []⟩
def G_ringref5_LinesErr_L2 (n : Nat) (v_edge40 : Int) (v_pending43 : Int) : Nat → Int → Option G_ringref5_LinesErr_L2_R
  | 0, _ => none
  | k + 1, v_x51 =>
    if v_x51 < 8 then
     if 0 ≤ v_x51 then
      if 0 ≤ v_x51 then
       if (bits .and .i64 (shrI .i64 v_pending43 v_x51) 1) > (bits .and .i64 (shrI .i64 v_edge40 v_x51) 1) then
        some (.x0 3)
       else
        G_ringref5_LinesErr_L2 n v_edge40 v_pending43 k (wi .i64 (v_x51 + 1))
      else none
     else none
    else
     some (.x1 )
theorem G_ringref5_LinesErr_L2_ok {Fi : Ex → PS → Prop} (hF : KC 42 Fi) (ks : List Fr) (n : Nat) (v_edge40 : Int) (v_pending43 : Int)  : ∀ (k : Nat) (v_x51 : Int) (o : G_ringref5_LinesErr_L2_R), G_ringref5_LinesErr_L2 n v_edge40 v_pending43 k v_x51 = some o → RunE Try.prog 42 Fi ks (G_ringref5_LinesErr_L2_ex o) (G_ringref5_LinesErr_L2_st v_edge40 v_pending43 o) → RunE Try.prog 42 Fi (.l k (cP (cB (cR (cL (cR (cR (bodyOf Try.f17))))))) :: ks) .normal (G_ringref5_LinesErr_L2_hd v_edge40 v_pending43 v_x51)
  | 0, v_x51, o, h, q => by rw [G_ringref5_LinesErr_L2] at h; cases h
  | k + 1, v_x51, o, h, q => by
    rw [G_ringref5_LinesErr_L2] at h
    by_cases h53 : v_x51 < 8
    · rw [if_pos h53] at h
      by_cases h57 : 0 ≤ v_x51
      · rw [if_pos h57] at h
        by_cases h58 : 0 ≤ v_x51
        · rw [if_pos h58] at h
          by_cases h59 : (bits .and .i64 (shrI .i64 v_pending43 v_x51) 1) > (bits .and .i64 (shrI .i64 v_edge40 v_x51) 1)
          · rw [if_pos h59] at h
            cases h
            exact pkk_sound TTok mix hF 19 (hs := [.t true, .t true]) (ts := []) (s := []) (l := [8]) (by kernel_rfl) (by kernel_rfl) (.cons (dt h53) (.cons h57 (.cons h58 (.cons (dt h59) .nil)))) q
          · rw [if_neg h59] at h
            exact pkk_sound TTok mix hF 16 (hs := [.t true, .t false]) (ts := []) (s := []) (l := [0, 3, 29]) (by kernel_rfl) (by kernel_rfl) (.cons (dt h53) (.cons h57 (.cons h58 (.cons (df h59) .nil)))) (G_ringref5_LinesErr_L2_ok hF ks n v_edge40 v_pending43 k (wi .i64 (v_x51 + 1)) _ h q)
        · rw [if_neg h58] at h; cases h
      · rw [if_neg h57] at h; cases h
    · rw [if_neg h53] at h
      cases h
      exact pkk_sound TTok mix hF 8 (hs := [.t false]) (ts := []) (s := []) (l := []) (by kernel_rfl) (by kernel_rfl) (.cons (df h53) .nil) q
/- ringhall/ringref5.LinesErr -/
def G_ringref5_LinesErr (n : Nat) (v_edge40 : Int) (v_up41 : Int) (v_masked42 : Int) (v_pending43 : Int) : Option (Int) :=
  (G_ringref5_LinesErr_L1 n v_edge40 v_pending43 v_up41 v_masked42 n 0).bind fun v_o49 => match v_o49 with
  | .x0 v_z50 =>
    some v_z50
  | .x1  =>
    (G_ringref5_LinesErr_L2 n v_edge40 v_pending43 n 0).bind fun v_o53 => match v_o53 with
    | .x0 v_z54 =>
      some v_z54
    | .x1  =>
      some 0
theorem G_ringref5_LinesErr_ok (n : Nat) (v_edge40 : Int) (v_up41 : Int) (v_masked42 : Int) (v_pending43 : Int) (r : Int) (h : G_ringref5_LinesErr n v_edge40 v_up41 v_masked42 v_pending43 = some r) : Ret Try.prog 17 [(eI .i64) v_edge40, (eI .i64) v_up41, (eI .i64) v_masked42, (eI .i64) v_pending43] ((eI .i64) r) := by
  refine ret_run (n := 42) (fn := Try.f17) (c := bodyOf Try.f17) (by kernel_rfl) (by kernel_rfl) (by kernel_rfl) (by kernel_rfl) ?_
  have hF : KC 42 (FinR Try.prog Try.f17 ((eI .i64) r)) := FinR.kc' (by kernel_rfl)
  unfold G_ringref5_LinesErr at h
  obtain ⟨v_o49, h52, h⟩ := bind_some h
  refine pkk_sound TTok mix hF 7 (hs := [.q true, .u (.d (.v (.int .i64 (([v_edge40, v_up41, v_masked42, v_pending43]).length : Int)))), .n n]) (ts := []) (s := []) (l := [0, 3, 16, 17, 18]) (by kernel_rfl) (by kernel_rfl) (.cons (len_ob (f := (eI .i64)) (l := [v_edge40, v_up41, v_masked42, v_pending43])) .nil) (G_ringref5_LinesErr_L1_ok hF (.b 0 :: .s (cR (cR (bodyOf Try.f17))) :: []) n v_edge40 v_pending43 v_up41 v_masked42 n 0 _ h52 ?_)
  cases v_o49 with
  | x0 v_z50 =>
    dsimp only at h
    obtain rfl := Option.some.inj h
    exact pend_sound TTok mix 2 (hs := []) (by kernel_rfl) (by kernel_rfl) (by kernel_rfl) .nil
  | x1  =>
    dsimp only at h
    obtain ⟨v_o53, h60, h⟩ := bind_some h
    refine pkk_sound TTok mix hF 6 (hs := [.n n]) (ts := []) (s := []) (l := [0, 3, 29]) (by kernel_rfl) (by kernel_rfl) .nil (G_ringref5_LinesErr_L2_ok hF (.b 2 :: .s (cR (cR (cR (bodyOf Try.f17)))) :: []) n v_edge40 v_pending43 n 0 _ h60 ?_)
    cases v_o53 with
    | x0 v_z54 =>
      dsimp only at h
      obtain rfl := Option.some.inj h
      exact pend_sound TTok mix 2 (hs := []) (by kernel_rfl) (by kernel_rfl) (by kernel_rfl) .nil
    | x1  =>
      dsimp only at h
      obtain rfl := Option.some.inj h
      exact pend_sound TTok mix 4 (hs := []) (by kernel_rfl) (by kernel_rfl) (by kernel_rfl) .nil
inductive G_ringref5_Split_L1_R where
  | x0 (v_b90 : (Fin 8 → S_ringref5_Line))
def G_ringref5_Split_L1_ex : G_ringref5_Split_L1_R → Ex
  | .x0 _ => .exit 0
def G_ringref5_Split_L1_st (v_edge79 : Int) (v_up80 : Int) (v_masked81 : Int) (v_pending82 : Int) : G_ringref5_Split_L1_R → PS
  | .x0 v_b90 => ⟨[dd, dd, dd, dd, dd, dd, dd, dd, .ref 0 0, .ref 1 0, dd, dd, dd, dd, dd, dd, dd, dd, dd, dd, dd, dd, dd, dd, dd, dd, dd, dd, dd, dd, dd, dd, dd, dd, dd, dd, dd, dd, dd], [.box [.d (.v (.bool false)), .d (.v (.bool false)), .d (.v (.bool false)), .d (.v (.bool false)), .d (.v (.bool false)), .d (.v (.bool false)), .d (.v (.bool false)), .d (.v (.bool false)), .d (.v (.bool false)), .d (.v (.bool false)), .d (.v (.bool false)), .d (.v (.bool false)), .d (.v (.bool false)), .d (.v (.bool false)), .d (.v (.bool false)), .d (.v (.bool false)), .d (.v (.bool false)), .d (.v (.bool false)), .d (.v (.bool false)), .d (.v (.bool false)), .d (.v (.bool false)), .d (.v (.bool false)), .d (.v (.bool false)), .d (.v (.bool false)), .d (.v (.bool false)), .d (.v (.bool false)), .d (.v (.bool false)), .d (.v (.bool false)), .d (.v (.bool false)), .d (.v (.bool false)), .d (.v (.bool false)), .d (.v (.bool false))], .box [.d (.v (.bool ((v_b90 0).fEdge))), .d (.v (.bool ((v_b90 0).fUp))), .d (.v (.bool ((v_b90 0).fMasked))), .d (.v (.bool ((v_b90 0).fPending))), .d (.v (.bool ((v_b90 1).fEdge))), .d (.v (.bool ((v_b90 1).fUp))), .d (.v (.bool ((v_b90 1).fMasked))), .d (.v (.bool ((v_b90 1).fPending))), .d (.v (.bool ((v_b90 2).fEdge))), .d (.v (.bool ((v_b90 2).fUp))), .d (.v (.bool ((v_b90 2).fMasked))), .d (.v (.bool ((v_b90 2).fPending))), .d (.v (.bool ((v_b90 3).fEdge))), .d (.v (.bool ((v_b90 3).fUp))), .d (.v (.bool ((v_b90 3).fMasked))), .d (.v (.bool ((v_b90 3).fPending))), .d (.v (.bool ((v_b90 4).fEdge))), .d (.v (.bool ((v_b90 4).fUp))), .d (.v (.bool ((v_b90 4).fMasked))), .d (.v (.bool ((v_b90 4).fPending))), .d (.v (.bool ((v_b90 5).fEdge))), .d (.v (.bool ((v_b90 5).fUp))), .d (.v (.bool ((v_b90 5).fMasked))), .d (.v (.bool ((v_b90 5).fPending))), .d (.v (.bool ((v_b90 6).fEdge))), .d (.v (.bool ((v_b90 6).fUp))), .d (.v (.bool ((v_b90 6).fMasked))), .d (.v (.bool ((v_b90 6).fPending))), .d (.v (.bool ((v_b90 7).fEdge))), .d (.v (.bool ((v_b90 7).fUp))), .d (.v (.bool ((v_b90 7).fMasked))), .d (.v (.bool ((v_b90 7).fPending)))]]⟩
def G_ringref5_Split_L1_hd (v_edge79 : Int) (v_up80 : Int) (v_masked81 : Int) (v_pending82 : Int) (v_x86 : Int) (v_b87 : (Fin 8 → S_ringref5_Line)) : PS := ⟨[.d (.v (.int .i64 v_edge79)), .d (.v (.int .i64 v_up80)), .d (.v (.int .i64 v_masked81)), .d (.v (.int .i64 v_pending82)), dd, dd, dd, dd, .ref 0 0, .ref 1 0, dd, .d (.v (.int .i64 v_x86)), dd, dd, dd, dd, dd, dd, dd, dd, dd, dd, dd, dd, dd, dd, dd, dd, dd, dd, dd, dd, dd, dd, dd, dd, dd, dd, dd], [.box [.d (.v (.bool false)), .d (.v (.bool false)), .d (.v (.bool false)), .d (.v (.bool false)), .d (.v (.bool false)), .d (.v (.bool false)), .d (.v (.bool false)), .d (.v (.bool false)), .d (.v (.bool false)), .d (.v (.bool false)), .d (.v (.bool false)), .d (.v (.bool false)), .d (.v (.bool false)), .d (.v (.bool false)), .d (.v (.bool false)), .d (.v (.bool false)), .d (.v (.bool false)), .d (.v (.bool false)), .d (.v (.bool false)), .d (.v (.bool false)), .d (.v (.bool false)), .d (.v (.bool false)), .d (.v (.bool false)), .d (.v (.bool false)), .d (.v (.bool false)), .d (.v (.bool false)), .d (.v (.bool false)), .d (.v (.bool false)), .d (.v (.bool false)), .d (.v (.bool false)), .d (.v (.bool false)), .d (.v (.bool false))], .box [.d (.v (.bool ((v_b87 0).fEdge))), .d (.v (.bool ((v_b87 0).fUp))), .d (.v (.bool ((v_b87 0).fMasked))), .d (.v (.bool ((v_b87 0).fPending))), .d (.v (.bool ((v_b87 1).fEdge))), .d (.v (.bool ((v_b87 1).fUp))), .d (.v (.bool ((v_b87 1).fMasked))), .d (.v (.bool ((v_b87 1).fPending))), .d (.v (.bool ((v_b87 2).fEdge))), .d (.v (.bool ((v_b87 2).fUp))), .d (.v (.bool ((v_b87 2).fMasked))), .d (.v (.bool ((v_b87 2).fPending))), .d (.v (.bool ((v_b87 3).fEdge))), .d (.v (.bool ((v_b87 3).fUp))), .d (.v (.bool ((v_b87 3).fMasked))), .d (.v (.bool ((v_b87 3).fPending))), .d (.v (.bool ((v_b87 4).fEdge))), .d (.v (.bool ((v_b87 4).fUp))), .d (.v (.bool ((v_b87 4).fMasked))), .d (.v (.bool ((v_b87 4).fPending))), .d (.v (.bool ((v_b87 5).fEdge))), .d (.v (.bool ((v_b87 5).fUp))), .d (.v (.bool ((v_b87 5).fMasked))), .d (.v (.bool ((v_b87 5).fPending))), .d (.v (.bool ((v_b87 6).fEdge))), .d (.v (.bool ((v_b87 6).fUp))), .d (.v (.bool ((v_b87 6).fMasked))), .d (.v (.bool ((v_b87 6).fPending))), .d (.v (.bool ((v_b87 7).fEdge))), .d (.v (.bool ((v_b87 7).fUp))), .d (.v (.bool ((v_b87 7).fMasked))), .d (.v (.bool ((v_b87 7).fPending)))]]⟩
def G_ringref5_Split_L1 (n : Nat) (v_edge79 : Int) (v_up80 : Int) (v_masked81 : Int) (v_pending82 : Int) : Nat → Int → (Fin 8 → S_ringref5_Line) → Option G_ringref5_Split_L1_R
  | 0, _, _ => none
  | k + 1, v_x86, v_b87 =>
    if v_x86 < 8 then
     if 0 ≤ v_x86 then
      if 0 ≤ v_x86 then
       if 0 ≤ v_x86 then
        if 0 ≤ v_x86 then
         if 0 ≤ v_x86 ∧ v_x86 < (8 : Int) then
          (getA v_b87 v_x86).bind fun (v_y89 : S_ringref5_Line) =>
          G_ringref5_Split_L1 n v_edge79 v_up80 v_masked81 v_pending82 k (wi .i64 (v_x86 + 1)) (setA v_b87 v_x86 (S_ringref5_Line.mk ((bits .and .i64 (shrI .i64 v_edge79 v_x86) 1) == 1) ((bits .and .i64 (shrI .i64 v_up80 v_x86) 1) == 1) ((bits .and .i64 (shrI .i64 v_masked81 v_x86) 1) == 1) ((bits .and .i64 (shrI .i64 v_pending82 v_x86) 1) == 1)))
         else none
        else none
       else none
      else none
     else none
    else
     some (.x0 v_b87)
theorem G_ringref5_Split_L1_ok {Fi : Ex → PS → Prop} (hF : KC 39 Fi) (ks : List Fr) (n : Nat) (v_edge79 : Int) (v_up80 : Int) (v_masked81 : Int) (v_pending82 : Int)  : ∀ (k : Nat) (v_x86 : Int) (v_b87 : (Fin 8 → S_ringref5_Line)) (o : G_ringref5_Split_L1_R), G_ringref5_Split_L1 n v_edge79 v_up80 v_masked81 v_pending82 k v_x86 v_b87 = some o → RunE Try.prog 39 Fi ks (G_ringref5_Split_L1_ex o) (G_ringref5_Split_L1_st v_edge79 v_up80 v_masked81 v_pending82 o) → RunE Try.prog 39 Fi (.l k (cP (cB (cR (cL (cR (cR (bodyOf Try.f19))))))) :: ks) .normal (G_ringref5_Split_L1_hd v_edge79 v_up80 v_masked81 v_pending82 v_x86 v_b87)
  | 0, v_x86, v_b87, o, h, q => by rw [G_ringref5_Split_L1] at h; cases h
  | k + 1, v_x86, v_b87, o, h, q => by
    rw [G_ringref5_Split_L1] at h
    by_cases h113 : v_x86 < 8
    · rw [if_pos h113] at h
      by_cases h120 : 0 ≤ v_x86
      · rw [if_pos h120] at h
        by_cases h121 : 0 ≤ v_x86
        · rw [if_pos h121] at h
          by_cases h122 : 0 ≤ v_x86
          · rw [if_pos h122] at h
            by_cases h123 : 0 ≤ v_x86
            · rw [if_pos h123] at h
              by_cases h124 : 0 ≤ v_x86 ∧ v_x86 < (8 : Int)
              · rw [if_pos h124] at h
                obtain ⟨v_y89, h125, h⟩ := bind_some h
                exact pkk_sound TTok mix hF 13 (hs := [.t true, .x [.d (.v (.bool (((setA v_b87 v_x86 (S_ringref5_Line.mk ((bits .and .i64 (shrI .i64 v_edge79 v_x86) 1) == 1) ((bits .and .i64 (shrI .i64 v_up80 v_x86) 1) == 1) ((bits .and .i64 (shrI .i64 v_masked81 v_x86) 1) == 1) ((bits .and .i64 (shrI .i64 v_pending82 v_x86) 1) == 1))) 0).fEdge))), .d (.v (.bool (((setA v_b87 v_x86 (S_ringref5_Line.mk ((bits .and .i64 (shrI .i64 v_edge79 v_x86) 1) == 1) ((bits .and .i64 (shrI .i64 v_up80 v_x86) 1) == 1) ((bits .and .i64 (shrI .i64 v_masked81 v_x86) 1) == 1) ((bits .and .i64 (shrI .i64 v_pending82 v_x86) 1) == 1))) 0).fUp))), .d (.v (.bool (((setA v_b87 v_x86 (S_ringref5_Line.mk ((bits .and .i64 (shrI .i64 v_edge79 v_x86) 1) == 1) ((bits .and .i64 (shrI .i64 v_up80 v_x86) 1) == 1) ((bits .and .i64 (shrI .i64 v_masked81 v_x86) 1) == 1) ((bits .and .i64 (shrI .i64 v_pending82 v_x86) 1) == 1))) 0).fMasked))), .d (.v (.bool (((setA v_b87 v_x86 (S_ringref5_Line.mk ((bits .and .i64 (shrI .i64 v_edge79 v_x86) 1) == 1) ((bits .and .i64 (shrI .i64 v_up80 v_x86) 1) == 1) ((bits .and .i64 (shrI .i64 v_masked81 v_x86) 1) == 1) ((bits .and .i64 (shrI .i64 v_pending82 v_x86) 1) == 1))) 0).fPending))), .d (.v (.bool (((setA v_b87 v_x86 (S_ringref5_Line.mk ((bits .and .i64 (shrI .i64 v_edge79 v_x86) 1) == 1) ((bits .and .i64 (shrI .i64 v_up80 v_x86) 1) == 1) ((bits .and .i64 (shrI .i64 v_masked81 v_x86) 1) == 1) ((bits .and .i64 (shrI .i64 v_pending82 v_x86) 1) == 1))) 1).fEdge))), .d (.v (.bool (((setA v_b87 v_x86 (S_ringref5_Line.mk ((bits .and .i64 (shrI .i64 v_edge79 v_x86) 1) == 1) ((bits .and .i64 (shrI .i64 v_up80 v_x86) 1) == 1) ((bits .and .i64 (shrI .i64 v_masked81 v_x86) 1) == 1) ((bits .and .i64 (shrI .i64 v_pending82 v_x86) 1) == 1))) 1).fUp))), .d (.v (.bool (((setA v_b87 v_x86 (S_ringref5_Line.mk ((bits .and .i64 (shrI .i64 v_edge79 v_x86) 1) == 1) ((bits .and .i64 (shrI .i64 v_up80 v_x86) 1) == 1) ((bits .and .i64 (shrI .i64 v_masked81 v_x86) 1) == 1) ((bits .and .i64 (shrI .i64 v_pending82 v_x86) 1) == 1))) 1).fMasked))), .d (.v (.bool (((setA v_b87 v_x86 (S_ringref5_Line.mk ((bits .and .i64 (shrI .i64 v_edge79 v_x86) 1) == 1) ((bits .and .i64 (shrI .i64 v_up80 v_x86) 1) == 1) ((bits .and .i64 (shrI .i64 v_masked81 v_x86) 1) == 1) ((bits .and .i64 (shrI .i64 v_pending82 v_x86) 1) == 1))) 1).fPending))), .d (.v (.bool (((setA v_b87 v_x86 (S_ringref5_Line.mk ((bits .and .i64 (shrI .i64 v_edge79 v_x86) 1) == 1) ((bits .and .i64 (shrI .i64 v_up80 v_x86) 1) == 1) ((bits .and .i64 (shrI .i64 v_masked81 v_x86) 1) == 1) ((bits .and .i64 (shrI .i64 v_pending82 v_x86) 1) == 1))) 2).fEdge))), .d (.v (.bool (((setA v_b87 v_x86 (S_ringref5_Line.mk ((bits .and .i64 (shrI .i64 v_edge79 v_x86) 1) == 1) ((bits .and .i64 (shrI .i64 v_up80 v_x86) 1) == 1) ((bits .and .i64 (shrI .i64 v_masked81 v_x86) 1) == 1) ((bits .and .i64 (shrI .i64 v_pending82 v_x86) 1) == 1))) 2).fUp))), .d (.v (.bool (((setA v_b87 v_x86 (S_ringref5_Line.mk ((bits .and .i64 (shrI .i64 v_edge79 v_x86) 1) == 1) ((bits .and .i64 (shrI .i64 v_up80 v_x86) 1) == 1) ((bits .and .i64 (shrI .i64 v_masked81 v_x86) 1) == 1) ((bits .and .i64 (shrI .i64 v_pending82 v_x86) 1) == 1))) 2).fMasked))), .d (.v (.bool (((setA v_b87 v_x86 (S_ringref5_Line.mk ((bits .and .i64 (shrI .i64 v_edge79 v_x86) 1) == 1) ((bits .and .i64 (shrI .i64 v_up80 v_x86) 1) == 1) ((bits .and .i64 (shrI .i64 v_masked81 v_x86) 1) == 1) ((bits .and .i64 (shrI .i64 v_pending82 v_x86) 1) == 1))) 2).fPending))), .d (.v (.bool (((setA v_b87 v_x86 (S_ringref5_Line.mk ((bits .and .i64 (shrI .i64 v_edge79 v_x86) 1) == 1) ((bits .and .i64 (shrI .i64 v_up80 v_x86) 1) == 1) ((bits .and .i64 (shrI .i64 v_masked81 v_x86) 1) == 1) ((bits .and .i64 (shrI .i64 v_pending82 v_x86) 1) == 1))) 3).fEdge))), .d (.v (.bool (((setA v_b87 v_x86 (S_ringref5_Line.mk ((bits .and .i64 (shrI .i64 v_edge79 v_x86) 1) == 1) ((bits .and .i64 (shrI .i64 v_up80 v_x86) 1) == 1) ((bits .and .i64 (shrI .i64 v_masked81 v_x86) 1) == 1) ((bits .and .i64 (shrI .i64 v_pending82 v_x86) 1) == 1))) 3).fUp))), .d (.v (.bool (((setA v_b87 v_x86 (S_ringref5_Line.mk ((bits .and .i64 (shrI .i64 v_edge79 v_x86) 1) == 1) ((bits .and .i64 (shrI .i64 v_up80 v_x86) 1) == 1) ((bits .and .i64 (shrI .i64 v_masked81 v_x86) 1) == 1) ((bits .and .i64 (shrI .i64 v_pending82 v_x86) 1) == 1))) 3).fMasked))), .d (.v (.bool (((setA v_b87 v_x86 (S_ringref5_Line.mk ((bits .and .i64 (shrI .i64 v_edge79 v_x86) 1) == 1) ((bits .and .i64 (shrI .i64 v_up80 v_x86) 1) == 1) ((bits .and .i64 (shrI .i64 v_masked81 v_x86) 1) == 1) ((bits .and .i64 (shrI .i64 v_pending82 v_x86) 1) == 1))) 3).fPending))), .d (.v (.bool (((setA v_b87 v_x86 (S_ringref5_Line.mk ((bits .and .i64 (shrI .i64 v_edge79 v_x86) 1) == 1) ((bits .and .i64 (shrI .i64 v_up80 v_x86) 1) == 1) ((bits .and .i64 (shrI .i64 v_masked81 v_x86) 1) == 1) ((bits .and .i64 (shrI .i64 v_pending82 v_x86) 1) == 1))) 4).fEdge))), .d (.v (.bool (((setA v_b87 v_x86 (S_ringref5_Line.mk ((bits .and .i64 (shrI .i64 v_edge79 v_x86) 1) == 1) ((bits .and .i64 (shrI .i64 v_up80 v_x86) 1) == 1) ((bits .and .i64 (shrI .i64 v_masked81 v_x86) 1) == 1) ((bits .and .i64 (shrI .i64 v_pending82 v_x86) 1) == 1))) 4).fUp))), .d (.v (.bool (((setA v_b87 v_x86 (S_ringref5_Line.mk ((bits .and .i64 (shrI .i64 v_edge79 v_x86) 1) == 1) ((bits .and .i64 (shrI .i64 v_up80 v_x86) 1) == 1) ((bits .and .i64 (shrI .i64 v_masked81 v_x86) 1) == 1) ((bits .and .i64 (shrI .i64 v_pending82 v_x86) 1) == 1))) 4).fMasked))), .d (.v (.bool (((setA v_b87 v_x86 (S_ringref5_Line.mk ((bits .and .i64 (shrI .i64 v_edge79 v_x86) 1) == 1) ((bits .and .i64 (shrI .i64 v_up80 v_x86) 1) == 1) ((bits .and .i64 (shrI .i64 v_masked81 v_x86) 1) == 1) ((bits .and .i64 (shrI .i64 v_pending82 v_x86) 1) == 1))) 4).fPending))), .d (.v (.bool (((setA v_b87 v_x86 (S_ringref5_Line.mk ((bits .and .i64 (shrI .i64 v_edge79 v_x86) 1) == 1) ((bits .and .i64 (shrI .i64 v_up80 v_x86) 1) == 1) ((bits .and .i64 (shrI .i64 v_masked81 v_x86) 1) == 1) ((bits .and .i64 (shrI .i64 v_pending82 v_x86) 1) == 1))) 5).fEdge))), .d (.v (.bool (((setA v_b87 v_x86 (S_ringref5_Line.mk ((bits .and .i64 (shrI .i64 v_edge79 v_x86) 1) == 1) ((bits .and .i64 (shrI .i64 v_up80 v_x86) 1) == 1) ((bits .and .i64 (shrI .i64 v_masked81 v_x86) 1) == 1) ((bits .and .i64 (shrI .i64 v_pending82 v_x86) 1) == 1))) 5).fUp))), .d (.v (.bool (((setA v_b87 v_x86 (S_ringref5_Line.mk ((bits .and .i64 (shrI .i64 v_edge79 v_x86) 1) == 1) ((bits .and .i64 (shrI .i64 v_up80 v_x86) 1) == 1) ((bits .and .i64 (shrI .i64 v_masked81 v_x86) 1) == 1) ((bits .and .i64 (shrI .i64 v_pending82 v_x86) 1) == 1))) 5).fMasked))), .d (.v (.bool (((setA v_b87 v_x86 (S_ringref5_Line.mk ((bits .and .i64 (shrI .i64 v_edge79 v_x86) 1) == 1) ((bits .and .i64 (shrI .i64 v_up80 v_x86) 1) == 1) ((bits .and .i64 (shrI .i64 v_masked81 v_x86) 1) == 1) ((bits .and .i64 (shrI .i64 v_pending82 v_x86) 1) == 1))) 5).fPending))), .d (.v (.bool (((setA v_b87 v_x86 (S_ringref5_Line.mk ((bits .and .i64 (shrI .i64 v_edge79 v_x86) 1) == 1) ((bits .and .i64 (shrI .i64 v_up80 v_x86) 1) == 1) ((bits .and .i64 (shrI .i64 v_masked81 v_x86) 1) == 1) ((bits .and .i64 (shrI .i64 v_pending82 v_x86) 1) == 1))) 6).fEdge))), .d (.v (.bool (((setA v_b87 v_x86 (S_ringref5_Line.mk ((bits .and .i64 (shrI .i64 v_edge79 v_x86) 1) == 1) ((bits .and .i64 (shrI .i64 v_up80 v_x86) 1) == 1) ((bits .and .i64 (shrI .i64 v_masked81 v_x86) 1) == 1) ((bits .and .i64 (shrI .i64 v_pending82 v_x86) 1) == 1))) 6).fUp))), .d (.v (.bool (((setA v_b87 v_x86 (S_ringref5_Line.mk ((bits .and .i64 (shrI .i64 v_edge79 v_x86) 1) == 1) ((bits .and .i64 (shrI .i64 v_up80 v_x86) 1) == 1) ((bits .and .i64 (shrI .i64 v_masked81 v_x86) 1) == 1) ((bits .and .i64 (shrI .i64 v_pending82 v_x86) 1) == 1))) 6).fMasked))), .d (.v (.bool (((setA v_b87 v_x86 (S_ringref5_Line.mk ((bits .and .i64 (shrI .i64 v_edge79 v_x86) 1) == 1) ((bits .and .i64 (shrI .i64 v_up80 v_x86) 1) == 1) ((bits .and .i64 (shrI .i64 v_masked81 v_x86) 1) == 1) ((bits .and .i64 (shrI .i64 v_pending82 v_x86) 1) == 1))) 6).fPending))), .d (.v (.bool (((setA v_b87 v_x86 (S_ringref5_Line.mk ((bits .and .i64 (shrI .i64 v_edge79 v_x86) 1) == 1) ((bits .and .i64 (shrI .i64 v_up80 v_x86) 1) == 1) ((bits .and .i64 (shrI .i64 v_masked81 v_x86) 1) == 1) ((bits .and .i64 (shrI .i64 v_pending82 v_x86) 1) == 1))) 7).fEdge))), .d (.v (.bool (((setA v_b87 v_x86 (S_ringref5_Line.mk ((bits .and .i64 (shrI .i64 v_edge79 v_x86) 1) == 1) ((bits .and .i64 (shrI .i64 v_up80 v_x86) 1) == 1) ((bits .and .i64 (shrI .i64 v_masked81 v_x86) 1) == 1) ((bits .and .i64 (shrI .i64 v_pending82 v_x86) 1) == 1))) 7).fUp))), .d (.v (.bool (((setA v_b87 v_x86 (S_ringref5_Line.mk ((bits .and .i64 (shrI .i64 v_edge79 v_x86) 1) == 1) ((bits .and .i64 (shrI .i64 v_up80 v_x86) 1) == 1) ((bits .and .i64 (shrI .i64 v_masked81 v_x86) 1) == 1) ((bits .and .i64 (shrI .i64 v_pending82 v_x86) 1) == 1))) 7).fMasked))), .d (.v (.bool (((setA v_b87 v_x86 (S_ringref5_Line.mk ((bits .and .i64 (shrI .i64 v_edge79 v_x86) 1) == 1) ((bits .and .i64 (shrI .i64 v_up80 v_x86) 1) == 1) ((bits .and .i64 (shrI .i64 v_masked81 v_x86) 1) == 1) ((bits .and .i64 (shrI .i64 v_pending82 v_x86) 1) == 1))) 7).fPending)))], .c]) (ts := []) (s := [0, 1]) (l := [0, 1, 2, 3, 8, 9, 11]) (by kernel_rfl) (by kernel_rfl) (.cons (dt h113) (.cons h120 (.cons h121 (.cons h122 (.cons h123 (.cons h124 (.cons (arr_store (γ := FV) (sz := 4) (g := (fun x => [.d (.v (.bool x.fEdge)), .d (.v (.bool x.fUp)), .d (.v (.bool x.fMasked)), .d (.v (.bool x.fPending))])) (pre := []) (post := []) (o := 0) (y := (S_ringref5_Line.mk ((bits .and .i64 (shrI .i64 v_edge79 v_x86) 1) == 1) ((bits .and .i64 (shrI .i64 v_up80 v_x86) 1) == 1) ((bits .and .i64 (shrI .i64 v_masked81 v_x86) 1) == 1) ((bits .and .i64 (shrI .i64 v_pending82 v_x86) 1) == 1))) (zs := [.d (.v (.bool ((bits .and .i64 (shrI .i64 v_edge79 v_x86) 1) == 1))), .d (.v (.bool ((bits .and .i64 (shrI .i64 v_up80 v_x86) 1) == 1))), .d (.v (.bool ((bits .and .i64 (shrI .i64 v_masked81 v_x86) 1) == 1))), .d (.v (.bool ((bits .and .i64 (shrI .i64 v_pending82 v_x86) 1) == 1)))]) (fun _ => rfl) h125 rfl (Nat.le_of_ble_eq_true rfl)).1 (.cons (arr_store (γ := FV) (sz := 4) (g := (fun x => [.d (.v (.bool x.fEdge)), .d (.v (.bool x.fUp)), .d (.v (.bool x.fMasked)), .d (.v (.bool x.fPending))])) (pre := []) (post := []) (o := 0) (y := (S_ringref5_Line.mk ((bits .and .i64 (shrI .i64 v_edge79 v_x86) 1) == 1) ((bits .and .i64 (shrI .i64 v_up80 v_x86) 1) == 1) ((bits .and .i64 (shrI .i64 v_masked81 v_x86) 1) == 1) ((bits .and .i64 (shrI .i64 v_pending82 v_x86) 1) == 1))) (zs := [.d (.v (.bool ((bits .and .i64 (shrI .i64 v_edge79 v_x86) 1) == 1))), .d (.v (.bool ((bits .and .i64 (shrI .i64 v_up80 v_x86) 1) == 1))), .d (.v (.bool ((bits .and .i64 (shrI .i64 v_masked81 v_x86) 1) == 1))), .d (.v (.bool ((bits .and .i64 (shrI .i64 v_pending82 v_x86) 1) == 1)))]) (fun _ => rfl) h125 rfl (Nat.le_of_ble_eq_true rfl)).2 .nil)))))))) (G_ringref5_Split_L1_ok hF ks n v_edge79 v_up80 v_masked81 v_pending82 k (wi .i64 (v_x86 + 1)) (setA v_b87 v_x86 (S_ringref5_Line.mk ((bits .and .i64 (shrI .i64 v_edge79 v_x86) 1) == 1) ((bits .and .i64 (shrI .i64 v_up80 v_x86) 1) == 1) ((bits .and .i64 (shrI .i64 v_masked81 v_x86) 1) == 1) ((bits .and .i64 (shrI .i64 v_pending82 v_x86) 1) == 1))) _ h q)
              · rw [if_neg h124] at h; cases h
            · rw [if_neg h123] at h; cases h
          · rw [if_neg h122] at h; cases h
        · rw [if_neg h121] at h; cases h
      · rw [if_neg h120] at h; cases h
    · rw [if_neg h113] at h
      cases h
      exact pkk_sound TTok mix hF 8 (hs := [.t false]) (ts := []) (s := [0, 1]) (l := [8, 9]) (by kernel_rfl) (by kernel_rfl) (.cons (df h113) .nil) q
/- ringhall/ringref5.Split -/
def G_ringref5_Split (n : Nat) (v_edge79 : Int) (v_up80 : Int) (v_masked81 : Int) (v_pending82 : Int) : Option ((Fin 8 → S_ringref5_Line)) :=
  (G_ringref5_Split_L1 n v_edge79 v_up80 v_masked81 v_pending82 n 0 (fun i : Fin 8 => [(S_ringref5_Line.mk false false false false), (S_ringref5_Line.mk false false false false), (S_ringref5_Line.mk false false false false), (S_ringref5_Line.mk false false false false), (S_ringref5_Line.mk false false false false), (S_ringref5_Line.mk false false false false), (S_ringref5_Line.mk false false false false), (S_ringref5_Line.mk false false false false)].get i)).bind fun v_o91 => match v_o91 with
  | .x0 v_z92 =>
    some v_z92
theorem G_ringref5_Split_ok (n : Nat) (v_edge79 : Int) (v_up80 : Int) (v_masked81 : Int) (v_pending82 : Int) (r : (Fin 8 → S_ringref5_Line)) (h : G_ringref5_Split n v_edge79 v_up80 v_masked81 v_pending82 = some r) : Ret Try.prog 19 [(eI .i64) v_edge79, (eI .i64) v_up80, (eI .i64) v_masked81, (eI .i64) v_pending82] ((fun x => PV.agg [.v (.bool ((x 0).fEdge)), .v (.bool ((x 0).fUp)), .v (.bool ((x 0).fMasked)), .v (.bool ((x 0).fPending)), .v (.bool ((x 1).fEdge)), .v (.bool ((x 1).fUp)), .v (.bool ((x 1).fMasked)), .v (.bool ((x 1).fPending)), .v (.bool ((x 2).fEdge)), .v (.bool ((x 2).fUp)), .v (.bool ((x 2).fMasked)), .v (.bool ((x 2).fPending)), .v (.bool ((x 3).fEdge)), .v (.bool ((x 3).fUp)), .v (.bool ((x 3).fMasked)), .v (.bool ((x 3).fPending)), .v (.bool ((x 4).fEdge)), .v (.bool ((x 4).fUp)), .v (.bool ((x 4).fMasked)), .v (.bool ((x 4).fPending)), .v (.bool ((x 5).fEdge)), .v (.bool ((x 5).fUp)), .v (.bool ((x 5).fMasked)), .v (.bool ((x 5).fPending)), .v (.bool ((x 6).fEdge)), .v (.bool ((x 6).fUp)), .v (.bool ((x 6).fMasked)), .v (.bool ((x 6).fPending)), .v (.bool ((x 7).fEdge)), .v (.bool ((x 7).fUp)), .v (.bool ((x 7).fMasked)), .v (.bool ((x 7).fPending))]) r) := by
  refine ret_run (n := 39) (fn := Try.f19) (c := bodyOf Try.f19) (by kernel_rfl) (by kernel_rfl) (by kernel_rfl) (by kernel_rfl) ?_
  have hF : KC 39 (FinR Try.prog Try.f19 ((fun x => PV.agg [.v (.bool ((x 0).fEdge)), .v (.bool ((x 0).fUp)), .v (.bool ((x 0).fMasked)), .v (.bool ((x 0).fPending)), .v (.bool ((x 1).fEdge)), .v (.bool ((x 1).fUp)), .v (.bool ((x 1).fMasked)), .v (.bool ((x 1).fPending)), .v (.bool ((x 2).fEdge)), .v (.bool ((x 2).fUp)), .v (.bool ((x 2).fMasked)), .v (.bool ((x 2).fPending)), .v (.bool ((x 3).fEdge)), .v (.bool ((x 3).fUp)), .v (.bool ((x 3).fMasked)), .v (.bool ((x 3).fPending)), .v (.bool ((x 4).fEdge)), .v (.bool ((x 4).fUp)), .v (.bool ((x 4).fMasked)), .v (.bool ((x 4).fPending)), .v (.bool ((x 5).fEdge)), .v (.bool ((x 5).fUp)), .v (.bool ((x 5).fMasked)), .v (.bool ((x 5).fPending)), .v (.bool ((x 6).fEdge)), .v (.bool ((x 6).fUp)), .v (.bool ((x 6).fMasked)), .v (.bool ((x 6).fPending)), .v (.bool ((x 7).fEdge)), .v (.bool ((x 7).fUp)), .v (.bool ((x 7).fMasked)), .v (.bool ((x 7).fPending))]) r)) := FinR.kc' (by kernel_rfl)
  unfold G_ringref5_Split at h
  obtain ⟨v_o91, h126, h⟩ := bind_some h
  refine pkk_sound TTok mix hF 9 (hs := [.n n]) (ts := []) (s := [0, 3]) (l := [0, 1, 2, 3, 8, 9, 11]) (by kernel_rfl) (by kernel_rfl) .nil (G_ringref5_Split_L1_ok hF (.b 0 :: .s (cR (cR (cR (bodyOf Try.f19)))) :: []) n v_edge79 v_up80 v_masked81 v_pending82 n 0 (fun i : Fin 8 => [(S_ringref5_Line.mk false false false false), (S_ringref5_Line.mk false false false false), (S_ringref5_Line.mk false false false false), (S_ringref5_Line.mk false false false false), (S_ringref5_Line.mk false false false false), (S_ringref5_Line.mk false false false false), (S_ringref5_Line.mk false false false false), (S_ringref5_Line.mk false false false false)].get i) _ h126 ?_)
  cases v_o91 with
  | x0 v_z92 =>
    dsimp only at h
    obtain rfl := Option.some.inj h
    exact pend_sound TTok mix 4 (hs := [.c, .c]) (by kernel_rfl) (by kernel_rfl) (by kernel_rfl) (.cons (show 0 + 32 ≤ 32 by decide) .nil)
inductive G_slices_IndexFunc_ringref5_Line_ringref5_Line_L1_R where
  | x0 (v_x101 : Int)
  | x1 
def G_slices_IndexFunc_ringref5_Line_ringref5_Line_L1_ex : G_slices_IndexFunc_ringref5_Line_ringref5_Line_L1_R → Ex
  | .x0 _ => .ret
  | .x1  => .exit 0
def G_slices_IndexFunc_ringref5_Line_ringref5_Line_L1_st (v_s94 : (List S_ringref5_Line)) (v_f95 : (S_ringref5_Line → Option (Bool))) (v_f95_g : FuncId) (v_f95_c : (List PV)) : G_slices_IndexFunc_ringref5_Line_ringref5_Line_L1_R → PS
  | .x0 v_x101 => ⟨[dd, dd, dd, dd, .d (.v (.int .i64 v_x101)), dd, dd, dd, dd, dd, dd, dd, dd, dd, dd, dd, dd, dd, dd], []⟩
  | .x1  => ⟨[dd, dd, dd, dd, dd, dd, dd, dd, dd, dd, dd, dd, dd, dd, dd, dd, dd, dd, dd], []⟩
def G_slices_IndexFunc_ringref5_Line_ringref5_Line_L1_hd (v_s94 : (List S_ringref5_Line)) (v_f95 : (S_ringref5_Line → Option (Bool))) (v_f95_g : FuncId) (v_f95_c : (List PV)) (v_x96 : Int) : PS := ⟨[.d (.sl (v_s94.map eS_ringref5_Line)), .d (.clo v_f95_g v_f95_c), dd, dd, dd, dd, dd, .d (.v (.int .i64 (v_s94.length : Int))), .d (.v (.int .i64 v_x96)), dd, dd, dd, dd, dd, dd, dd, dd, dd, dd], []⟩
def G_slices_IndexFunc_ringref5_Line_ringref5_Line_L1 (n : Nat) (v_s94 : (List S_ringref5_Line)) (v_f95 : (S_ringref5_Line → Option (Bool))) : Nat → Int → Option G_slices_IndexFunc_ringref5_Line_ringref5_Line_L1_R
  | 0, _ => none
  | k + 1, v_x96 =>
    if v_x96 < (v_s94.length : Int) then
     (getI v_s94 v_x96).bind fun (v_y99 : S_ringref5_Line) =>
     (v_f95 v_y99).bind fun (v_r100 : (Bool)) =>
     if v_r100 = true then
      some (.x0 v_x96)
     else
      G_slices_IndexFunc_ringref5_Line_ringref5_Line_L1 n v_s94 v_f95 k (wi .i64 (v_x96 + 1))
    else
     some (.x1 )
theorem G_slices_IndexFunc_ringref5_Line_ringref5_Line_L1_ok {Fi : Ex → PS → Prop} (hF : KC 19 Fi) (ks : List Fr) (n : Nat) (v_s94 : (List S_ringref5_Line)) (v_f95 : (S_ringref5_Line → Option (Bool))) (v_f95_g : FuncId) (v_f95_c : (List PV)) (v_f95_h : ∀ (x0 : S_ringref5_Line) (r : Bool), v_f95 x0 = some r → Ret Try.prog v_f95_g ([eS_ringref5_Line x0] ++ v_f95_c) (eB r)) : ∀ (k : Nat) (v_x96 : Int) (o : G_slices_IndexFunc_ringref5_Line_ringref5_Line_L1_R), G_slices_IndexFunc_ringref5_Line_ringref5_Line_L1 n v_s94 v_f95 k v_x96 = some o → RunE Try.prog 19 Fi ks (G_slices_IndexFunc_ringref5_Line_ringref5_Line_L1_ex o) (G_slices_IndexFunc_ringref5_Line_ringref5_Line_L1_st v_s94 v_f95 v_f95_g v_f95_c o) → RunE Try.prog 19 Fi (.l k (cP (cB (cR (cL (cR (bodyOf Try.f20)))))) :: ks) .normal (G_slices_IndexFunc_ringref5_Line_ringref5_Line_L1_hd v_s94 v_f95 v_f95_g v_f95_c v_x96)
  | 0, v_x96, o, h, q => by rw [G_slices_IndexFunc_ringref5_Line_ringref5_Line_L1] at h; cases h
  | k + 1, v_x96, o, h, q => by
    rw [G_slices_IndexFunc_ringref5_Line_ringref5_Line_L1] at h
    by_cases h128 : v_x96 < (v_s94.length : Int)
    · rw [if_pos h128] at h
      obtain ⟨v_y99, h132, h⟩ := bind_some h
      obtain ⟨v_r100, h133, h⟩ := bind_some h
      by_cases h134 : v_r100 = true
      · rw [if_pos h134] at h
        cases h
        exact pkk_sound TTok mix hF 19 (hs := [.t true, .y (eS_ringref5_Line v_y99), .r (eB v_r100), .t true]) (ts := []) (s := []) (l := [4]) (by kernel_rfl) (by kernel_rfl) (.cons (dt h128) (.cons (getI_ob (f := eS_ringref5_Line) h132) (.cons (v_f95_h v_y99 _ h133) (.cons h134 .nil)))) q
      · rw [if_neg h134] at h
        exact pkk_sound TTok mix hF 16 (hs := [.t true, .y (eS_ringref5_Line v_y99), .r (eB v_r100), .t false]) (ts := []) (s := []) (l := [0, 1, 7, 8]) (by kernel_rfl) (by kernel_rfl) (.cons (dt h128) (.cons (getI_ob (f := eS_ringref5_Line) h132) (.cons (v_f95_h v_y99 _ h133) (.cons (vf h134) .nil)))) (G_slices_IndexFunc_ringref5_Line_ringref5_Line_L1_ok hF ks n v_s94 v_f95 v_f95_g v_f95_c v_f95_h k (wi .i64 (v_x96 + 1)) _ h q)
    · rw [if_neg h128] at h
      cases h
      exact pkk_sound TTok mix hF 8 (hs := [.t false]) (ts := []) (s := []) (l := []) (by kernel_rfl) (by kernel_rfl) (.cons (df h128) .nil) q
/- slices.IndexFunc[[]ringhall/ringref5.Line,ringhall/ringref5.Line] -/
def G_slices_IndexFunc_ringref5_Line_ringref5_Line (n : Nat) (v_s94 : (List S_ringref5_Line)) (v_f95 : (S_ringref5_Line → Option (Bool))) : Option (Int) :=
  (G_slices_IndexFunc_ringref5_Line_ringref5_Line_L1 n v_s94 v_f95 n 0).bind fun v_o102 => match v_o102 with
  | .x0 v_z103 =>
    some v_z103
  | .x1  =>
    some (-1)
theorem G_slices_IndexFunc_ringref5_Line_ringref5_Line_ok (n : Nat) (v_s94 : (List S_ringref5_Line)) (v_f95 : (S_ringref5_Line → Option (Bool))) (v_f95_g : FuncId) (v_f95_c : List PV) (v_f95_h : ∀ (x0 : S_ringref5_Line) (r : Bool), v_f95 x0 = some r → Ret Try.prog v_f95_g ([eS_ringref5_Line x0] ++ v_f95_c) (eB r)) (r : Int) (h : G_slices_IndexFunc_ringref5_Line_ringref5_Line n v_s94 v_f95 = some r) : Ret Try.prog 20 [(eL eS_ringref5_Line) v_s94, (.clo v_f95_g v_f95_c)] ((eI .i64) r) := by
  refine ret_run (n := 19) (fn := Try.f20) (c := bodyOf Try.f20) (by kernel_rfl) (by kernel_rfl) (by kernel_rfl) (by kernel_rfl) ?_
  have hF : KC 19 (FinR Try.prog Try.f20 ((eI .i64) r)) := FinR.kc' (by kernel_rfl)
  unfold G_slices_IndexFunc_ringref5_Line_ringref5_Line at h
  obtain ⟨v_o102, h135, h⟩ := bind_some h
  refine pkk_sound TTok mix hF 7 (hs := [.u (.d (.v (.int .i64 (v_s94.length : Int)))), .n n]) (ts := []) (s := []) (l := [0, 1, 7, 8]) (by kernel_rfl) (by kernel_rfl) (.cons (len_ob (f := eS_ringref5_Line) (l := v_s94)) .nil) (G_slices_IndexFunc_ringref5_Line_ringref5_Line_L1_ok hF (.b 0 :: .s (cR (cR (bodyOf Try.f20))) :: []) n v_s94 v_f95 v_f95_g v_f95_c v_f95_h n 0 _ h135 ?_)
  cases v_o102 with
  | x0 v_z103 =>
    dsimp only at h
    obtain rfl := Option.some.inj h
    exact pend_sound TTok mix 2 (hs := []) (by kernel_rfl) (by kernel_rfl) (by kernel_rfl) .nil
  | x1  =>
    dsimp only at h
    obtain rfl := Option.some.inj h
    exact pend_sound TTok mix 4 (hs := []) (by kernel_rfl) (by kernel_rfl) (by kernel_rfl) .nil
inductive G_ringref5_Line_Calls_C1_R where
  | x0 (v_x105 : Bool)
def G_ringref5_Line_Calls_C1_ex : G_ringref5_Line_Calls_C1_R → Ex
  | .x0 _ => .normal
def G_ringref5_Line_Calls_C1_st (v_l104 : S_ringref5_Line) : G_ringref5_Line_Calls_C1_R → PS
  | .x0 v_x105 => ⟨[dd, dd, .d (.v (.bool v_x105)), dd, dd, dd, dd, dd, dd, dd, dd, dd, dd, dd, dd, dd, dd, dd, dd, dd, dd, dd, dd], []⟩
def G_ringref5_Line_Calls_C1_hd (v_l104 : S_ringref5_Line)  : PS := ⟨[dd, .ref 0 0, dd, dd, dd, dd, dd, dd, dd, dd, dd, dd, dd, dd, dd, dd, dd, dd, dd, dd, dd, dd, dd], [.box [.d (.v (.bool v_l104.fEdge)), .d (.v (.bool v_l104.fUp)), .d (.v (.bool v_l104.fMasked)), .d (.v (.bool v_l104.fPending))]]⟩
def G_ringref5_Line_Calls_C1 (n : Nat) (v_l104 : S_ringref5_Line) : Option G_ringref5_Line_Calls_C1_R :=
  if v_l104.fMasked = true then
   some (.x0 false)
  else
   if v_l104.fEdge = true then
    if v_l104.fPending = true then
     some (.x0 true)
    else
     some (.x0 false)
   else
    some (.x0 v_l104.fUp)
theorem G_ringref5_Line_Calls_C1_ok {Fi : Ex → PS → Prop} (hF : KC 23 Fi) (ks : List Fr) (n : Nat) (v_l104 : S_ringref5_Line)  (o : G_ringref5_Line_Calls_C1_R) (h : G_ringref5_Line_Calls_C1 n v_l104 = some o) (q : RunE Try.prog 23 Fi ks (G_ringref5_Line_Calls_C1_ex o) (G_ringref5_Line_Calls_C1_st v_l104 o)) : RunE Try.prog 23 Fi (.s (cL (cR (bodyOf Try.f21))) :: ks) .normal (G_ringref5_Line_Calls_C1_hd v_l104) := by
  unfold G_ringref5_Line_Calls_C1 at h
  by_cases h139 : v_l104.fMasked = true
  · rw [if_pos h139] at h
    cases h
    exact pkk_sound TTok mix hF 1 (hs := [.c, .t false, .c, .c, .c, .c, .c]) (ts := []) (s := []) (l := [2]) (by kernel_rfl) (by kernel_rfl) (.cons (bnf h139) .nil) q
  · rw [if_neg h139] at h
    by_cases h140 : v_l104.fEdge = true
    · rw [if_pos h140] at h
      by_cases h141 : v_l104.fPending = true
      · rw [if_pos h141] at h
        cases h
        exact pkk_sound TTok mix hF 1 (hs := [.c, .t true, .c, .c, .c, .t true, .c, .c, .c, .c, .t true, .c, .c, .c, .c, .c]) (ts := []) (s := []) (l := [2]) (by kernel_rfl) (by kernel_rfl) (.cons (bnt (vf h139)) (.cons h140 (.cons h141 .nil))) q
      · rw [if_neg h141] at h
        cases h
        exact pkk_sound TTok mix hF 1 (hs := [.c, .t true, .c, .c, .c, .t true, .c, .c, .c, .c, .t false, .c, .c, .c, .c, .t false, .c, .c, .c]) (ts := []) (s := []) (l := [2]) (by kernel_rfl) (by kernel_rfl) (.cons (bnt (vf h139)) (.cons h140 (.cons (vf h141) (.cons (bnf h140) .nil)))) q
    · rw [if_neg h140] at h
      cases h
      exact pkk_sound TTok mix hF 1 (hs := [.c, .t true, .c, .c, .c, .t false, .c, .c, .c, .c, .c, .c, .c, .c, .t true, .c, .c, .c, .c]) (ts := []) (s := []) (l := [2]) (by kernel_rfl) (by kernel_rfl) (.cons (bnt (vf h139)) (.cons (vf h140) (.cons (bnt (vf h140)) .nil))) q
/- (ringhall/ringref5.Line).Calls -/
def G_ringref5_Line_Calls (n : Nat) (v_l104 : S_ringref5_Line) : Option (Bool) :=
  (G_ringref5_Line_Calls_C1 n v_l104).bind fun v_o109 => match v_o109 with
  | .x0 v_z110 =>
    some v_z110
theorem G_ringref5_Line_Calls_ok (n : Nat) (v_l104 : S_ringref5_Line) (r : Bool) (h : G_ringref5_Line_Calls n v_l104 = some r) : Ret Try.prog 21 [eS_ringref5_Line v_l104] (eB r) := by
  refine ret_run (n := 23) (fn := Try.f21) (c := bodyOf Try.f21) (by kernel_rfl) (by kernel_rfl) (by kernel_rfl) (by kernel_rfl) ?_
  have hF : KC 23 (FinR Try.prog Try.f21 (eB r)) := FinR.kc' (by kernel_rfl)
  unfold G_ringref5_Line_Calls at h
  obtain ⟨v_o109, h142, h⟩ := bind_some h
  refine pkk_sound TTok mix hF 3 (hs := []) (ts := []) (s := [0]) (l := [1]) (by kernel_rfl) (by kernel_rfl) .nil (G_ringref5_Line_Calls_C1_ok hF (.s (cR (cR (bodyOf Try.f21))) :: []) n v_l104 _ h142 ?_)
  cases v_o109 with
  | x0 v_z110 =>
    dsimp only at h
    obtain rfl := Option.some.inj h
    exact pend_sound TTok mix 1 (hs := []) (by kernel_rfl) (by kernel_rfl) (by kernel_rfl) .nil
inductive G_ringlaw5_IrqSays_C1_R where
  | x0 (v_t68 : Bool)
def G_ringlaw5_IrqSays_C1_ex : G_ringlaw5_IrqSays_C1_R → Ex
  | .x0 _ => .normal
def G_ringlaw5_IrqSays_C1_st (v_r22 : (S_irq_Lines × Int)) (v_r27 : (S_irq_Lines × Int)) (v_r36 : (Int × Int)) (v_r39 : (S_irq_Lines × Int × Int)) (v_r55 : (Int)) : G_ringlaw5_IrqSays_C1_R → PS
  | .x0 v_t68 => ⟨[dd, dd, dd, dd, dd, dd, dd, dd, dd, dd, dd, dd, .d (.v (.bool v_t68)), dd, dd, dd, dd, dd, dd, dd, dd, dd, dd, dd, dd, dd, dd, dd, dd, dd, dd, dd, dd, dd, dd, dd, dd, dd, dd, dd, dd, dd, dd, dd, dd, dd, dd, dd, dd, dd, dd, dd, dd, dd, dd, dd, dd, dd, dd, dd, dd, dd, dd, dd, dd, dd, dd, dd, dd, dd, dd, dd, dd, dd, dd, dd, dd, dd, dd, dd, dd, dd, dd, dd, dd, dd, dd, dd, dd, dd, dd, dd, dd, dd, dd, dd, dd, dd, dd, dd, dd, dd, dd, dd, dd, dd, dd, dd, dd, dd, dd, dd, dd, dd, dd, dd, dd, dd, dd, dd, dd, dd, dd, dd, dd, dd, dd, dd, dd, dd, dd, dd, dd, dd, dd, dd, dd, dd, dd, dd, dd, dd, dd, dd, dd, dd, dd, dd, dd, dd, dd, dd, dd, dd, dd, dd, dd, dd, dd, dd, dd, dd, dd, dd, dd, dd, dd, dd, dd, dd, dd, dd, dd, dd, dd, dd, dd, dd, dd, dd, dd, dd, dd, dd, dd, dd, dd, dd, dd, dd, dd, dd, dd, dd, dd, dd, dd, dd, dd, dd, dd, dd, dd, dd, dd, dd, dd, dd, dd, dd, dd, dd, dd, dd, dd, dd, dd, dd, dd, dd, dd, dd, dd, dd, dd, dd, dd, dd, dd, dd, dd, dd, dd, dd, dd, dd, dd, dd, dd, dd, dd, dd, dd, dd, dd, dd, dd, dd, dd, dd, dd, dd, dd, dd, dd, dd, dd, dd, dd, dd, dd, dd, dd, dd, dd, dd, dd, dd, dd, dd, dd, dd, dd, dd, dd], []⟩
def G_ringlaw5_IrqSays_C1_hd (v_r22 : (S_irq_Lines × Int)) (v_r27 : (S_irq_Lines × Int)) (v_r36 : (Int × Int)) (v_r39 : (S_irq_Lines × Int × Int)) (v_r55 : (Int))  : PS := ⟨[dd, dd, dd, dd, dd, dd, dd, dd, dd, dd, dd, dd, dd, dd, .ref 0 0, .d (.v (.int .i64 v_r22.2)), .ref 1 0, .d (.v (.int .i64 v_r27.2)), .d (.v (.int .i64 v_r36.1)), .d (.v (.int .i64 v_r36.2)), .ref 2 0, .d (.v (.int .i64 v_r39.2.1)), .d (.v (.int .i64 v_r39.2.2)), .d (.v (.int .i64 v_r55)), .ref 3 0, dd, dd, dd, dd, dd, dd, dd, dd, dd, dd, dd, dd, dd, dd, dd, dd, dd, dd, dd, dd, dd, dd, dd, dd, dd, dd, dd, dd, dd, dd, dd, dd, dd, dd, dd, dd, dd, dd, dd, dd, dd, dd, dd, dd, dd, dd, dd, dd, dd, dd, dd, dd, dd, dd, dd, dd, dd, dd, dd, dd, dd, dd, dd, dd, dd, dd, dd, dd, dd, dd, dd, dd, dd, dd, dd, dd, dd, dd, dd, dd, dd, dd, dd, dd, dd, dd, dd, dd, dd, dd, dd, dd, dd, dd, dd, dd, dd, dd, dd, dd, dd, dd, dd, dd, dd, dd, dd, dd, dd, dd, dd, dd, dd, dd, dd, dd, dd, dd, dd, dd, dd, dd, dd, dd, dd, dd, dd, dd, dd, dd, dd, dd, dd, dd, dd, dd, dd, dd, dd, dd, dd, dd, dd, dd, dd, dd, dd, dd, dd, dd, dd, dd, dd, dd, dd, dd, dd, dd, dd, dd, dd, dd, dd, dd, dd, dd, dd, dd, dd, dd, dd, dd, dd, dd, dd, dd, dd, dd, dd, dd, dd, dd, dd, dd, dd, dd, dd, dd, dd, dd, dd, dd, dd, dd, dd, dd, dd, dd, dd, dd, dd, dd, dd, dd, dd, dd, dd, dd, dd, dd, dd, dd, dd, dd, dd, dd, dd, dd, dd, dd, dd, dd, dd, dd, dd, dd, dd, dd, dd, dd, dd, dd, dd, dd, dd, dd, dd, dd, dd, dd, dd, dd, dd, dd, dd, dd, dd, dd, dd, dd], [.box [.d (.v (.int .i64 v_r22.1.fEdge)), .d (.v (.int .i64 v_r22.1.fUp)), .d (.v (.int .i64 v_r22.1.fMasked)), .d (.v (.int .i64 v_r22.1.fPending))], .box [.d (.v (.int .i64 v_r27.1.fEdge)), .d (.v (.int .i64 v_r27.1.fUp)), .d (.v (.int .i64 v_r27.1.fMasked)), .d (.v (.int .i64 v_r27.1.fPending))], .box [.d (.v (.int .i64 v_r39.1.fEdge)), .d (.v (.int .i64 v_r39.1.fUp)), .d (.v (.int .i64 v_r39.1.fMasked)), .d (.v (.int .i64 v_r39.1.fPending))], .box [.d (.v (.int .i64 0)), .d (.v (.int .i64 0)), .d (.v (.int .i64 0)), .d (.v (.int .i64 0))]]⟩
def G_ringlaw5_IrqSays_C1 (n : Nat) (v_r22 : (S_irq_Lines × Int)) (v_r27 : (S_irq_Lines × Int)) (v_r36 : (Int × Int)) (v_r39 : (S_irq_Lines × Int × Int)) (v_r55 : (Int)) : Option G_ringlaw5_IrqSays_C1_R :=
  if v_r22.2 = v_r55 then
   if v_r27.2 = v_r55 then
    if v_r36.2 = v_r55 then
     if v_r39.2.2 = v_r55 then
      if (eqRes .eql (eqS_irq_Lines v_r22.1 (S_irq_Lines.mk 0 0 0 0))) = true then
       if (eqRes .eql (eqS_irq_Lines v_r27.1 (S_irq_Lines.mk 0 0 0 0))) = true then
        if (eqRes .eql (eqS_irq_Lines v_r39.1 (S_irq_Lines.mk 0 0 0 0))) = true then
         if v_r36.1 = 0 then
          some (.x0 (v_r39.2.1 == 0))
         else
          some (.x0 false)
        else
         some (.x0 false)
       else
        some (.x0 false)
      else
       some (.x0 false)
     else
      some (.x0 false)
    else
     some (.x0 false)
   else
    some (.x0 false)
  else
   some (.x0 false)
theorem G_ringlaw5_IrqSays_C1_ok {Fi : Ex → PS → Prop} (hF : KC 275 Fi) (ks : List Fr) (n : Nat) (v_r22 : (S_irq_Lines × Int)) (v_r27 : (S_irq_Lines × Int)) (v_r36 : (Int × Int)) (v_r39 : (S_irq_Lines × Int × Int)) (v_r55 : (Int))  (o : G_ringlaw5_IrqSays_C1_R) (h : G_ringlaw5_IrqSays_C1 n v_r22 v_r27 v_r36 v_r39 v_r55 = some o) (q : RunE Try.prog 275 Fi ks (G_ringlaw5_IrqSays_C1_ex o) (G_ringlaw5_IrqSays_C1_st v_r22 v_r27 v_r36 v_r39 v_r55 o)) : RunE Try.prog 275 Fi (.s (cL (cT (cR (cL (cR (cR (cR (cR (cR (cR (cR (cR (cR (bodyOf Try.f3)))))))))))))) :: ks) .normal (G_ringlaw5_IrqSays_C1_hd v_r22 v_r27 v_r36 v_r39 v_r55) := by
  unfold G_ringlaw5_IrqSays_C1 at h
  by_cases h91 : v_r22.2 = v_r55
  · rw [if_pos h91] at h
    by_cases h92 : v_r27.2 = v_r55
    · rw [if_pos h92] at h
      by_cases h93 : v_r36.2 = v_r55
      · rw [if_pos h93] at h
        by_cases h94 : v_r39.2.2 = v_r55
        · rw [if_pos h94] at h
          by_cases h95 : (eqRes .eql (eqS_irq_Lines v_r22.1 (S_irq_Lines.mk 0 0 0 0))) = true
          · rw [if_pos h95] at h
            by_cases h96 : (eqRes .eql (eqS_irq_Lines v_r27.1 (S_irq_Lines.mk 0 0 0 0))) = true
            · rw [if_pos h96] at h
              by_cases h97 : (eqRes .eql (eqS_irq_Lines v_r39.1 (S_irq_Lines.mk 0 0 0 0))) = true
              · rw [if_pos h97] at h
                by_cases h98 : v_r36.1 = 0
                · rw [if_pos h98] at h
                  cases h
                  exact pkk_sound TTok mix hF 1 (hs := [.t true, .c, .c, .t true, .c, .c, .t true, .c, .c, .t true, .c, .c, .c, .c, .q (eqS_irq_Lines v_r22.1 (S_irq_Lines.mk 0 0 0 0)), .t true, .c, .c, .c, .c, .q (eqS_irq_Lines v_r27.1 (S_irq_Lines.mk 0 0 0 0)), .t true, .c, .c, .c, .c, .q (eqS_irq_Lines v_r39.1 (S_irq_Lines.mk 0 0 0 0)), .t true, .c, .t true, .c]) (ts := []) (s := []) (l := [12]) (by kernel_rfl) (by kernel_rfl) (.cons (bt h91) (.cons (bt h92) (.cons (bt h93) (.cons (bt h94) (.cons (eqS_irq_Lines_ok v_r22.1 (S_irq_Lines.mk 0 0 0 0)) (.cons h95 (.cons (eqS_irq_Lines_ok v_r27.1 (S_irq_Lines.mk 0 0 0 0)) (.cons h96 (.cons (eqS_irq_Lines_ok v_r39.1 (S_irq_Lines.mk 0 0 0 0)) (.cons h97 (.cons (bt h98) .nil))))))))))) q
                · rw [if_neg h98] at h
                  cases h
                  exact pkk_sound TTok mix hF 1 (hs := [.t true, .c, .c, .t true, .c, .c, .t true, .c, .c, .t true, .c, .c, .c, .c, .q (eqS_irq_Lines v_r22.1 (S_irq_Lines.mk 0 0 0 0)), .t true, .c, .c, .c, .c, .q (eqS_irq_Lines v_r27.1 (S_irq_Lines.mk 0 0 0 0)), .t true, .c, .c, .c, .c, .q (eqS_irq_Lines v_r39.1 (S_irq_Lines.mk 0 0 0 0)), .t true, .c, .t false, .c]) (ts := []) (s := []) (l := [12]) (by kernel_rfl) (by kernel_rfl) (.cons (bt h91) (.cons (bt h92) (.cons (bt h93) (.cons (bt h94) (.cons (eqS_irq_Lines_ok v_r22.1 (S_irq_Lines.mk 0 0 0 0)) (.cons h95 (.cons (eqS_irq_Lines_ok v_r27.1 (S_irq_Lines.mk 0 0 0 0)) (.cons h96 (.cons (eqS_irq_Lines_ok v_r39.1 (S_irq_Lines.mk 0 0 0 0)) (.cons h97 (.cons (bf h98) .nil))))))))))) q
              · rw [if_neg h97] at h
                cases h
                exact pkk_sound TTok mix hF 1 (hs := [.t true, .c, .c, .t true, .c, .c, .t true, .c, .c, .t true, .c, .c, .c, .c, .q (eqS_irq_Lines v_r22.1 (S_irq_Lines.mk 0 0 0 0)), .t true, .c, .c, .c, .c, .q (eqS_irq_Lines v_r27.1 (S_irq_Lines.mk 0 0 0 0)), .t true, .c, .c, .c, .c, .q (eqS_irq_Lines v_r39.1 (S_irq_Lines.mk 0 0 0 0)), .t false, .c, .c, .c]) (ts := []) (s := []) (l := [12]) (by kernel_rfl) (by kernel_rfl) (.cons (bt h91) (.cons (bt h92) (.cons (bt h93) (.cons (bt h94) (.cons (eqS_irq_Lines_ok v_r22.1 (S_irq_Lines.mk 0 0 0 0)) (.cons h95 (.cons (eqS_irq_Lines_ok v_r27.1 (S_irq_Lines.mk 0 0 0 0)) (.cons h96 (.cons (eqS_irq_Lines_ok v_r39.1 (S_irq_Lines.mk 0 0 0 0)) (.cons (vf h97) .nil)))))))))) q
            · rw [if_neg h96] at h
              cases h
              exact pkk_sound TTok mix hF 1 (hs := [.t true, .c, .c, .t true, .c, .c, .t true, .c, .c, .t true, .c, .c, .c, .c, .q (eqS_irq_Lines v_r22.1 (S_irq_Lines.mk 0 0 0 0)), .t true, .c, .c, .c, .c, .q (eqS_irq_Lines v_r27.1 (S_irq_Lines.mk 0 0 0 0)), .t false, .c, .c, .c, .c, .c, .c]) (ts := []) (s := []) (l := [12]) (by kernel_rfl) (by kernel_rfl) (.cons (bt h91) (.cons (bt h92) (.cons (bt h93) (.cons (bt h94) (.cons (eqS_irq_Lines_ok v_r22.1 (S_irq_Lines.mk 0 0 0 0)) (.cons h95 (.cons (eqS_irq_Lines_ok v_r27.1 (S_irq_Lines.mk 0 0 0 0)) (.cons (vf h96) .nil)))))))) q
          · rw [if_neg h95] at h
            cases h
            exact pkk_sound TTok mix hF 1 (hs := [.t true, .c, .c, .t true, .c, .c, .t true, .c, .c, .t true, .c, .c, .c, .c, .q (eqS_irq_Lines v_r22.1 (S_irq_Lines.mk 0 0 0 0)), .t false, .c, .c, .c, .c, .c, .c, .c, .c, .c]) (ts := []) (s := []) (l := [12]) (by kernel_rfl) (by kernel_rfl) (.cons (bt h91) (.cons (bt h92) (.cons (bt h93) (.cons (bt h94) (.cons (eqS_irq_Lines_ok v_r22.1 (S_irq_Lines.mk 0 0 0 0)) (.cons (vf h95) .nil)))))) q
        · rw [if_neg h94] at h
          cases h
          exact pkk_sound TTok mix hF 1 (hs := [.t true, .c, .c, .t true, .c, .c, .t true, .c, .c, .t false, .c, .c, .c, .c, .c, .c, .c, .c, .c, .c, .c, .c]) (ts := []) (s := []) (l := [12]) (by kernel_rfl) (by kernel_rfl) (.cons (bt h91) (.cons (bt h92) (.cons (bt h93) (.cons (bf h94) .nil)))) q
      · rw [if_neg h93] at h
        cases h
        exact pkk_sound TTok mix hF 1 (hs := [.t true, .c, .c, .t true, .c, .c, .t false, .c, .c, .c, .c, .c, .c, .c, .c, .c, .c, .c, .c, .c, .c, .c]) (ts := []) (s := []) (l := [12]) (by kernel_rfl) (by kernel_rfl) (.cons (bt h91) (.cons (bt h92) (.cons (bf h93) .nil))) q
    · rw [if_neg h92] at h
      cases h
      exact pkk_sound TTok mix hF 1 (hs := [.t true, .c, .c, .t false, .c, .c, .c, .c, .c, .c, .c, .c, .c, .c, .c, .c, .c, .c, .c, .c, .c, .c]) (ts := []) (s := []) (l := [12]) (by kernel_rfl) (by kernel_rfl) (.cons (bt h91) (.cons (bf h92) .nil)) q
  · rw [if_neg h91] at h
    cases h
    exact pkk_sound TTok mix hF 1 (hs := [.t false, .c, .c, .c, .c, .c, .c, .c, .c, .c, .c, .c, .c, .c, .c, .c, .c, .c, .c, .c, .c, .c]) (ts := []) (s := []) (l := [12]) (by kernel_rfl) (by kernel_rfl) (.cons (bf h91) .nil) q
inductive G_ringlaw5_IrqSays_C2_R where
  | x0 (v_t133 : Bool)
def G_ringlaw5_IrqSays_C2_ex : G_ringlaw5_IrqSays_C2_R → Ex
  | .x0 _ => .normal
def G_ringlaw5_IrqSays_C2_st (v_t5 : Int) (v_t6 : Bool) (v_r22 : (S_irq_Lines × Int)) (v_r27 : (S_irq_Lines × Int)) (v_r36 : (Int × Int)) (v_r39 : (S_irq_Lines × Int × Int)) (v_r93 : ((Fin 8 → S_ringref5_Line))) : G_ringlaw5_IrqSays_C2_R → PS
  | .x0 v_t133 => ⟨[dd, dd, dd, dd, .d (.v (.int .i64 v_t5)), .d (.v (.bool v_t6)), dd, dd, dd, dd, dd, dd, dd, dd, .ref 0 0, .d (.v (.int .i64 v_r22.2)), .ref 1 0, .d (.v (.int .i64 v_r27.2)), dd, dd, dd, dd, dd, dd, .ref 2 0, .ref 3 0, dd, dd, dd, dd, dd, dd, dd, dd, dd, dd, dd, dd, dd, dd, dd, dd, dd, dd, dd, dd, dd, dd, dd, dd, dd, dd, dd, dd, dd, dd, dd, dd, dd, dd, dd, dd, dd, dd, dd, dd, dd, dd, dd, dd, dd, dd, dd, dd, dd, dd, dd, dd, dd, dd, dd, dd, dd, dd, dd, dd, dd, dd, dd, dd, dd, dd, dd, dd, dd, dd, dd, dd, dd, dd, dd, dd, dd, dd, dd, dd, dd, dd, dd, dd, dd, dd, dd, dd, dd, dd, dd, dd, dd, dd, dd, dd, dd, dd, dd, dd, dd, dd, dd, dd, dd, dd, dd, dd, dd, dd, dd, dd, dd, dd, dd, dd, dd, .d (.v (.bool v_t133)), dd, dd, dd, dd, dd, dd, dd, dd, dd, dd, dd, dd, dd, dd, dd, dd, dd, dd, dd, dd, dd, dd, dd, dd, dd, dd, dd, dd, dd, dd, dd, dd, dd, dd, dd, dd, dd, dd, dd, dd, dd, dd, dd, dd, dd, dd, dd, dd, dd, dd, dd, dd, dd, dd, dd, dd, dd, dd, dd, dd, dd, dd, dd, dd, dd, dd, dd, dd, dd, dd, dd, dd, dd, dd, dd, dd, dd, dd, dd, dd, dd, dd, dd, dd, dd, dd, dd, dd, dd, dd, dd, dd, dd, dd, dd, dd, dd, dd, dd, dd, dd, dd, dd, dd, dd, dd, dd, dd, dd, dd, dd, dd, dd, dd, dd, dd, dd, dd, dd, dd, dd, dd, dd, dd, dd, dd, dd, dd, dd, dd, dd], [.box [.d (.v (.int .i64 v_r22.1.fEdge)), .d (.v (.int .i64 v_r22.1.fUp)), .d (.v (.int .i64 v_r22.1.fMasked)), .d (.v (.int .i64 v_r22.1.fPending))], .box [.d (.v (.int .i64 v_r27.1.fEdge)), .d (.v (.int .i64 v_r27.1.fUp)), .d (.v (.int .i64 v_r27.1.fMasked)), .d (.v (.int .i64 v_r27.1.fPending))], .box [.d (.v (.int .i64 0)), .d (.v (.int .i64 0)), .d (.v (.int .i64 0)), .d (.v (.int .i64 0))], .box [.d (.v (.bool ((v_r93 0).fEdge))), .d (.v (.bool ((v_r93 0).fUp))), .d (.v (.bool ((v_r93 0).fMasked))), .d (.v (.bool ((v_r93 0).fPending))), .d (.v (.bool ((v_r93 1).fEdge))), .d (.v (.bool ((v_r93 1).fUp))), .d (.v (.bool ((v_r93 1).fMasked))), .d (.v (.bool ((v_r93 1).fPending))), .d (.v (.bool ((v_r93 2).fEdge))), .d (.v (.bool ((v_r93 2).fUp))), .d (.v (.bool ((v_r93 2).fMasked))), .d (.v (.bool ((v_r93 2).fPending))), .d (.v (.bool ((v_r93 3).fEdge))), .d (.v (.bool ((v_r93 3).fUp))), .d (.v (.bool ((v_r93 3).fMasked))), .d (.v (.bool ((v_r93 3).fPending))), .d (.v (.bool ((v_r93 4).fEdge))), .d (.v (.bool ((v_r93 4).fUp))), .d (.v (.bool ((v_r93 4).fMasked))), .d (.v (.bool ((v_r93 4).fPending))), .d (.v (.bool ((v_r93 5).fEdge))), .d (.v (.bool ((v_r93 5).fUp))), .d (.v (.bool ((v_r93 5).fMasked))), .d (.v (.bool ((v_r93 5).fPending))), .d (.v (.bool ((v_r93 6).fEdge))), .d (.v (.bool ((v_r93 6).fUp))), .d (.v (.bool ((v_r93 6).fMasked))), .d (.v (.bool ((v_r93 6).fPending))), .d (.v (.bool ((v_r93 7).fEdge))), .d (.v (.bool ((v_r93 7).fUp))), .d (.v (.bool ((v_r93 7).fMasked))), .d (.v (.bool ((v_r93 7).fPending)))]]⟩
def G_ringlaw5_IrqSays_C2_hd (v_t5 : Int) (v_t6 : Bool) (v_r22 : (S_irq_Lines × Int)) (v_r27 : (S_irq_Lines × Int)) (v_r36 : (Int × Int)) (v_r39 : (S_irq_Lines × Int × Int)) (v_r93 : ((Fin 8 → S_ringref5_Line)))  : PS := ⟨[dd, dd, dd, dd, .d (.v (.int .i64 v_t5)), .d (.v (.bool v_t6)), dd, dd, dd, dd, dd, dd, dd, dd, .ref 0 0, .d (.v (.int .i64 v_r22.2)), .ref 1 0, .d (.v (.int .i64 v_r27.2)), .d (.v (.int .i64 v_r36.1)), .d (.v (.int .i64 v_r36.2)), .ref 2 0, .d (.v (.int .i64 v_r39.2.1)), .d (.v (.int .i64 v_r39.2.2)), dd, .ref 3 0, .ref 4 0, dd, dd, dd, dd, dd, dd, dd, dd, dd, dd, dd, dd, dd, dd, dd, dd, dd, dd, dd, dd, dd, dd, dd, dd, dd, dd, dd, dd, dd, dd, dd, dd, dd, dd, dd, dd, dd, dd, dd, dd, dd, dd, dd, dd, dd, dd, dd, dd, dd, dd, dd, dd, dd, dd, dd, dd, dd, dd, dd, dd, dd, dd, dd, dd, dd, dd, dd, dd, dd, dd, dd, dd, dd, dd, dd, dd, dd, dd, dd, dd, dd, dd, dd, dd, dd, dd, dd, dd, dd, dd, dd, dd, dd, dd, dd, dd, dd, dd, dd, dd, dd, dd, dd, dd, dd, dd, dd, dd, dd, dd, dd, dd, dd, dd, dd, dd, dd, dd, dd, dd, dd, dd, dd, dd, dd, dd, dd, dd, dd, dd, dd, dd, dd, dd, dd, dd, dd, dd, dd, dd, dd, dd, dd, dd, dd, dd, dd, dd, dd, dd, dd, dd, dd, dd, dd, dd, dd, dd, dd, dd, dd, dd, dd, dd, dd, dd, dd, dd, dd, dd, dd, dd, dd, dd, dd, dd, dd, dd, dd, dd, dd, dd, dd, dd, dd, dd, dd, dd, dd, dd, dd, dd, dd, dd, dd, dd, dd, dd, dd, dd, dd, dd, dd, dd, dd, dd, dd, dd, dd, dd, dd, dd, dd, dd, dd, dd, dd, dd, dd, dd, dd, dd, dd, dd, dd, dd, dd, dd, dd, dd, dd, dd, dd, dd, dd, dd, dd, dd, dd, dd, dd, dd, dd, dd, dd, dd, dd, dd, dd], [.box [.d (.v (.int .i64 v_r22.1.fEdge)), .d (.v (.int .i64 v_r22.1.fUp)), .d (.v (.int .i64 v_r22.1.fMasked)), .d (.v (.int .i64 v_r22.1.fPending))], .box [.d (.v (.int .i64 v_r27.1.fEdge)), .d (.v (.int .i64 v_r27.1.fUp)), .d (.v (.int .i64 v_r27.1.fMasked)), .d (.v (.int .i64 v_r27.1.fPending))], .box [.d (.v (.int .i64 v_r39.1.fEdge)), .d (.v (.int .i64 v_r39.1.fUp)), .d (.v (.int .i64 v_r39.1.fMasked)), .d (.v (.int .i64 v_r39.1.fPending))], .box [.d (.v (.int .i64 0)), .d (.v (.int .i64 0)), .d (.v (.int .i64 0)), .d (.v (.int .i64 0))], .box [.d (.v (.bool ((v_r93 0).fEdge))), .d (.v (.bool ((v_r93 0).fUp))), .d (.v (.bool ((v_r93 0).fMasked))), .d (.v (.bool ((v_r93 0).fPending))), .d (.v (.bool ((v_r93 1).fEdge))), .d (.v (.bool ((v_r93 1).fUp))), .d (.v (.bool ((v_r93 1).fMasked))), .d (.v (.bool ((v_r93 1).fPending))), .d (.v (.bool ((v_r93 2).fEdge))), .d (.v (.bool ((v_r93 2).fUp))), .d (.v (.bool ((v_r93 2).fMasked))), .d (.v (.bool ((v_r93 2).fPending))), .d (.v (.bool ((v_r93 3).fEdge))), .d (.v (.bool ((v_r93 3).fUp))), .d (.v (.bool ((v_r93 3).fMasked))), .d (.v (.bool ((v_r93 3).fPending))), .d (.v (.bool ((v_r93 4).fEdge))), .d (.v (.bool ((v_r93 4).fUp))), .d (.v (.bool ((v_r93 4).fMasked))), .d (.v (.bool ((v_r93 4).fPending))), .d (.v (.bool ((v_r93 5).fEdge))), .d (.v (.bool ((v_r93 5).fUp))), .d (.v (.bool ((v_r93 5).fMasked))), .d (.v (.bool ((v_r93 5).fPending))), .d (.v (.bool ((v_r93 6).fEdge))), .d (.v (.bool ((v_r93 6).fUp))), .d (.v (.bool ((v_r93 6).fMasked))), .d (.v (.bool ((v_r93 6).fPending))), .d (.v (.bool ((v_r93 7).fEdge))), .d (.v (.bool ((v_r93 7).fUp))), .d (.v (.bool ((v_r93 7).fMasked))), .d (.v (.bool ((v_r93 7).fPending)))]]⟩
def G_ringlaw5_IrqSays_C2 (n : Nat) (v_t5 : Int) (v_t6 : Bool) (v_r22 : (S_irq_Lines × Int)) (v_r27 : (S_irq_Lines × Int)) (v_r36 : (Int × Int)) (v_r39 : (S_irq_Lines × Int × Int)) (v_r93 : ((Fin 8 → S_ringref5_Line))) : Option G_ringlaw5_IrqSays_C2_R :=
  if v_r36.2 = 4 then
   if v_r39.2.2 = v_r36.2 then
    if v_r36.1 = 0 then
     if v_r39.2.1 = 0 then
      some (.x0 (eqRes .neq (eqS_irq_Lines v_r39.1 (S_irq_Lines.mk 0 0 0 0))))
     else
      some (.x0 true)
    else
     some (.x0 true)
   else
    some (.x0 true)
  else
   some (.x0 true)
theorem G_ringlaw5_IrqSays_C2_ok {Fi : Ex → PS → Prop} (hF : KC 275 Fi) (ks : List Fr) (n : Nat) (v_t5 : Int) (v_t6 : Bool) (v_r22 : (S_irq_Lines × Int)) (v_r27 : (S_irq_Lines × Int)) (v_r36 : (Int × Int)) (v_r39 : (S_irq_Lines × Int × Int)) (v_r93 : ((Fin 8 → S_ringref5_Line)))  (o : G_ringlaw5_IrqSays_C2_R) (h : G_ringlaw5_IrqSays_C2 n v_t5 v_t6 v_r22 v_r27 v_r36 v_r39 v_r93 = some o) (q : RunE Try.prog 275 Fi ks (G_ringlaw5_IrqSays_C2_ex o) (G_ringlaw5_IrqSays_C2_st v_t5 v_t6 v_r22 v_r27 v_r36 v_r39 v_r93 o)) : RunE Try.prog 275 Fi (.s (cL (cT (cR (cL (cR (cR (cR (cR (cR (cR (cR (cR (cR (cR (cR (cR (bodyOf Try.f3))))))))))))))))) :: ks) .normal (G_ringlaw5_IrqSays_C2_hd v_t5 v_t6 v_r22 v_r27 v_r36 v_r39 v_r93) := by
  unfold G_ringlaw5_IrqSays_C2 at h
  by_cases h185 : v_r36.2 = 4
  · rw [if_pos h185] at h
    by_cases h186 : v_r39.2.2 = v_r36.2
    · rw [if_pos h186] at h
      by_cases h187 : v_r36.1 = 0
      · rw [if_pos h187] at h
        by_cases h188 : v_r39.2.1 = 0
        · rw [if_pos h188] at h
          cases h
          exact pkk_sound TTok mix hF 1 (hs := [.t false, .c, .c, .t false, .c, .t false, .c, .t false, .c, .c, .c, .c, .q (eqS_irq_Lines v_r39.1 (S_irq_Lines.mk 0 0 0 0))]) (ts := []) (s := [0, 1, 3, 4]) (l := [4, 5, 14, 15, 16, 17, 24, 25, 143]) (by kernel_rfl) (by kernel_rfl) (.cons (nf h185) (.cons (nf h186) (.cons (nf h187) (.cons (nf h188) (.cons (eqS_irq_Lines_ok v_r39.1 (S_irq_Lines.mk 0 0 0 0)) .nil))))) q
        · rw [if_neg h188] at h
          cases h
          exact pkk_sound TTok mix hF 1 (hs := [.t false, .c, .c, .t false, .c, .t false, .c, .t true, .c, .c]) (ts := []) (s := [0, 1, 3, 4]) (l := [4, 5, 14, 15, 16, 17, 24, 25, 143]) (by kernel_rfl) (by kernel_rfl) (.cons (nf h185) (.cons (nf h186) (.cons (nf h187) (.cons (nt h188) .nil)))) q
      · rw [if_neg h187] at h
        cases h
        exact pkk_sound TTok mix hF 1 (hs := [.t false, .c, .c, .t false, .c, .t true, .c, .c, .c, .c]) (ts := []) (s := [0, 1, 3, 4]) (l := [4, 5, 14, 15, 16, 17, 24, 25, 143]) (by kernel_rfl) (by kernel_rfl) (.cons (nf h185) (.cons (nf h186) (.cons (nt h187) .nil))) q
    · rw [if_neg h186] at h
      cases h
      exact pkk_sound TTok mix hF 1 (hs := [.t false, .c, .c, .t true, .c, .c, .c, .c, .c, .c]) (ts := []) (s := [0, 1, 3, 4]) (l := [4, 5, 14, 15, 16, 17, 24, 25, 143]) (by kernel_rfl) (by kernel_rfl) (.cons (nf h185) (.cons (nt h186) .nil)) q
  · rw [if_neg h185] at h
    cases h
    exact pkk_sound TTok mix hF 1 (hs := [.t true, .c, .c, .c, .c, .c, .c, .c, .c, .c]) (ts := []) (s := [0, 1, 3, 4]) (l := [4, 5, 14, 15, 16, 17, 24, 25, 143]) (by kernel_rfl) (by kernel_rfl) (.cons (nt h185) .nil) q
inductive G_ringlaw5_IrqSays_C3_R where
  | x0 (v_t141 : Bool)
def G_ringlaw5_IrqSays_C3_ex : G_ringlaw5_IrqSays_C3_R → Ex
  | .x0 _ => .normal
def G_ringlaw5_IrqSays_C3_st (v_t5 : Int) (v_t6 : Bool) (v_r22 : (S_irq_Lines × Int)) (v_r27 : (S_irq_Lines × Int)) (v_r36 : (Int × Int)) (v_r39 : (S_irq_Lines × Int × Int)) (v_r111 : (Int)) (v_r93 : ((Fin 8 → S_ringref5_Line))) (v_t1 : Int) (v_t2 : Int) (v_t3 : Int) (v_t4 : Int) : G_ringlaw5_IrqSays_C3_R → PS
  | .x0 v_t141 => ⟨[dd, dd, dd, dd, .d (.v (.int .i64 v_t5)), .d (.v (.bool v_t6)), dd, dd, dd, dd, dd, dd, dd, dd, .ref 0 0, .d (.v (.int .i64 v_r22.2)), .ref 1 0, .d (.v (.int .i64 v_r27.2)), dd, dd, dd, dd, dd, dd, .ref 2 0, .ref 3 0, dd, dd, dd, dd, dd, dd, dd, dd, dd, dd, dd, dd, dd, dd, dd, dd, dd, dd, dd, dd, dd, dd, dd, dd, dd, dd, dd, dd, dd, dd, dd, dd, dd, dd, dd, dd, dd, dd, dd, dd, dd, dd, dd, dd, dd, dd, dd, dd, dd, dd, dd, dd, dd, dd, dd, dd, dd, dd, dd, dd, dd, dd, dd, dd, dd, dd, dd, dd, dd, dd, dd, dd, dd, dd, dd, dd, dd, dd, dd, dd, dd, dd, dd, dd, dd, dd, dd, dd, dd, dd, dd, dd, dd, dd, dd, dd, dd, dd, dd, dd, dd, dd, dd, dd, dd, dd, dd, dd, dd, dd, dd, dd, dd, dd, dd, dd, dd, dd, dd, dd, dd, dd, dd, dd, dd, dd, dd, dd, dd, dd, dd, dd, dd, dd, dd, dd, dd, dd, dd, dd, dd, dd, dd, dd, dd, dd, dd, dd, dd, dd, .d (.v (.bool v_t141)), dd, dd, dd, dd, dd, dd, dd, dd, dd, dd, dd, dd, dd, dd, dd, dd, dd, dd, dd, dd, dd, dd, dd, dd, dd, dd, dd, dd, dd, dd, dd, dd, dd, dd, dd, dd, dd, dd, dd, dd, dd, dd, dd, dd, dd, dd, dd, dd, dd, dd, dd, dd, dd, dd, dd, dd, dd, dd, dd, dd, dd, dd, dd, dd, dd, dd, dd, dd, dd, dd, dd, dd, dd, dd, dd, dd, dd, dd, dd, dd, dd, dd, dd, dd, dd, dd, dd, dd, dd, dd, dd, dd, dd, dd, dd, dd, dd, dd], [.box [.d (.v (.int .i64 v_r22.1.fEdge)), .d (.v (.int .i64 v_r22.1.fUp)), .d (.v (.int .i64 v_r22.1.fMasked)), .d (.v (.int .i64 v_r22.1.fPending))], .box [.d (.v (.int .i64 v_r27.1.fEdge)), .d (.v (.int .i64 v_r27.1.fUp)), .d (.v (.int .i64 v_r27.1.fMasked)), .d (.v (.int .i64 v_r27.1.fPending))], .box [.d (.v (.int .i64 0)), .d (.v (.int .i64 0)), .d (.v (.int .i64 0)), .d (.v (.int .i64 0))], .box [.d (.v (.bool ((v_r93 0).fEdge))), .d (.v (.bool ((v_r93 0).fUp))), .d (.v (.bool ((v_r93 0).fMasked))), .d (.v (.bool ((v_r93 0).fPending))), .d (.v (.bool ((v_r93 1).fEdge))), .d (.v (.bool ((v_r93 1).fUp))), .d (.v (.bool ((v_r93 1).fMasked))), .d (.v (.bool ((v_r93 1).fPending))), .d (.v (.bool ((v_r93 2).fEdge))), .d (.v (.bool ((v_r93 2).fUp))), .d (.v (.bool ((v_r93 2).fMasked))), .d (.v (.bool ((v_r93 2).fPending))), .d (.v (.bool ((v_r93 3).fEdge))), .d (.v (.bool ((v_r93 3).fUp))), .d (.v (.bool ((v_r93 3).fMasked))), .d (.v (.bool ((v_r93 3).fPending))), .d (.v (.bool ((v_r93 4).fEdge))), .d (.v (.bool ((v_r93 4).fUp))), .d (.v (.bool ((v_r93 4).fMasked))), .d (.v (.bool ((v_r93 4).fPending))), .d (.v (.bool ((v_r93 5).fEdge))), .d (.v (.bool ((v_r93 5).fUp))), .d (.v (.bool ((v_r93 5).fMasked))), .d (.v (.bool ((v_r93 5).fPending))), .d (.v (.bool ((v_r93 6).fEdge))), .d (.v (.bool ((v_r93 6).fUp))), .d (.v (.bool ((v_r93 6).fMasked))), .d (.v (.bool ((v_r93 6).fPending))), .d (.v (.bool ((v_r93 7).fEdge))), .d (.v (.bool ((v_r93 7).fUp))), .d (.v (.bool ((v_r93 7).fMasked))), .d (.v (.bool ((v_r93 7).fPending)))]]⟩
def G_ringlaw5_IrqSays_C3_hd (v_t5 : Int) (v_t6 : Bool) (v_r22 : (S_irq_Lines × Int)) (v_r27 : (S_irq_Lines × Int)) (v_r36 : (Int × Int)) (v_r39 : (S_irq_Lines × Int × Int)) (v_r111 : (Int)) (v_r93 : ((Fin 8 → S_ringref5_Line))) (v_t1 : Int) (v_t2 : Int) (v_t3 : Int) (v_t4 : Int)  : PS := ⟨[dd, dd, dd, dd, .d (.v (.int .i64 v_t5)), .d (.v (.bool v_t6)), dd, dd, dd, dd, dd, dd, dd, dd, .ref 0 0, .d (.v (.int .i64 v_r22.2)), .ref 1 0, .d (.v (.int .i64 v_r27.2)), .d (.v (.int .i64 v_r36.1)), .d (.v (.int .i64 v_r36.2)), .ref 2 0, .d (.v (.int .i64 v_r39.2.1)), .d (.v (.int .i64 v_r39.2.2)), dd, .ref 3 0, .ref 4 0, .d (.v (.int .i64 v_r111)), .ref 5 0, dd, dd, dd, dd, dd, dd, dd, dd, dd, dd, dd, dd, dd, dd, dd, dd, dd, dd, dd, dd, dd, dd, dd, dd, dd, dd, dd, dd, dd, dd, dd, dd, dd, dd, dd, dd, dd, dd, dd, dd, dd, dd, dd, dd, dd, dd, dd, dd, dd, dd, dd, dd, dd, dd, dd, dd, dd, dd, dd, dd, dd, dd, dd, dd, dd, dd, dd, dd, dd, dd, dd, dd, dd, dd, dd, dd, dd, dd, dd, dd, dd, dd, dd, dd, dd, dd, dd, dd, dd, dd, dd, dd, dd, dd, dd, dd, dd, dd, dd, dd, dd, dd, dd, dd, dd, dd, dd, dd, dd, dd, dd, dd, dd, dd, dd, dd, dd, dd, dd, dd, dd, dd, dd, dd, dd, dd, dd, dd, dd, dd, dd, dd, dd, dd, dd, dd, dd, dd, dd, dd, dd, dd, dd, dd, dd, dd, dd, dd, dd, dd, dd, dd, dd, dd, dd, dd, dd, dd, dd, dd, dd, dd, dd, dd, dd, dd, dd, dd, dd, dd, dd, dd, dd, dd, dd, dd, dd, dd, dd, dd, dd, dd, dd, dd, dd, dd, dd, dd, dd, dd, dd, dd, dd, dd, dd, dd, dd, dd, dd, dd, dd, dd, dd, dd, dd, dd, dd, dd, dd, dd, dd, dd, dd, dd, dd, dd, dd, dd, dd, dd, dd, dd, dd, dd, dd, dd, dd, dd, dd, dd, dd, dd, dd, dd, dd, dd, dd, dd, dd, dd, dd, dd, dd, dd, dd, dd, dd], [.box [.d (.v (.int .i64 v_r22.1.fEdge)), .d (.v (.int .i64 v_r22.1.fUp)), .d (.v (.int .i64 v_r22.1.fMasked)), .d (.v (.int .i64 v_r22.1.fPending))], .box [.d (.v (.int .i64 v_r27.1.fEdge)), .d (.v (.int .i64 v_r27.1.fUp)), .d (.v (.int .i64 v_r27.1.fMasked)), .d (.v (.int .i64 v_r27.1.fPending))], .box [.d (.v (.int .i64 v_r39.1.fEdge)), .d (.v (.int .i64 v_r39.1.fUp)), .d (.v (.int .i64 v_r39.1.fMasked)), .d (.v (.int .i64 v_r39.1.fPending))], .box [.d (.v (.int .i64 0)), .d (.v (.int .i64 0)), .d (.v (.int .i64 0)), .d (.v (.int .i64 0))], .box [.d (.v (.bool ((v_r93 0).fEdge))), .d (.v (.bool ((v_r93 0).fUp))), .d (.v (.bool ((v_r93 0).fMasked))), .d (.v (.bool ((v_r93 0).fPending))), .d (.v (.bool ((v_r93 1).fEdge))), .d (.v (.bool ((v_r93 1).fUp))), .d (.v (.bool ((v_r93 1).fMasked))), .d (.v (.bool ((v_r93 1).fPending))), .d (.v (.bool ((v_r93 2).fEdge))), .d (.v (.bool ((v_r93 2).fUp))), .d (.v (.bool ((v_r93 2).fMasked))), .d (.v (.bool ((v_r93 2).fPending))), .d (.v (.bool ((v_r93 3).fEdge))), .d (.v (.bool ((v_r93 3).fUp))), .d (.v (.bool ((v_r93 3).fMasked))), .d (.v (.bool ((v_r93 3).fPending))), .d (.v (.bool ((v_r93 4).fEdge))), .d (.v (.bool ((v_r93 4).fUp))), .d (.v (.bool ((v_r93 4).fMasked))), .d (.v (.bool ((v_r93 4).fPending))), .d (.v (.bool ((v_r93 5).fEdge))), .d (.v (.bool ((v_r93 5).fUp))), .d (.v (.bool ((v_r93 5).fMasked))), .d (.v (.bool ((v_r93 5).fPending))), .d (.v (.bool ((v_r93 6).fEdge))), .d (.v (.bool ((v_r93 6).fUp))), .d (.v (.bool ((v_r93 6).fMasked))), .d (.v (.bool ((v_r93 6).fPending))), .d (.v (.bool ((v_r93 7).fEdge))), .d (.v (.bool ((v_r93 7).fUp))), .d (.v (.bool ((v_r93 7).fMasked))), .d (.v (.bool ((v_r93 7).fPending)))], .box [.d (.v (.int .i64 v_t1)), .d (.v (.int .i64 v_t2)), .d (.v (.int .i64 v_t3)), .d (.v (.int .i64 (wi .i64 (v_t4 - (shlI .i64 1 v_r111)))))]]⟩
def G_ringlaw5_IrqSays_C3 (n : Nat) (v_t5 : Int) (v_t6 : Bool) (v_r22 : (S_irq_Lines × Int)) (v_r27 : (S_irq_Lines × Int)) (v_r36 : (Int × Int)) (v_r39 : (S_irq_Lines × Int × Int)) (v_r111 : (Int)) (v_r93 : ((Fin 8 → S_ringref5_Line))) (v_t1 : Int) (v_t2 : Int) (v_t3 : Int) (v_t4 : Int) : Option G_ringlaw5_IrqSays_C3_R :=
  if v_r36.2 = 0 then
   if v_r36.1 = v_r111 then
    if v_r39.2.2 = 0 then
     if v_r39.2.1 = v_r111 then
      some (.x0 (eqRes .neq (eqS_irq_Lines v_r39.1 (S_irq_Lines.mk v_t1 v_t2 v_t3 (wi .i64 (v_t4 - (shlI .i64 1 v_r111)))))))
     else
      some (.x0 true)
    else
     some (.x0 true)
   else
    some (.x0 true)
  else
   some (.x0 true)
theorem G_ringlaw5_IrqSays_C3_ok {Fi : Ex → PS → Prop} (hF : KC 275 Fi) (ks : List Fr) (n : Nat) (v_t5 : Int) (v_t6 : Bool) (v_r22 : (S_irq_Lines × Int)) (v_r27 : (S_irq_Lines × Int)) (v_r36 : (Int × Int)) (v_r39 : (S_irq_Lines × Int × Int)) (v_r111 : (Int)) (v_r93 : ((Fin 8 → S_ringref5_Line))) (v_t1 : Int) (v_t2 : Int) (v_t3 : Int) (v_t4 : Int)  (o : G_ringlaw5_IrqSays_C3_R) (h : G_ringlaw5_IrqSays_C3 n v_t5 v_t6 v_r22 v_r27 v_r36 v_r39 v_r111 v_r93 v_t1 v_t2 v_t3 v_t4 = some o) (q : RunE Try.prog 275 Fi ks (G_ringlaw5_IrqSays_C3_ex o) (G_ringlaw5_IrqSays_C3_st v_t5 v_t6 v_r22 v_r27 v_r36 v_r39 v_r111 v_r93 v_t1 v_t2 v_t3 v_t4 o)) : RunE Try.prog 275 Fi (.s (cL (cR (cR (cF (cR (cL (cR (cR (cR (cR (cR (cR (cR (cR (cR (cR (cR (cR (bodyOf Try.f3))))))))))))))))))) :: ks) .normal (G_ringlaw5_IrqSays_C3_hd v_t5 v_t6 v_r22 v_r27 v_r36 v_r39 v_r111 v_r93 v_t1 v_t2 v_t3 v_t4) := by
  unfold G_ringlaw5_IrqSays_C3 at h
  by_cases h200 : v_r36.2 = 0
  · rw [if_pos h200] at h
    by_cases h201 : v_r36.1 = v_r111
    · rw [if_pos h201] at h
      by_cases h202 : v_r39.2.2 = 0
      · rw [if_pos h202] at h
        by_cases h203 : v_r39.2.1 = v_r111
        · rw [if_pos h203] at h
          cases h
          exact pkk_sound TTok mix hF 1 (hs := [.t false, .c, .c, .t false, .c, .t false, .c, .c, .t false, .c, .c, .c, .c, .q (eqS_irq_Lines v_r39.1 (S_irq_Lines.mk v_t1 v_t2 v_t3 (wi .i64 (v_t4 - (shlI .i64 1 v_r111)))))]) (ts := []) (s := [0, 1, 3, 4]) (l := [4, 5, 14, 15, 16, 17, 24, 25, 176]) (by kernel_rfl) (by kernel_rfl) (.cons (nf h200) (.cons (nf h201) (.cons (nf h202) (.cons (nf h203) (.cons (eqS_irq_Lines_ok v_r39.1 (S_irq_Lines.mk v_t1 v_t2 v_t3 (wi .i64 (v_t4 - (shlI .i64 1 v_r111))))) .nil))))) q
        · rw [if_neg h203] at h
          cases h
          exact pkk_sound TTok mix hF 1 (hs := [.t false, .c, .c, .t false, .c, .t false, .c, .c, .t true, .c, .c]) (ts := []) (s := [0, 1, 3, 4]) (l := [4, 5, 14, 15, 16, 17, 24, 25, 176]) (by kernel_rfl) (by kernel_rfl) (.cons (nf h200) (.cons (nf h201) (.cons (nf h202) (.cons (nt h203) .nil)))) q
      · rw [if_neg h202] at h
        cases h
        exact pkk_sound TTok mix hF 1 (hs := [.t false, .c, .c, .t false, .c, .t true, .c, .c, .c, .c, .c]) (ts := []) (s := [0, 1, 3, 4]) (l := [4, 5, 14, 15, 16, 17, 24, 25, 176]) (by kernel_rfl) (by kernel_rfl) (.cons (nf h200) (.cons (nf h201) (.cons (nt h202) .nil))) q
    · rw [if_neg h201] at h
      cases h
      exact pkk_sound TTok mix hF 1 (hs := [.t false, .c, .c, .t true, .c, .c, .c, .c, .c, .c, .c]) (ts := []) (s := [0, 1, 3, 4]) (l := [4, 5, 14, 15, 16, 17, 24, 25, 176]) (by kernel_rfl) (by kernel_rfl) (.cons (nf h200) (.cons (nt h201) .nil)) q
  · rw [if_neg h200] at h
    cases h
    exact pkk_sound TTok mix hF 1 (hs := [.t true, .c, .c, .c, .c, .c, .c, .c, .c, .c, .c]) (ts := []) (s := [0, 1, 3, 4]) (l := [4, 5, 14, 15, 16, 17, 24, 25, 176]) (by kernel_rfl) (by kernel_rfl) (.cons (nt h200) .nil) q
inductive G_ringlaw5_IrqSays_C4_R where
  | x0 (v_t149 : Bool)
def G_ringlaw5_IrqSays_C4_ex : G_ringlaw5_IrqSays_C4_R → Ex
  | .x0 _ => .normal
def G_ringlaw5_IrqSays_C4_st (v_t5 : Int) (v_t6 : Bool) (v_r22 : (S_irq_Lines × Int)) (v_r27 : (S_irq_Lines × Int)) (v_r36 : (Int × Int)) (v_r39 : (S_irq_Lines × Int × Int)) (v_r111 : (Int)) (v_r93 : ((Fin 8 → S_ringref5_Line))) (v_t1 : Int) (v_t2 : Int) (v_t3 : Int) (v_t4 : Int) : G_ringlaw5_IrqSays_C4_R → PS
  | .x0 v_t149 => ⟨[dd, dd, dd, dd, .d (.v (.int .i64 v_t5)), .d (.v (.bool v_t6)), dd, dd, dd, dd, dd, dd, dd, dd, .ref 0 0, .d (.v (.int .i64 v_r22.2)), .ref 1 0, .d (.v (.int .i64 v_r27.2)), dd, dd, dd, dd, dd, dd, .ref 2 0, .ref 3 0, dd, dd, dd, dd, dd, dd, dd, dd, dd, dd, dd, dd, dd, dd, dd, dd, dd, dd, dd, dd, dd, dd, dd, dd, dd, dd, dd, dd, dd, dd, dd, dd, dd, dd, dd, dd, dd, dd, dd, dd, dd, dd, dd, dd, dd, dd, dd, dd, dd, dd, dd, dd, dd, dd, dd, dd, dd, dd, dd, dd, dd, dd, dd, dd, dd, dd, dd, dd, dd, dd, dd, dd, dd, dd, dd, dd, dd, dd, dd, dd, dd, dd, dd, dd, dd, dd, dd, dd, dd, dd, dd, dd, dd, dd, dd, dd, dd, dd, dd, dd, dd, dd, dd, dd, dd, dd, dd, dd, dd, dd, dd, dd, dd, dd, dd, dd, dd, dd, dd, dd, dd, dd, dd, dd, dd, dd, dd, dd, dd, dd, dd, dd, dd, dd, dd, dd, dd, dd, dd, dd, dd, dd, dd, dd, dd, dd, dd, dd, dd, dd, .d (.v (.bool v_t149)), dd, dd, dd, dd, dd, dd, dd, dd, dd, dd, dd, dd, dd, dd, dd, dd, dd, dd, dd, dd, dd, dd, dd, dd, dd, dd, dd, dd, dd, dd, dd, dd, dd, dd, dd, dd, dd, dd, dd, dd, dd, dd, dd, dd, dd, dd, dd, dd, dd, dd, dd, dd, dd, dd, dd, dd, dd, dd, dd, dd, dd, dd, dd, dd, dd, dd, dd, dd, dd, dd, dd, dd, dd, dd, dd, dd, dd, dd, dd, dd, dd, dd, dd, dd, dd, dd, dd, dd, dd, dd, dd, dd, dd, dd, dd, dd, dd, dd], [.box [.d (.v (.int .i64 v_r22.1.fEdge)), .d (.v (.int .i64 v_r22.1.fUp)), .d (.v (.int .i64 v_r22.1.fMasked)), .d (.v (.int .i64 v_r22.1.fPending))], .box [.d (.v (.int .i64 v_r27.1.fEdge)), .d (.v (.int .i64 v_r27.1.fUp)), .d (.v (.int .i64 v_r27.1.fMasked)), .d (.v (.int .i64 v_r27.1.fPending))], .box [.d (.v (.int .i64 0)), .d (.v (.int .i64 0)), .d (.v (.int .i64 0)), .d (.v (.int .i64 0))], .box [.d (.v (.bool ((v_r93 0).fEdge))), .d (.v (.bool ((v_r93 0).fUp))), .d (.v (.bool ((v_r93 0).fMasked))), .d (.v (.bool ((v_r93 0).fPending))), .d (.v (.bool ((v_r93 1).fEdge))), .d (.v (.bool ((v_r93 1).fUp))), .d (.v (.bool ((v_r93 1).fMasked))), .d (.v (.bool ((v_r93 1).fPending))), .d (.v (.bool ((v_r93 2).fEdge))), .d (.v (.bool ((v_r93 2).fUp))), .d (.v (.bool ((v_r93 2).fMasked))), .d (.v (.bool ((v_r93 2).fPending))), .d (.v (.bool ((v_r93 3).fEdge))), .d (.v (.bool ((v_r93 3).fUp))), .d (.v (.bool ((v_r93 3).fMasked))), .d (.v (.bool ((v_r93 3).fPending))), .d (.v (.bool ((v_r93 4).fEdge))), .d (.v (.bool ((v_r93 4).fUp))), .d (.v (.bool ((v_r93 4).fMasked))), .d (.v (.bool ((v_r93 4).fPending))), .d (.v (.bool ((v_r93 5).fEdge))), .d (.v (.bool ((v_r93 5).fUp))), .d (.v (.bool ((v_r93 5).fMasked))), .d (.v (.bool ((v_r93 5).fPending))), .d (.v (.bool ((v_r93 6).fEdge))), .d (.v (.bool ((v_r93 6).fUp))), .d (.v (.bool ((v_r93 6).fMasked))), .d (.v (.bool ((v_r93 6).fPending))), .d (.v (.bool ((v_r93 7).fEdge))), .d (.v (.bool ((v_r93 7).fUp))), .d (.v (.bool ((v_r93 7).fMasked))), .d (.v (.bool ((v_r93 7).fPending)))]]⟩
def G_ringlaw5_IrqSays_C4_hd (v_t5 : Int) (v_t6 : Bool) (v_r22 : (S_irq_Lines × Int)) (v_r27 : (S_irq_Lines × Int)) (v_r36 : (Int × Int)) (v_r39 : (S_irq_Lines × Int × Int)) (v_r111 : (Int)) (v_r93 : ((Fin 8 → S_ringref5_Line))) (v_t1 : Int) (v_t2 : Int) (v_t3 : Int) (v_t4 : Int)  : PS := ⟨[dd, dd, dd, dd, .d (.v (.int .i64 v_t5)), .d (.v (.bool v_t6)), dd, dd, dd, dd, dd, dd, dd, dd, .ref 0 0, .d (.v (.int .i64 v_r22.2)), .ref 1 0, .d (.v (.int .i64 v_r27.2)), .d (.v (.int .i64 v_r36.1)), .d (.v (.int .i64 v_r36.2)), .ref 2 0, .d (.v (.int .i64 v_r39.2.1)), .d (.v (.int .i64 v_r39.2.2)), dd, .ref 3 0, .ref 4 0, .d (.v (.int .i64 v_r111)), .ref 5 0, dd, dd, dd, dd, dd, dd, dd, dd, dd, dd, dd, dd, dd, dd, dd, dd, dd, dd, dd, dd, dd, dd, dd, dd, dd, dd, dd, dd, dd, dd, dd, dd, dd, dd, dd, dd, dd, dd, dd, dd, dd, dd, dd, dd, dd, dd, dd, dd, dd, dd, dd, dd, dd, dd, dd, dd, dd, dd, dd, dd, dd, dd, dd, dd, dd, dd, dd, dd, dd, dd, dd, dd, dd, dd, dd, dd, dd, dd, dd, dd, dd, dd, dd, dd, dd, dd, dd, dd, dd, dd, dd, dd, dd, dd, dd, dd, dd, dd, dd, dd, dd, dd, dd, dd, dd, dd, dd, dd, dd, dd, dd, dd, dd, dd, dd, dd, dd, dd, dd, dd, dd, dd, dd, dd, dd, dd, dd, dd, dd, dd, dd, dd, dd, dd, dd, dd, dd, dd, dd, dd, dd, dd, dd, dd, dd, dd, dd, dd, dd, dd, dd, dd, dd, dd, dd, dd, dd, dd, dd, dd, dd, dd, dd, dd, dd, dd, dd, dd, dd, dd, dd, dd, dd, dd, dd, dd, dd, dd, dd, dd, dd, dd, dd, dd, dd, dd, dd, dd, dd, dd, dd, dd, dd, dd, dd, dd, dd, dd, dd, dd, dd, dd, dd, dd, dd, dd, dd, dd, dd, dd, dd, dd, dd, dd, dd, dd, dd, dd, dd, dd, dd, dd, dd, dd, dd, dd, dd, dd, dd, dd, dd, dd, dd, dd, dd, dd, dd, dd, dd, dd, dd, dd, dd, dd, dd, dd, dd], [.box [.d (.v (.int .i64 v_r22.1.fEdge)), .d (.v (.int .i64 v_r22.1.fUp)), .d (.v (.int .i64 v_r22.1.fMasked)), .d (.v (.int .i64 v_r22.1.fPending))], .box [.d (.v (.int .i64 v_r27.1.fEdge)), .d (.v (.int .i64 v_r27.1.fUp)), .d (.v (.int .i64 v_r27.1.fMasked)), .d (.v (.int .i64 v_r27.1.fPending))], .box [.d (.v (.int .i64 v_r39.1.fEdge)), .d (.v (.int .i64 v_r39.1.fUp)), .d (.v (.int .i64 v_r39.1.fMasked)), .d (.v (.int .i64 v_r39.1.fPending))], .box [.d (.v (.int .i64 0)), .d (.v (.int .i64 0)), .d (.v (.int .i64 0)), .d (.v (.int .i64 0))], .box [.d (.v (.bool ((v_r93 0).fEdge))), .d (.v (.bool ((v_r93 0).fUp))), .d (.v (.bool ((v_r93 0).fMasked))), .d (.v (.bool ((v_r93 0).fPending))), .d (.v (.bool ((v_r93 1).fEdge))), .d (.v (.bool ((v_r93 1).fUp))), .d (.v (.bool ((v_r93 1).fMasked))), .d (.v (.bool ((v_r93 1).fPending))), .d (.v (.bool ((v_r93 2).fEdge))), .d (.v (.bool ((v_r93 2).fUp))), .d (.v (.bool ((v_r93 2).fMasked))), .d (.v (.bool ((v_r93 2).fPending))), .d (.v (.bool ((v_r93 3).fEdge))), .d (.v (.bool ((v_r93 3).fUp))), .d (.v (.bool ((v_r93 3).fMasked))), .d (.v (.bool ((v_r93 3).fPending))), .d (.v (.bool ((v_r93 4).fEdge))), .d (.v (.bool ((v_r93 4).fUp))), .d (.v (.bool ((v_r93 4).fMasked))), .d (.v (.bool ((v_r93 4).fPending))), .d (.v (.bool ((v_r93 5).fEdge))), .d (.v (.bool ((v_r93 5).fUp))), .d (.v (.bool ((v_r93 5).fMasked))), .d (.v (.bool ((v_r93 5).fPending))), .d (.v (.bool ((v_r93 6).fEdge))), .d (.v (.bool ((v_r93 6).fUp))), .d (.v (.bool ((v_r93 6).fMasked))), .d (.v (.bool ((v_r93 6).fPending))), .d (.v (.bool ((v_r93 7).fEdge))), .d (.v (.bool ((v_r93 7).fUp))), .d (.v (.bool ((v_r93 7).fMasked))), .d (.v (.bool ((v_r93 7).fPending)))], .box [.d (.v (.int .i64 v_t1)), .d (.v (.int .i64 v_t2)), .d (.v (.int .i64 v_t3)), .d (.v (.int .i64 v_t4))]]⟩
def G_ringlaw5_IrqSays_C4 (n : Nat) (v_t5 : Int) (v_t6 : Bool) (v_r22 : (S_irq_Lines × Int)) (v_r27 : (S_irq_Lines × Int)) (v_r36 : (Int × Int)) (v_r39 : (S_irq_Lines × Int × Int)) (v_r111 : (Int)) (v_r93 : ((Fin 8 → S_ringref5_Line))) (v_t1 : Int) (v_t2 : Int) (v_t3 : Int) (v_t4 : Int) : Option G_ringlaw5_IrqSays_C4_R :=
  if v_r36.2 = 0 then
   if v_r36.1 = v_r111 then
    if v_r39.2.2 = 0 then
     if v_r39.2.1 = v_r111 then
      some (.x0 (eqRes .neq (eqS_irq_Lines v_r39.1 (S_irq_Lines.mk v_t1 v_t2 v_t3 v_t4))))
     else
      some (.x0 true)
    else
     some (.x0 true)
   else
    some (.x0 true)
  else
   some (.x0 true)
theorem G_ringlaw5_IrqSays_C4_ok {Fi : Ex → PS → Prop} (hF : KC 275 Fi) (ks : List Fr) (n : Nat) (v_t5 : Int) (v_t6 : Bool) (v_r22 : (S_irq_Lines × Int)) (v_r27 : (S_irq_Lines × Int)) (v_r36 : (Int × Int)) (v_r39 : (S_irq_Lines × Int × Int)) (v_r111 : (Int)) (v_r93 : ((Fin 8 → S_ringref5_Line))) (v_t1 : Int) (v_t2 : Int) (v_t3 : Int) (v_t4 : Int)  (o : G_ringlaw5_IrqSays_C4_R) (h : G_ringlaw5_IrqSays_C4 n v_t5 v_t6 v_r22 v_r27 v_r36 v_r39 v_r111 v_r93 v_t1 v_t2 v_t3 v_t4 = some o) (q : RunE Try.prog 275 Fi ks (G_ringlaw5_IrqSays_C4_ex o) (G_ringlaw5_IrqSays_C4_st v_t5 v_t6 v_r22 v_r27 v_r36 v_r39 v_r111 v_r93 v_t1 v_t2 v_t3 v_t4 o)) : RunE Try.prog 275 Fi (.s (cL (cR (cR (cF (cR (cL (cR (cR (cR (cR (cR (cR (cR (cR (cR (cR (cR (cR (bodyOf Try.f3))))))))))))))))))) :: ks) .normal (G_ringlaw5_IrqSays_C4_hd v_t5 v_t6 v_r22 v_r27 v_r36 v_r39 v_r111 v_r93 v_t1 v_t2 v_t3 v_t4) := by
  unfold G_ringlaw5_IrqSays_C4 at h
  by_cases h210 : v_r36.2 = 0
  · rw [if_pos h210] at h
    by_cases h211 : v_r36.1 = v_r111
    · rw [if_pos h211] at h
      by_cases h212 : v_r39.2.2 = 0
      · rw [if_pos h212] at h
        by_cases h213 : v_r39.2.1 = v_r111
        · rw [if_pos h213] at h
          cases h
          exact pkk_sound TTok mix hF 1 (hs := [.t false, .c, .c, .t false, .c, .t false, .c, .c, .t false, .c, .c, .c, .c, .q (eqS_irq_Lines v_r39.1 (S_irq_Lines.mk v_t1 v_t2 v_t3 v_t4))]) (ts := []) (s := [0, 1, 3, 4]) (l := [4, 5, 14, 15, 16, 17, 24, 25, 176]) (by kernel_rfl) (by kernel_rfl) (.cons (nf h210) (.cons (nf h211) (.cons (nf h212) (.cons (nf h213) (.cons (eqS_irq_Lines_ok v_r39.1 (S_irq_Lines.mk v_t1 v_t2 v_t3 v_t4)) .nil))))) q
        · rw [if_neg h213] at h
          cases h
          exact pkk_sound TTok mix hF 1 (hs := [.t false, .c, .c, .t false, .c, .t false, .c, .c, .t true, .c, .c]) (ts := []) (s := [0, 1, 3, 4]) (l := [4, 5, 14, 15, 16, 17, 24, 25, 176]) (by kernel_rfl) (by kernel_rfl) (.cons (nf h210) (.cons (nf h211) (.cons (nf h212) (.cons (nt h213) .nil)))) q
      · rw [if_neg h212] at h
        cases h
        exact pkk_sound TTok mix hF 1 (hs := [.t false, .c, .c, .t false, .c, .t true, .c, .c, .c, .c, .c]) (ts := []) (s := [0, 1, 3, 4]) (l := [4, 5, 14, 15, 16, 17, 24, 25, 176]) (by kernel_rfl) (by kernel_rfl) (.cons (nf h210) (.cons (nf h211) (.cons (nt h212) .nil))) q
    · rw [if_neg h211] at h
      cases h
      exact pkk_sound TTok mix hF 1 (hs := [.t false, .c, .c, .t true, .c, .c, .c, .c, .c, .c, .c]) (ts := []) (s := [0, 1, 3, 4]) (l := [4, 5, 14, 15, 16, 17, 24, 25, 176]) (by kernel_rfl) (by kernel_rfl) (.cons (nf h210) (.cons (nt h211) .nil)) q
  · rw [if_neg h210] at h
    cases h
    exact pkk_sound TTok mix hF 1 (hs := [.t true, .c, .c, .c, .c, .c, .c, .c, .c, .c, .c]) (ts := []) (s := [0, 1, 3, 4]) (l := [4, 5, 14, 15, 16, 17, 24, 25, 176]) (by kernel_rfl) (by kernel_rfl) (.cons (nt h210) .nil) q
inductive G_ringlaw5_IrqSays_C5_R where
  | x0 (v_t140 : Bool)
  | x1 
def G_ringlaw5_IrqSays_C5_ex : G_ringlaw5_IrqSays_C5_R → Ex
  | .x0 _ => .ret
  | .x1  => .normal
def G_ringlaw5_IrqSays_C5_st (v_t4 : Int) (v_t5 : Int) (v_t6 : Bool) (v_r22 : (S_irq_Lines × Int)) (v_r27 : (S_irq_Lines × Int)) (v_r36 : (Int × Int)) (v_r39 : (S_irq_Lines × Int × Int)) (v_r111 : (Int)) (v_t1 : Int) (v_t2 : Int) (v_t3 : Int) (v_r93 : ((Fin 8 → S_ringref5_Line))) : G_ringlaw5_IrqSays_C5_R → PS
  | .x0 v_t140 => ⟨[dd, dd, dd, dd, dd, dd, dd, dd, dd, dd, dd, dd, .d (.v (.bool v_t140)), dd, dd, dd, dd, dd, dd, dd, dd, dd, dd, dd, dd, dd, dd, dd, dd, dd, dd, dd, dd, dd, dd, dd, dd, dd, dd, dd, dd, dd, dd, dd, dd, dd, dd, dd, dd, dd, dd, dd, dd, dd, dd, dd, dd, dd, dd, dd, dd, dd, dd, dd, dd, dd, dd, dd, dd, dd, dd, dd, dd, dd, dd, dd, dd, dd, dd, dd, dd, dd, dd, dd, dd, dd, dd, dd, dd, dd, dd, dd, dd, dd, dd, dd, dd, dd, dd, dd, dd, dd, dd, dd, dd, dd, dd, dd, dd, dd, dd, dd, dd, dd, dd, dd, dd, dd, dd, dd, dd, dd, dd, dd, dd, dd, dd, dd, dd, dd, dd, dd, dd, dd, dd, dd, dd, dd, dd, dd, dd, dd, dd, dd, dd, dd, dd, dd, dd, dd, dd, dd, dd, dd, dd, dd, dd, dd, dd, dd, dd, dd, dd, dd, dd, dd, dd, dd, dd, dd, dd, dd, dd, dd, dd, dd, dd, dd, dd, dd, dd, dd, dd, dd, dd, dd, dd, dd, dd, dd, dd, dd, dd, dd, dd, dd, dd, dd, dd, dd, dd, dd, dd, dd, dd, dd, dd, dd, dd, dd, dd, dd, dd, dd, dd, dd, dd, dd, dd, dd, dd, dd, dd, dd, dd, dd, dd, dd, dd, dd, dd, dd, dd, dd, dd, dd, dd, dd, dd, dd, dd, dd, dd, dd, dd, dd, dd, dd, dd, dd, dd, dd, dd, dd, dd, dd, dd, dd, dd, dd, dd, dd, dd, dd, dd, dd, dd, dd, dd, dd, dd, dd, dd, dd, dd], []⟩
  | .x1  => ⟨[dd, dd, dd, dd, .d (.v (.int .i64 v_t5)), .d (.v (.bool v_t6)), dd, dd, dd, dd, dd, dd, dd, dd, .ref 0 0, .d (.v (.int .i64 v_r22.2)), .ref 1 0, .d (.v (.int .i64 v_r27.2)), dd, dd, dd, dd, dd, dd, .ref 2 0, .ref 3 0, dd, dd, dd, dd, dd, dd, dd, dd, dd, dd, dd, dd, dd, dd, dd, dd, dd, dd, dd, dd, dd, dd, dd, dd, dd, dd, dd, dd, dd, dd, dd, dd, dd, dd, dd, dd, dd, dd, dd, dd, dd, dd, dd, dd, dd, dd, dd, dd, dd, dd, dd, dd, dd, dd, dd, dd, dd, dd, dd, dd, dd, dd, dd, dd, dd, dd, dd, dd, dd, dd, dd, dd, dd, dd, dd, dd, dd, dd, dd, dd, dd, dd, dd, dd, dd, dd, dd, dd, dd, dd, dd, dd, dd, dd, dd, dd, dd, dd, dd, dd, dd, dd, dd, dd, dd, dd, dd, dd, dd, dd, dd, dd, dd, dd, dd, dd, dd, dd, dd, dd, dd, dd, dd, dd, dd, dd, dd, dd, dd, dd, dd, dd, dd, dd, dd, dd, dd, dd, dd, dd, dd, dd, dd, dd, dd, dd, dd, dd, dd, dd, dd, dd, dd, dd, dd, dd, dd, dd, dd, dd, dd, dd, dd, dd, dd, dd, dd, dd, dd, dd, dd, dd, dd, dd, dd, dd, dd, dd, dd, dd, dd, dd, dd, dd, dd, dd, dd, dd, dd, dd, dd, dd, dd, dd, dd, dd, dd, dd, dd, dd, dd, dd, dd, dd, dd, dd, dd, dd, dd, dd, dd, dd, dd, dd, dd, dd, dd, dd, dd, dd, dd, dd, dd, dd, dd, dd, dd, dd, dd, dd, dd, dd, dd, dd, dd, dd, dd, dd, dd, dd, dd, dd, dd, dd, dd, dd, dd, dd, dd], [.box [.d (.v (.int .i64 v_r22.1.fEdge)), .d (.v (.int .i64 v_r22.1.fUp)), .d (.v (.int .i64 v_r22.1.fMasked)), .d (.v (.int .i64 v_r22.1.fPending))], .box [.d (.v (.int .i64 v_r27.1.fEdge)), .d (.v (.int .i64 v_r27.1.fUp)), .d (.v (.int .i64 v_r27.1.fMasked)), .d (.v (.int .i64 v_r27.1.fPending))], .box [.d (.v (.int .i64 0)), .d (.v (.int .i64 0)), .d (.v (.int .i64 0)), .d (.v (.int .i64 0))], .box [.d (.v (.bool ((v_r93 0).fEdge))), .d (.v (.bool ((v_r93 0).fUp))), .d (.v (.bool ((v_r93 0).fMasked))), .d (.v (.bool ((v_r93 0).fPending))), .d (.v (.bool ((v_r93 1).fEdge))), .d (.v (.bool ((v_r93 1).fUp))), .d (.v (.bool ((v_r93 1).fMasked))), .d (.v (.bool ((v_r93 1).fPending))), .d (.v (.bool ((v_r93 2).fEdge))), .d (.v (.bool ((v_r93 2).fUp))), .d (.v (.bool ((v_r93 2).fMasked))), .d (.v (.bool ((v_r93 2).fPending))), .d (.v (.bool ((v_r93 3).fEdge))), .d (.v (.bool ((v_r93 3).fUp))), .d (.v (.bool ((v_r93 3).fMasked))), .d (.v (.bool ((v_r93 3).fPending))), .d (.v (.bool ((v_r93 4).fEdge))), .d (.v (.bool ((v_r93 4).fUp))), .d (.v (.bool ((v_r93 4).fMasked))), .d (.v (.bool ((v_r93 4).fPending))), .d (.v (.bool ((v_r93 5).fEdge))), .d (.v (.bool ((v_r93 5).fUp))), .d (.v (.bool ((v_r93 5).fMasked))), .d (.v (.bool ((v_r93 5).fPending))), .d (.v (.bool ((v_r93 6).fEdge))), .d (.v (.bool ((v_r93 6).fUp))), .d (.v (.bool ((v_r93 6).fMasked))), .d (.v (.bool ((v_r93 6).fPending))), .d (.v (.bool ((v_r93 7).fEdge))), .d (.v (.bool ((v_r93 7).fUp))), .d (.v (.bool ((v_r93 7).fMasked))), .d (.v (.bool ((v_r93 7).fPending)))]]⟩
def G_ringlaw5_IrqSays_C5_hd (v_t4 : Int) (v_t5 : Int) (v_t6 : Bool) (v_r22 : (S_irq_Lines × Int)) (v_r27 : (S_irq_Lines × Int)) (v_r36 : (Int × Int)) (v_r39 : (S_irq_Lines × Int × Int)) (v_r111 : (Int)) (v_t1 : Int) (v_t2 : Int) (v_t3 : Int) (v_r93 : ((Fin 8 → S_ringref5_Line)))  : PS := ⟨[dd, dd, dd, .d (.v (.int .i64 v_t4)), .d (.v (.int .i64 v_t5)), .d (.v (.bool v_t6)), dd, dd, dd, dd, dd, dd, dd, .ref 0 0, .ref 1 0, .d (.v (.int .i64 v_r22.2)), .ref 2 0, .d (.v (.int .i64 v_r27.2)), .d (.v (.int .i64 v_r36.1)), .d (.v (.int .i64 v_r36.2)), .ref 3 0, .d (.v (.int .i64 v_r39.2.1)), .d (.v (.int .i64 v_r39.2.2)), dd, .ref 4 0, .ref 5 0, .d (.v (.int .i64 v_r111)), dd, dd, dd, dd, dd, dd, dd, dd, dd, dd, dd, dd, dd, dd, dd, dd, dd, dd, dd, dd, dd, dd, dd, dd, dd, dd, dd, dd, dd, dd, dd, dd, dd, dd, dd, dd, dd, dd, dd, dd, dd, dd, dd, dd, dd, dd, dd, dd, dd, dd, dd, dd, dd, dd, dd, dd, dd, dd, dd, dd, dd, dd, dd, dd, dd, dd, dd, dd, dd, dd, dd, dd, dd, dd, dd, dd, dd, dd, dd, dd, dd, dd, dd, dd, dd, dd, dd, dd, dd, dd, dd, dd, dd, dd, dd, dd, .d (.v (.bool (decide (v_r111 < 0)))), dd, dd, dd, dd, dd, dd, dd, dd, dd, dd, dd, dd, dd, dd, dd, dd, dd, dd, dd, dd, dd, dd, dd, dd, dd, dd, dd, dd, dd, dd, dd, dd, dd, dd, dd, dd, dd, dd, dd, dd, dd, dd, dd, dd, dd, dd, dd, dd, dd, dd, dd, dd, dd, dd, dd, dd, dd, dd, dd, dd, dd, dd, dd, dd, dd, dd, dd, dd, dd, dd, dd, dd, dd, dd, dd, dd, dd, dd, dd, dd, dd, dd, dd, dd, dd, dd, dd, dd, dd, dd, dd, dd, dd, dd, dd, dd, dd, dd, dd, dd, dd, dd, dd, dd, dd, dd, dd, dd, dd, dd, dd, dd, dd, dd, dd, dd, dd, dd, dd, dd, dd, dd, dd, dd, dd, dd, dd, dd, dd, dd, dd, dd, dd, dd, dd, dd, dd, dd, dd, dd, dd, dd, dd, dd, dd, dd, dd, dd, dd, dd, dd], [.box [.d (.v (.int .i64 v_t1)), .d (.v (.int .i64 v_t2)), .d (.v (.int .i64 v_t3)), .d (.v (.int .i64 v_t4))], .box [.d (.v (.int .i64 v_r22.1.fEdge)), .d (.v (.int .i64 v_r22.1.fUp)), .d (.v (.int .i64 v_r22.1.fMasked)), .d (.v (.int .i64 v_r22.1.fPending))], .box [.d (.v (.int .i64 v_r27.1.fEdge)), .d (.v (.int .i64 v_r27.1.fUp)), .d (.v (.int .i64 v_r27.1.fMasked)), .d (.v (.int .i64 v_r27.1.fPending))], .box [.d (.v (.int .i64 v_r39.1.fEdge)), .d (.v (.int .i64 v_r39.1.fUp)), .d (.v (.int .i64 v_r39.1.fMasked)), .d (.v (.int .i64 v_r39.1.fPending))], .box [.d (.v (.int .i64 0)), .d (.v (.int .i64 0)), .d (.v (.int .i64 0)), .d (.v (.int .i64 0))], .box [.d (.v (.bool ((v_r93 0).fEdge))), .d (.v (.bool ((v_r93 0).fUp))), .d (.v (.bool ((v_r93 0).fMasked))), .d (.v (.bool ((v_r93 0).fPending))), .d (.v (.bool ((v_r93 1).fEdge))), .d (.v (.bool ((v_r93 1).fUp))), .d (.v (.bool ((v_r93 1).fMasked))), .d (.v (.bool ((v_r93 1).fPending))), .d (.v (.bool ((v_r93 2).fEdge))), .d (.v (.bool ((v_r93 2).fUp))), .d (.v (.bool ((v_r93 2).fMasked))), .d (.v (.bool ((v_r93 2).fPending))), .d (.v (.bool ((v_r93 3).fEdge))), .d (.v (.bool ((v_r93 3).fUp))), .d (.v (.bool ((v_r93 3).fMasked))), .d (.v (.bool ((v_r93 3).fPending))), .d (.v (.bool ((v_r93 4).fEdge))), .d (.v (.bool ((v_r93 4).fUp))), .d (.v (.bool ((v_r93 4).fMasked))), .d (.v (.bool ((v_r93 4).fPending))), .d (.v (.bool ((v_r93 5).fEdge))), .d (.v (.bool ((v_r93 5).fUp))), .d (.v (.bool ((v_r93 5).fMasked))), .d (.v (.bool ((v_r93 5).fPending))), .d (.v (.bool ((v_r93 6).fEdge))), .d (.v (.bool ((v_r93 6).fUp))), .d (.v (.bool ((v_r93 6).fMasked))), .d (.v (.bool ((v_r93 6).fPending))), .d (.v (.bool ((v_r93 7).fEdge))), .d (.v (.bool ((v_r93 7).fUp))), .d (.v (.bool ((v_r93 7).fMasked))), .d (.v (.bool ((v_r93 7).fPending)))]]⟩
def G_ringlaw5_IrqSays_C5 (n : Nat) (v_t4 : Int) (v_t5 : Int) (v_t6 : Bool) (v_r22 : (S_irq_Lines × Int)) (v_r27 : (S_irq_Lines × Int)) (v_r36 : (Int × Int)) (v_r39 : (S_irq_Lines × Int × Int)) (v_r111 : (Int)) (v_t1 : Int) (v_t2 : Int) (v_t3 : Int) (v_r93 : ((Fin 8 → S_ringref5_Line))) : Option G_ringlaw5_IrqSays_C5_R :=
  if v_r111 < 0 then
   (G_ringlaw5_IrqSays_C2 n v_t5 v_t6 v_r22 v_r27 v_r36 v_r39 v_r93).bind fun v_o138 => match v_o138 with
   | .x0 v_z139 =>
     if v_z139 = true then
      some (.x0 false)
     else
      some (.x1 )
  else
   if 0 ≤ v_r111 then
    if (bits .and .i64 (shrI .i64 v_t4 v_r111) 1) = 1 then
     if 0 ≤ v_r111 then
      (G_ringlaw5_IrqSays_C3 n v_t5 v_t6 v_r22 v_r27 v_r36 v_r39 v_r111 v_r93 v_t1 v_t2 v_t3 v_t4).bind fun v_o146 => match v_o146 with
      | .x0 v_z147 =>
        if v_z147 = true then
         some (.x0 false)
        else
         some (.x1 )
     else none
    else
     (G_ringlaw5_IrqSays_C4 n v_t5 v_t6 v_r22 v_r27 v_r36 v_r39 v_r111 v_r93 v_t1 v_t2 v_t3 v_t4).bind fun v_o154 => match v_o154 with
     | .x0 v_z155 =>
       if v_z155 = true then
        some (.x0 false)
       else
        some (.x1 )
   else none
theorem G_ringlaw5_IrqSays_C5_ok {Fi : Ex → PS → Prop} (hF : KC 275 Fi) (ks : List Fr) (n : Nat) (v_t4 : Int) (v_t5 : Int) (v_t6 : Bool) (v_r22 : (S_irq_Lines × Int)) (v_r27 : (S_irq_Lines × Int)) (v_r36 : (Int × Int)) (v_r39 : (S_irq_Lines × Int × Int)) (v_r111 : (Int)) (v_t1 : Int) (v_t2 : Int) (v_t3 : Int) (v_r93 : ((Fin 8 → S_ringref5_Line)))  (o : G_ringlaw5_IrqSays_C5_R) (h : G_ringlaw5_IrqSays_C5 n v_t4 v_t5 v_t6 v_r22 v_r27 v_r36 v_r39 v_r111 v_t1 v_t2 v_t3 v_r93 = some o) (q : RunE Try.prog 275 Fi ks (G_ringlaw5_IrqSays_C5_ex o) (G_ringlaw5_IrqSays_C5_st v_t4 v_t5 v_t6 v_r22 v_r27 v_r36 v_r39 v_r111 v_t1 v_t2 v_t3 v_r93 o)) : RunE Try.prog 275 Fi (.s (cR (cL (cR (cR (cR (cR (cR (cR (cR (cR (cR (cR (cR (cR (bodyOf Try.f3))))))))))))))) :: ks) .normal (G_ringlaw5_IrqSays_C5_hd v_t4 v_t5 v_t6 v_r22 v_r27 v_r36 v_r39 v_r111 v_t1 v_t2 v_t3 v_r93) := by
  unfold G_ringlaw5_IrqSays_C5 at h
  by_cases h180 : v_r111 < 0
  · rw [if_pos h180] at h
    obtain ⟨v_o138, h189, h⟩ := bind_some h
    refine pkk_sound TTok mix hF 2 (hs := [.t true]) (ts := []) (s := [1, 2, 3, 4, 5]) (l := [4, 5, 14, 15, 16, 17, 18, 19, 20, 21, 22, 24, 25]) (by kernel_rfl) (by kernel_rfl) (.cons (dt h180) .nil) (G_ringlaw5_IrqSays_C2_ok hF (.s (cR (cT (cR (cL (cR (cR (cR (cR (cR (cR (cR (cR (cR (cR (cR (cR (bodyOf Try.f3))))))))))))))))) :: ks) n v_t5 v_t6 v_r22 v_r27 v_r36 v_r39 v_r93 _ h189 ?_)
    cases v_o138 with
    | x0 v_z139 =>
      dsimp only at h
      by_cases h190 : v_z139 = true
      · rw [if_pos h190] at h
        cases h
        exact pkk_sound TTok mix hF 4 (hs := [.t true]) (ts := []) (s := []) (l := [12]) (by kernel_rfl) (by kernel_rfl) (.cons h190 .nil) q
      · rw [if_neg h190] at h
        cases h
        exact pkk_sound TTok mix hF 2 (hs := [.t false]) (ts := []) (s := [0, 1, 2, 3]) (l := [4, 5, 14, 15, 16, 17, 24, 25]) (by kernel_rfl) (by kernel_rfl) (.cons (vf h190) .nil) q
  · rw [if_neg h180] at h
    by_cases h191 : 0 ≤ v_r111
    · rw [if_pos h191] at h
      by_cases h194 : (bits .and .i64 (shrI .i64 v_t4 v_r111) 1) = 1
      · rw [if_pos h194] at h
        by_cases h195 : 0 ≤ v_r111
        · rw [if_pos h195] at h
          obtain ⟨v_o146, h204, h⟩ := bind_some h
          refine pkk_sound TTok mix hF 9 (hs := [.t false, .c, .c, .t true, .c, .c]) (ts := []) (s := [1, 2, 3, 4, 5, 9]) (l := [4, 5, 14, 15, 16, 17, 18, 19, 20, 21, 22, 24, 25, 26, 27]) (by kernel_rfl) (by kernel_rfl) (.cons (df h180) (.cons (show 0 + 4 ≤ 4 by decide) (.cons h191 (.cons (bt h194) (.cons h195 (.cons (show 3 + 1 ≤ 4 by decide) .nil)))))) (G_ringlaw5_IrqSays_C3_ok hF (.s (cR (cR (cR (cF (cR (cL (cR (cR (cR (cR (cR (cR (cR (cR (cR (cR (cR (cR (bodyOf Try.f3))))))))))))))))))) :: ks) n v_t5 v_t6 v_r22 v_r27 v_r36 v_r39 v_r111 v_r93 v_t1 v_t2 v_t3 v_t4 _ h204 ?_)
          cases v_o146 with
          | x0 v_z147 =>
            dsimp only at h
            by_cases h205 : v_z147 = true
            · rw [if_pos h205] at h
              cases h
              exact pkk_sound TTok mix hF 4 (hs := [.t true]) (ts := []) (s := []) (l := [12]) (by kernel_rfl) (by kernel_rfl) (.cons h205 .nil) q
            · rw [if_neg h205] at h
              cases h
              exact pkk_sound TTok mix hF 2 (hs := [.t false]) (ts := []) (s := [0, 1, 2, 3]) (l := [4, 5, 14, 15, 16, 17, 24, 25]) (by kernel_rfl) (by kernel_rfl) (.cons (vf h205) .nil) q
        · rw [if_neg h195] at h; cases h
      · rw [if_neg h194] at h
        obtain ⟨v_o154, h214, h⟩ := bind_some h
        refine pkk_sound TTok mix hF 9 (hs := [.t false, .c, .c, .t false]) (ts := []) (s := [1, 2, 3, 4, 5, 9]) (l := [4, 5, 14, 15, 16, 17, 18, 19, 20, 21, 22, 24, 25, 26, 27]) (by kernel_rfl) (by kernel_rfl) (.cons (df h180) (.cons (show 0 + 4 ≤ 4 by decide) (.cons h191 (.cons (bf h194) .nil)))) (G_ringlaw5_IrqSays_C4_ok hF (.s (cR (cR (cR (cF (cR (cL (cR (cR (cR (cR (cR (cR (cR (cR (cR (cR (cR (cR (bodyOf Try.f3))))))))))))))))))) :: ks) n v_t5 v_t6 v_r22 v_r27 v_r36 v_r39 v_r111 v_r93 v_t1 v_t2 v_t3 v_t4 _ h214 ?_)
        cases v_o154 with
        | x0 v_z155 =>
          dsimp only at h
          by_cases h215 : v_z155 = true
          · rw [if_pos h215] at h
            cases h
            exact pkk_sound TTok mix hF 4 (hs := [.t true]) (ts := []) (s := []) (l := [12]) (by kernel_rfl) (by kernel_rfl) (.cons h215 .nil) q
          · rw [if_neg h215] at h
            cases h
            exact pkk_sound TTok mix hF 2 (hs := [.t false]) (ts := []) (s := [0, 1, 2, 3]) (l := [4, 5, 14, 15, 16, 17, 24, 25]) (by kernel_rfl) (by kernel_rfl) (.cons (vf h215) .nil) q
    · rw [if_neg h191] at h; cases h
inductive G_ringlaw5_IrqSays_C6_R where
  | x0 (v_t165 : Bool)
def G_ringlaw5_IrqSays_C6_ex : G_ringlaw5_IrqSays_C6_R → Ex
  | .x0 _ => .normal
def G_ringlaw5_IrqSays_C6_st (v_r22 : (S_irq_Lines × Int)) (v_r27 : (S_irq_Lines × Int)) : G_ringlaw5_IrqSays_C6_R → PS
  | .x0 v_t165 => ⟨[dd, dd, dd, dd, dd, dd, dd, dd, dd, dd, dd, dd, .d (.v (.bool v_t165)), dd, dd, dd, dd, dd, dd, dd, dd, dd, dd, dd, dd, dd, dd, dd, dd, dd, dd, dd, dd, dd, dd, dd, dd, dd, dd, dd, dd, dd, dd, dd, dd, dd, dd, dd, dd, dd, dd, dd, dd, dd, dd, dd, dd, dd, dd, dd, dd, dd, dd, dd, dd, dd, dd, dd, dd, dd, dd, dd, dd, dd, dd, dd, dd, dd, dd, dd, dd, dd, dd, dd, dd, dd, dd, dd, dd, dd, dd, dd, dd, dd, dd, dd, dd, dd, dd, dd, dd, dd, dd, dd, dd, dd, dd, dd, dd, dd, dd, dd, dd, dd, dd, dd, dd, dd, dd, dd, dd, dd, dd, dd, dd, dd, dd, dd, dd, dd, dd, dd, dd, dd, dd, dd, dd, dd, dd, dd, dd, dd, dd, dd, dd, dd, dd, dd, dd, dd, dd, dd, dd, dd, dd, dd, dd, dd, dd, dd, dd, dd, dd, dd, dd, dd, dd, dd, dd, dd, dd, dd, dd, dd, dd, dd, dd, dd, dd, dd, dd, dd, dd, dd, dd, dd, dd, dd, dd, dd, dd, dd, dd, dd, dd, dd, dd, dd, dd, dd, dd, dd, dd, dd, dd, dd, dd, dd, dd, dd, dd, dd, dd, dd, dd, dd, dd, dd, dd, dd, dd, dd, dd, dd, dd, dd, dd, dd, dd, dd, dd, dd, dd, dd, dd, dd, dd, dd, dd, dd, dd, dd, dd, dd, dd, dd, dd, dd, dd, dd, dd, dd, dd, dd, dd, dd, dd, dd, dd, dd, dd, dd, dd, dd, dd, dd, dd, dd, dd, dd, dd, dd, dd, dd, dd], []⟩
def G_ringlaw5_IrqSays_C6_hd (v_r22 : (S_irq_Lines × Int)) (v_r27 : (S_irq_Lines × Int))  : PS := ⟨[dd, dd, dd, dd, dd, dd, dd, dd, dd, dd, dd, dd, dd, dd, .ref 0 0, .d (.v (.int .i64 v_r22.2)), .ref 1 0, .d (.v (.int .i64 v_r27.2)), dd, dd, dd, dd, dd, dd, .ref 2 0, dd, dd, dd, dd, dd, dd, dd, dd, dd, dd, dd, dd, dd, dd, dd, dd, dd, dd, dd, dd, dd, dd, dd, dd, dd, dd, dd, dd, dd, dd, dd, dd, dd, dd, dd, dd, dd, dd, dd, dd, dd, dd, dd, dd, dd, dd, dd, dd, dd, dd, dd, dd, dd, dd, dd, dd, dd, dd, dd, dd, dd, dd, dd, dd, dd, dd, dd, dd, dd, dd, dd, dd, dd, dd, dd, dd, dd, dd, dd, dd, dd, dd, dd, dd, dd, dd, dd, dd, dd, dd, dd, dd, dd, dd, dd, dd, dd, dd, dd, dd, dd, dd, dd, dd, dd, dd, dd, dd, dd, dd, dd, dd, dd, dd, dd, dd, dd, dd, dd, dd, dd, dd, dd, dd, dd, dd, dd, dd, dd, dd, dd, dd, dd, dd, dd, dd, dd, dd, dd, dd, dd, dd, dd, dd, dd, dd, dd, dd, dd, dd, dd, dd, dd, dd, dd, dd, dd, dd, dd, dd, dd, dd, dd, dd, dd, dd, dd, dd, dd, dd, dd, dd, dd, dd, dd, dd, dd, dd, dd, dd, dd, dd, dd, dd, dd, dd, dd, dd, dd, dd, dd, dd, dd, dd, dd, dd, dd, dd, dd, dd, dd, dd, dd, dd, dd, dd, dd, dd, dd, dd, dd, dd, dd, dd, dd, dd, dd, dd, dd, dd, dd, dd, dd, dd, dd, dd, dd, dd, dd, dd, dd, dd, dd, dd, dd, dd, dd, dd, dd, dd, dd, dd, dd, dd, dd, dd, dd, dd, dd, dd], [.box [.d (.v (.int .i64 v_r22.1.fEdge)), .d (.v (.int .i64 v_r22.1.fUp)), .d (.v (.int .i64 v_r22.1.fMasked)), .d (.v (.int .i64 v_r22.1.fPending))], .box [.d (.v (.int .i64 v_r27.1.fEdge)), .d (.v (.int .i64 v_r27.1.fUp)), .d (.v (.int .i64 v_r27.1.fMasked)), .d (.v (.int .i64 v_r27.1.fPending))], .box [.d (.v (.int .i64 0)), .d (.v (.int .i64 0)), .d (.v (.int .i64 0)), .d (.v (.int .i64 0))]]⟩
def G_ringlaw5_IrqSays_C6 (n : Nat) (v_r22 : (S_irq_Lines × Int)) (v_r27 : (S_irq_Lines × Int)) : Option G_ringlaw5_IrqSays_C6_R :=
  if v_r22.2 = 1 then
   if v_r27.2 = v_r22.2 then
    if (eqRes .eql (eqS_irq_Lines v_r22.1 (S_irq_Lines.mk 0 0 0 0))) = true then
     some (.x0 (eqRes .eql (eqS_irq_Lines v_r27.1 (S_irq_Lines.mk 0 0 0 0))))
    else
     some (.x0 false)
   else
    some (.x0 false)
  else
   some (.x0 false)
theorem G_ringlaw5_IrqSays_C6_ok {Fi : Ex → PS → Prop} (hF : KC 275 Fi) (ks : List Fr) (n : Nat) (v_r22 : (S_irq_Lines × Int)) (v_r27 : (S_irq_Lines × Int))  (o : G_ringlaw5_IrqSays_C6_R) (h : G_ringlaw5_IrqSays_C6 n v_r22 v_r27 = some o) (q : RunE Try.prog 275 Fi ks (G_ringlaw5_IrqSays_C6_ex o) (G_ringlaw5_IrqSays_C6_st v_r22 v_r27 o)) : RunE Try.prog 275 Fi (.s (cL (cT (cR (cL (cR (cR (cR (cR (cR (cR (cR (cR (cR (cR (cR (cR (cR (bodyOf Try.f3)))))))))))))))))) :: ks) .normal (G_ringlaw5_IrqSays_C6_hd v_r22 v_r27) := by
  unfold G_ringlaw5_IrqSays_C6 at h
  by_cases h228 : v_r22.2 = 1
  · rw [if_pos h228] at h
    by_cases h229 : v_r27.2 = v_r22.2
    · rw [if_pos h229] at h
      by_cases h230 : (eqRes .eql (eqS_irq_Lines v_r22.1 (S_irq_Lines.mk 0 0 0 0))) = true
      · rw [if_pos h230] at h
        cases h
        exact pkk_sound TTok mix hF 1 (hs := [.t true, .c, .c, .t true, .c, .c, .c, .c, .q (eqS_irq_Lines v_r22.1 (S_irq_Lines.mk 0 0 0 0)), .t true, .c, .c, .c, .c, .q (eqS_irq_Lines v_r27.1 (S_irq_Lines.mk 0 0 0 0))]) (ts := []) (s := []) (l := [12]) (by kernel_rfl) (by kernel_rfl) (.cons (bt h228) (.cons (bt h229) (.cons (eqS_irq_Lines_ok v_r22.1 (S_irq_Lines.mk 0 0 0 0)) (.cons h230 (.cons (eqS_irq_Lines_ok v_r27.1 (S_irq_Lines.mk 0 0 0 0)) .nil))))) q
      · rw [if_neg h230] at h
        cases h
        exact pkk_sound TTok mix hF 1 (hs := [.t true, .c, .c, .t true, .c, .c, .c, .c, .q (eqS_irq_Lines v_r22.1 (S_irq_Lines.mk 0 0 0 0)), .t false, .c, .c]) (ts := []) (s := []) (l := [12]) (by kernel_rfl) (by kernel_rfl) (.cons (bt h228) (.cons (bt h229) (.cons (eqS_irq_Lines_ok v_r22.1 (S_irq_Lines.mk 0 0 0 0)) (.cons (vf h230) .nil)))) q
    · rw [if_neg h229] at h
      cases h
      exact pkk_sound TTok mix hF 1 (hs := [.t true, .c, .c, .t false, .c, .c, .c, .c, .c]) (ts := []) (s := []) (l := [12]) (by kernel_rfl) (by kernel_rfl) (.cons (bt h228) (.cons (bf h229) .nil)) q
  · rw [if_neg h228] at h
    cases h
    exact pkk_sound TTok mix hF 1 (hs := [.t false, .c, .c, .c, .c, .c, .c, .c, .c]) (ts := []) (s := []) (l := [12]) (by kernel_rfl) (by kernel_rfl) (.cons (bf h228) .nil) q
inductive G_ringlaw5_IrqSays_C7_R where
  | x0 (v_t177 : Bool)
def G_ringlaw5_IrqSays_C7_ex : G_ringlaw5_IrqSays_C7_R → Ex
  | .x0 _ => .normal
def G_ringlaw5_IrqSays_C7_st (v_r22 : (S_irq_Lines × Int)) (v_r27 : (S_irq_Lines × Int)) : G_ringlaw5_IrqSays_C7_R → PS
  | .x0 v_t177 => ⟨[dd, dd, dd, dd, dd, dd, dd, dd, dd, dd, dd, dd, .d (.v (.bool v_t177)), dd, dd, dd, dd, dd, dd, dd, dd, dd, dd, dd, dd, dd, dd, dd, dd, dd, dd, dd, dd, dd, dd, dd, dd, dd, dd, dd, dd, dd, dd, dd, dd, dd, dd, dd, dd, dd, dd, dd, dd, dd, dd, dd, dd, dd, dd, dd, dd, dd, dd, dd, dd, dd, dd, dd, dd, dd, dd, dd, dd, dd, dd, dd, dd, dd, dd, dd, dd, dd, dd, dd, dd, dd, dd, dd, dd, dd, dd, dd, dd, dd, dd, dd, dd, dd, dd, dd, dd, dd, dd, dd, dd, dd, dd, dd, dd, dd, dd, dd, dd, dd, dd, dd, dd, dd, dd, dd, dd, dd, dd, dd, dd, dd, dd, dd, dd, dd, dd, dd, dd, dd, dd, dd, dd, dd, dd, dd, dd, dd, dd, dd, dd, dd, dd, dd, dd, dd, dd, dd, dd, dd, dd, dd, dd, dd, dd, dd, dd, dd, dd, dd, dd, dd, dd, dd, dd, dd, dd, dd, dd, dd, dd, dd, dd, dd, dd, dd, dd, dd, dd, dd, dd, dd, dd, dd, dd, dd, dd, dd, dd, dd, dd, dd, dd, dd, dd, dd, dd, dd, dd, dd, dd, dd, dd, dd, dd, dd, dd, dd, dd, dd, dd, dd, dd, dd, dd, dd, dd, dd, dd, dd, dd, dd, dd, dd, dd, dd, dd, dd, dd, dd, dd, dd, dd, dd, dd, dd, dd, dd, dd, dd, dd, dd, dd, dd, dd, dd, dd, dd, dd, dd, dd, dd, dd, dd, dd, dd, dd, dd, dd, dd, dd, dd, dd, dd, dd, dd, dd, dd, dd, dd, dd], []⟩
def G_ringlaw5_IrqSays_C7_hd (v_r22 : (S_irq_Lines × Int)) (v_r27 : (S_irq_Lines × Int))  : PS := ⟨[dd, dd, dd, dd, dd, dd, dd, dd, dd, dd, dd, dd, dd, dd, .ref 0 0, .d (.v (.int .i64 v_r22.2)), .ref 1 0, .d (.v (.int .i64 v_r27.2)), dd, dd, dd, dd, dd, dd, .ref 2 0, dd, dd, dd, dd, dd, dd, dd, dd, dd, dd, dd, dd, dd, dd, dd, dd, dd, dd, dd, dd, dd, dd, dd, dd, dd, dd, dd, dd, dd, dd, dd, dd, dd, dd, dd, dd, dd, dd, dd, dd, dd, dd, dd, dd, dd, dd, dd, dd, dd, dd, dd, dd, dd, dd, dd, dd, dd, dd, dd, dd, dd, dd, dd, dd, dd, dd, dd, dd, dd, dd, dd, dd, dd, dd, dd, dd, dd, dd, dd, dd, dd, dd, dd, dd, dd, dd, dd, dd, dd, dd, dd, dd, dd, dd, dd, dd, dd, dd, dd, dd, dd, dd, dd, dd, dd, dd, dd, dd, dd, dd, dd, dd, dd, dd, dd, dd, dd, dd, dd, dd, dd, dd, dd, dd, dd, dd, dd, dd, dd, dd, dd, dd, dd, dd, dd, dd, dd, dd, dd, dd, dd, dd, dd, dd, dd, dd, dd, dd, dd, dd, dd, dd, dd, dd, dd, dd, dd, dd, dd, dd, dd, dd, dd, dd, dd, dd, dd, dd, dd, dd, dd, dd, dd, dd, dd, dd, dd, dd, dd, dd, dd, dd, dd, dd, dd, dd, dd, dd, dd, dd, dd, dd, dd, dd, dd, dd, dd, dd, dd, dd, dd, dd, dd, dd, dd, dd, dd, dd, dd, dd, dd, dd, dd, dd, dd, dd, dd, dd, dd, dd, dd, dd, dd, dd, dd, dd, dd, dd, dd, dd, dd, dd, dd, dd, dd, dd, dd, dd, dd, dd, dd, dd, dd, dd, dd, dd, dd, dd, dd, dd], [.box [.d (.v (.int .i64 v_r22.1.fEdge)), .d (.v (.int .i64 v_r22.1.fUp)), .d (.v (.int .i64 v_r22.1.fMasked)), .d (.v (.int .i64 v_r22.1.fPending))], .box [.d (.v (.int .i64 v_r27.1.fEdge)), .d (.v (.int .i64 v_r27.1.fUp)), .d (.v (.int .i64 v_r27.1.fMasked)), .d (.v (.int .i64 v_r27.1.fPending))], .box [.d (.v (.int .i64 0)), .d (.v (.int .i64 0)), .d (.v (.int .i64 0)), .d (.v (.int .i64 0))]]⟩
def G_ringlaw5_IrqSays_C7 (n : Nat) (v_r22 : (S_irq_Lines × Int)) (v_r27 : (S_irq_Lines × Int)) : Option G_ringlaw5_IrqSays_C7_R :=
  if v_r22.2 = 1 then
   if v_r27.2 = v_r22.2 then
    if (eqRes .eql (eqS_irq_Lines v_r22.1 (S_irq_Lines.mk 0 0 0 0))) = true then
     some (.x0 (eqRes .eql (eqS_irq_Lines v_r27.1 (S_irq_Lines.mk 0 0 0 0))))
    else
     some (.x0 false)
   else
    some (.x0 false)
  else
   some (.x0 false)
theorem G_ringlaw5_IrqSays_C7_ok {Fi : Ex → PS → Prop} (hF : KC 275 Fi) (ks : List Fr) (n : Nat) (v_r22 : (S_irq_Lines × Int)) (v_r27 : (S_irq_Lines × Int))  (o : G_ringlaw5_IrqSays_C7_R) (h : G_ringlaw5_IrqSays_C7 n v_r22 v_r27 = some o) (q : RunE Try.prog 275 Fi ks (G_ringlaw5_IrqSays_C7_ex o) (G_ringlaw5_IrqSays_C7_st v_r22 v_r27 o)) : RunE Try.prog 275 Fi (.s (cL (cT (cR (cL (cR (cR (cR (cR (cR (cR (cR (cR (cR (cR (cR (cR (cR (bodyOf Try.f3)))))))))))))))))) :: ks) .normal (G_ringlaw5_IrqSays_C7_hd v_r22 v_r27) := by
  unfold G_ringlaw5_IrqSays_C7 at h
  by_cases h244 : v_r22.2 = 1
  · rw [if_pos h244] at h
    by_cases h245 : v_r27.2 = v_r22.2
    · rw [if_pos h245] at h
      by_cases h246 : (eqRes .eql (eqS_irq_Lines v_r22.1 (S_irq_Lines.mk 0 0 0 0))) = true
      · rw [if_pos h246] at h
        cases h
        exact pkk_sound TTok mix hF 1 (hs := [.t true, .c, .c, .t true, .c, .c, .c, .c, .q (eqS_irq_Lines v_r22.1 (S_irq_Lines.mk 0 0 0 0)), .t true, .c, .c, .c, .c, .q (eqS_irq_Lines v_r27.1 (S_irq_Lines.mk 0 0 0 0))]) (ts := []) (s := []) (l := [12]) (by kernel_rfl) (by kernel_rfl) (.cons (bt h244) (.cons (bt h245) (.cons (eqS_irq_Lines_ok v_r22.1 (S_irq_Lines.mk 0 0 0 0)) (.cons h246 (.cons (eqS_irq_Lines_ok v_r27.1 (S_irq_Lines.mk 0 0 0 0)) .nil))))) q
      · rw [if_neg h246] at h
        cases h
        exact pkk_sound TTok mix hF 1 (hs := [.t true, .c, .c, .t true, .c, .c, .c, .c, .q (eqS_irq_Lines v_r22.1 (S_irq_Lines.mk 0 0 0 0)), .t false, .c, .c]) (ts := []) (s := []) (l := [12]) (by kernel_rfl) (by kernel_rfl) (.cons (bt h244) (.cons (bt h245) (.cons (eqS_irq_Lines_ok v_r22.1 (S_irq_Lines.mk 0 0 0 0)) (.cons (vf h246) .nil)))) q
    · rw [if_neg h245] at h
      cases h
      exact pkk_sound TTok mix hF 1 (hs := [.t true, .c, .c, .t false, .c, .c, .c, .c, .c]) (ts := []) (s := []) (l := [12]) (by kernel_rfl) (by kernel_rfl) (.cons (bt h244) (.cons (bf h245) .nil)) q
  · rw [if_neg h244] at h
    cases h
    exact pkk_sound TTok mix hF 1 (hs := [.t false, .c, .c, .c, .c, .c, .c, .c, .c]) (ts := []) (s := []) (l := [12]) (by kernel_rfl) (by kernel_rfl) (.cons (bf h244) .nil) q
inductive G_ringlaw5_IrqSays_C8_R where
  | x0 
  | x1 
  | x2 
def G_ringlaw5_IrqSays_C8_ex : G_ringlaw5_IrqSays_C8_R → Ex
  | .x0  => .normal
  | .x1  => .normal
  | .x2  => .normal
def G_ringlaw5_IrqSays_C8_st (v_t5 : Int) (v_t6 : Bool) (v_r22 : (S_irq_Lines × Int)) (v_r27 : (S_irq_Lines × Int)) (v_r93 : ((Fin 8 → S_ringref5_Line))) (v_y183 : S_ringref5_Line) : G_ringlaw5_IrqSays_C8_R → PS
  | .x0  => ⟨[dd, dd, dd, dd, .d (.v (.int .i64 v_t5)), .d (.v (.bool v_t6)), dd, dd, dd, dd, dd, dd, dd, dd, .ref 0 0, .d (.v (.int .i64 v_r22.2)), .ref 1 0, .d (.v (.int .i64 v_r27.2)), dd, dd, dd, dd, dd, dd, dd, .ref 2 0, dd, dd, .ref 3 0, dd, dd, dd, dd, dd, dd, dd, dd, dd, dd, dd, dd, dd, dd, dd, dd, dd, dd, dd, dd, dd, dd, dd, dd, dd, dd, dd, dd, dd, dd, dd, dd, dd, dd, dd, dd, dd, dd, dd, dd, dd, dd, dd, dd, dd, dd, dd, dd, dd, dd, dd, dd, dd, dd, dd, dd, dd, dd, dd, dd, dd, dd, dd, dd, dd, dd, dd, dd, dd, dd, dd, dd, dd, dd, dd, dd, dd, dd, dd, dd, dd, dd, dd, dd, dd, dd, dd, dd, dd, dd, dd, dd, dd, dd, dd, dd, dd, dd, dd, dd, dd, dd, dd, dd, dd, dd, dd, dd, dd, dd, dd, dd, dd, dd, dd, dd, dd, dd, dd, dd, dd, dd, dd, dd, dd, dd, dd, dd, dd, dd, dd, dd, dd, dd, dd, dd, dd, dd, dd, dd, dd, dd, dd, dd, dd, dd, dd, dd, dd, dd, dd, dd, dd, dd, dd, dd, dd, dd, dd, dd, dd, dd, dd, dd, dd, dd, dd, dd, dd, dd, dd, dd, dd, dd, dd, dd, dd, dd, dd, dd, dd, dd, dd, dd, dd, dd, dd, dd, dd, dd, dd, dd, dd, dd, dd, dd, dd, dd, dd, dd, dd, dd, dd, dd, dd, dd, dd, dd, dd, dd, dd, dd, dd, dd, dd, dd, dd, dd, dd, dd, dd, dd, dd, dd, dd, dd, dd, dd, dd, dd, dd, dd, dd, dd, dd, dd, dd, dd, dd, dd, dd, dd, dd, dd, dd, dd], [.box [.d (.v (.int .i64 v_r22.1.fEdge)), .d (.v (.int .i64 v_r22.1.fUp)), .d (.v (.int .i64 v_r22.1.fMasked)), .d (.v (.int .i64 v_r22.1.fPending))], .box [.d (.v (.int .i64 v_r27.1.fEdge)), .d (.v (.int .i64 v_r27.1.fUp)), .d (.v (.int .i64 v_r27.1.fMasked)), .d (.v (.int .i64 v_r27.1.fPending))], .box [.d (.v (.bool ((v_r93 0).fEdge))), .d (.v (.bool ((v_r93 0).fUp))), .d (.v (.bool ((v_r93 0).fMasked))), .d (.v (.bool ((v_r93 0).fPending))), .d (.v (.bool ((v_r93 1).fEdge))), .d (.v (.bool ((v_r93 1).fUp))), .d (.v (.bool ((v_r93 1).fMasked))), .d (.v (.bool ((v_r93 1).fPending))), .d (.v (.bool ((v_r93 2).fEdge))), .d (.v (.bool ((v_r93 2).fUp))), .d (.v (.bool ((v_r93 2).fMasked))), .d (.v (.bool ((v_r93 2).fPending))), .d (.v (.bool ((v_r93 3).fEdge))), .d (.v (.bool ((v_r93 3).fUp))), .d (.v (.bool ((v_r93 3).fMasked))), .d (.v (.bool ((v_r93 3).fPending))), .d (.v (.bool ((v_r93 4).fEdge))), .d (.v (.bool ((v_r93 4).fUp))), .d (.v (.bool ((v_r93 4).fMasked))), .d (.v (.bool ((v_r93 4).fPending))), .d (.v (.bool ((v_r93 5).fEdge))), .d (.v (.bool ((v_r93 5).fUp))), .d (.v (.bool ((v_r93 5).fMasked))), .d (.v (.bool ((v_r93 5).fPending))), .d (.v (.bool ((v_r93 6).fEdge))), .d (.v (.bool ((v_r93 6).fUp))), .d (.v (.bool ((v_r93 6).fMasked))), .d (.v (.bool ((v_r93 6).fPending))), .d (.v (.bool ((v_r93 7).fEdge))), .d (.v (.bool ((v_r93 7).fUp))), .d (.v (.bool ((v_r93 7).fMasked))), .d (.v (.bool ((v_r93 7).fPending)))], .box [.d (.v (.bool v_y183.fEdge)), .d (.v (.bool v_y183.fUp)), .d (.v (.bool v_y183.fMasked)), .d (.v (.bool true))]]⟩
  | .x1  => ⟨[dd, dd, dd, dd, .d (.v (.int .i64 v_t5)), .d (.v (.bool v_t6)), dd, dd, dd, dd, dd, dd, dd, dd, .ref 0 0, .d (.v (.int .i64 v_r22.2)), .ref 1 0, .d (.v (.int .i64 v_r27.2)), dd, dd, dd, dd, dd, dd, dd, .ref 2 0, dd, dd, .ref 3 0, dd, dd, dd, dd, dd, dd, dd, dd, dd, dd, dd, dd, dd, dd, dd, dd, dd, dd, dd, dd, dd, dd, dd, dd, dd, dd, dd, dd, dd, dd, dd, dd, dd, dd, dd, dd, dd, dd, dd, dd, dd, dd, dd, dd, dd, dd, dd, dd, dd, dd, dd, dd, dd, dd, dd, dd, dd, dd, dd, dd, dd, dd, dd, dd, dd, dd, dd, dd, dd, dd, dd, dd, dd, dd, dd, dd, dd, dd, dd, dd, dd, dd, dd, dd, dd, dd, dd, dd, dd, dd, dd, dd, dd, dd, dd, dd, dd, dd, dd, dd, dd, dd, dd, dd, dd, dd, dd, dd, dd, dd, dd, dd, dd, dd, dd, dd, dd, dd, dd, dd, dd, dd, dd, dd, dd, dd, dd, dd, dd, dd, dd, dd, dd, dd, dd, dd, dd, dd, dd, dd, dd, dd, dd, dd, dd, dd, dd, dd, dd, dd, dd, dd, dd, dd, dd, dd, dd, dd, dd, dd, dd, dd, dd, dd, dd, dd, dd, dd, dd, dd, dd, dd, dd, dd, dd, dd, dd, dd, dd, dd, dd, dd, dd, dd, dd, dd, dd, dd, dd, dd, dd, dd, dd, dd, dd, dd, dd, dd, dd, dd, dd, dd, dd, dd, dd, dd, dd, dd, dd, dd, dd, dd, dd, dd, dd, dd, dd, dd, dd, dd, dd, dd, dd, dd, dd, dd, dd, dd, dd, dd, dd, dd, dd, dd, dd, dd, dd, dd, dd, dd, dd, dd, dd, dd, dd, dd], [.box [.d (.v (.int .i64 v_r22.1.fEdge)), .d (.v (.int .i64 v_r22.1.fUp)), .d (.v (.int .i64 v_r22.1.fMasked)), .d (.v (.int .i64 v_r22.1.fPending))], .box [.d (.v (.int .i64 v_r27.1.fEdge)), .d (.v (.int .i64 v_r27.1.fUp)), .d (.v (.int .i64 v_r27.1.fMasked)), .d (.v (.int .i64 v_r27.1.fPending))], .box [.d (.v (.bool ((v_r93 0).fEdge))), .d (.v (.bool ((v_r93 0).fUp))), .d (.v (.bool ((v_r93 0).fMasked))), .d (.v (.bool ((v_r93 0).fPending))), .d (.v (.bool ((v_r93 1).fEdge))), .d (.v (.bool ((v_r93 1).fUp))), .d (.v (.bool ((v_r93 1).fMasked))), .d (.v (.bool ((v_r93 1).fPending))), .d (.v (.bool ((v_r93 2).fEdge))), .d (.v (.bool ((v_r93 2).fUp))), .d (.v (.bool ((v_r93 2).fMasked))), .d (.v (.bool ((v_r93 2).fPending))), .d (.v (.bool ((v_r93 3).fEdge))), .d (.v (.bool ((v_r93 3).fUp))), .d (.v (.bool ((v_r93 3).fMasked))), .d (.v (.bool ((v_r93 3).fPending))), .d (.v (.bool ((v_r93 4).fEdge))), .d (.v (.bool ((v_r93 4).fUp))), .d (.v (.bool ((v_r93 4).fMasked))), .d (.v (.bool ((v_r93 4).fPending))), .d (.v (.bool ((v_r93 5).fEdge))), .d (.v (.bool ((v_r93 5).fUp))), .d (.v (.bool ((v_r93 5).fMasked))), .d (.v (.bool ((v_r93 5).fPending))), .d (.v (.bool ((v_r93 6).fEdge))), .d (.v (.bool ((v_r93 6).fUp))), .d (.v (.bool ((v_r93 6).fMasked))), .d (.v (.bool ((v_r93 6).fPending))), .d (.v (.bool ((v_r93 7).fEdge))), .d (.v (.bool ((v_r93 7).fUp))), .d (.v (.bool ((v_r93 7).fMasked))), .d (.v (.bool ((v_r93 7).fPending)))], .box [.d (.v (.bool v_y183.fEdge)), .d (.v (.bool v_y183.fUp)), .d (.v (.bool v_y183.fMasked)), .d (.v (.bool (!v_y183.fUp)))]]⟩
  | .x2  => ⟨[dd, dd, dd, dd, .d (.v (.int .i64 v_t5)), .d (.v (.bool v_t6)), dd, dd, dd, dd, dd, dd, dd, dd, .ref 0 0, .d (.v (.int .i64 v_r22.2)), .ref 1 0, .d (.v (.int .i64 v_r27.2)), dd, dd, dd, dd, dd, dd, dd, .ref 2 0, dd, dd, .ref 3 0, dd, dd, dd, dd, dd, dd, dd, dd, dd, dd, dd, dd, dd, dd, dd, dd, dd, dd, dd, dd, dd, dd, dd, dd, dd, dd, dd, dd, dd, dd, dd, dd, dd, dd, dd, dd, dd, dd, dd, dd, dd, dd, dd, dd, dd, dd, dd, dd, dd, dd, dd, dd, dd, dd, dd, dd, dd, dd, dd, dd, dd, dd, dd, dd, dd, dd, dd, dd, dd, dd, dd, dd, dd, dd, dd, dd, dd, dd, dd, dd, dd, dd, dd, dd, dd, dd, dd, dd, dd, dd, dd, dd, dd, dd, dd, dd, dd, dd, dd, dd, dd, dd, dd, dd, dd, dd, dd, dd, dd, dd, dd, dd, dd, dd, dd, dd, dd, dd, dd, dd, dd, dd, dd, dd, dd, dd, dd, dd, dd, dd, dd, dd, dd, dd, dd, dd, dd, dd, dd, dd, dd, dd, dd, dd, dd, dd, dd, dd, dd, dd, dd, dd, dd, dd, dd, dd, dd, dd, dd, dd, dd, dd, dd, dd, dd, dd, dd, dd, dd, dd, dd, dd, dd, dd, dd, dd, dd, dd, dd, dd, dd, dd, dd, dd, dd, dd, dd, dd, dd, dd, dd, dd, dd, dd, dd, dd, dd, dd, dd, dd, dd, dd, dd, dd, dd, dd, dd, dd, dd, dd, dd, dd, dd, dd, dd, dd, dd, dd, dd, dd, dd, dd, dd, dd, dd, dd, dd, dd, dd, dd, dd, dd, dd, dd, dd, dd, dd, dd, dd, dd, dd, dd, dd, dd, dd, dd], [.box [.d (.v (.int .i64 v_r22.1.fEdge)), .d (.v (.int .i64 v_r22.1.fUp)), .d (.v (.int .i64 v_r22.1.fMasked)), .d (.v (.int .i64 v_r22.1.fPending))], .box [.d (.v (.int .i64 v_r27.1.fEdge)), .d (.v (.int .i64 v_r27.1.fUp)), .d (.v (.int .i64 v_r27.1.fMasked)), .d (.v (.int .i64 v_r27.1.fPending))], .box [.d (.v (.bool ((v_r93 0).fEdge))), .d (.v (.bool ((v_r93 0).fUp))), .d (.v (.bool ((v_r93 0).fMasked))), .d (.v (.bool ((v_r93 0).fPending))), .d (.v (.bool ((v_r93 1).fEdge))), .d (.v (.bool ((v_r93 1).fUp))), .d (.v (.bool ((v_r93 1).fMasked))), .d (.v (.bool ((v_r93 1).fPending))), .d (.v (.bool ((v_r93 2).fEdge))), .d (.v (.bool ((v_r93 2).fUp))), .d (.v (.bool ((v_r93 2).fMasked))), .d (.v (.bool ((v_r93 2).fPending))), .d (.v (.bool ((v_r93 3).fEdge))), .d (.v (.bool ((v_r93 3).fUp))), .d (.v (.bool ((v_r93 3).fMasked))), .d (.v (.bool ((v_r93 3).fPending))), .d (.v (.bool ((v_r93 4).fEdge))), .d (.v (.bool ((v_r93 4).fUp))), .d (.v (.bool ((v_r93 4).fMasked))), .d (.v (.bool ((v_r93 4).fPending))), .d (.v (.bool ((v_r93 5).fEdge))), .d (.v (.bool ((v_r93 5).fUp))), .d (.v (.bool ((v_r93 5).fMasked))), .d (.v (.bool ((v_r93 5).fPending))), .d (.v (.bool ((v_r93 6).fEdge))), .d (.v (.bool ((v_r93 6).fUp))), .d (.v (.bool ((v_r93 6).fMasked))), .d (.v (.bool ((v_r93 6).fPending))), .d (.v (.bool ((v_r93 7).fEdge))), .d (.v (.bool ((v_r93 7).fUp))), .d (.v (.bool ((v_r93 7).fMasked))), .d (.v (.bool ((v_r93 7).fPending)))], .box [.d (.v (.bool v_y183.fEdge)), .d (.v (.bool v_y183.fUp)), .d (.v (.bool v_y183.fMasked)), .d (.v (.bool false))]]⟩
def G_ringlaw5_IrqSays_C8_hd (v_t5 : Int) (v_t6 : Bool) (v_r22 : (S_irq_Lines × Int)) (v_r27 : (S_irq_Lines × Int)) (v_r93 : ((Fin 8 → S_ringref5_Line))) (v_y183 : S_ringref5_Line)  : PS := ⟨[dd, dd, dd, dd, .d (.v (.int .i64 v_t5)), .d (.v (.bool v_t6)), dd, dd, dd, dd, dd, dd, dd, dd, .ref 0 0, .d (.v (.int .i64 v_r22.2)), .ref 1 0, .d (.v (.int .i64 v_r27.2)), dd, dd, dd, dd, dd, dd, dd, .ref 2 0, dd, dd, .ref 3 0, dd, dd, dd, dd, dd, dd, dd, dd, dd, dd, dd, dd, dd, dd, dd, dd, dd, dd, dd, dd, dd, dd, dd, dd, dd, dd, dd, dd, dd, dd, dd, dd, dd, dd, dd, dd, dd, dd, dd, dd, dd, dd, dd, dd, dd, dd, dd, dd, dd, dd, dd, dd, dd, dd, dd, dd, dd, dd, dd, dd, dd, dd, dd, dd, dd, dd, dd, dd, dd, dd, dd, dd, dd, dd, dd, dd, dd, dd, dd, dd, dd, dd, dd, dd, dd, dd, dd, dd, dd, dd, dd, dd, dd, dd, dd, dd, dd, dd, dd, dd, dd, dd, dd, dd, dd, dd, dd, dd, dd, dd, dd, dd, dd, dd, dd, dd, dd, dd, dd, dd, dd, dd, dd, dd, dd, dd, dd, dd, dd, dd, dd, dd, dd, dd, dd, dd, dd, dd, dd, dd, dd, dd, dd, dd, dd, dd, dd, dd, dd, dd, dd, dd, dd, dd, dd, dd, dd, dd, dd, dd, dd, dd, dd, dd, dd, dd, dd, dd, dd, dd, dd, dd, dd, dd, dd, dd, dd, dd, dd, dd, dd, dd, dd, dd, dd, dd, dd, dd, dd, dd, dd, dd, dd, dd, dd, dd, dd, dd, dd, dd, dd, dd, dd, dd, dd, dd, dd, dd, dd, dd, dd, dd, dd, dd, dd, dd, dd, dd, dd, dd, dd, dd, dd, dd, dd, dd, dd, dd, dd, dd, dd, dd, dd, dd, dd, dd, dd, dd, dd, dd, dd, dd, dd, dd, dd, dd], [.box [.d (.v (.int .i64 v_r22.1.fEdge)), .d (.v (.int .i64 v_r22.1.fUp)), .d (.v (.int .i64 v_r22.1.fMasked)), .d (.v (.int .i64 v_r22.1.fPending))], .box [.d (.v (.int .i64 v_r27.1.fEdge)), .d (.v (.int .i64 v_r27.1.fUp)), .d (.v (.int .i64 v_r27.1.fMasked)), .d (.v (.int .i64 v_r27.1.fPending))], .box [.d (.v (.bool ((v_r93 0).fEdge))), .d (.v (.bool ((v_r93 0).fUp))), .d (.v (.bool ((v_r93 0).fMasked))), .d (.v (.bool ((v_r93 0).fPending))), .d (.v (.bool ((v_r93 1).fEdge))), .d (.v (.bool ((v_r93 1).fUp))), .d (.v (.bool ((v_r93 1).fMasked))), .d (.v (.bool ((v_r93 1).fPending))), .d (.v (.bool ((v_r93 2).fEdge))), .d (.v (.bool ((v_r93 2).fUp))), .d (.v (.bool ((v_r93 2).fMasked))), .d (.v (.bool ((v_r93 2).fPending))), .d (.v (.bool ((v_r93 3).fEdge))), .d (.v (.bool ((v_r93 3).fUp))), .d (.v (.bool ((v_r93 3).fMasked))), .d (.v (.bool ((v_r93 3).fPending))), .d (.v (.bool ((v_r93 4).fEdge))), .d (.v (.bool ((v_r93 4).fUp))), .d (.v (.bool ((v_r93 4).fMasked))), .d (.v (.bool ((v_r93 4).fPending))), .d (.v (.bool ((v_r93 5).fEdge))), .d (.v (.bool ((v_r93 5).fUp))), .d (.v (.bool ((v_r93 5).fMasked))), .d (.v (.bool ((v_r93 5).fPending))), .d (.v (.bool ((v_r93 6).fEdge))), .d (.v (.bool ((v_r93 6).fUp))), .d (.v (.bool ((v_r93 6).fMasked))), .d (.v (.bool ((v_r93 6).fPending))), .d (.v (.bool ((v_r93 7).fEdge))), .d (.v (.bool ((v_r93 7).fUp))), .d (.v (.bool ((v_r93 7).fMasked))), .d (.v (.bool ((v_r93 7).fPending)))], .box [.d (.v (.bool v_y183.fEdge)), .d (.v (.bool v_y183.fUp)), .d (.v (.bool v_y183.fMasked)), .d (.v (.bool v_y183.fPending))]]⟩
def G_ringlaw5_IrqSays_C8 (n : Nat) (v_t5 : Int) (v_t6 : Bool) (v_r22 : (S_irq_Lines × Int)) (v_r27 : (S_irq_Lines × Int)) (v_r93 : ((Fin 8 → S_ringref5_Line))) (v_y183 : S_ringref5_Line) : Option G_ringlaw5_IrqSays_C8_R :=
  if v_y183.fPending = true then
   some (.x0 )
  else
   if v_y183.fEdge = true then
    if v_t6 = true then
     some (.x1 )
    else
     some (.x2 )
   else
    some (.x2 )
theorem G_ringlaw5_IrqSays_C8_ok {Fi : Ex → PS → Prop} (hF : KC 275 Fi) (ks : List Fr) (n : Nat) (v_t5 : Int) (v_t6 : Bool) (v_r22 : (S_irq_Lines × Int)) (v_r27 : (S_irq_Lines × Int)) (v_r93 : ((Fin 8 → S_ringref5_Line))) (v_y183 : S_ringref5_Line)  (o : G_ringlaw5_IrqSays_C8_R) (h : G_ringlaw5_IrqSays_C8 n v_t5 v_t6 v_r22 v_r27 v_r93 v_y183 = some o) (q : RunE Try.prog 275 Fi ks (G_ringlaw5_IrqSays_C8_ex o) (G_ringlaw5_IrqSays_C8_st v_t5 v_t6 v_r22 v_r27 v_r93 v_y183 o)) : RunE Try.prog 275 Fi (.s (cL (cR (cR (cR (cR (cR (cR (cR (cR (cR (cR (cR (cR (cR (cR (cR (bodyOf Try.f3))))))))))))))))) :: ks) .normal (G_ringlaw5_IrqSays_C8_hd v_t5 v_t6 v_r22 v_r27 v_r93 v_y183) := by
  unfold G_ringlaw5_IrqSays_C8 at h
  by_cases h253 : v_y183.fPending = true
  · rw [if_pos h253] at h
    cases h
    exact pkk_sound TTok mix hF 1 (hs := [.c, .t true, .c, .c, .c, .c, .c, .c]) (ts := []) (s := [0, 1, 2, 3]) (l := [4, 5, 14, 15, 16, 17, 25, 28]) (by kernel_rfl) (by kernel_rfl) (.cons h253 (.cons (show 3 + 1 ≤ 4 by decide) .nil)) q
  · rw [if_neg h253] at h
    by_cases h254 : v_y183.fEdge = true
    · rw [if_pos h254] at h
      by_cases h255 : v_t6 = true
      · rw [if_pos h255] at h
        cases h
        exact pkk_sound TTok mix hF 1 (hs := [.c, .t false, .c, .c, .c, .t true, .c, .c, .t true, .c, .c, .c, .c, .c]) (ts := []) (s := [0, 1, 2, 3]) (l := [4, 5, 14, 15, 16, 17, 25, 28]) (by kernel_rfl) (by kernel_rfl) (.cons (vf h253) (.cons h254 (.cons h255 (.cons (show 3 + 1 ≤ 4 by decide) .nil)))) q
      · rw [if_neg h255] at h
        cases h
        exact pkk_sound TTok mix hF 1 (hs := [.c, .t false, .c, .c, .c, .t true, .c, .c, .t false, .c, .c, .c, .c]) (ts := []) (s := [0, 1, 2, 3]) (l := [4, 5, 14, 15, 16, 17, 25, 28]) (by kernel_rfl) (by kernel_rfl) (.cons (vf h253) (.cons h254 (.cons (vf h255) (.cons (show 3 + 1 ≤ 4 by decide) .nil)))) q
    · rw [if_neg h254] at h
      cases h
      exact pkk_sound TTok mix hF 1 (hs := [.c, .t false, .c, .c, .c, .t false, .c, .c, .c, .c, .c, .c, .c]) (ts := []) (s := [0, 1, 2, 3]) (l := [4, 5, 14, 15, 16, 17, 25, 28]) (by kernel_rfl) (by kernel_rfl) (.cons (vf h253) (.cons (vf h254) (.cons (show 3 + 1 ≤ 4 by decide) .nil))) q
inductive G_ringlaw5_IrqSays_C9_R where
  | x0 (v_t196 : Bool)
def G_ringlaw5_IrqSays_C9_ex : G_ringlaw5_IrqSays_C9_R → Ex
  | .x0 _ => .normal
def G_ringlaw5_IrqSays_C9_st (v_r22 : (S_irq_Lines × Int)) (v_r27 : (S_irq_Lines × Int)) (v_r93 : ((Fin 8 → S_ringref5_Line))) (v_t5 : Int) (v_y183 : S_ringref5_Line) (v_t6 : Bool) (v_y185 : S_ringref5_Line) : G_ringlaw5_IrqSays_C9_R → PS
  | .x0 v_t196 => ⟨[dd, dd, dd, dd, dd, dd, dd, dd, dd, dd, dd, dd, .d (.v (.bool v_t196)), dd, dd, dd, dd, dd, dd, dd, dd, dd, dd, dd, dd, dd, dd, dd, dd, dd, dd, dd, dd, dd, dd, dd, dd, dd, dd, dd, dd, dd, dd, dd, dd, dd, dd, dd, dd, dd, dd, dd, dd, dd, dd, dd, dd, dd, dd, dd, dd, dd, dd, dd, dd, dd, dd, dd, dd, dd, dd, dd, dd, dd, dd, dd, dd, dd, dd, dd, dd, dd, dd, dd, dd, dd, dd, dd, dd, dd, dd, dd, dd, dd, dd, dd, dd, dd, dd, dd, dd, dd, dd, dd, dd, dd, dd, dd, dd, dd, dd, dd, dd, dd, dd, dd, dd, dd, dd, dd, dd, dd, dd, dd, dd, dd, dd, dd, dd, dd, dd, dd, dd, dd, dd, dd, dd, dd, dd, dd, dd, dd, dd, dd, dd, dd, dd, dd, dd, dd, dd, dd, dd, dd, dd, dd, dd, dd, dd, dd, dd, dd, dd, dd, dd, dd, dd, dd, dd, dd, dd, dd, dd, dd, dd, dd, dd, dd, dd, dd, dd, dd, dd, dd, dd, dd, dd, dd, dd, dd, dd, dd, dd, dd, dd, dd, dd, dd, dd, dd, dd, dd, dd, dd, dd, dd, dd, dd, dd, dd, dd, dd, dd, dd, dd, dd, dd, dd, dd, dd, dd, dd, dd, dd, dd, dd, dd, dd, dd, dd, dd, dd, dd, dd, dd, dd, dd, dd, dd, dd, dd, dd, dd, dd, dd, dd, dd, dd, dd, dd, dd, dd, dd, dd, dd, dd, dd, dd, dd, dd, dd, dd, dd, dd, dd, dd, dd, dd, dd, dd, dd, dd, dd, dd, dd], []⟩
def G_ringlaw5_IrqSays_C9_hd (v_r22 : (S_irq_Lines × Int)) (v_r27 : (S_irq_Lines × Int)) (v_r93 : ((Fin 8 → S_ringref5_Line))) (v_t5 : Int) (v_y183 : S_ringref5_Line) (v_t6 : Bool) (v_y185 : S_ringref5_Line)  : PS := ⟨[dd, dd, dd, dd, dd, dd, dd, dd, dd, dd, dd, dd, dd, dd, .ref 0 0, .d (.v (.int .i64 v_r22.2)), .ref 1 0, .d (.v (.int .i64 v_r27.2)), dd, dd, dd, dd, dd, dd, dd, dd, dd, dd, dd, dd, .ref 2 0, .ref 3 0, dd, dd, dd, dd, dd, dd, dd, dd, dd, dd, dd, dd, dd, dd, dd, dd, dd, dd, dd, dd, dd, dd, dd, dd, dd, dd, dd, dd, dd, dd, dd, dd, dd, dd, dd, dd, dd, dd, dd, dd, dd, dd, dd, dd, dd, dd, dd, dd, dd, dd, dd, dd, dd, dd, dd, dd, dd, dd, dd, dd, dd, dd, dd, dd, dd, dd, dd, dd, dd, dd, dd, dd, dd, dd, dd, dd, dd, dd, dd, dd, dd, dd, dd, dd, dd, dd, dd, dd, dd, dd, dd, dd, dd, dd, dd, dd, dd, dd, dd, dd, dd, dd, dd, dd, dd, dd, dd, dd, dd, dd, dd, dd, dd, dd, dd, dd, dd, dd, dd, dd, dd, dd, dd, dd, dd, dd, dd, dd, dd, dd, dd, dd, dd, dd, dd, dd, dd, dd, dd, dd, dd, dd, dd, dd, dd, dd, dd, dd, dd, dd, dd, dd, dd, dd, dd, dd, dd, dd, dd, dd, dd, dd, dd, dd, dd, dd, dd, dd, dd, dd, dd, dd, dd, dd, dd, dd, dd, dd, dd, dd, dd, dd, dd, dd, dd, dd, dd, dd, dd, dd, dd, dd, dd, dd, dd, dd, dd, dd, dd, dd, dd, dd, dd, dd, dd, dd, dd, dd, dd, dd, dd, dd, dd, dd, dd, dd, dd, dd, dd, dd, dd, dd, dd, dd, dd, dd, dd, dd, dd, dd, dd, dd, dd, dd, dd, dd, dd, dd, dd, dd, dd, dd, dd], [.box [.d (.v (.int .i64 v_r22.1.fEdge)), .d (.v (.int .i64 v_r22.1.fUp)), .d (.v (.int .i64 v_r22.1.fMasked)), .d (.v (.int .i64 v_r22.1.fPending))], .box [.d (.v (.int .i64 v_r27.1.fEdge)), .d (.v (.int .i64 v_r27.1.fUp)), .d (.v (.int .i64 v_r27.1.fMasked)), .d (.v (.int .i64 v_r27.1.fPending))], .box [.d (.v (.bool (((setA v_r93 v_t5 (S_ringref5_Line.mk v_y183.fEdge v_t6 v_y183.fMasked true)) 0).fEdge))), .d (.v (.bool (((setA v_r93 v_t5 (S_ringref5_Line.mk v_y183.fEdge v_t6 v_y183.fMasked true)) 0).fUp))), .d (.v (.bool (((setA v_r93 v_t5 (S_ringref5_Line.mk v_y183.fEdge v_t6 v_y183.fMasked true)) 0).fMasked))), .d (.v (.bool (((setA v_r93 v_t5 (S_ringref5_Line.mk v_y183.fEdge v_t6 v_y183.fMasked true)) 0).fPending))), .d (.v (.bool (((setA v_r93 v_t5 (S_ringref5_Line.mk v_y183.fEdge v_t6 v_y183.fMasked true)) 1).fEdge))), .d (.v (.bool (((setA v_r93 v_t5 (S_ringref5_Line.mk v_y183.fEdge v_t6 v_y183.fMasked true)) 1).fUp))), .d (.v (.bool (((setA v_r93 v_t5 (S_ringref5_Line.mk v_y183.fEdge v_t6 v_y183.fMasked true)) 1).fMasked))), .d (.v (.bool (((setA v_r93 v_t5 (S_ringref5_Line.mk v_y183.fEdge v_t6 v_y183.fMasked true)) 1).fPending))), .d (.v (.bool (((setA v_r93 v_t5 (S_ringref5_Line.mk v_y183.fEdge v_t6 v_y183.fMasked true)) 2).fEdge))), .d (.v (.bool (((setA v_r93 v_t5 (S_ringref5_Line.mk v_y183.fEdge v_t6 v_y183.fMasked true)) 2).fUp))), .d (.v (.bool (((setA v_r93 v_t5 (S_ringref5_Line.mk v_y183.fEdge v_t6 v_y183.fMasked true)) 2).fMasked))), .d (.v (.bool (((setA v_r93 v_t5 (S_ringref5_Line.mk v_y183.fEdge v_t6 v_y183.fMasked true)) 2).fPending))), .d (.v (.bool (((setA v_r93 v_t5 (S_ringref5_Line.mk v_y183.fEdge v_t6 v_y183.fMasked true)) 3).fEdge))), .d (.v (.bool (((setA v_r93 v_t5 (S_ringref5_Line.mk v_y183.fEdge v_t6 v_y183.fMasked true)) 3).fUp))), .d (.v (.bool (((setA v_r93 v_t5 (S_ringref5_Line.mk v_y183.fEdge v_t6 v_y183.fMasked true)) 3).fMasked))), .d (.v (.bool (((setA v_r93 v_t5 (S_ringref5_Line.mk v_y183.fEdge v_t6 v_y183.fMasked true)) 3).fPending))), .d (.v (.bool (((setA v_r93 v_t5 (S_ringref5_Line.mk v_y183.fEdge v_t6 v_y183.fMasked true)) 4).fEdge))), .d (.v (.bool (((setA v_r93 v_t5 (S_ringref5_Line.mk v_y183.fEdge v_t6 v_y183.fMasked true)) 4).fUp))), .d (.v (.bool (((setA v_r93 v_t5 (S_ringref5_Line.mk v_y183.fEdge v_t6 v_y183.fMasked true)) 4).fMasked))), .d (.v (.bool (((setA v_r93 v_t5 (S_ringref5_Line.mk v_y183.fEdge v_t6 v_y183.fMasked true)) 4).fPending))), .d (.v (.bool (((setA v_r93 v_t5 (S_ringref5_Line.mk v_y183.fEdge v_t6 v_y183.fMasked true)) 5).fEdge))), .d (.v (.bool (((setA v_r93 v_t5 (S_ringref5_Line.mk v_y183.fEdge v_t6 v_y183.fMasked true)) 5).fUp))), .d (.v (.bool (((setA v_r93 v_t5 (S_ringref5_Line.mk v_y183.fEdge v_t6 v_y183.fMasked true)) 5).fMasked))), .d (.v (.bool (((setA v_r93 v_t5 (S_ringref5_Line.mk v_y183.fEdge v_t6 v_y183.fMasked true)) 5).fPending))), .d (.v (.bool (((setA v_r93 v_t5 (S_ringref5_Line.mk v_y183.fEdge v_t6 v_y183.fMasked true)) 6).fEdge))), .d (.v (.bool (((setA v_r93 v_t5 (S_ringref5_Line.mk v_y183.fEdge v_t6 v_y183.fMasked true)) 6).fUp))), .d (.v (.bool (((setA v_r93 v_t5 (S_ringref5_Line.mk v_y183.fEdge v_t6 v_y183.fMasked true)) 6).fMasked))), .d (.v (.bool (((setA v_r93 v_t5 (S_ringref5_Line.mk v_y183.fEdge v_t6 v_y183.fMasked true)) 6).fPending))), .d (.v (.bool (((setA v_r93 v_t5 (S_ringref5_Line.mk v_y183.fEdge v_t6 v_y183.fMasked true)) 7).fEdge))), .d (.v (.bool (((setA v_r93 v_t5 (S_ringref5_Line.mk v_y183.fEdge v_t6 v_y183.fMasked true)) 7).fUp))), .d (.v (.bool (((setA v_r93 v_t5 (S_ringref5_Line.mk v_y183.fEdge v_t6 v_y183.fMasked true)) 7).fMasked))), .d (.v (.bool (((setA v_r93 v_t5 (S_ringref5_Line.mk v_y183.fEdge v_t6 v_y183.fMasked true)) 7).fPending)))], .box [.d (.v (.bool (((setA v_r93 v_t5 (S_ringref5_Line.mk v_y185.fEdge v_y185.fUp v_t6 v_y185.fPending)) 0).fEdge))), .d (.v (.bool (((setA v_r93 v_t5 (S_ringref5_Line.mk v_y185.fEdge v_y185.fUp v_t6 v_y185.fPending)) 0).fUp))), .d (.v (.bool (((setA v_r93 v_t5 (S_ringref5_Line.mk v_y185.fEdge v_y185.fUp v_t6 v_y185.fPending)) 0).fMasked))), .d (.v (.bool (((setA v_r93 v_t5 (S_ringref5_Line.mk v_y185.fEdge v_y185.fUp v_t6 v_y185.fPending)) 0).fPending))), .d (.v (.bool (((setA v_r93 v_t5 (S_ringref5_Line.mk v_y185.fEdge v_y185.fUp v_t6 v_y185.fPending)) 1).fEdge))), .d (.v (.bool (((setA v_r93 v_t5 (S_ringref5_Line.mk v_y185.fEdge v_y185.fUp v_t6 v_y185.fPending)) 1).fUp))), .d (.v (.bool (((setA v_r93 v_t5 (S_ringref5_Line.mk v_y185.fEdge v_y185.fUp v_t6 v_y185.fPending)) 1).fMasked))), .d (.v (.bool (((setA v_r93 v_t5 (S_ringref5_Line.mk v_y185.fEdge v_y185.fUp v_t6 v_y185.fPending)) 1).fPending))), .d (.v (.bool (((setA v_r93 v_t5 (S_ringref5_Line.mk v_y185.fEdge v_y185.fUp v_t6 v_y185.fPending)) 2).fEdge))), .d (.v (.bool (((setA v_r93 v_t5 (S_ringref5_Line.mk v_y185.fEdge v_y185.fUp v_t6 v_y185.fPending)) 2).fUp))), .d (.v (.bool (((setA v_r93 v_t5 (S_ringref5_Line.mk v_y185.fEdge v_y185.fUp v_t6 v_y185.fPending)) 2).fMasked))), .d (.v (.bool (((setA v_r93 v_t5 (S_ringref5_Line.mk v_y185.fEdge v_y185.fUp v_t6 v_y185.fPending)) 2).fPending))), .d (.v (.bool (((setA v_r93 v_t5 (S_ringref5_Line.mk v_y185.fEdge v_y185.fUp v_t6 v_y185.fPending)) 3).fEdge))), .d (.v (.bool (((setA v_r93 v_t5 (S_ringref5_Line.mk v_y185.fEdge v_y185.fUp v_t6 v_y185.fPending)) 3).fUp))), .d (.v (.bool (((setA v_r93 v_t5 (S_ringref5_Line.mk v_y185.fEdge v_y185.fUp v_t6 v_y185.fPending)) 3).fMasked))), .d (.v (.bool (((setA v_r93 v_t5 (S_ringref5_Line.mk v_y185.fEdge v_y185.fUp v_t6 v_y185.fPending)) 3).fPending))), .d (.v (.bool (((setA v_r93 v_t5 (S_ringref5_Line.mk v_y185.fEdge v_y185.fUp v_t6 v_y185.fPending)) 4).fEdge))), .d (.v (.bool (((setA v_r93 v_t5 (S_ringref5_Line.mk v_y185.fEdge v_y185.fUp v_t6 v_y185.fPending)) 4).fUp))), .d (.v (.bool (((setA v_r93 v_t5 (S_ringref5_Line.mk v_y185.fEdge v_y185.fUp v_t6 v_y185.fPending)) 4).fMasked))), .d (.v (.bool (((setA v_r93 v_t5 (S_ringref5_Line.mk v_y185.fEdge v_y185.fUp v_t6 v_y185.fPending)) 4).fPending))), .d (.v (.bool (((setA v_r93 v_t5 (S_ringref5_Line.mk v_y185.fEdge v_y185.fUp v_t6 v_y185.fPending)) 5).fEdge))), .d (.v (.bool (((setA v_r93 v_t5 (S_ringref5_Line.mk v_y185.fEdge v_y185.fUp v_t6 v_y185.fPending)) 5).fUp))), .d (.v (.bool (((setA v_r93 v_t5 (S_ringref5_Line.mk v_y185.fEdge v_y185.fUp v_t6 v_y185.fPending)) 5).fMasked))), .d (.v (.bool (((setA v_r93 v_t5 (S_ringref5_Line.mk v_y185.fEdge v_y185.fUp v_t6 v_y185.fPending)) 5).fPending))), .d (.v (.bool (((setA v_r93 v_t5 (S_ringref5_Line.mk v_y185.fEdge v_y185.fUp v_t6 v_y185.fPending)) 6).fEdge))), .d (.v (.bool (((setA v_r93 v_t5 (S_ringref5_Line.mk v_y185.fEdge v_y185.fUp v_t6 v_y185.fPending)) 6).fUp))), .d (.v (.bool (((setA v_r93 v_t5 (S_ringref5_Line.mk v_y185.fEdge v_y185.fUp v_t6 v_y185.fPending)) 6).fMasked))), .d (.v (.bool (((setA v_r93 v_t5 (S_ringref5_Line.mk v_y185.fEdge v_y185.fUp v_t6 v_y185.fPending)) 6).fPending))), .d (.v (.bool (((setA v_r93 v_t5 (S_ringref5_Line.mk v_y185.fEdge v_y185.fUp v_t6 v_y185.fPending)) 7).fEdge))), .d (.v (.bool (((setA v_r93 v_t5 (S_ringref5_Line.mk v_y185.fEdge v_y185.fUp v_t6 v_y185.fPending)) 7).fUp))), .d (.v (.bool (((setA v_r93 v_t5 (S_ringref5_Line.mk v_y185.fEdge v_y185.fUp v_t6 v_y185.fPending)) 7).fMasked))), .d (.v (.bool (((setA v_r93 v_t5 (S_ringref5_Line.mk v_y185.fEdge v_y185.fUp v_t6 v_y185.fPending)) 7).fPending)))]]⟩
def G_ringlaw5_IrqSays_C9 (n : Nat) (v_r22 : (S_irq_Lines × Int)) (v_r27 : (S_irq_Lines × Int)) (v_r93 : ((Fin 8 → S_ringref5_Line))) (v_t5 : Int) (v_y183 : S_ringref5_Line) (v_t6 : Bool) (v_y185 : S_ringref5_Line) : Option G_ringlaw5_IrqSays_C9_R :=
  if v_r22.2 = 0 then
   (G_ringref5_Split n v_r22.1.fEdge v_r22.1.fUp v_r22.1.fMasked v_r22.1.fPending).bind fun (v_r192 : ((Fin 8 → S_ringref5_Line))) =>
   if (eqRes .eql (eqA_8_ringref5_Line v_r192 (setA v_r93 v_t5 (S_ringref5_Line.mk v_y183.fEdge v_t6 v_y183.fMasked true)))) = true then
    if v_r27.2 = 0 then
     (G_ringref5_Split n v_r27.1.fEdge v_r27.1.fUp v_r27.1.fMasked v_r27.1.fPending).bind fun (v_r193 : ((Fin 8 → S_ringref5_Line))) =>
     if (eqRes .eql (eqA_8_ringref5_Line v_r193 (setA v_r93 v_t5 (S_ringref5_Line.mk v_y185.fEdge v_y185.fUp v_t6 v_y185.fPending)))) = true then
      (G_irq_Check n v_r22.1).bind fun (v_r194 : (Int)) =>
      if v_r194 = 0 then
       (G_irq_Check n v_r27.1).bind fun (v_r195 : (Int)) =>
       some (.x0 (v_r195 == 0))
      else
       some (.x0 false)
     else
      some (.x0 false)
    else
     some (.x0 false)
   else
    some (.x0 false)
  else
   some (.x0 false)
theorem G_ringlaw5_IrqSays_C9_ok {Fi : Ex → PS → Prop} (hF : KC 275 Fi) (ks : List Fr) (n : Nat) (v_r22 : (S_irq_Lines × Int)) (v_r27 : (S_irq_Lines × Int)) (v_r93 : ((Fin 8 → S_ringref5_Line))) (v_t5 : Int) (v_y183 : S_ringref5_Line) (v_t6 : Bool) (v_y185 : S_ringref5_Line)  (o : G_ringlaw5_IrqSays_C9_R) (h : G_ringlaw5_IrqSays_C9 n v_r22 v_r27 v_r93 v_t5 v_y183 v_t6 v_y185 = some o) (q : RunE Try.prog 275 Fi ks (G_ringlaw5_IrqSays_C9_ex o) (G_ringlaw5_IrqSays_C9_st v_r22 v_r27 v_r93 v_t5 v_y183 v_t6 v_y185 o)) : RunE Try.prog 275 Fi (.s (cL (cR (cR (cR (cR (cR (cR (cR (cR (cR (cR (cR (cR (cR (cR (cR (cR (cR (cR (cR (cR (cR (bodyOf Try.f3))))))))))))))))))))))) :: ks) .normal (G_ringlaw5_IrqSays_C9_hd v_r22 v_r27 v_r93 v_t5 v_y183 v_t6 v_y185) := by
  unfold G_ringlaw5_IrqSays_C9 at h
  by_cases h272 : v_r22.2 = 0
  · rw [if_pos h272] at h
    obtain ⟨v_r192, h273, h⟩ := bind_some h
    by_cases h274 : (eqRes .eql (eqA_8_ringref5_Line v_r192 (setA v_r93 v_t5 (S_ringref5_Line.mk v_y183.fEdge v_t6 v_y183.fMasked true)))) = true
    · rw [if_pos h274] at h
      by_cases h275 : v_r27.2 = 0
      · rw [if_pos h275] at h
        obtain ⟨v_r193, h276, h⟩ := bind_some h
        by_cases h277 : (eqRes .eql (eqA_8_ringref5_Line v_r193 (setA v_r93 v_t5 (S_ringref5_Line.mk v_y185.fEdge v_y185.fUp v_t6 v_y185.fPending)))) = true
        · rw [if_pos h277] at h
          obtain ⟨v_r194, h278, h⟩ := bind_some h
          by_cases h279 : v_r194 = 0
          · rw [if_pos h279] at h
            obtain ⟨v_r195, h280, h⟩ := bind_some h
            cases h
            exact pkk_sound TTok mix hF 1 (hs := [.t true, .c, .c, .c, .c, .c, .c, .c, .c, .c, .c, .c, .c, .r ((fun x => PV.agg [.v (.bool ((x 0).fEdge)), .v (.bool ((x 0).fUp)), .v (.bool ((x 0).fMasked)), .v (.bool ((x 0).fPending)), .v (.bool ((x 1).fEdge)), .v (.bool ((x 1).fUp)), .v (.bool ((x 1).fMasked)), .v (.bool ((x 1).fPending)), .v (.bool ((x 2).fEdge)), .v (.bool ((x 2).fUp)), .v (.bool ((x 2).fMasked)), .v (.bool ((x 2).fPending)), .v (.bool ((x 3).fEdge)), .v (.bool ((x 3).fUp)), .v (.bool ((x 3).fMasked)), .v (.bool ((x 3).fPending)), .v (.bool ((x 4).fEdge)), .v (.bool ((x 4).fUp)), .v (.bool ((x 4).fMasked)), .v (.bool ((x 4).fPending)), .v (.bool ((x 5).fEdge)), .v (.bool ((x 5).fUp)), .v (.bool ((x 5).fMasked)), .v (.bool ((x 5).fPending)), .v (.bool ((x 6).fEdge)), .v (.bool ((x 6).fUp)), .v (.bool ((x 6).fMasked)), .v (.bool ((x 6).fPending)), .v (.bool ((x 7).fEdge)), .v (.bool ((x 7).fUp)), .v (.bool ((x 7).fMasked)), .v (.bool ((x 7).fPending))]) v_r192), .c, .c, .c, .q (eqA_8_ringref5_Line v_r192 (setA v_r93 v_t5 (S_ringref5_Line.mk v_y183.fEdge v_t6 v_y183.fMasked true))), .t true, .c, .t true, .c, .c, .c, .c, .c, .c, .c, .c, .c, .c, .c, .c, .r ((fun x => PV.agg [.v (.bool ((x 0).fEdge)), .v (.bool ((x 0).fUp)), .v (.bool ((x 0).fMasked)), .v (.bool ((x 0).fPending)), .v (.bool ((x 1).fEdge)), .v (.bool ((x 1).fUp)), .v (.bool ((x 1).fMasked)), .v (.bool ((x 1).fPending)), .v (.bool ((x 2).fEdge)), .v (.bool ((x 2).fUp)), .v (.bool ((x 2).fMasked)), .v (.bool ((x 2).fPending)), .v (.bool ((x 3).fEdge)), .v (.bool ((x 3).fUp)), .v (.bool ((x 3).fMasked)), .v (.bool ((x 3).fPending)), .v (.bool ((x 4).fEdge)), .v (.bool ((x 4).fUp)), .v (.bool ((x 4).fMasked)), .v (.bool ((x 4).fPending)), .v (.bool ((x 5).fEdge)), .v (.bool ((x 5).fUp)), .v (.bool ((x 5).fMasked)), .v (.bool ((x 5).fPending)), .v (.bool ((x 6).fEdge)), .v (.bool ((x 6).fUp)), .v (.bool ((x 6).fMasked)), .v (.bool ((x 6).fPending)), .v (.bool ((x 7).fEdge)), .v (.bool ((x 7).fUp)), .v (.bool ((x 7).fMasked)), .v (.bool ((x 7).fPending))]) v_r193), .c, .c, .c, .q (eqA_8_ringref5_Line v_r193 (setA v_r93 v_t5 (S_ringref5_Line.mk v_y185.fEdge v_y185.fUp v_t6 v_y185.fPending))), .t true, .c, .c, .r ((eI .i64) v_r194), .c, .t true, .c, .c, .r ((eI .i64) v_r195), .c]) (ts := []) (s := []) (l := [12]) (by kernel_rfl) (by kernel_rfl) (.cons (bt h272) (.cons (G_ringref5_Split_ok n v_r22.1.fEdge v_r22.1.fUp v_r22.1.fMasked v_r22.1.fPending _ h273) (.cons (eqA_8_ringref5_Line_ok v_r192 (setA v_r93 v_t5 (S_ringref5_Line.mk v_y183.fEdge v_t6 v_y183.fMasked true))) (.cons h274 (.cons (bt h275) (.cons (G_ringref5_Split_ok n v_r27.1.fEdge v_r27.1.fUp v_r27.1.fMasked v_r27.1.fPending _ h276) (.cons (eqA_8_ringref5_Line_ok v_r193 (setA v_r93 v_t5 (S_ringref5_Line.mk v_y185.fEdge v_y185.fUp v_t6 v_y185.fPending))) (.cons h277 (.cons (G_irq_Check_ok n v_r22.1 _ h278) (.cons (bt h279) (.cons (G_irq_Check_ok n v_r27.1 _ h280) .nil))))))))))) q
          · rw [if_neg h279] at h
            cases h
            exact pkk_sound TTok mix hF 1 (hs := [.t true, .c, .c, .c, .c, .c, .c, .c, .c, .c, .c, .c, .c, .r ((fun x => PV.agg [.v (.bool ((x 0).fEdge)), .v (.bool ((x 0).fUp)), .v (.bool ((x 0).fMasked)), .v (.bool ((x 0).fPending)), .v (.bool ((x 1).fEdge)), .v (.bool ((x 1).fUp)), .v (.bool ((x 1).fMasked)), .v (.bool ((x 1).fPending)), .v (.bool ((x 2).fEdge)), .v (.bool ((x 2).fUp)), .v (.bool ((x 2).fMasked)), .v (.bool ((x 2).fPending)), .v (.bool ((x 3).fEdge)), .v (.bool ((x 3).fUp)), .v (.bool ((x 3).fMasked)), .v (.bool ((x 3).fPending)), .v (.bool ((x 4).fEdge)), .v (.bool ((x 4).fUp)), .v (.bool ((x 4).fMasked)), .v (.bool ((x 4).fPending)), .v (.bool ((x 5).fEdge)), .v (.bool ((x 5).fUp)), .v (.bool ((x 5).fMasked)), .v (.bool ((x 5).fPending)), .v (.bool ((x 6).fEdge)), .v (.bool ((x 6).fUp)), .v (.bool ((x 6).fMasked)), .v (.bool ((x 6).fPending)), .v (.bool ((x 7).fEdge)), .v (.bool ((x 7).fUp)), .v (.bool ((x 7).fMasked)), .v (.bool ((x 7).fPending))]) v_r192), .c, .c, .c, .q (eqA_8_ringref5_Line v_r192 (setA v_r93 v_t5 (S_ringref5_Line.mk v_y183.fEdge v_t6 v_y183.fMasked true))), .t true, .c, .t true, .c, .c, .c, .c, .c, .c, .c, .c, .c, .c, .c, .c, .r ((fun x => PV.agg [.v (.bool ((x 0).fEdge)), .v (.bool ((x 0).fUp)), .v (.bool ((x 0).fMasked)), .v (.bool ((x 0).fPending)), .v (.bool ((x 1).fEdge)), .v (.bool ((x 1).fUp)), .v (.bool ((x 1).fMasked)), .v (.bool ((x 1).fPending)), .v (.bool ((x 2).fEdge)), .v (.bool ((x 2).fUp)), .v (.bool ((x 2).fMasked)), .v (.bool ((x 2).fPending)), .v (.bool ((x 3).fEdge)), .v (.bool ((x 3).fUp)), .v (.bool ((x 3).fMasked)), .v (.bool ((x 3).fPending)), .v (.bool ((x 4).fEdge)), .v (.bool ((x 4).fUp)), .v (.bool ((x 4).fMasked)), .v (.bool ((x 4).fPending)), .v (.bool ((x 5).fEdge)), .v (.bool ((x 5).fUp)), .v (.bool ((x 5).fMasked)), .v (.bool ((x 5).fPending)), .v (.bool ((x 6).fEdge)), .v (.bool ((x 6).fUp)), .v (.bool ((x 6).fMasked)), .v (.bool ((x 6).fPending)), .v (.bool ((x 7).fEdge)), .v (.bool ((x 7).fUp)), .v (.bool ((x 7).fMasked)), .v (.bool ((x 7).fPending))]) v_r193), .c, .c, .c, .q (eqA_8_ringref5_Line v_r193 (setA v_r93 v_t5 (S_ringref5_Line.mk v_y185.fEdge v_y185.fUp v_t6 v_y185.fPending))), .t true, .c, .c, .r ((eI .i64) v_r194), .c, .t false, .c, .c]) (ts := []) (s := []) (l := [12]) (by kernel_rfl) (by kernel_rfl) (.cons (bt h272) (.cons (G_ringref5_Split_ok n v_r22.1.fEdge v_r22.1.fUp v_r22.1.fMasked v_r22.1.fPending _ h273) (.cons (eqA_8_ringref5_Line_ok v_r192 (setA v_r93 v_t5 (S_ringref5_Line.mk v_y183.fEdge v_t6 v_y183.fMasked true))) (.cons h274 (.cons (bt h275) (.cons (G_ringref5_Split_ok n v_r27.1.fEdge v_r27.1.fUp v_r27.1.fMasked v_r27.1.fPending _ h276) (.cons (eqA_8_ringref5_Line_ok v_r193 (setA v_r93 v_t5 (S_ringref5_Line.mk v_y185.fEdge v_y185.fUp v_t6 v_y185.fPending))) (.cons h277 (.cons (G_irq_Check_ok n v_r22.1 _ h278) (.cons (bf h279) .nil)))))))))) q
        · rw [if_neg h277] at h
          cases h
          exact pkk_sound TTok mix hF 1 (hs := [.t true, .c, .c, .c, .c, .c, .c, .c, .c, .c, .c, .c, .c, .r ((fun x => PV.agg [.v (.bool ((x 0).fEdge)), .v (.bool ((x 0).fUp)), .v (.bool ((x 0).fMasked)), .v (.bool ((x 0).fPending)), .v (.bool ((x 1).fEdge)), .v (.bool ((x 1).fUp)), .v (.bool ((x 1).fMasked)), .v (.bool ((x 1).fPending)), .v (.bool ((x 2).fEdge)), .v (.bool ((x 2).fUp)), .v (.bool ((x 2).fMasked)), .v (.bool ((x 2).fPending)), .v (.bool ((x 3).fEdge)), .v (.bool ((x 3).fUp)), .v (.bool ((x 3).fMasked)), .v (.bool ((x 3).fPending)), .v (.bool ((x 4).fEdge)), .v (.bool ((x 4).fUp)), .v (.bool ((x 4).fMasked)), .v (.bool ((x 4).fPending)), .v (.bool ((x 5).fEdge)), .v (.bool ((x 5).fUp)), .v (.bool ((x 5).fMasked)), .v (.bool ((x 5).fPending)), .v (.bool ((x 6).fEdge)), .v (.bool ((x 6).fUp)), .v (.bool ((x 6).fMasked)), .v (.bool ((x 6).fPending)), .v (.bool ((x 7).fEdge)), .v (.bool ((x 7).fUp)), .v (.bool ((x 7).fMasked)), .v (.bool ((x 7).fPending))]) v_r192), .c, .c, .c, .q (eqA_8_ringref5_Line v_r192 (setA v_r93 v_t5 (S_ringref5_Line.mk v_y183.fEdge v_t6 v_y183.fMasked true))), .t true, .c, .t true, .c, .c, .c, .c, .c, .c, .c, .c, .c, .c, .c, .c, .r ((fun x => PV.agg [.v (.bool ((x 0).fEdge)), .v (.bool ((x 0).fUp)), .v (.bool ((x 0).fMasked)), .v (.bool ((x 0).fPending)), .v (.bool ((x 1).fEdge)), .v (.bool ((x 1).fUp)), .v (.bool ((x 1).fMasked)), .v (.bool ((x 1).fPending)), .v (.bool ((x 2).fEdge)), .v (.bool ((x 2).fUp)), .v (.bool ((x 2).fMasked)), .v (.bool ((x 2).fPending)), .v (.bool ((x 3).fEdge)), .v (.bool ((x 3).fUp)), .v (.bool ((x 3).fMasked)), .v (.bool ((x 3).fPending)), .v (.bool ((x 4).fEdge)), .v (.bool ((x 4).fUp)), .v (.bool ((x 4).fMasked)), .v (.bool ((x 4).fPending)), .v (.bool ((x 5).fEdge)), .v (.bool ((x 5).fUp)), .v (.bool ((x 5).fMasked)), .v (.bool ((x 5).fPending)), .v (.bool ((x 6).fEdge)), .v (.bool ((x 6).fUp)), .v (.bool ((x 6).fMasked)), .v (.bool ((x 6).fPending)), .v (.bool ((x 7).fEdge)), .v (.bool ((x 7).fUp)), .v (.bool ((x 7).fMasked)), .v (.bool ((x 7).fPending))]) v_r193), .c, .c, .c, .q (eqA_8_ringref5_Line v_r193 (setA v_r93 v_t5 (S_ringref5_Line.mk v_y185.fEdge v_y185.fUp v_t6 v_y185.fPending))), .t false, .c, .c, .c, .c, .c]) (ts := []) (s := []) (l := [12]) (by kernel_rfl) (by kernel_rfl) (.cons (bt h272) (.cons (G_ringref5_Split_ok n v_r22.1.fEdge v_r22.1.fUp v_r22.1.fMasked v_r22.1.fPending _ h273) (.cons (eqA_8_ringref5_Line_ok v_r192 (setA v_r93 v_t5 (S_ringref5_Line.mk v_y183.fEdge v_t6 v_y183.fMasked true))) (.cons h274 (.cons (bt h275) (.cons (G_ringref5_Split_ok n v_r27.1.fEdge v_r27.1.fUp v_r27.1.fMasked v_r27.1.fPending _ h276) (.cons (eqA_8_ringref5_Line_ok v_r193 (setA v_r93 v_t5 (S_ringref5_Line.mk v_y185.fEdge v_y185.fUp v_t6 v_y185.fPending))) (.cons (vf h277) .nil)))))))) q
      · rw [if_neg h275] at h
        cases h
        exact pkk_sound TTok mix hF 1 (hs := [.t true, .c, .c, .c, .c, .c, .c, .c, .c, .c, .c, .c, .c, .r ((fun x => PV.agg [.v (.bool ((x 0).fEdge)), .v (.bool ((x 0).fUp)), .v (.bool ((x 0).fMasked)), .v (.bool ((x 0).fPending)), .v (.bool ((x 1).fEdge)), .v (.bool ((x 1).fUp)), .v (.bool ((x 1).fMasked)), .v (.bool ((x 1).fPending)), .v (.bool ((x 2).fEdge)), .v (.bool ((x 2).fUp)), .v (.bool ((x 2).fMasked)), .v (.bool ((x 2).fPending)), .v (.bool ((x 3).fEdge)), .v (.bool ((x 3).fUp)), .v (.bool ((x 3).fMasked)), .v (.bool ((x 3).fPending)), .v (.bool ((x 4).fEdge)), .v (.bool ((x 4).fUp)), .v (.bool ((x 4).fMasked)), .v (.bool ((x 4).fPending)), .v (.bool ((x 5).fEdge)), .v (.bool ((x 5).fUp)), .v (.bool ((x 5).fMasked)), .v (.bool ((x 5).fPending)), .v (.bool ((x 6).fEdge)), .v (.bool ((x 6).fUp)), .v (.bool ((x 6).fMasked)), .v (.bool ((x 6).fPending)), .v (.bool ((x 7).fEdge)), .v (.bool ((x 7).fUp)), .v (.bool ((x 7).fMasked)), .v (.bool ((x 7).fPending))]) v_r192), .c, .c, .c, .q (eqA_8_ringref5_Line v_r192 (setA v_r93 v_t5 (S_ringref5_Line.mk v_y183.fEdge v_t6 v_y183.fMasked true))), .t true, .c, .t false, .c, .c, .c, .c, .c, .c, .c, .c, .c, .c, .c, .c, .c, .c, .c, .c]) (ts := []) (s := []) (l := [12]) (by kernel_rfl) (by kernel_rfl) (.cons (bt h272) (.cons (G_ringref5_Split_ok n v_r22.1.fEdge v_r22.1.fUp v_r22.1.fMasked v_r22.1.fPending _ h273) (.cons (eqA_8_ringref5_Line_ok v_r192 (setA v_r93 v_t5 (S_ringref5_Line.mk v_y183.fEdge v_t6 v_y183.fMasked true))) (.cons h274 (.cons (bf h275) .nil))))) q
    · rw [if_neg h274] at h
      cases h
      exact pkk_sound TTok mix hF 1 (hs := [.t true, .c, .c, .c, .c, .c, .c, .c, .c, .c, .c, .c, .c, .r ((fun x => PV.agg [.v (.bool ((x 0).fEdge)), .v (.bool ((x 0).fUp)), .v (.bool ((x 0).fMasked)), .v (.bool ((x 0).fPending)), .v (.bool ((x 1).fEdge)), .v (.bool ((x 1).fUp)), .v (.bool ((x 1).fMasked)), .v (.bool ((x 1).fPending)), .v (.bool ((x 2).fEdge)), .v (.bool ((x 2).fUp)), .v (.bool ((x 2).fMasked)), .v (.bool ((x 2).fPending)), .v (.bool ((x 3).fEdge)), .v (.bool ((x 3).fUp)), .v (.bool ((x 3).fMasked)), .v (.bool ((x 3).fPending)), .v (.bool ((x 4).fEdge)), .v (.bool ((x 4).fUp)), .v (.bool ((x 4).fMasked)), .v (.bool ((x 4).fPending)), .v (.bool ((x 5).fEdge)), .v (.bool ((x 5).fUp)), .v (.bool ((x 5).fMasked)), .v (.bool ((x 5).fPending)), .v (.bool ((x 6).fEdge)), .v (.bool ((x 6).fUp)), .v (.bool ((x 6).fMasked)), .v (.bool ((x 6).fPending)), .v (.bool ((x 7).fEdge)), .v (.bool ((x 7).fUp)), .v (.bool ((x 7).fMasked)), .v (.bool ((x 7).fPending))]) v_r192), .c, .c, .c, .q (eqA_8_ringref5_Line v_r192 (setA v_r93 v_t5 (S_ringref5_Line.mk v_y183.fEdge v_t6 v_y183.fMasked true))), .t false, .c, .c, .c, .c, .c, .c, .c, .c, .c, .c, .c, .c, .c, .c, .c, .c, .c, .c]) (ts := []) (s := []) (l := [12]) (by kernel_rfl) (by kernel_rfl) (.cons (bt h272) (.cons (G_ringref5_Split_ok n v_r22.1.fEdge v_r22.1.fUp v_r22.1.fMasked v_r22.1.fPending _ h273) (.cons (eqA_8_ringref5_Line_ok v_r192 (setA v_r93 v_t5 (S_ringref5_Line.mk v_y183.fEdge v_t6 v_y183.fMasked true))) (.cons (vf h274) .nil)))) q
  · rw [if_neg h272] at h
    cases h
    exact pkk_sound TTok mix hF 1 (hs := [.t false, .c, .c, .c, .c, .c, .c, .c, .c, .c, .c, .c, .c, .c, .c, .c, .c, .c, .c, .c, .c, .c, .c, .c, .c, .c, .c, .c, .c, .c]) (ts := []) (s := []) (l := [12]) (by kernel_rfl) (by kernel_rfl) (.cons (bf h272) .nil) q
inductive G_ringlaw5_IrqSays_C10_R where
  | x0 (v_t215 : Bool)
def G_ringlaw5_IrqSays_C10_ex : G_ringlaw5_IrqSays_C10_R → Ex
  | .x0 _ => .normal
def G_ringlaw5_IrqSays_C10_st (v_r22 : (S_irq_Lines × Int)) (v_r27 : (S_irq_Lines × Int)) (v_r93 : ((Fin 8 → S_ringref5_Line))) (v_t5 : Int) (v_y183 : S_ringref5_Line) (v_t6 : Bool) (v_y204 : S_ringref5_Line) : G_ringlaw5_IrqSays_C10_R → PS
  | .x0 v_t215 => ⟨[dd, dd, dd, dd, dd, dd, dd, dd, dd, dd, dd, dd, .d (.v (.bool v_t215)), dd, dd, dd, dd, dd, dd, dd, dd, dd, dd, dd, dd, dd, dd, dd, dd, dd, dd, dd, dd, dd, dd, dd, dd, dd, dd, dd, dd, dd, dd, dd, dd, dd, dd, dd, dd, dd, dd, dd, dd, dd, dd, dd, dd, dd, dd, dd, dd, dd, dd, dd, dd, dd, dd, dd, dd, dd, dd, dd, dd, dd, dd, dd, dd, dd, dd, dd, dd, dd, dd, dd, dd, dd, dd, dd, dd, dd, dd, dd, dd, dd, dd, dd, dd, dd, dd, dd, dd, dd, dd, dd, dd, dd, dd, dd, dd, dd, dd, dd, dd, dd, dd, dd, dd, dd, dd, dd, dd, dd, dd, dd, dd, dd, dd, dd, dd, dd, dd, dd, dd, dd, dd, dd, dd, dd, dd, dd, dd, dd, dd, dd, dd, dd, dd, dd, dd, dd, dd, dd, dd, dd, dd, dd, dd, dd, dd, dd, dd, dd, dd, dd, dd, dd, dd, dd, dd, dd, dd, dd, dd, dd, dd, dd, dd, dd, dd, dd, dd, dd, dd, dd, dd, dd, dd, dd, dd, dd, dd, dd, dd, dd, dd, dd, dd, dd, dd, dd, dd, dd, dd, dd, dd, dd, dd, dd, dd, dd, dd, dd, dd, dd, dd, dd, dd, dd, dd, dd, dd, dd, dd, dd, dd, dd, dd, dd, dd, dd, dd, dd, dd, dd, dd, dd, dd, dd, dd, dd, dd, dd, dd, dd, dd, dd, dd, dd, dd, dd, dd, dd, dd, dd, dd, dd, dd, dd, dd, dd, dd, dd, dd, dd, dd, dd, dd, dd, dd, dd, dd, dd, dd, dd, dd], []⟩
def G_ringlaw5_IrqSays_C10_hd (v_r22 : (S_irq_Lines × Int)) (v_r27 : (S_irq_Lines × Int)) (v_r93 : ((Fin 8 → S_ringref5_Line))) (v_t5 : Int) (v_y183 : S_ringref5_Line) (v_t6 : Bool) (v_y204 : S_ringref5_Line)  : PS := ⟨[dd, dd, dd, dd, dd, dd, dd, dd, dd, dd, dd, dd, dd, dd, .ref 0 0, .d (.v (.int .i64 v_r22.2)), .ref 1 0, .d (.v (.int .i64 v_r27.2)), dd, dd, dd, dd, dd, dd, dd, dd, dd, dd, dd, dd, .ref 2 0, .ref 3 0, dd, dd, dd, dd, dd, dd, dd, dd, dd, dd, dd, dd, dd, dd, dd, dd, dd, dd, dd, dd, dd, dd, dd, dd, dd, dd, dd, dd, dd, dd, dd, dd, dd, dd, dd, dd, dd, dd, dd, dd, dd, dd, dd, dd, dd, dd, dd, dd, dd, dd, dd, dd, dd, dd, dd, dd, dd, dd, dd, dd, dd, dd, dd, dd, dd, dd, dd, dd, dd, dd, dd, dd, dd, dd, dd, dd, dd, dd, dd, dd, dd, dd, dd, dd, dd, dd, dd, dd, dd, dd, dd, dd, dd, dd, dd, dd, dd, dd, dd, dd, dd, dd, dd, dd, dd, dd, dd, dd, dd, dd, dd, dd, dd, dd, dd, dd, dd, dd, dd, dd, dd, dd, dd, dd, dd, dd, dd, dd, dd, dd, dd, dd, dd, dd, dd, dd, dd, dd, dd, dd, dd, dd, dd, dd, dd, dd, dd, dd, dd, dd, dd, dd, dd, dd, dd, dd, dd, dd, dd, dd, dd, dd, dd, dd, dd, dd, dd, dd, dd, dd, dd, dd, dd, dd, dd, dd, dd, dd, dd, dd, dd, dd, dd, dd, dd, dd, dd, dd, dd, dd, dd, dd, dd, dd, dd, dd, dd, dd, dd, dd, dd, dd, dd, dd, dd, dd, dd, dd, dd, dd, dd, dd, dd, dd, dd, dd, dd, dd, dd, dd, dd, dd, dd, dd, dd, dd, dd, dd, dd, dd, dd, dd, dd, dd, dd, dd, dd, dd, dd, dd, dd, dd, dd], [.box [.d (.v (.int .i64 v_r22.1.fEdge)), .d (.v (.int .i64 v_r22.1.fUp)), .d (.v (.int .i64 v_r22.1.fMasked)), .d (.v (.int .i64 v_r22.1.fPending))], .box [.d (.v (.int .i64 v_r27.1.fEdge)), .d (.v (.int .i64 v_r27.1.fUp)), .d (.v (.int .i64 v_r27.1.fMasked)), .d (.v (.int .i64 v_r27.1.fPending))], .box [.d (.v (.bool (((setA v_r93 v_t5 (S_ringref5_Line.mk v_y183.fEdge v_t6 v_y183.fMasked (!v_y183.fUp))) 0).fEdge))), .d (.v (.bool (((setA v_r93 v_t5 (S_ringref5_Line.mk v_y183.fEdge v_t6 v_y183.fMasked (!v_y183.fUp))) 0).fUp))), .d (.v (.bool (((setA v_r93 v_t5 (S_ringref5_Line.mk v_y183.fEdge v_t6 v_y183.fMasked (!v_y183.fUp))) 0).fMasked))), .d (.v (.bool (((setA v_r93 v_t5 (S_ringref5_Line.mk v_y183.fEdge v_t6 v_y183.fMasked (!v_y183.fUp))) 0).fPending))), .d (.v (.bool (((setA v_r93 v_t5 (S_ringref5_Line.mk v_y183.fEdge v_t6 v_y183.fMasked (!v_y183.fUp))) 1).fEdge))), .d (.v (.bool (((setA v_r93 v_t5 (S_ringref5_Line.mk v_y183.fEdge v_t6 v_y183.fMasked (!v_y183.fUp))) 1).fUp))), .d (.v (.bool (((setA v_r93 v_t5 (S_ringref5_Line.mk v_y183.fEdge v_t6 v_y183.fMasked (!v_y183.fUp))) 1).fMasked))), .d (.v (.bool (((setA v_r93 v_t5 (S_ringref5_Line.mk v_y183.fEdge v_t6 v_y183.fMasked (!v_y183.fUp))) 1).fPending))), .d (.v (.bool (((setA v_r93 v_t5 (S_ringref5_Line.mk v_y183.fEdge v_t6 v_y183.fMasked (!v_y183.fUp))) 2).fEdge))), .d (.v (.bool (((setA v_r93 v_t5 (S_ringref5_Line.mk v_y183.fEdge v_t6 v_y183.fMasked (!v_y183.fUp))) 2).fUp))), .d (.v (.bool (((setA v_r93 v_t5 (S_ringref5_Line.mk v_y183.fEdge v_t6 v_y183.fMasked (!v_y183.fUp))) 2).fMasked))), .d (.v (.bool (((setA v_r93 v_t5 (S_ringref5_Line.mk v_y183.fEdge v_t6 v_y183.fMasked (!v_y183.fUp))) 2).fPending))), .d (.v (.bool (((setA v_r93 v_t5 (S_ringref5_Line.mk v_y183.fEdge v_t6 v_y183.fMasked (!v_y183.fUp))) 3).fEdge))), .d (.v (.bool (((setA v_r93 v_t5 (S_ringref5_Line.mk v_y183.fEdge v_t6 v_y183.fMasked (!v_y183.fUp))) 3).fUp))), .d (.v (.bool (((setA v_r93 v_t5 (S_ringref5_Line.mk v_y183.fEdge v_t6 v_y183.fMasked (!v_y183.fUp))) 3).fMasked))), .d (.v (.bool (((setA v_r93 v_t5 (S_ringref5_Line.mk v_y183.fEdge v_t6 v_y183.fMasked (!v_y183.fUp))) 3).fPending))), .d (.v (.bool (((setA v_r93 v_t5 (S_ringref5_Line.mk v_y183.fEdge v_t6 v_y183.fMasked (!v_y183.fUp))) 4).fEdge))), .d (.v (.bool (((setA v_r93 v_t5 (S_ringref5_Line.mk v_y183.fEdge v_t6 v_y183.fMasked (!v_y183.fUp))) 4).fUp))), .d (.v (.bool (((setA v_r93 v_t5 (S_ringref5_Line.mk v_y183.fEdge v_t6 v_y183.fMasked (!v_y183.fUp))) 4).fMasked))), .d (.v (.bool (((setA v_r93 v_t5 (S_ringref5_Line.mk v_y183.fEdge v_t6 v_y183.fMasked (!v_y183.fUp))) 4).fPending))), .d (.v (.bool (((setA v_r93 v_t5 (S_ringref5_Line.mk v_y183.fEdge v_t6 v_y183.fMasked (!v_y183.fUp))) 5).fEdge))), .d (.v (.bool (((setA v_r93 v_t5 (S_ringref5_Line.mk v_y183.fEdge v_t6 v_y183.fMasked (!v_y183.fUp))) 5).fUp))), .d (.v (.bool (((setA v_r93 v_t5 (S_ringref5_Line.mk v_y183.fEdge v_t6 v_y183.fMasked (!v_y183.fUp))) 5).fMasked))), .d (.v (.bool (((setA v_r93 v_t5 (S_ringref5_Line.mk v_y183.fEdge v_t6 v_y183.fMasked (!v_y183.fUp))) 5).fPending))), .d (.v (.bool (((setA v_r93 v_t5 (S_ringref5_Line.mk v_y183.fEdge v_t6 v_y183.fMasked (!v_y183.fUp))) 6).fEdge))), .d (.v (.bool (((setA v_r93 v_t5 (S_ringref5_Line.mk v_y183.fEdge v_t6 v_y183.fMasked (!v_y183.fUp))) 6).fUp))), .d (.v (.bool (((setA v_r93 v_t5 (S_ringref5_Line.mk v_y183.fEdge v_t6 v_y183.fMasked (!v_y183.fUp))) 6).fMasked))), .d (.v (.bool (((setA v_r93 v_t5 (S_ringref5_Line.mk v_y183.fEdge v_t6 v_y183.fMasked (!v_y183.fUp))) 6).fPending))), .d (.v (.bool (((setA v_r93 v_t5 (S_ringref5_Line.mk v_y183.fEdge v_t6 v_y183.fMasked (!v_y183.fUp))) 7).fEdge))), .d (.v (.bool (((setA v_r93 v_t5 (S_ringref5_Line.mk v_y183.fEdge v_t6 v_y183.fMasked (!v_y183.fUp))) 7).fUp))), .d (.v (.bool (((setA v_r93 v_t5 (S_ringref5_Line.mk v_y183.fEdge v_t6 v_y183.fMasked (!v_y183.fUp))) 7).fMasked))), .d (.v (.bool (((setA v_r93 v_t5 (S_ringref5_Line.mk v_y183.fEdge v_t6 v_y183.fMasked (!v_y183.fUp))) 7).fPending)))], .box [.d (.v (.bool (((setA v_r93 v_t5 (S_ringref5_Line.mk v_y204.fEdge v_y204.fUp v_t6 v_y204.fPending)) 0).fEdge))), .d (.v (.bool (((setA v_r93 v_t5 (S_ringref5_Line.mk v_y204.fEdge v_y204.fUp v_t6 v_y204.fPending)) 0).fUp))), .d (.v (.bool (((setA v_r93 v_t5 (S_ringref5_Line.mk v_y204.fEdge v_y204.fUp v_t6 v_y204.fPending)) 0).fMasked))), .d (.v (.bool (((setA v_r93 v_t5 (S_ringref5_Line.mk v_y204.fEdge v_y204.fUp v_t6 v_y204.fPending)) 0).fPending))), .d (.v (.bool (((setA v_r93 v_t5 (S_ringref5_Line.mk v_y204.fEdge v_y204.fUp v_t6 v_y204.fPending)) 1).fEdge))), .d (.v (.bool (((setA v_r93 v_t5 (S_ringref5_Line.mk v_y204.fEdge v_y204.fUp v_t6 v_y204.fPending)) 1).fUp))), .d (.v (.bool (((setA v_r93 v_t5 (S_ringref5_Line.mk v_y204.fEdge v_y204.fUp v_t6 v_y204.fPending)) 1).fMasked))), .d (.v (.bool (((setA v_r93 v_t5 (S_ringref5_Line.mk v_y204.fEdge v_y204.fUp v_t6 v_y204.fPending)) 1).fPending))), .d (.v (.bool (((setA v_r93 v_t5 (S_ringref5_Line.mk v_y204.fEdge v_y204.fUp v_t6 v_y204.fPending)) 2).fEdge))), .d (.v (.bool (((setA v_r93 v_t5 (S_ringref5_Line.mk v_y204.fEdge v_y204.fUp v_t6 v_y204.fPending)) 2).fUp))), .d (.v (.bool (((setA v_r93 v_t5 (S_ringref5_Line.mk v_y204.fEdge v_y204.fUp v_t6 v_y204.fPending)) 2).fMasked))), .d (.v (.bool (((setA v_r93 v_t5 (S_ringref5_Line.mk v_y204.fEdge v_y204.fUp v_t6 v_y204.fPending)) 2).fPending))), .d (.v (.bool (((setA v_r93 v_t5 (S_ringref5_Line.mk v_y204.fEdge v_y204.fUp v_t6 v_y204.fPending)) 3).fEdge))), .d (.v (.bool (((setA v_r93 v_t5 (S_ringref5_Line.mk v_y204.fEdge v_y204.fUp v_t6 v_y204.fPending)) 3).fUp))), .d (.v (.bool (((setA v_r93 v_t5 (S_ringref5_Line.mk v_y204.fEdge v_y204.fUp v_t6 v_y204.fPending)) 3).fMasked))), .d (.v (.bool (((setA v_r93 v_t5 (S_ringref5_Line.mk v_y204.fEdge v_y204.fUp v_t6 v_y204.fPending)) 3).fPending))), .d (.v (.bool (((setA v_r93 v_t5 (S_ringref5_Line.mk v_y204.fEdge v_y204.fUp v_t6 v_y204.fPending)) 4).fEdge))), .d (.v (.bool (((setA v_r93 v_t5 (S_ringref5_Line.mk v_y204.fEdge v_y204.fUp v_t6 v_y204.fPending)) 4).fUp))), .d (.v (.bool (((setA v_r93 v_t5 (S_ringref5_Line.mk v_y204.fEdge v_y204.fUp v_t6 v_y204.fPending)) 4).fMasked))), .d (.v (.bool (((setA v_r93 v_t5 (S_ringref5_Line.mk v_y204.fEdge v_y204.fUp v_t6 v_y204.fPending)) 4).fPending))), .d (.v (.bool (((setA v_r93 v_t5 (S_ringref5_Line.mk v_y204.fEdge v_y204.fUp v_t6 v_y204.fPending)) 5).fEdge))), .d (.v (.bool (((setA v_r93 v_t5 (S_ringref5_Line.mk v_y204.fEdge v_y204.fUp v_t6 v_y204.fPending)) 5).fUp))), .d (.v (.bool (((setA v_r93 v_t5 (S_ringref5_Line.mk v_y204.fEdge v_y204.fUp v_t6 v_y204.fPending)) 5).fMasked))), .d (.v (.bool (((setA v_r93 v_t5 (S_ringref5_Line.mk v_y204.fEdge v_y204.fUp v_t6 v_y204.fPending)) 5).fPending))), .d (.v (.bool (((setA v_r93 v_t5 (S_ringref5_Line.mk v_y204.fEdge v_y204.fUp v_t6 v_y204.fPending)) 6).fEdge))), .d (.v (.bool (((setA v_r93 v_t5 (S_ringref5_Line.mk v_y204.fEdge v_y204.fUp v_t6 v_y204.fPending)) 6).fUp))), .d (.v (.bool (((setA v_r93 v_t5 (S_ringref5_Line.mk v_y204.fEdge v_y204.fUp v_t6 v_y204.fPending)) 6).fMasked))), .d (.v (.bool (((setA v_r93 v_t5 (S_ringref5_Line.mk v_y204.fEdge v_y204.fUp v_t6 v_y204.fPending)) 6).fPending))), .d (.v (.bool (((setA v_r93 v_t5 (S_ringref5_Line.mk v_y204.fEdge v_y204.fUp v_t6 v_y204.fPending)) 7).fEdge))), .d (.v (.bool (((setA v_r93 v_t5 (S_ringref5_Line.mk v_y204.fEdge v_y204.fUp v_t6 v_y204.fPending)) 7).fUp))), .d (.v (.bool (((setA v_r93 v_t5 (S_ringref5_Line.mk v_y204.fEdge v_y204.fUp v_t6 v_y204.fPending)) 7).fMasked))), .d (.v (.bool (((setA v_r93 v_t5 (S_ringref5_Line.mk v_y204.fEdge v_y204.fUp v_t6 v_y204.fPending)) 7).fPending)))]]⟩
def G_ringlaw5_IrqSays_C10 (n : Nat) (v_r22 : (S_irq_Lines × Int)) (v_r27 : (S_irq_Lines × Int)) (v_r93 : ((Fin 8 → S_ringref5_Line))) (v_t5 : Int) (v_y183 : S_ringref5_Line) (v_t6 : Bool) (v_y204 : S_ringref5_Line) : Option G_ringlaw5_IrqSays_C10_R :=
  if v_r22.2 = 0 then
   (G_ringref5_Split n v_r22.1.fEdge v_r22.1.fUp v_r22.1.fMasked v_r22.1.fPending).bind fun (v_r211 : ((Fin 8 → S_ringref5_Line))) =>
   if (eqRes .eql (eqA_8_ringref5_Line v_r211 (setA v_r93 v_t5 (S_ringref5_Line.mk v_y183.fEdge v_t6 v_y183.fMasked (!v_y183.fUp))))) = true then
    if v_r27.2 = 0 then
     (G_ringref5_Split n v_r27.1.fEdge v_r27.1.fUp v_r27.1.fMasked v_r27.1.fPending).bind fun (v_r212 : ((Fin 8 → S_ringref5_Line))) =>
     if (eqRes .eql (eqA_8_ringref5_Line v_r212 (setA v_r93 v_t5 (S_ringref5_Line.mk v_y204.fEdge v_y204.fUp v_t6 v_y204.fPending)))) = true then
      (G_irq_Check n v_r22.1).bind fun (v_r213 : (Int)) =>
      if v_r213 = 0 then
       (G_irq_Check n v_r27.1).bind fun (v_r214 : (Int)) =>
       some (.x0 (v_r214 == 0))
      else
       some (.x0 false)
     else
      some (.x0 false)
    else
     some (.x0 false)
   else
    some (.x0 false)
  else
   some (.x0 false)
theorem G_ringlaw5_IrqSays_C10_ok {Fi : Ex → PS → Prop} (hF : KC 275 Fi) (ks : List Fr) (n : Nat) (v_r22 : (S_irq_Lines × Int)) (v_r27 : (S_irq_Lines × Int)) (v_r93 : ((Fin 8 → S_ringref5_Line))) (v_t5 : Int) (v_y183 : S_ringref5_Line) (v_t6 : Bool) (v_y204 : S_ringref5_Line)  (o : G_ringlaw5_IrqSays_C10_R) (h : G_ringlaw5_IrqSays_C10 n v_r22 v_r27 v_r93 v_t5 v_y183 v_t6 v_y204 = some o) (q : RunE Try.prog 275 Fi ks (G_ringlaw5_IrqSays_C10_ex o) (G_ringlaw5_IrqSays_C10_st v_r22 v_r27 v_r93 v_t5 v_y183 v_t6 v_y204 o)) : RunE Try.prog 275 Fi (.s (cL (cR (cR (cR (cR (cR (cR (cR (cR (cR (cR (cR (cR (cR (cR (cR (cR (cR (cR (cR (cR (cR (bodyOf Try.f3))))))))))))))))))))))) :: ks) .normal (G_ringlaw5_IrqSays_C10_hd v_r22 v_r27 v_r93 v_t5 v_y183 v_t6 v_y204) := by
  unfold G_ringlaw5_IrqSays_C10 at h
  by_cases h297 : v_r22.2 = 0
  · rw [if_pos h297] at h
    obtain ⟨v_r211, h298, h⟩ := bind_some h
    by_cases h299 : (eqRes .eql (eqA_8_ringref5_Line v_r211 (setA v_r93 v_t5 (S_ringref5_Line.mk v_y183.fEdge v_t6 v_y183.fMasked (!v_y183.fUp))))) = true
    · rw [if_pos h299] at h
      by_cases h300 : v_r27.2 = 0
      · rw [if_pos h300] at h
        obtain ⟨v_r212, h301, h⟩ := bind_some h
        by_cases h302 : (eqRes .eql (eqA_8_ringref5_Line v_r212 (setA v_r93 v_t5 (S_ringref5_Line.mk v_y204.fEdge v_y204.fUp v_t6 v_y204.fPending)))) = true
        · rw [if_pos h302] at h
          obtain ⟨v_r213, h303, h⟩ := bind_some h
          by_cases h304 : v_r213 = 0
          · rw [if_pos h304] at h
            obtain ⟨v_r214, h305, h⟩ := bind_some h
            cases h
            exact pkk_sound TTok mix hF 1 (hs := [.t true, .c, .c, .c, .c, .c, .c, .c, .c, .c, .c, .c, .c, .r ((fun x => PV.agg [.v (.bool ((x 0).fEdge)), .v (.bool ((x 0).fUp)), .v (.bool ((x 0).fMasked)), .v (.bool ((x 0).fPending)), .v (.bool ((x 1).fEdge)), .v (.bool ((x 1).fUp)), .v (.bool ((x 1).fMasked)), .v (.bool ((x 1).fPending)), .v (.bool ((x 2).fEdge)), .v (.bool ((x 2).fUp)), .v (.bool ((x 2).fMasked)), .v (.bool ((x 2).fPending)), .v (.bool ((x 3).fEdge)), .v (.bool ((x 3).fUp)), .v (.bool ((x 3).fMasked)), .v (.bool ((x 3).fPending)), .v (.bool ((x 4).fEdge)), .v (.bool ((x 4).fUp)), .v (.bool ((x 4).fMasked)), .v (.bool ((x 4).fPending)), .v (.bool ((x 5).fEdge)), .v (.bool ((x 5).fUp)), .v (.bool ((x 5).fMasked)), .v (.bool ((x 5).fPending)), .v (.bool ((x 6).fEdge)), .v (.bool ((x 6).fUp)), .v (.bool ((x 6).fMasked)), .v (.bool ((x 6).fPending)), .v (.bool ((x 7).fEdge)), .v (.bool ((x 7).fUp)), .v (.bool ((x 7).fMasked)), .v (.bool ((x 7).fPending))]) v_r211), .c, .c, .c, .q (eqA_8_ringref5_Line v_r211 (setA v_r93 v_t5 (S_ringref5_Line.mk v_y183.fEdge v_t6 v_y183.fMasked (!v_y183.fUp)))), .t true, .c, .t true, .c, .c, .c, .c, .c, .c, .c, .c, .c, .c, .c, .c, .r ((fun x => PV.agg [.v (.bool ((x 0).fEdge)), .v (.bool ((x 0).fUp)), .v (.bool ((x 0).fMasked)), .v (.bool ((x 0).fPending)), .v (.bool ((x 1).fEdge)), .v (.bool ((x 1).fUp)), .v (.bool ((x 1).fMasked)), .v (.bool ((x 1).fPending)), .v (.bool ((x 2).fEdge)), .v (.bool ((x 2).fUp)), .v (.bool ((x 2).fMasked)), .v (.bool ((x 2).fPending)), .v (.bool ((x 3).fEdge)), .v (.bool ((x 3).fUp)), .v (.bool ((x 3).fMasked)), .v (.bool ((x 3).fPending)), .v (.bool ((x 4).fEdge)), .v (.bool ((x 4).fUp)), .v (.bool ((x 4).fMasked)), .v (.bool ((x 4).fPending)), .v (.bool ((x 5).fEdge)), .v (.bool ((x 5).fUp)), .v (.bool ((x 5).fMasked)), .v (.bool ((x 5).fPending)), .v (.bool ((x 6).fEdge)), .v (.bool ((x 6).fUp)), .v (.bool ((x 6).fMasked)), .v (.bool ((x 6).fPending)), .v (.bool ((x 7).fEdge)), .v (.bool ((x 7).fUp)), .v (.bool ((x 7).fMasked)), .v (.bool ((x 7).fPending))]) v_r212), .c, .c, .c, .q (eqA_8_ringref5_Line v_r212 (setA v_r93 v_t5 (S_ringref5_Line.mk v_y204.fEdge v_y204.fUp v_t6 v_y204.fPending))), .t true, .c, .c, .r ((eI .i64) v_r213), .c, .t true, .c, .c, .r ((eI .i64) v_r214), .c]) (ts := []) (s := []) (l := [12]) (by kernel_rfl) (by kernel_rfl) (.cons (bt h297) (.cons (G_ringref5_Split_ok n v_r22.1.fEdge v_r22.1.fUp v_r22.1.fMasked v_r22.1.fPending _ h298) (.cons (eqA_8_ringref5_Line_ok v_r211 (setA v_r93 v_t5 (S_ringref5_Line.mk v_y183.fEdge v_t6 v_y183.fMasked (!v_y183.fUp)))) (.cons h299 (.cons (bt h300) (.cons (G_ringref5_Split_ok n v_r27.1.fEdge v_r27.1.fUp v_r27.1.fMasked v_r27.1.fPending _ h301) (.cons (eqA_8_ringref5_Line_ok v_r212 (setA v_r93 v_t5 (S_ringref5_Line.mk v_y204.fEdge v_y204.fUp v_t6 v_y204.fPending))) (.cons h302 (.cons (G_irq_Check_ok n v_r22.1 _ h303) (.cons (bt h304) (.cons (G_irq_Check_ok n v_r27.1 _ h305) .nil))))))))))) q
          · rw [if_neg h304] at h
            cases h
            exact pkk_sound TTok mix hF 1 (hs := [.t true, .c, .c, .c, .c, .c, .c, .c, .c, .c, .c, .c, .c, .r ((fun x => PV.agg [.v (.bool ((x 0).fEdge)), .v (.bool ((x 0).fUp)), .v (.bool ((x 0).fMasked)), .v (.bool ((x 0).fPending)), .v (.bool ((x 1).fEdge)), .v (.bool ((x 1).fUp)), .v (.bool ((x 1).fMasked)), .v (.bool ((x 1).fPending)), .v (.bool ((x 2).fEdge)), .v (.bool ((x 2).fUp)), .v (.bool ((x 2).fMasked)), .v (.bool ((x 2).fPending)), .v (.bool ((x 3).fEdge)), .v (.bool ((x 3).fUp)), .v (.bool ((x 3).fMasked)), .v (.bool ((x 3).fPending)), .v (.bool ((x 4).fEdge)), .v (.bool ((x 4).fUp)), .v (.bool ((x 4).fMasked)), .v (.bool ((x 4).fPending)), .v (.bool ((x 5).fEdge)), .v (.bool ((x 5).fUp)), .v (.bool ((x 5).fMasked)), .v (.bool ((x 5).fPending)), .v (.bool ((x 6).fEdge)), .v (.bool ((x 6).fUp)), .v (.bool ((x 6).fMasked)), .v (.bool ((x 6).fPending)), .v (.bool ((x 7).fEdge)), .v (.bool ((x 7).fUp)), .v (.bool ((x 7).fMasked)), .v (.bool ((x 7).fPending))]) v_r211), .c, .c, .c, .q (eqA_8_ringref5_Line v_r211 (setA v_r93 v_t5 (S_ringref5_Line.mk v_y183.fEdge v_t6 v_y183.fMasked (!v_y183.fUp)))), .t true, .c, .t true, .c, .c, .c, .c, .c, .c, .c, .c, .c, .c, .c, .c, .r ((fun x => PV.agg [.v (.bool ((x 0).fEdge)), .v (.bool ((x 0).fUp)), .v (.bool ((x 0).fMasked)), .v (.bool ((x 0).fPending)), .v (.bool ((x 1).fEdge)), .v (.bool ((x 1).fUp)), .v (.bool ((x 1).fMasked)), .v (.bool ((x 1).fPending)), .v (.bool ((x 2).fEdge)), .v (.bool ((x 2).fUp)), .v (.bool ((x 2).fMasked)), .v (.bool ((x 2).fPending)), .v (.bool ((x 3).fEdge)), .v (.bool ((x 3).fUp)), .v (.bool ((x 3).fMasked)), .v (.bool ((x 3).fPending)), .v (.bool ((x 4).fEdge)), .v (.bool ((x 4).fUp)), .v (.bool ((x 4).fMasked)), .v (.bool ((x 4).fPending)), .v (.bool ((x 5).fEdge)), .v (.bool ((x 5).fUp)), .v (.bool ((x 5).fMasked)), .v (.bool ((x 5).fPending)), .v (.bool ((x 6).fEdge)), .v (.bool ((x 6).fUp)), .v (.bool ((x 6).fMasked)), .v (.bool ((x 6).fPending)), .v (.bool ((x 7).fEdge)), .v (.bool ((x 7).fUp)), .v (.bool ((x 7).fMasked)), .v (.bool ((x 7).fPending))]) v_r212), .c, .c, .c, .q (eqA_8_ringref5_Line v_r212 (setA v_r93 v_t5 (S_ringref5_Line.mk v_y204.fEdge v_y204.fUp v_t6 v_y204.fPending))), .t true, .c, .c, .r ((eI .i64) v_r213), .c, .t false, .c, .c]) (ts := []) (s := []) (l := [12]) (by kernel_rfl) (by kernel_rfl) (.cons (bt h297) (.cons (G_ringref5_Split_ok n v_r22.1.fEdge v_r22.1.fUp v_r22.1.fMasked v_r22.1.fPending _ h298) (.cons (eqA_8_ringref5_Line_ok v_r211 (setA v_r93 v_t5 (S_ringref5_Line.mk v_y183.fEdge v_t6 v_y183.fMasked (!v_y183.fUp)))) (.cons h299 (.cons (bt h300) (.cons (G_ringref5_Split_ok n v_r27.1.fEdge v_r27.1.fUp v_r27.1.fMasked v_r27.1.fPending _ h301) (.cons (eqA_8_ringref5_Line_ok v_r212 (setA v_r93 v_t5 (S_ringref5_Line.mk v_y204.fEdge v_y204.fUp v_t6 v_y204.fPending))) (.cons h302 (.cons (G_irq_Check_ok n v_r22.1 _ h303) (.cons (bf h304) .nil)))))))))) q
        · rw [if_neg h302] at h
          cases h
          exact pkk_sound TTok mix hF 1 (hs := [.t true, .c, .c, .c, .c, .c, .c, .c, .c, .c, .c, .c, .c, .r ((fun x => PV.agg [.v (.bool ((x 0).fEdge)), .v (.bool ((x 0).fUp)), .v (.bool ((x 0).fMasked)), .v (.bool ((x 0).fPending)), .v (.bool ((x 1).fEdge)), .v (.bool ((x 1).fUp)), .v (.bool ((x 1).fMasked)), .v (.bool ((x 1).fPending)), .v (.bool ((x 2).fEdge)), .v (.bool ((x 2).fUp)), .v (.bool ((x 2).fMasked)), .v (.bool ((x 2).fPending)), .v (.bool ((x 3).fEdge)), .v (.bool ((x 3).fUp)), .v (.bool ((x 3).fMasked)), .v (.bool ((x 3).fPending)), .v (.bool ((x 4).fEdge)), .v (.bool ((x 4).fUp)), .v (.bool ((x 4).fMasked)), .v (.bool ((x 4).fPending)), .v (.bool ((x 5).fEdge)), .v (.bool ((x 5).fUp)), .v (.bool ((x 5).fMasked)), .v (.bool ((x 5).fPending)), .v (.bool ((x 6).fEdge)), .v (.bool ((x 6).fUp)), .v (.bool ((x 6).fMasked)), .v (.bool ((x 6).fPending)), .v (.bool ((x 7).fEdge)), .v (.bool ((x 7).fUp)), .v (.bool ((x 7).fMasked)), .v (.bool ((x 7).fPending))]) v_r211), .c, .c, .c, .q (eqA_8_ringref5_Line v_r211 (setA v_r93 v_t5 (S_ringref5_Line.mk v_y183.fEdge v_t6 v_y183.fMasked (!v_y183.fUp)))), .t true, .c, .t true, .c, .c, .c, .c, .c, .c, .c, .c, .c, .c, .c, .c, .r ((fun x => PV.agg [.v (.bool ((x 0).fEdge)), .v (.bool ((x 0).fUp)), .v (.bool ((x 0).fMasked)), .v (.bool ((x 0).fPending)), .v (.bool ((x 1).fEdge)), .v (.bool ((x 1).fUp)), .v (.bool ((x 1).fMasked)), .v (.bool ((x 1).fPending)), .v (.bool ((x 2).fEdge)), .v (.bool ((x 2).fUp)), .v (.bool ((x 2).fMasked)), .v (.bool ((x 2).fPending)), .v (.bool ((x 3).fEdge)), .v (.bool ((x 3).fUp)), .v (.bool ((x 3).fMasked)), .v (.bool ((x 3).fPending)), .v (.bool ((x 4).fEdge)), .v (.bool ((x 4).fUp)), .v (.bool ((x 4).fMasked)), .v (.bool ((x 4).fPending)), .v (.bool ((x 5).fEdge)), .v (.bool ((x 5).fUp)), .v (.bool ((x 5).fMasked)), .v (.bool ((x 5).fPending)), .v (.bool ((x 6).fEdge)), .v (.bool ((x 6).fUp)), .v (.bool ((x 6).fMasked)), .v (.bool ((x 6).fPending)), .v (.bool ((x 7).fEdge)), .v (.bool ((x 7).fUp)), .v (.bool ((x 7).fMasked)), .v (.bool ((x 7).fPending))]) v_r212), .c, .c, .c, .q (eqA_8_ringref5_Line v_r212 (setA v_r93 v_t5 (S_ringref5_Line.mk v_y204.fEdge v_y204.fUp v_t6 v_y204.fPending))), .t false, .c, .c, .c, .c, .c]) (ts := []) (s := []) (l := [12]) (by kernel_rfl) (by kernel_rfl) (.cons (bt h297) (.cons (G_ringref5_Split_ok n v_r22.1.fEdge v_r22.1.fUp v_r22.1.fMasked v_r22.1.fPending _ h298) (.cons (eqA_8_ringref5_Line_ok v_r211 (setA v_r93 v_t5 (S_ringref5_Line.mk v_y183.fEdge v_t6 v_y183.fMasked (!v_y183.fUp)))) (.cons h299 (.cons (bt h300) (.cons (G_ringref5_Split_ok n v_r27.1.fEdge v_r27.1.fUp v_r27.1.fMasked v_r27.1.fPending _ h301) (.cons (eqA_8_ringref5_Line_ok v_r212 (setA v_r93 v_t5 (S_ringref5_Line.mk v_y204.fEdge v_y204.fUp v_t6 v_y204.fPending))) (.cons (vf h302) .nil)))))))) q
      · rw [if_neg h300] at h
        cases h
        exact pkk_sound TTok mix hF 1 (hs := [.t true, .c, .c, .c, .c, .c, .c, .c, .c, .c, .c, .c, .c, .r ((fun x => PV.agg [.v (.bool ((x 0).fEdge)), .v (.bool ((x 0).fUp)), .v (.bool ((x 0).fMasked)), .v (.bool ((x 0).fPending)), .v (.bool ((x 1).fEdge)), .v (.bool ((x 1).fUp)), .v (.bool ((x 1).fMasked)), .v (.bool ((x 1).fPending)), .v (.bool ((x 2).fEdge)), .v (.bool ((x 2).fUp)), .v (.bool ((x 2).fMasked)), .v (.bool ((x 2).fPending)), .v (.bool ((x 3).fEdge)), .v (.bool ((x 3).fUp)), .v (.bool ((x 3).fMasked)), .v (.bool ((x 3).fPending)), .v (.bool ((x 4).fEdge)), .v (.bool ((x 4).fUp)), .v (.bool ((x 4).fMasked)), .v (.bool ((x 4).fPending)), .v (.bool ((x 5).fEdge)), .v (.bool ((x 5).fUp)), .v (.bool ((x 5).fMasked)), .v (.bool ((x 5).fPending)), .v (.bool ((x 6).fEdge)), .v (.bool ((x 6).fUp)), .v (.bool ((x 6).fMasked)), .v (.bool ((x 6).fPending)), .v (.bool ((x 7).fEdge)), .v (.bool ((x 7).fUp)), .v (.bool ((x 7).fMasked)), .v (.bool ((x 7).fPending))]) v_r211), .c, .c, .c, .q (eqA_8_ringref5_Line v_r211 (setA v_r93 v_t5 (S_ringref5_Line.mk v_y183.fEdge v_t6 v_y183.fMasked (!v_y183.fUp)))), .t true, .c, .t false, .c, .c, .c, .c, .c, .c, .c, .c, .c, .c, .c, .c, .c, .c, .c, .c]) (ts := []) (s := []) (l := [12]) (by kernel_rfl) (by kernel_rfl) (.cons (bt h297) (.cons (G_ringref5_Split_ok n v_r22.1.fEdge v_r22.1.fUp v_r22.1.fMasked v_r22.1.fPending _ h298) (.cons (eqA_8_ringref5_Line_ok v_r211 (setA v_r93 v_t5 (S_ringref5_Line.mk v_y183.fEdge v_t6 v_y183.fMasked (!v_y183.fUp)))) (.cons h299 (.cons (bf h300) .nil))))) q
    · rw [if_neg h299] at h
      cases h
      exact pkk_sound TTok mix hF 1 (hs := [.t true, .c, .c, .c, .c, .c, .c, .c, .c, .c, .c, .c, .c, .r ((fun x => PV.agg [.v (.bool ((x 0).fEdge)), .v (.bool ((x 0).fUp)), .v (.bool ((x 0).fMasked)), .v (.bool ((x 0).fPending)), .v (.bool ((x 1).fEdge)), .v (.bool ((x 1).fUp)), .v (.bool ((x 1).fMasked)), .v (.bool ((x 1).fPending)), .v (.bool ((x 2).fEdge)), .v (.bool ((x 2).fUp)), .v (.bool ((x 2).fMasked)), .v (.bool ((x 2).fPending)), .v (.bool ((x 3).fEdge)), .v (.bool ((x 3).fUp)), .v (.bool ((x 3).fMasked)), .v (.bool ((x 3).fPending)), .v (.bool ((x 4).fEdge)), .v (.bool ((x 4).fUp)), .v (.bool ((x 4).fMasked)), .v (.bool ((x 4).fPending)), .v (.bool ((x 5).fEdge)), .v (.bool ((x 5).fUp)), .v (.bool ((x 5).fMasked)), .v (.bool ((x 5).fPending)), .v (.bool ((x 6).fEdge)), .v (.bool ((x 6).fUp)), .v (.bool ((x 6).fMasked)), .v (.bool ((x 6).fPending)), .v (.bool ((x 7).fEdge)), .v (.bool ((x 7).fUp)), .v (.bool ((x 7).fMasked)), .v (.bool ((x 7).fPending))]) v_r211), .c, .c, .c, .q (eqA_8_ringref5_Line v_r211 (setA v_r93 v_t5 (S_ringref5_Line.mk v_y183.fEdge v_t6 v_y183.fMasked (!v_y183.fUp)))), .t false, .c, .c, .c, .c, .c, .c, .c, .c, .c, .c, .c, .c, .c, .c, .c, .c, .c, .c]) (ts := []) (s := []) (l := [12]) (by kernel_rfl) (by kernel_rfl) (.cons (bt h297) (.cons (G_ringref5_Split_ok n v_r22.1.fEdge v_r22.1.fUp v_r22.1.fMasked v_r22.1.fPending _ h298) (.cons (eqA_8_ringref5_Line_ok v_r211 (setA v_r93 v_t5 (S_ringref5_Line.mk v_y183.fEdge v_t6 v_y183.fMasked (!v_y183.fUp)))) (.cons (vf h299) .nil)))) q
  · rw [if_neg h297] at h
    cases h
    exact pkk_sound TTok mix hF 1 (hs := [.t false, .c, .c, .c, .c, .c, .c, .c, .c, .c, .c, .c, .c, .c, .c, .c, .c, .c, .c, .c, .c, .c, .c, .c, .c, .c, .c, .c, .c, .c]) (ts := []) (s := []) (l := [12]) (by kernel_rfl) (by kernel_rfl) (.cons (bf h297) .nil) q
inductive G_ringlaw5_IrqSays_C11_R where
  | x0 (v_t234 : Bool)
def G_ringlaw5_IrqSays_C11_ex : G_ringlaw5_IrqSays_C11_R → Ex
  | .x0 _ => .normal
def G_ringlaw5_IrqSays_C11_st (v_r22 : (S_irq_Lines × Int)) (v_r27 : (S_irq_Lines × Int)) (v_r93 : ((Fin 8 → S_ringref5_Line))) (v_t5 : Int) (v_y183 : S_ringref5_Line) (v_t6 : Bool) (v_y223 : S_ringref5_Line) : G_ringlaw5_IrqSays_C11_R → PS
  | .x0 v_t234 => ⟨[dd, dd, dd, dd, dd, dd, dd, dd, dd, dd, dd, dd, .d (.v (.bool v_t234)), dd, dd, dd, dd, dd, dd, dd, dd, dd, dd, dd, dd, dd, dd, dd, dd, dd, dd, dd, dd, dd, dd, dd, dd, dd, dd, dd, dd, dd, dd, dd, dd, dd, dd, dd, dd, dd, dd, dd, dd, dd, dd, dd, dd, dd, dd, dd, dd, dd, dd, dd, dd, dd, dd, dd, dd, dd, dd, dd, dd, dd, dd, dd, dd, dd, dd, dd, dd, dd, dd, dd, dd, dd, dd, dd, dd, dd, dd, dd, dd, dd, dd, dd, dd, dd, dd, dd, dd, dd, dd, dd, dd, dd, dd, dd, dd, dd, dd, dd, dd, dd, dd, dd, dd, dd, dd, dd, dd, dd, dd, dd, dd, dd, dd, dd, dd, dd, dd, dd, dd, dd, dd, dd, dd, dd, dd, dd, dd, dd, dd, dd, dd, dd, dd, dd, dd, dd, dd, dd, dd, dd, dd, dd, dd, dd, dd, dd, dd, dd, dd, dd, dd, dd, dd, dd, dd, dd, dd, dd, dd, dd, dd, dd, dd, dd, dd, dd, dd, dd, dd, dd, dd, dd, dd, dd, dd, dd, dd, dd, dd, dd, dd, dd, dd, dd, dd, dd, dd, dd, dd, dd, dd, dd, dd, dd, dd, dd, dd, dd, dd, dd, dd, dd, dd, dd, dd, dd, dd, dd, dd, dd, dd, dd, dd, dd, dd, dd, dd, dd, dd, dd, dd, dd, dd, dd, dd, dd, dd, dd, dd, dd, dd, dd, dd, dd, dd, dd, dd, dd, dd, dd, dd, dd, dd, dd, dd, dd, dd, dd, dd, dd, dd, dd, dd, dd, dd, dd, dd, dd, dd, dd, dd], []⟩
def G_ringlaw5_IrqSays_C11_hd (v_r22 : (S_irq_Lines × Int)) (v_r27 : (S_irq_Lines × Int)) (v_r93 : ((Fin 8 → S_ringref5_Line))) (v_t5 : Int) (v_y183 : S_ringref5_Line) (v_t6 : Bool) (v_y223 : S_ringref5_Line)  : PS := ⟨[dd, dd, dd, dd, dd, dd, dd, dd, dd, dd, dd, dd, dd, dd, .ref 0 0, .d (.v (.int .i64 v_r22.2)), .ref 1 0, .d (.v (.int .i64 v_r27.2)), dd, dd, dd, dd, dd, dd, dd, dd, dd, dd, dd, dd, .ref 2 0, .ref 3 0, dd, dd, dd, dd, dd, dd, dd, dd, dd, dd, dd, dd, dd, dd, dd, dd, dd, dd, dd, dd, dd, dd, dd, dd, dd, dd, dd, dd, dd, dd, dd, dd, dd, dd, dd, dd, dd, dd, dd, dd, dd, dd, dd, dd, dd, dd, dd, dd, dd, dd, dd, dd, dd, dd, dd, dd, dd, dd, dd, dd, dd, dd, dd, dd, dd, dd, dd, dd, dd, dd, dd, dd, dd, dd, dd, dd, dd, dd, dd, dd, dd, dd, dd, dd, dd, dd, dd, dd, dd, dd, dd, dd, dd, dd, dd, dd, dd, dd, dd, dd, dd, dd, dd, dd, dd, dd, dd, dd, dd, dd, dd, dd, dd, dd, dd, dd, dd, dd, dd, dd, dd, dd, dd, dd, dd, dd, dd, dd, dd, dd, dd, dd, dd, dd, dd, dd, dd, dd, dd, dd, dd, dd, dd, dd, dd, dd, dd, dd, dd, dd, dd, dd, dd, dd, dd, dd, dd, dd, dd, dd, dd, dd, dd, dd, dd, dd, dd, dd, dd, dd, dd, dd, dd, dd, dd, dd, dd, dd, dd, dd, dd, dd, dd, dd, dd, dd, dd, dd, dd, dd, dd, dd, dd, dd, dd, dd, dd, dd, dd, dd, dd, dd, dd, dd, dd, dd, dd, dd, dd, dd, dd, dd, dd, dd, dd, dd, dd, dd, dd, dd, dd, dd, dd, dd, dd, dd, dd, dd, dd, dd, dd, dd, dd, dd, dd, dd, dd, dd, dd, dd, dd, dd, dd], [.box [.d (.v (.int .i64 v_r22.1.fEdge)), .d (.v (.int .i64 v_r22.1.fUp)), .d (.v (.int .i64 v_r22.1.fMasked)), .d (.v (.int .i64 v_r22.1.fPending))], .box [.d (.v (.int .i64 v_r27.1.fEdge)), .d (.v (.int .i64 v_r27.1.fUp)), .d (.v (.int .i64 v_r27.1.fMasked)), .d (.v (.int .i64 v_r27.1.fPending))], .box [.d (.v (.bool (((setA v_r93 v_t5 (S_ringref5_Line.mk v_y183.fEdge v_t6 v_y183.fMasked false)) 0).fEdge))), .d (.v (.bool (((setA v_r93 v_t5 (S_ringref5_Line.mk v_y183.fEdge v_t6 v_y183.fMasked false)) 0).fUp))), .d (.v (.bool (((setA v_r93 v_t5 (S_ringref5_Line.mk v_y183.fEdge v_t6 v_y183.fMasked false)) 0).fMasked))), .d (.v (.bool (((setA v_r93 v_t5 (S_ringref5_Line.mk v_y183.fEdge v_t6 v_y183.fMasked false)) 0).fPending))), .d (.v (.bool (((setA v_r93 v_t5 (S_ringref5_Line.mk v_y183.fEdge v_t6 v_y183.fMasked false)) 1).fEdge))), .d (.v (.bool (((setA v_r93 v_t5 (S_ringref5_Line.mk v_y183.fEdge v_t6 v_y183.fMasked false)) 1).fUp))), .d (.v (.bool (((setA v_r93 v_t5 (S_ringref5_Line.mk v_y183.fEdge v_t6 v_y183.fMasked false)) 1).fMasked))), .d (.v (.bool (((setA v_r93 v_t5 (S_ringref5_Line.mk v_y183.fEdge v_t6 v_y183.fMasked false)) 1).fPending))), .d (.v (.bool (((setA v_r93 v_t5 (S_ringref5_Line.mk v_y183.fEdge v_t6 v_y183.fMasked false)) 2).fEdge))), .d (.v (.bool (((setA v_r93 v_t5 (S_ringref5_Line.mk v_y183.fEdge v_t6 v_y183.fMasked false)) 2).fUp))), .d (.v (.bool (((setA v_r93 v_t5 (S_ringref5_Line.mk v_y183.fEdge v_t6 v_y183.fMasked false)) 2).fMasked))), .d (.v (.bool (((setA v_r93 v_t5 (S_ringref5_Line.mk v_y183.fEdge v_t6 v_y183.fMasked false)) 2).fPending))), .d (.v (.bool (((setA v_r93 v_t5 (S_ringref5_Line.mk v_y183.fEdge v_t6 v_y183.fMasked false)) 3).fEdge))), .d (.v (.bool (((setA v_r93 v_t5 (S_ringref5_Line.mk v_y183.fEdge v_t6 v_y183.fMasked false)) 3).fUp))), .d (.v (.bool (((setA v_r93 v_t5 (S_ringref5_Line.mk v_y183.fEdge v_t6 v_y183.fMasked false)) 3).fMasked))), .d (.v (.bool (((setA v_r93 v_t5 (S_ringref5_Line.mk v_y183.fEdge v_t6 v_y183.fMasked false)) 3).fPending))), .d (.v (.bool (((setA v_r93 v_t5 (S_ringref5_Line.mk v_y183.fEdge v_t6 v_y183.fMasked false)) 4).fEdge))), .d (.v (.bool (((setA v_r93 v_t5 (S_ringref5_Line.mk v_y183.fEdge v_t6 v_y183.fMasked false)) 4).fUp))), .d (.v (.bool (((setA v_r93 v_t5 (S_ringref5_Line.mk v_y183.fEdge v_t6 v_y183.fMasked false)) 4).fMasked))), .d (.v (.bool (((setA v_r93 v_t5 (S_ringref5_Line.mk v_y183.fEdge v_t6 v_y183.fMasked false)) 4).fPending))), .d (.v (.bool (((setA v_r93 v_t5 (S_ringref5_Line.mk v_y183.fEdge v_t6 v_y183.fMasked false)) 5).fEdge))), .d (.v (.bool (((setA v_r93 v_t5 (S_ringref5_Line.mk v_y183.fEdge v_t6 v_y183.fMasked false)) 5).fUp))), .d (.v (.bool (((setA v_r93 v_t5 (S_ringref5_Line.mk v_y183.fEdge v_t6 v_y183.fMasked false)) 5).fMasked))), .d (.v (.bool (((setA v_r93 v_t5 (S_ringref5_Line.mk v_y183.fEdge v_t6 v_y183.fMasked false)) 5).fPending))), .d (.v (.bool (((setA v_r93 v_t5 (S_ringref5_Line.mk v_y183.fEdge v_t6 v_y183.fMasked false)) 6).fEdge))), .d (.v (.bool (((setA v_r93 v_t5 (S_ringref5_Line.mk v_y183.fEdge v_t6 v_y183.fMasked false)) 6).fUp))), .d (.v (.bool (((setA v_r93 v_t5 (S_ringref5_Line.mk v_y183.fEdge v_t6 v_y183.fMasked false)) 6).fMasked))), .d (.v (.bool (((setA v_r93 v_t5 (S_ringref5_Line.mk v_y183.fEdge v_t6 v_y183.fMasked false)) 6).fPending))), .d (.v (.bool (((setA v_r93 v_t5 (S_ringref5_Line.mk v_y183.fEdge v_t6 v_y183.fMasked false)) 7).fEdge))), .d (.v (.bool (((setA v_r93 v_t5 (S_ringref5_Line.mk v_y183.fEdge v_t6 v_y183.fMasked false)) 7).fUp))), .d (.v (.bool (((setA v_r93 v_t5 (S_ringref5_Line.mk v_y183.fEdge v_t6 v_y183.fMasked false)) 7).fMasked))), .d (.v (.bool (((setA v_r93 v_t5 (S_ringref5_Line.mk v_y183.fEdge v_t6 v_y183.fMasked false)) 7).fPending)))], .box [.d (.v (.bool (((setA v_r93 v_t5 (S_ringref5_Line.mk v_y223.fEdge v_y223.fUp v_t6 v_y223.fPending)) 0).fEdge))), .d (.v (.bool (((setA v_r93 v_t5 (S_ringref5_Line.mk v_y223.fEdge v_y223.fUp v_t6 v_y223.fPending)) 0).fUp))), .d (.v (.bool (((setA v_r93 v_t5 (S_ringref5_Line.mk v_y223.fEdge v_y223.fUp v_t6 v_y223.fPending)) 0).fMasked))), .d (.v (.bool (((setA v_r93 v_t5 (S_ringref5_Line.mk v_y223.fEdge v_y223.fUp v_t6 v_y223.fPending)) 0).fPending))), .d (.v (.bool (((setA v_r93 v_t5 (S_ringref5_Line.mk v_y223.fEdge v_y223.fUp v_t6 v_y223.fPending)) 1).fEdge))), .d (.v (.bool (((setA v_r93 v_t5 (S_ringref5_Line.mk v_y223.fEdge v_y223.fUp v_t6 v_y223.fPending)) 1).fUp))), .d (.v (.bool (((setA v_r93 v_t5 (S_ringref5_Line.mk v_y223.fEdge v_y223.fUp v_t6 v_y223.fPending)) 1).fMasked))), .d (.v (.bool (((setA v_r93 v_t5 (S_ringref5_Line.mk v_y223.fEdge v_y223.fUp v_t6 v_y223.fPending)) 1).fPending))), .d (.v (.bool (((setA v_r93 v_t5 (S_ringref5_Line.mk v_y223.fEdge v_y223.fUp v_t6 v_y223.fPending)) 2).fEdge))), .d (.v (.bool (((setA v_r93 v_t5 (S_ringref5_Line.mk v_y223.fEdge v_y223.fUp v_t6 v_y223.fPending)) 2).fUp))), .d (.v (.bool (((setA v_r93 v_t5 (S_ringref5_Line.mk v_y223.fEdge v_y223.fUp v_t6 v_y223.fPending)) 2).fMasked))), .d (.v (.bool (((setA v_r93 v_t5 (S_ringref5_Line.mk v_y223.fEdge v_y223.fUp v_t6 v_y223.fPending)) 2).fPending))), .d (.v (.bool (((setA v_r93 v_t5 (S_ringref5_Line.mk v_y223.fEdge v_y223.fUp v_t6 v_y223.fPending)) 3).fEdge))), .d (.v (.bool (((setA v_r93 v_t5 (S_ringref5_Line.mk v_y223.fEdge v_y223.fUp v_t6 v_y223.fPending)) 3).fUp))), .d (.v (.bool (((setA v_r93 v_t5 (S_ringref5_Line.mk v_y223.fEdge v_y223.fUp v_t6 v_y223.fPending)) 3).fMasked))), .d (.v (.bool (((setA v_r93 v_t5 (S_ringref5_Line.mk v_y223.fEdge v_y223.fUp v_t6 v_y223.fPending)) 3).fPending))), .d (.v (.bool (((setA v_r93 v_t5 (S_ringref5_Line.mk v_y223.fEdge v_y223.fUp v_t6 v_y223.fPending)) 4).fEdge))), .d (.v (.bool (((setA v_r93 v_t5 (S_ringref5_Line.mk v_y223.fEdge v_y223.fUp v_t6 v_y223.fPending)) 4).fUp))), .d (.v (.bool (((setA v_r93 v_t5 (S_ringref5_Line.mk v_y223.fEdge v_y223.fUp v_t6 v_y223.fPending)) 4).fMasked))), .d (.v (.bool (((setA v_r93 v_t5 (S_ringref5_Line.mk v_y223.fEdge v_y223.fUp v_t6 v_y223.fPending)) 4).fPending))), .d (.v (.bool (((setA v_r93 v_t5 (S_ringref5_Line.mk v_y223.fEdge v_y223.fUp v_t6 v_y223.fPending)) 5).fEdge))), .d (.v (.bool (((setA v_r93 v_t5 (S_ringref5_Line.mk v_y223.fEdge v_y223.fUp v_t6 v_y223.fPending)) 5).fUp))), .d (.v (.bool (((setA v_r93 v_t5 (S_ringref5_Line.mk v_y223.fEdge v_y223.fUp v_t6 v_y223.fPending)) 5).fMasked))), .d (.v (.bool (((setA v_r93 v_t5 (S_ringref5_Line.mk v_y223.fEdge v_y223.fUp v_t6 v_y223.fPending)) 5).fPending))), .d (.v (.bool (((setA v_r93 v_t5 (S_ringref5_Line.mk v_y223.fEdge v_y223.fUp v_t6 v_y223.fPending)) 6).fEdge))), .d (.v (.bool (((setA v_r93 v_t5 (S_ringref5_Line.mk v_y223.fEdge v_y223.fUp v_t6 v_y223.fPending)) 6).fUp))), .d (.v (.bool (((setA v_r93 v_t5 (S_ringref5_Line.mk v_y223.fEdge v_y223.fUp v_t6 v_y223.fPending)) 6).fMasked))), .d (.v (.bool (((setA v_r93 v_t5 (S_ringref5_Line.mk v_y223.fEdge v_y223.fUp v_t6 v_y223.fPending)) 6).fPending))), .d (.v (.bool (((setA v_r93 v_t5 (S_ringref5_Line.mk v_y223.fEdge v_y223.fUp v_t6 v_y223.fPending)) 7).fEdge))), .d (.v (.bool (((setA v_r93 v_t5 (S_ringref5_Line.mk v_y223.fEdge v_y223.fUp v_t6 v_y223.fPending)) 7).fUp))), .d (.v (.bool (((setA v_r93 v_t5 (S_ringref5_Line.mk v_y223.fEdge v_y223.fUp v_t6 v_y223.fPending)) 7).fMasked))), .d (.v (.bool (((setA v_r93 v_t5 (S_ringref5_Line.mk v_y223.fEdge v_y223.fUp v_t6 v_y223.fPending)) 7).fPending)))]]⟩
def G_ringlaw5_IrqSays_C11 (n : Nat) (v_r22 : (S_irq_Lines × Int)) (v_r27 : (S_irq_Lines × Int)) (v_r93 : ((Fin 8 → S_ringref5_Line))) (v_t5 : Int) (v_y183 : S_ringref5_Line) (v_t6 : Bool) (v_y223 : S_ringref5_Line) : Option G_ringlaw5_IrqSays_C11_R :=
  if v_r22.2 = 0 then
   (G_ringref5_Split n v_r22.1.fEdge v_r22.1.fUp v_r22.1.fMasked v_r22.1.fPending).bind fun (v_r230 : ((Fin 8 → S_ringref5_Line))) =>
   if (eqRes .eql (eqA_8_ringref5_Line v_r230 (setA v_r93 v_t5 (S_ringref5_Line.mk v_y183.fEdge v_t6 v_y183.fMasked false)))) = true then
    if v_r27.2 = 0 then
     (G_ringref5_Split n v_r27.1.fEdge v_r27.1.fUp v_r27.1.fMasked v_r27.1.fPending).bind fun (v_r231 : ((Fin 8 → S_ringref5_Line))) =>
     if (eqRes .eql (eqA_8_ringref5_Line v_r231 (setA v_r93 v_t5 (S_ringref5_Line.mk v_y223.fEdge v_y223.fUp v_t6 v_y223.fPending)))) = true then
      (G_irq_Check n v_r22.1).bind fun (v_r232 : (Int)) =>
      if v_r232 = 0 then
       (G_irq_Check n v_r27.1).bind fun (v_r233 : (Int)) =>
       some (.x0 (v_r233 == 0))
      else
       some (.x0 false)
     else
      some (.x0 false)
    else
     some (.x0 false)
   else
    some (.x0 false)
  else
   some (.x0 false)
theorem G_ringlaw5_IrqSays_C11_ok {Fi : Ex → PS → Prop} (hF : KC 275 Fi) (ks : List Fr) (n : Nat) (v_r22 : (S_irq_Lines × Int)) (v_r27 : (S_irq_Lines × Int)) (v_r93 : ((Fin 8 → S_ringref5_Line))) (v_t5 : Int) (v_y183 : S_ringref5_Line) (v_t6 : Bool) (v_y223 : S_ringref5_Line)  (o : G_ringlaw5_IrqSays_C11_R) (h : G_ringlaw5_IrqSays_C11 n v_r22 v_r27 v_r93 v_t5 v_y183 v_t6 v_y223 = some o) (q : RunE Try.prog 275 Fi ks (G_ringlaw5_IrqSays_C11_ex o) (G_ringlaw5_IrqSays_C11_st v_r22 v_r27 v_r93 v_t5 v_y183 v_t6 v_y223 o)) : RunE Try.prog 275 Fi (.s (cL (cR (cR (cR (cR (cR (cR (cR (cR (cR (cR (cR (cR (cR (cR (cR (cR (cR (cR (cR (cR (cR (bodyOf Try.f3))))))))))))))))))))))) :: ks) .normal (G_ringlaw5_IrqSays_C11_hd v_r22 v_r27 v_r93 v_t5 v_y183 v_t6 v_y223) := by
  unfold G_ringlaw5_IrqSays_C11 at h
  by_cases h322 : v_r22.2 = 0
  · rw [if_pos h322] at h
    obtain ⟨v_r230, h323, h⟩ := bind_some h
    by_cases h324 : (eqRes .eql (eqA_8_ringref5_Line v_r230 (setA v_r93 v_t5 (S_ringref5_Line.mk v_y183.fEdge v_t6 v_y183.fMasked false)))) = true
    · rw [if_pos h324] at h
      by_cases h325 : v_r27.2 = 0
      · rw [if_pos h325] at h
        obtain ⟨v_r231, h326, h⟩ := bind_some h
        by_cases h327 : (eqRes .eql (eqA_8_ringref5_Line v_r231 (setA v_r93 v_t5 (S_ringref5_Line.mk v_y223.fEdge v_y223.fUp v_t6 v_y223.fPending)))) = true
        · rw [if_pos h327] at h
          obtain ⟨v_r232, h328, h⟩ := bind_some h
          by_cases h329 : v_r232 = 0
          · rw [if_pos h329] at h
            obtain ⟨v_r233, h330, h⟩ := bind_some h
            cases h
            exact pkk_sound TTok mix hF 1 (hs := [.t true, .c, .c, .c, .c, .c, .c, .c, .c, .c, .c, .c, .c, .r ((fun x => PV.agg [.v (.bool ((x 0).fEdge)), .v (.bool ((x 0).fUp)), .v (.bool ((x 0).fMasked)), .v (.bool ((x 0).fPending)), .v (.bool ((x 1).fEdge)), .v (.bool ((x 1).fUp)), .v (.bool ((x 1).fMasked)), .v (.bool ((x 1).fPending)), .v (.bool ((x 2).fEdge)), .v (.bool ((x 2).fUp)), .v (.bool ((x 2).fMasked)), .v (.bool ((x 2).fPending)), .v (.bool ((x 3).fEdge)), .v (.bool ((x 3).fUp)), .v (.bool ((x 3).fMasked)), .v (.bool ((x 3).fPending)), .v (.bool ((x 4).fEdge)), .v (.bool ((x 4).fUp)), .v (.bool ((x 4).fMasked)), .v (.bool ((x 4).fPending)), .v (.bool ((x 5).fEdge)), .v (.bool ((x 5).fUp)), .v (.bool ((x 5).fMasked)), .v (.bool ((x 5).fPending)), .v (.bool ((x 6).fEdge)), .v (.bool ((x 6).fUp)), .v (.bool ((x 6).fMasked)), .v (.bool ((x 6).fPending)), .v (.bool ((x 7).fEdge)), .v (.bool ((x 7).fUp)), .v (.bool ((x 7).fMasked)), .v (.bool ((x 7).fPending))]) v_r230), .c, .c, .c, .q (eqA_8_ringref5_Line v_r230 (setA v_r93 v_t5 (S_ringref5_Line.mk v_y183.fEdge v_t6 v_y183.fMasked false))), .t true, .c, .t true, .c, .c, .c, .c, .c, .c, .c, .c, .c, .c, .c, .c, .r ((fun x => PV.agg [.v (.bool ((x 0).fEdge)), .v (.bool ((x 0).fUp)), .v (.bool ((x 0).fMasked)), .v (.bool ((x 0).fPending)), .v (.bool ((x 1).fEdge)), .v (.bool ((x 1).fUp)), .v (.bool ((x 1).fMasked)), .v (.bool ((x 1).fPending)), .v (.bool ((x 2).fEdge)), .v (.bool ((x 2).fUp)), .v (.bool ((x 2).fMasked)), .v (.bool ((x 2).fPending)), .v (.bool ((x 3).fEdge)), .v (.bool ((x 3).fUp)), .v (.bool ((x 3).fMasked)), .v (.bool ((x 3).fPending)), .v (.bool ((x 4).fEdge)), .v (.bool ((x 4).fUp)), .v (.bool ((x 4).fMasked)), .v (.bool ((x 4).fPending)), .v (.bool ((x 5).fEdge)), .v (.bool ((x 5).fUp)), .v (.bool ((x 5).fMasked)), .v (.bool ((x 5).fPending)), .v (.bool ((x 6).fEdge)), .v (.bool ((x 6).fUp)), .v (.bool ((x 6).fMasked)), .v (.bool ((x 6).fPending)), .v (.bool ((x 7).fEdge)), .v (.bool ((x 7).fUp)), .v (.bool ((x 7).fMasked)), .v (.bool ((x 7).fPending))]) v_r231), .c, .c, .c, .q (eqA_8_ringref5_Line v_r231 (setA v_r93 v_t5 (S_ringref5_Line.mk v_y223.fEdge v_y223.fUp v_t6 v_y223.fPending))), .t true, .c, .c, .r ((eI .i64) v_r232), .c, .t true, .c, .c, .r ((eI .i64) v_r233), .c]) (ts := []) (s := []) (l := [12]) (by kernel_rfl) (by kernel_rfl) (.cons (bt h322) (.cons (G_ringref5_Split_ok n v_r22.1.fEdge v_r22.1.fUp v_r22.1.fMasked v_r22.1.fPending _ h323) (.cons (eqA_8_ringref5_Line_ok v_r230 (setA v_r93 v_t5 (S_ringref5_Line.mk v_y183.fEdge v_t6 v_y183.fMasked false))) (.cons h324 (.cons (bt h325) (.cons (G_ringref5_Split_ok n v_r27.1.fEdge v_r27.1.fUp v_r27.1.fMasked v_r27.1.fPending _ h326) (.cons (eqA_8_ringref5_Line_ok v_r231 (setA v_r93 v_t5 (S_ringref5_Line.mk v_y223.fEdge v_y223.fUp v_t6 v_y223.fPending))) (.cons h327 (.cons (G_irq_Check_ok n v_r22.1 _ h328) (.cons (bt h329) (.cons (G_irq_Check_ok n v_r27.1 _ h330) .nil))))))))))) q
          · rw [if_neg h329] at h
            cases h
            exact pkk_sound TTok mix hF 1 (hs := [.t true, .c, .c, .c, .c, .c, .c, .c, .c, .c, .c, .c, .c, .r ((fun x => PV.agg [.v (.bool ((x 0).fEdge)), .v (.bool ((x 0).fUp)), .v (.bool ((x 0).fMasked)), .v (.bool ((x 0).fPending)), .v (.bool ((x 1).fEdge)), .v (.bool ((x 1).fUp)), .v (.bool ((x 1).fMasked)), .v (.bool ((x 1).fPending)), .v (.bool ((x 2).fEdge)), .v (.bool ((x 2).fUp)), .v (.bool ((x 2).fMasked)), .v (.bool ((x 2).fPending)), .v (.bool ((x 3).fEdge)), .v (.bool ((x 3).fUp)), .v (.bool ((x 3).fMasked)), .v (.bool ((x 3).fPending)), .v (.bool ((x 4).fEdge)), .v (.bool ((x 4).fUp)), .v (.bool ((x 4).fMasked)), .v (.bool ((x 4).fPending)), .v (.bool ((x 5).fEdge)), .v (.bool ((x 5).fUp)), .v (.bool ((x 5).fMasked)), .v (.bool ((x 5).fPending)), .v (.bool ((x 6).fEdge)), .v (.bool ((x 6).fUp)), .v (.bool ((x 6).fMasked)), .v (.bool ((x 6).fPending)), .v (.bool ((x 7).fEdge)), .v (.bool ((x 7).fUp)), .v (.bool ((x 7).fMasked)), .v (.bool ((x 7).fPending))]) v_r230), .c, .c, .c, .q (eqA_8_ringref5_Line v_r230 (setA v_r93 v_t5 (S_ringref5_Line.mk v_y183.fEdge v_t6 v_y183.fMasked false))), .t true, .c, .t true, .c, .c, .c, .c, .c, .c, .c, .c, .c, .c, .c, .c, .r ((fun x => PV.agg [.v (.bool ((x 0).fEdge)), .v (.bool ((x 0).fUp)), .v (.bool ((x 0).fMasked)), .v (.bool ((x 0).fPending)), .v (.bool ((x 1).fEdge)), .v (.bool ((x 1).fUp)), .v (.bool ((x 1).fMasked)), .v (.bool ((x 1).fPending)), .v (.bool ((x 2).fEdge)), .v (.bool ((x 2).fUp)), .v (.bool ((x 2).fMasked)), .v (.bool ((x 2).fPending)), .v (.bool ((x 3).fEdge)), .v (.bool ((x 3).fUp)), .v (.bool ((x 3).fMasked)), .v (.bool ((x 3).fPending)), .v (.bool ((x 4).fEdge)), .v (.bool ((x 4).fUp)), .v (.bool ((x 4).fMasked)), .v (.bool ((x 4).fPending)), .v (.bool ((x 5).fEdge)), .v (.bool ((x 5).fUp)), .v (.bool ((x 5).fMasked)), .v (.bool ((x 5).fPending)), .v (.bool ((x 6).fEdge)), .v (.bool ((x 6).fUp)), .v (.bool ((x 6).fMasked)), .v (.bool ((x 6).fPending)), .v (.bool ((x 7).fEdge)), .v (.bool ((x 7).fUp)), .v (.bool ((x 7).fMasked)), .v (.bool ((x 7).fPending))]) v_r231), .c, .c, .c, .q (eqA_8_ringref5_Line v_r231 (setA v_r93 v_t5 (S_ringref5_Line.mk v_y223.fEdge v_y223.fUp v_t6 v_y223.fPending))), .t true, .c, .c, .r ((eI .i64) v_r232), .c, .t false, .c, .c]) (ts := []) (s := []) (l := [12]) (by kernel_rfl) (by kernel_rfl) (.cons (bt h322) (.cons (G_ringref5_Split_ok n v_r22.1.fEdge v_r22.1.fUp v_r22.1.fMasked v_r22.1.fPending _ h323) (.cons (eqA_8_ringref5_Line_ok v_r230 (setA v_r93 v_t5 (S_ringref5_Line.mk v_y183.fEdge v_t6 v_y183.fMasked false))) (.cons h324 (.cons (bt h325) (.cons (G_ringref5_Split_ok n v_r27.1.fEdge v_r27.1.fUp v_r27.1.fMasked v_r27.1.fPending _ h326) (.cons (eqA_8_ringref5_Line_ok v_r231 (setA v_r93 v_t5 (S_ringref5_Line.mk v_y223.fEdge v_y223.fUp v_t6 v_y223.fPending))) (.cons h327 (.cons (G_irq_Check_ok n v_r22.1 _ h328) (.cons (bf h329) .nil)))))))))) q
        · rw [if_neg h327] at h
          cases h
          exact pkk_sound TTok mix hF 1 (hs := [.t true, .c, .c, .c, .c, .c, .c, .c, .c, .c, .c, .c, .c, .r ((fun x => PV.agg [.v (.bool ((x 0).fEdge)), .v (.bool ((x 0).fUp)), .v (.bool ((x 0).fMasked)), .v (.bool ((x 0).fPending)), .v (.bool ((x 1).fEdge)), .v (.bool ((x 1).fUp)), .v (.bool ((x 1).fMasked)), .v (.bool ((x 1).fPending)), .v (.bool ((x 2).fEdge)), .v (.bool ((x 2).fUp)), .v (.bool ((x 2).fMasked)), .v (.bool ((x 2).fPending)), .v (.bool ((x 3).fEdge)), .v (.bool ((x 3).fUp)), .v (.bool ((x 3).fMasked)), .v (.bool ((x 3).fPending)), .v (.bool ((x 4).fEdge)), .v (.bool ((x 4).fUp)), .v (.bool ((x 4).fMasked)), .v (.bool ((x 4).fPending)), .v (.bool ((x 5).fEdge)), .v (.bool ((x 5).fUp)), .v (.bool ((x 5).fMasked)), .v (.bool ((x 5).fPending)), .v (.bool ((x 6).fEdge)), .v (.bool ((x 6).fUp)), .v (.bool ((x 6).fMasked)), .v (.bool ((x 6).fPending)), .v (.bool ((x 7).fEdge)), .v (.bool ((x 7).fUp)), .v (.bool ((x 7).fMasked)), .v (.bool ((x 7).fPending))]) v_r230), .c, .c, .c, .q (eqA_8_ringref5_Line v_r230 (setA v_r93 v_t5 (S_ringref5_Line.mk v_y183.fEdge v_t6 v_y183.fMasked false))), .t true, .c, .t true, .c, .c, .c, .c, .c, .c, .c, .c, .c, .c, .c, .c, .r ((fun x => PV.agg [.v (.bool ((x 0).fEdge)), .v (.bool ((x 0).fUp)), .v (.bool ((x 0).fMasked)), .v (.bool ((x 0).fPending)), .v (.bool ((x 1).fEdge)), .v (.bool ((x 1).fUp)), .v (.bool ((x 1).fMasked)), .v (.bool ((x 1).fPending)), .v (.bool ((x 2).fEdge)), .v (.bool ((x 2).fUp)), .v (.bool ((x 2).fMasked)), .v (.bool ((x 2).fPending)), .v (.bool ((x 3).fEdge)), .v (.bool ((x 3).fUp)), .v (.bool ((x 3).fMasked)), .v (.bool ((x 3).fPending)), .v (.bool ((x 4).fEdge)), .v (.bool ((x 4).fUp)), .v (.bool ((x 4).fMasked)), .v (.bool ((x 4).fPending)), .v (.bool ((x 5).fEdge)), .v (.bool ((x 5).fUp)), .v (.bool ((x 5).fMasked)), .v (.bool ((x 5).fPending)), .v (.bool ((x 6).fEdge)), .v (.bool ((x 6).fUp)), .v (.bool ((x 6).fMasked)), .v (.bool ((x 6).fPending)), .v (.bool ((x 7).fEdge)), .v (.bool ((x 7).fUp)), .v (.bool ((x 7).fMasked)), .v (.bool ((x 7).fPending))]) v_r231), .c, .c, .c, .q (eqA_8_ringref5_Line v_r231 (setA v_r93 v_t5 (S_ringref5_Line.mk v_y223.fEdge v_y223.fUp v_t6 v_y223.fPending))), .t false, .c, .c, .c, .c, .c]) (ts := []) (s := []) (l := [12]) (by kernel_rfl) (by kernel_rfl) (.cons (bt h322) (.cons (G_ringref5_Split_ok n v_r22.1.fEdge v_r22.1.fUp v_r22.1.fMasked v_r22.1.fPending _ h323) (.cons (eqA_8_ringref5_Line_ok v_r230 (setA v_r93 v_t5 (S_ringref5_Line.mk v_y183.fEdge v_t6 v_y183.fMasked false))) (.cons h324 (.cons (bt h325) (.cons (G_ringref5_Split_ok n v_r27.1.fEdge v_r27.1.fUp v_r27.1.fMasked v_r27.1.fPending _ h326) (.cons (eqA_8_ringref5_Line_ok v_r231 (setA v_r93 v_t5 (S_ringref5_Line.mk v_y223.fEdge v_y223.fUp v_t6 v_y223.fPending))) (.cons (vf h327) .nil)))))))) q
      · rw [if_neg h325] at h
        cases h
        exact pkk_sound TTok mix hF 1 (hs := [.t true, .c, .c, .c, .c, .c, .c, .c, .c, .c, .c, .c, .c, .r ((fun x => PV.agg [.v (.bool ((x 0).fEdge)), .v (.bool ((x 0).fUp)), .v (.bool ((x 0).fMasked)), .v (.bool ((x 0).fPending)), .v (.bool ((x 1).fEdge)), .v (.bool ((x 1).fUp)), .v (.bool ((x 1).fMasked)), .v (.bool ((x 1).fPending)), .v (.bool ((x 2).fEdge)), .v (.bool ((x 2).fUp)), .v (.bool ((x 2).fMasked)), .v (.bool ((x 2).fPending)), .v (.bool ((x 3).fEdge)), .v (.bool ((x 3).fUp)), .v (.bool ((x 3).fMasked)), .v (.bool ((x 3).fPending)), .v (.bool ((x 4).fEdge)), .v (.bool ((x 4).fUp)), .v (.bool ((x 4).fMasked)), .v (.bool ((x 4).fPending)), .v (.bool ((x 5).fEdge)), .v (.bool ((x 5).fUp)), .v (.bool ((x 5).fMasked)), .v (.bool ((x 5).fPending)), .v (.bool ((x 6).fEdge)), .v (.bool ((x 6).fUp)), .v (.bool ((x 6).fMasked)), .v (.bool ((x 6).fPending)), .v (.bool ((x 7).fEdge)), .v (.bool ((x 7).fUp)), .v (.bool ((x 7).fMasked)), .v (.bool ((x 7).fPending))]) v_r230), .c, .c, .c, .q (eqA_8_ringref5_Line v_r230 (setA v_r93 v_t5 (S_ringref5_Line.mk v_y183.fEdge v_t6 v_y183.fMasked false))), .t true, .c, .t false, .c, .c, .c, .c, .c, .c, .c, .c, .c, .c, .c, .c, .c, .c, .c, .c]) (ts := []) (s := []) (l := [12]) (by kernel_rfl) (by kernel_rfl) (.cons (bt h322) (.cons (G_ringref5_Split_ok n v_r22.1.fEdge v_r22.1.fUp v_r22.1.fMasked v_r22.1.fPending _ h323) (.cons (eqA_8_ringref5_Line_ok v_r230 (setA v_r93 v_t5 (S_ringref5_Line.mk v_y183.fEdge v_t6 v_y183.fMasked false))) (.cons h324 (.cons (bf h325) .nil))))) q
    · rw [if_neg h324] at h
      cases h
      exact pkk_sound TTok mix hF 1 (hs := [.t true, .c, .c, .c, .c, .c, .c, .c, .c, .c, .c, .c, .c, .r ((fun x => PV.agg [.v (.bool ((x 0).fEdge)), .v (.bool ((x 0).fUp)), .v (.bool ((x 0).fMasked)), .v (.bool ((x 0).fPending)), .v (.bool ((x 1).fEdge)), .v (.bool ((x 1).fUp)), .v (.bool ((x 1).fMasked)), .v (.bool ((x 1).fPending)), .v (.bool ((x 2).fEdge)), .v (.bool ((x 2).fUp)), .v (.bool ((x 2).fMasked)), .v (.bool ((x 2).fPending)), .v (.bool ((x 3).fEdge)), .v (.bool ((x 3).fUp)), .v (.bool ((x 3).fMasked)), .v (.bool ((x 3).fPending)), .v (.bool ((x 4).fEdge)), .v (.bool ((x 4).fUp)), .v (.bool ((x 4).fMasked)), .v (.bool ((x 4).fPending)), .v (.bool ((x 5).fEdge)), .v (.bool ((x 5).fUp)), .v (.bool ((x 5).fMasked)), .v (.bool ((x 5).fPending)), .v (.bool ((x 6).fEdge)), .v (.bool ((x 6).fUp)), .v (.bool ((x 6).fMasked)), .v (.bool ((x 6).fPending)), .v (.bool ((x 7).fEdge)), .v (.bool ((x 7).fUp)), .v (.bool ((x 7).fMasked)), .v (.bool ((x 7).fPending))]) v_r230), .c, .c, .c, .q (eqA_8_ringref5_Line v_r230 (setA v_r93 v_t5 (S_ringref5_Line.mk v_y183.fEdge v_t6 v_y183.fMasked false))), .t false, .c, .c, .c, .c, .c, .c, .c, .c, .c, .c, .c, .c, .c, .c, .c, .c, .c, .c]) (ts := []) (s := []) (l := [12]) (by kernel_rfl) (by kernel_rfl) (.cons (bt h322) (.cons (G_ringref5_Split_ok n v_r22.1.fEdge v_r22.1.fUp v_r22.1.fMasked v_r22.1.fPending _ h323) (.cons (eqA_8_ringref5_Line_ok v_r230 (setA v_r93 v_t5 (S_ringref5_Line.mk v_y183.fEdge v_t6 v_y183.fMasked false))) (.cons (vf h324) .nil)))) q
  · rw [if_neg h322] at h
    cases h
    exact pkk_sound TTok mix hF 1 (hs := [.t false, .c, .c, .c, .c, .c, .c, .c, .c, .c, .c, .c, .c, .c, .c, .c, .c, .c, .c, .c, .c, .c, .c, .c, .c, .c, .c, .c, .c, .c]) (ts := []) (s := []) (l := [12]) (by kernel_rfl) (by kernel_rfl) (.cons (bf h322) .nil) q
/- ringhall/ringlaw5.IrqSays -/
def G_ringlaw5_IrqSays (n : Nat) (v_t1 : Int) (v_t2 : Int) (v_t3 : Int) (v_t4 : Int) (v_t5 : Int) (v_t6 : Bool) : Option (Bool) :=
  (G_irq_Set n (S_irq_Lines.mk v_t1 v_t2 v_t3 v_t4) v_t5 v_t6).bind fun (v_r22 : (S_irq_Lines × Int)) =>
  (G_irq_Mask n (S_irq_Lines.mk v_t1 v_t2 v_t3 v_t4) v_t5 v_t6).bind fun (v_r27 : (S_irq_Lines × Int)) =>
  (G_irq_Next n (S_irq_Lines.mk v_t1 v_t2 v_t3 v_t4)).bind fun (v_r36 : (Int × Int)) =>
  (G_irq_Take n (S_irq_Lines.mk v_t1 v_t2 v_t3 v_t4)).bind fun (v_r39 : (S_irq_Lines × Int × Int)) =>
  (G_ringref5_LinesErr n v_t1 v_t2 v_t3 v_t4).bind fun (v_r55 : (Int)) =>
  (G_irq_Check n (S_irq_Lines.mk v_t1 v_t2 v_t3 v_t4)).bind fun (v_r56 : (Int)) =>
  if v_r56 = v_r55 then
   if v_r55 = 0 then
    (G_ringref5_Split n v_t1 v_t2 v_t3 v_t4).bind fun (v_r93 : ((Fin 8 → S_ringref5_Line))) =>
    (G_slices_IndexFunc_ringref5_Line_ringref5_Line n ([(v_r93 0), (v_r93 1), (v_r93 2), (v_r93 3), (v_r93 4), (v_r93 5), (v_r93 6), (v_r93 7)]) (fun (y0 : S_ringref5_Line) => G_ringref5_Line_Calls n y0)).bind fun (v_r111 : (Int)) =>
    (G_ringlaw5_IrqSays_C5 n v_t4 v_t5 v_t6 v_r22 v_r27 v_r36 v_r39 v_r111 v_t1 v_t2 v_t3 v_r93).bind fun v_o157 => match v_o157 with
    | .x0 v_z158 =>
      some v_z158
    | .x1  =>
      if v_t5 < 0 then
       (G_ringlaw5_IrqSays_C6 n v_r22 v_r27).bind fun v_o169 => match v_o169 with
       | .x0 v_z170 =>
         some v_z170
      else
       if v_t5 > 7 then
        (G_ringlaw5_IrqSays_C7 n v_r22 v_r27).bind fun v_o181 => match v_o181 with
        | .x0 v_z182 =>
          some v_z182
       else
        if 0 ≤ v_t5 ∧ v_t5 < (8 : Int) then
         (getA v_r93 v_t5).bind fun (v_y183 : S_ringref5_Line) =>
         (G_ringlaw5_IrqSays_C8 n v_t5 v_t6 v_r22 v_r27 v_r93 v_y183).bind fun v_o184 => match v_o184 with
         | .x0  =>
           if 0 ≤ v_t5 ∧ v_t5 < (8 : Int) then
            (getA v_r93 v_t5).bind fun (v_y185 : S_ringref5_Line) =>
            if 0 ≤ v_t5 ∧ v_t5 < (8 : Int) then
             (getA v_r93 v_t5).bind fun (v_y186 : S_ringref5_Line) =>
             if 0 ≤ v_t5 ∧ v_t5 < (8 : Int) then
              (getA v_r93 v_t5).bind fun (v_y187 : S_ringref5_Line) =>
              (G_ringlaw5_IrqSays_C9 n v_r22 v_r27 v_r93 v_t5 v_y183 v_t6 v_y185).bind fun v_o202 => match v_o202 with
              | .x0 v_z203 =>
                some v_z203
             else none
            else none
           else none
         | .x1  =>
           if 0 ≤ v_t5 ∧ v_t5 < (8 : Int) then
            (getA v_r93 v_t5).bind fun (v_y204 : S_ringref5_Line) =>
            if 0 ≤ v_t5 ∧ v_t5 < (8 : Int) then
             (getA v_r93 v_t5).bind fun (v_y205 : S_ringref5_Line) =>
             if 0 ≤ v_t5 ∧ v_t5 < (8 : Int) then
              (getA v_r93 v_t5).bind fun (v_y206 : S_ringref5_Line) =>
              (G_ringlaw5_IrqSays_C10 n v_r22 v_r27 v_r93 v_t5 v_y183 v_t6 v_y204).bind fun v_o221 => match v_o221 with
              | .x0 v_z222 =>
                some v_z222
             else none
            else none
           else none
         | .x2  =>
           if 0 ≤ v_t5 ∧ v_t5 < (8 : Int) then
            (getA v_r93 v_t5).bind fun (v_y223 : S_ringref5_Line) =>
            if 0 ≤ v_t5 ∧ v_t5 < (8 : Int) then
             (getA v_r93 v_t5).bind fun (v_y224 : S_ringref5_Line) =>
             if 0 ≤ v_t5 ∧ v_t5 < (8 : Int) then
              (getA v_r93 v_t5).bind fun (v_y225 : S_ringref5_Line) =>
              (G_ringlaw5_IrqSays_C11 n v_r22 v_r27 v_r93 v_t5 v_y183 v_t6 v_y223).bind fun v_o240 => match v_o240 with
              | .x0 v_z241 =>
                some v_z241
             else none
            else none
           else none
        else none
   else
    (G_ringlaw5_IrqSays_C1 n v_r22 v_r27 v_r36 v_r39 v_r55).bind fun v_o77 => match v_o77 with
    | .x0 v_z78 =>
      some v_z78
  else
   some false
theorem G_ringlaw5_IrqSays_ok (n : Nat) (v_t1 : Int) (v_t2 : Int) (v_t3 : Int) (v_t4 : Int) (v_t5 : Int) (v_t6 : Bool) (r : Bool) (h : G_ringlaw5_IrqSays n v_t1 v_t2 v_t3 v_t4 v_t5 v_t6 = some r) : Ret Try.prog 3 [(eI .i64) v_t1, (eI .i64) v_t2, (eI .i64) v_t3, (eI .i64) v_t4, (eI .i64) v_t5, eB v_t6] (eB r) := by
  refine ret_run (n := 275) (fn := Try.f3) (c := bodyOf Try.f3) (by kernel_rfl) (by kernel_rfl) (by kernel_rfl) (by kernel_rfl) ?_
  have hF : KC 275 (FinR Try.prog Try.f3 (eB r)) := FinR.kc' (by kernel_rfl)
  unfold G_ringlaw5_IrqSays at h
  obtain ⟨v_r22, h21, h⟩ := bind_some h
  obtain ⟨v_r27, h27, h⟩ := bind_some h
  obtain ⟨v_r36, h39, h⟩ := bind_some h
  obtain ⟨v_r39, h44, h⟩ := bind_some h
  obtain ⟨v_r55, h61, h⟩ := bind_some h
  obtain ⟨v_r56, h62, h⟩ := bind_some h
  by_cases h63 : v_r56 = v_r55
  · rw [if_pos h63] at h
    by_cases h82 : v_r55 = 0
    · rw [if_pos h82] at h
      obtain ⟨v_r93, h127, h⟩ := bind_some h
      obtain ⟨v_r111, h143, h⟩ := bind_some h
      obtain ⟨v_o157, h216, h⟩ := bind_some h
      refine pkk_sound TTok mix hF 33 (hs := [.c, .c, .r (.tup [eS_irq_Lines v_r22.1, (eI .i64) v_r22.2]), .c, .c, .r (.tup [eS_irq_Lines v_r27.1, (eI .i64) v_r27.2]), .c, .c, .r (.tup [(eI .i64) v_r36.1, (eI .i64) v_r36.2]), .c, .r (.tup [eS_irq_Lines v_r39.1, (eI .i64) v_r39.2.1, (eI .i64) v_r39.2.2]), .c, .r ((eI .i64) v_r55), .c, .r ((eI .i64) v_r56), .t false, .c, .t false, .r ((fun x => PV.agg [.v (.bool ((x 0).fEdge)), .v (.bool ((x 0).fUp)), .v (.bool ((x 0).fMasked)), .v (.bool ((x 0).fPending)), .v (.bool ((x 1).fEdge)), .v (.bool ((x 1).fUp)), .v (.bool ((x 1).fMasked)), .v (.bool ((x 1).fPending)), .v (.bool ((x 2).fEdge)), .v (.bool ((x 2).fUp)), .v (.bool ((x 2).fMasked)), .v (.bool ((x 2).fPending)), .v (.bool ((x 3).fEdge)), .v (.bool ((x 3).fUp)), .v (.bool ((x 3).fMasked)), .v (.bool ((x 3).fPending)), .v (.bool ((x 4).fEdge)), .v (.bool ((x 4).fUp)), .v (.bool ((x 4).fMasked)), .v (.bool ((x 4).fPending)), .v (.bool ((x 5).fEdge)), .v (.bool ((x 5).fUp)), .v (.bool ((x 5).fMasked)), .v (.bool ((x 5).fPending)), .v (.bool ((x 6).fEdge)), .v (.bool ((x 6).fUp)), .v (.bool ((x 6).fMasked)), .v (.bool ((x 6).fPending)), .v (.bool ((x 7).fEdge)), .v (.bool ((x 7).fUp)), .v (.bool ((x 7).fMasked)), .v (.bool ((x 7).fPending))]) v_r93), .c, .c, .c, .r ((eI .i64) v_r111)]) (ts := []) (s := [18, 45, 75, 123, 168, 195]) (l := [3, 4, 5, 13, 14, 15, 16, 17, 18, 19, 20, 21, 22, 24, 25, 26, 123]) (by kernel_rfl) (by kernel_rfl) (.cons (show 0 + 4 ≤ 4 by decide) (.cons (G_irq_Set_ok n (S_irq_Lines.mk v_t1 v_t2 v_t3 v_t4) v_t5 v_t6 _ h21) (.cons (show 0 + 4 ≤ 4 by decide) (.cons (G_irq_Mask_ok n (S_irq_Lines.mk v_t1 v_t2 v_t3 v_t4) v_t5 v_t6 _ h27) (.cons (show 0 + 4 ≤ 4 by decide) (.cons (G_irq_Next_ok n (S_irq_Lines.mk v_t1 v_t2 v_t3 v_t4) _ h39) (.cons (G_irq_Take_ok n (S_irq_Lines.mk v_t1 v_t2 v_t3 v_t4) _ h44) (.cons (show 0 + 4 ≤ 4 by decide) (.cons (G_ringref5_LinesErr_ok n v_t1 v_t2 v_t3 v_t4 _ h61) (.cons (G_irq_Check_ok n (S_irq_Lines.mk v_t1 v_t2 v_t3 v_t4) _ h62) (.cons (nf h63) (.cons (show 0 + 4 ≤ 4 by decide) (.cons (nf h82) (.cons (G_ringref5_Split_ok n v_t1 v_t2 v_t3 v_t4 _ h127) (.cons (show 0 + 32 ≤ 32 by decide) (.cons (show (0 : Int) ≤ 0 by decide) (.cons (show (0 : Int) ≤ 8 by decide) (.cons (show (8 : Int) ≤ 8 by decide) (.cons (show (0 : Int) < 8 by decide) (.cons (G_slices_IndexFunc_ringref5_Line_ringref5_Line_ok n ([(v_r93 0), (v_r93 1), (v_r93 2), (v_r93 3), (v_r93 4), (v_r93 5), (v_r93 6), (v_r93 7)]) (fun (y0 : S_ringref5_Line) => G_ringref5_Line_Calls n y0) 21 [] (fun y0 r h => G_ringref5_Line_Calls_ok n y0 r h) _ h143) .nil)))))))))))))))))))) (G_ringlaw5_IrqSays_C5_ok hF (.s (cR (cR (cR (cR (cR (cR (cR (cR (cR (cR (cR (cR (cR (bodyOf Try.f3)))))))))))))) :: []) n v_t4 v_t5 v_t6 v_r22 v_r27 v_r36 v_r39 v_r111 v_t1 v_t2 v_t3 v_r93 _ h216 ?_)
      cases v_o157 with
      | x0 v_z158 =>
        dsimp only at h
        obtain rfl := Option.some.inj h
        exact pend_sound TTok mix 1 (hs := []) (by kernel_rfl) (by kernel_rfl) (by kernel_rfl) .nil
      | x1  =>
        dsimp only at h
        by_cases h217 : v_t5 < 0
        · rw [if_pos h217] at h
          obtain ⟨v_o169, h231, h⟩ := bind_some h
          refine pkk_sound TTok mix hF 5 (hs := [.t true, .c, .c]) (ts := []) (s := [0, 1, 2]) (l := [14, 15, 16, 17, 24]) (by kernel_rfl) (by kernel_rfl) (.cons (dt h217) .nil) (G_ringlaw5_IrqSays_C6_ok hF (.s (cR (cT (cR (cL (cR (cR (cR (cR (cR (cR (cR (cR (cR (cR (cR (cR (cR (bodyOf Try.f3)))))))))))))))))) :: .s (cR (cR (cR (cR (cR (cR (cR (cR (cR (cR (cR (cR (cR (cR (bodyOf Try.f3))))))))))))))) :: []) n v_r22 v_r27 _ h231 ?_)
          cases v_o169 with
          | x0 v_z170 =>
            dsimp only at h
            obtain rfl := Option.some.inj h
            exact pend_sound TTok mix 2 (hs := []) (by kernel_rfl) (by kernel_rfl) (by kernel_rfl) .nil
        · rw [if_neg h217] at h
          by_cases h240 : v_t5 > 7
          · rw [if_pos h240] at h
            obtain ⟨v_o181, h247, h⟩ := bind_some h
            refine pkk_sound TTok mix hF 5 (hs := [.t false, .c, .t true]) (ts := []) (s := [0, 1, 2]) (l := [14, 15, 16, 17, 24]) (by kernel_rfl) (by kernel_rfl) (.cons (df h217) (.cons (dt h240) .nil)) (G_ringlaw5_IrqSays_C7_ok hF (.s (cR (cT (cR (cL (cR (cR (cR (cR (cR (cR (cR (cR (cR (cR (cR (cR (cR (bodyOf Try.f3)))))))))))))))))) :: .s (cR (cR (cR (cR (cR (cR (cR (cR (cR (cR (cR (cR (cR (cR (bodyOf Try.f3))))))))))))))) :: []) n v_r22 v_r27 _ h247 ?_)
            cases v_o181 with
            | x0 v_z182 =>
              dsimp only at h
              obtain rfl := Option.some.inj h
              exact pend_sound TTok mix 2 (hs := []) (by kernel_rfl) (by kernel_rfl) (by kernel_rfl) .nil
          · rw [if_neg h240] at h
            by_cases h248 : 0 ≤ v_t5 ∧ v_t5 < (8 : Int)
            · rw [if_pos h248] at h
              obtain ⟨v_y183, h249, h⟩ := bind_some h
              obtain ⟨v_o184, h256, h⟩ := bind_some h
              refine pkk_sound TTok mix hF 8 (hs := [.t false, .c, .t false, .l (.d (.agg [.v (.bool v_y183.fEdge), .v (.bool v_y183.fUp), .v (.bool v_y183.fMasked), .v (.bool v_y183.fPending)])), .c]) (ts := []) (s := [0, 1, 3, 31]) (l := [4, 5, 14, 15, 16, 17, 25, 28]) (by kernel_rfl) (by kernel_rfl) (.cons (df h217) (.cons (df h240) (.cons h248 (.cons (And.intro (congrArg mkAgg (arr_take (γ := FV) (sz := 4) (g := (fun x => [.d (.v (.bool x.fEdge)), .d (.v (.bool x.fUp)), .d (.v (.bool x.fMasked)), .d (.v (.bool x.fPending))])) (pre := []) (post := []) (fun _ => rfl) h249).1) (arr_take (γ := FV) (sz := 4) (g := (fun x => [.d (.v (.bool x.fEdge)), .d (.v (.bool x.fUp)), .d (.v (.bool x.fMasked)), .d (.v (.bool x.fPending))])) (pre := []) (post := []) (fun _ => rfl) h249).2) (.cons (show 0 + 4 ≤ 4 by decide) .nil))))) (G_ringlaw5_IrqSays_C8_ok hF (.s (cR (cR (cR (cR (cR (cR (cR (cR (cR (cR (cR (cR (cR (cR (cR (cR (bodyOf Try.f3))))))))))))))))) :: []) n v_t5 v_t6 v_r22 v_r27 v_r93 v_y183 _ h256 ?_)
              cases v_o184 with
              | x0  =>
                dsimp only at h
                by_cases h257 : 0 ≤ v_t5 ∧ v_t5 < (8 : Int)
                · rw [if_pos h257] at h
                  obtain ⟨v_y185, h258, h⟩ := bind_some h
                  by_cases h259 : 0 ≤ v_t5 ∧ v_t5 < (8 : Int)
                  · rw [if_pos h259] at h
                    obtain ⟨v_y186, h260, h⟩ := bind_some h
                    by_cases h261 : 0 ≤ v_t5 ∧ v_t5 < (8 : Int)
                    · rw [if_pos h261] at h
                      obtain ⟨v_y187, h262, h⟩ := bind_some h
                      obtain ⟨v_o202, h281, h⟩ := bind_some h
                      refine pkk_sound TTok mix hF 11 (hs := [.c, .l (.d (.agg [.v (.bool v_y185.fEdge), .v (.bool v_y185.fUp), .v (.bool v_y185.fMasked), .v (.bool v_y185.fPending)])), .c, .c, .c, .c, .c, .c, .c, .c, .x [.d (.v (.bool (((setA v_r93 v_t5 (S_ringref5_Line.mk v_y183.fEdge v_t6 v_y183.fMasked true)) 0).fEdge))), .d (.v (.bool (((setA v_r93 v_t5 (S_ringref5_Line.mk v_y183.fEdge v_t6 v_y183.fMasked true)) 0).fUp))), .d (.v (.bool (((setA v_r93 v_t5 (S_ringref5_Line.mk v_y183.fEdge v_t6 v_y183.fMasked true)) 0).fMasked))), .d (.v (.bool (((setA v_r93 v_t5 (S_ringref5_Line.mk v_y183.fEdge v_t6 v_y183.fMasked true)) 0).fPending))), .d (.v (.bool (((setA v_r93 v_t5 (S_ringref5_Line.mk v_y183.fEdge v_t6 v_y183.fMasked true)) 1).fEdge))), .d (.v (.bool (((setA v_r93 v_t5 (S_ringref5_Line.mk v_y183.fEdge v_t6 v_y183.fMasked true)) 1).fUp))), .d (.v (.bool (((setA v_r93 v_t5 (S_ringref5_Line.mk v_y183.fEdge v_t6 v_y183.fMasked true)) 1).fMasked))), .d (.v (.bool (((setA v_r93 v_t5 (S_ringref5_Line.mk v_y183.fEdge v_t6 v_y183.fMasked true)) 1).fPending))), .d (.v (.bool (((setA v_r93 v_t5 (S_ringref5_Line.mk v_y183.fEdge v_t6 v_y183.fMasked true)) 2).fEdge))), .d (.v (.bool (((setA v_r93 v_t5 (S_ringref5_Line.mk v_y183.fEdge v_t6 v_y183.fMasked true)) 2).fUp))), .d (.v (.bool (((setA v_r93 v_t5 (S_ringref5_Line.mk v_y183.fEdge v_t6 v_y183.fMasked true)) 2).fMasked))), .d (.v (.bool (((setA v_r93 v_t5 (S_ringref5_Line.mk v_y183.fEdge v_t6 v_y183.fMasked true)) 2).fPending))), .d (.v (.bool (((setA v_r93 v_t5 (S_ringref5_Line.mk v_y183.fEdge v_t6 v_y183.fMasked true)) 3).fEdge))), .d (.v (.bool (((setA v_r93 v_t5 (S_ringref5_Line.mk v_y183.fEdge v_t6 v_y183.fMasked true)) 3).fUp))), .d (.v (.bool (((setA v_r93 v_t5 (S_ringref5_Line.mk v_y183.fEdge v_t6 v_y183.fMasked true)) 3).fMasked))), .d (.v (.bool (((setA v_r93 v_t5 (S_ringref5_Line.mk v_y183.fEdge v_t6 v_y183.fMasked true)) 3).fPending))), .d (.v (.bool (((setA v_r93 v_t5 (S_ringref5_Line.mk v_y183.fEdge v_t6 v_y183.fMasked true)) 4).fEdge))), .d (.v (.bool (((setA v_r93 v_t5 (S_ringref5_Line.mk v_y183.fEdge v_t6 v_y183.fMasked true)) 4).fUp))), .d (.v (.bool (((setA v_r93 v_t5 (S_ringref5_Line.mk v_y183.fEdge v_t6 v_y183.fMasked true)) 4).fMasked))), .d (.v (.bool (((setA v_r93 v_t5 (S_ringref5_Line.mk v_y183.fEdge v_t6 v_y183.fMasked true)) 4).fPending))), .d (.v (.bool (((setA v_r93 v_t5 (S_ringref5_Line.mk v_y183.fEdge v_t6 v_y183.fMasked true)) 5).fEdge))), .d (.v (.bool (((setA v_r93 v_t5 (S_ringref5_Line.mk v_y183.fEdge v_t6 v_y183.fMasked true)) 5).fUp))), .d (.v (.bool (((setA v_r93 v_t5 (S_ringref5_Line.mk v_y183.fEdge v_t6 v_y183.fMasked true)) 5).fMasked))), .d (.v (.bool (((setA v_r93 v_t5 (S_ringref5_Line.mk v_y183.fEdge v_t6 v_y183.fMasked true)) 5).fPending))), .d (.v (.bool (((setA v_r93 v_t5 (S_ringref5_Line.mk v_y183.fEdge v_t6 v_y183.fMasked true)) 6).fEdge))), .d (.v (.bool (((setA v_r93 v_t5 (S_ringref5_Line.mk v_y183.fEdge v_t6 v_y183.fMasked true)) 6).fUp))), .d (.v (.bool (((setA v_r93 v_t5 (S_ringref5_Line.mk v_y183.fEdge v_t6 v_y183.fMasked true)) 6).fMasked))), .d (.v (.bool (((setA v_r93 v_t5 (S_ringref5_Line.mk v_y183.fEdge v_t6 v_y183.fMasked true)) 6).fPending))), .d (.v (.bool (((setA v_r93 v_t5 (S_ringref5_Line.mk v_y183.fEdge v_t6 v_y183.fMasked true)) 7).fEdge))), .d (.v (.bool (((setA v_r93 v_t5 (S_ringref5_Line.mk v_y183.fEdge v_t6 v_y183.fMasked true)) 7).fUp))), .d (.v (.bool (((setA v_r93 v_t5 (S_ringref5_Line.mk v_y183.fEdge v_t6 v_y183.fMasked true)) 7).fMasked))), .d (.v (.bool (((setA v_r93 v_t5 (S_ringref5_Line.mk v_y183.fEdge v_t6 v_y183.fMasked true)) 7).fPending)))], .c, .x [.d (.v (.bool (((setA v_r93 v_t5 (S_ringref5_Line.mk v_y185.fEdge v_y185.fUp v_t6 v_y185.fPending)) 0).fEdge))), .d (.v (.bool (((setA v_r93 v_t5 (S_ringref5_Line.mk v_y185.fEdge v_y185.fUp v_t6 v_y185.fPending)) 0).fUp))), .d (.v (.bool (((setA v_r93 v_t5 (S_ringref5_Line.mk v_y185.fEdge v_y185.fUp v_t6 v_y185.fPending)) 0).fMasked))), .d (.v (.bool (((setA v_r93 v_t5 (S_ringref5_Line.mk v_y185.fEdge v_y185.fUp v_t6 v_y185.fPending)) 0).fPending))), .d (.v (.bool (((setA v_r93 v_t5 (S_ringref5_Line.mk v_y185.fEdge v_y185.fUp v_t6 v_y185.fPending)) 1).fEdge))), .d (.v (.bool (((setA v_r93 v_t5 (S_ringref5_Line.mk v_y185.fEdge v_y185.fUp v_t6 v_y185.fPending)) 1).fUp))), .d (.v (.bool (((setA v_r93 v_t5 (S_ringref5_Line.mk v_y185.fEdge v_y185.fUp v_t6 v_y185.fPending)) 1).fMasked))), .d (.v (.bool (((setA v_r93 v_t5 (S_ringref5_Line.mk v_y185.fEdge v_y185.fUp v_t6 v_y185.fPending)) 1).fPending))), .d (.v (.bool (((setA v_r93 v_t5 (S_ringref5_Line.mk v_y185.fEdge v_y185.fUp v_t6 v_y185.fPending)) 2).fEdge))), .d (.v (.bool (((setA v_r93 v_t5 (S_ringref5_Line.mk v_y185.fEdge v_y185.fUp v_t6 v_y185.fPending)) 2).fUp))), .d (.v (.bool (((setA v_r93 v_t5 (S_ringref5_Line.mk v_y185.fEdge v_y185.fUp v_t6 v_y185.fPending)) 2).fMasked))), .d (.v (.bool (((setA v_r93 v_t5 (S_ringref5_Line.mk v_y185.fEdge v_y185.fUp v_t6 v_y185.fPending)) 2).fPending))), .d (.v (.bool (((setA v_r93 v_t5 (S_ringref5_Line.mk v_y185.fEdge v_y185.fUp v_t6 v_y185.fPending)) 3).fEdge))), .d (.v (.bool (((setA v_r93 v_t5 (S_ringref5_Line.mk v_y185.fEdge v_y185.fUp v_t6 v_y185.fPending)) 3).fUp))), .d (.v (.bool (((setA v_r93 v_t5 (S_ringref5_Line.mk v_y185.fEdge v_y185.fUp v_t6 v_y185.fPending)) 3).fMasked))), .d (.v (.bool (((setA v_r93 v_t5 (S_ringref5_Line.mk v_y185.fEdge v_y185.fUp v_t6 v_y185.fPending)) 3).fPending))), .d (.v (.bool (((setA v_r93 v_t5 (S_ringref5_Line.mk v_y185.fEdge v_y185.fUp v_t6 v_y185.fPending)) 4).fEdge))), .d (.v (.bool (((setA v_r93 v_t5 (S_ringref5_Line.mk v_y185.fEdge v_y185.fUp v_t6 v_y185.fPending)) 4).fUp))), .d (.v (.bool (((setA v_r93 v_t5 (S_ringref5_Line.mk v_y185.fEdge v_y185.fUp v_t6 v_y185.fPending)) 4).fMasked))), .d (.v (.bool (((setA v_r93 v_t5 (S_ringref5_Line.mk v_y185.fEdge v_y185.fUp v_t6 v_y185.fPending)) 4).fPending))), .d (.v (.bool (((setA v_r93 v_t5 (S_ringref5_Line.mk v_y185.fEdge v_y185.fUp v_t6 v_y185.fPending)) 5).fEdge))), .d (.v (.bool (((setA v_r93 v_t5 (S_ringref5_Line.mk v_y185.fEdge v_y185.fUp v_t6 v_y185.fPending)) 5).fUp))), .d (.v (.bool (((setA v_r93 v_t5 (S_ringref5_Line.mk v_y185.fEdge v_y185.fUp v_t6 v_y185.fPending)) 5).fMasked))), .d (.v (.bool (((setA v_r93 v_t5 (S_ringref5_Line.mk v_y185.fEdge v_y185.fUp v_t6 v_y185.fPending)) 5).fPending))), .d (.v (.bool (((setA v_r93 v_t5 (S_ringref5_Line.mk v_y185.fEdge v_y185.fUp v_t6 v_y185.fPending)) 6).fEdge))), .d (.v (.bool (((setA v_r93 v_t5 (S_ringref5_Line.mk v_y185.fEdge v_y185.fUp v_t6 v_y185.fPending)) 6).fUp))), .d (.v (.bool (((setA v_r93 v_t5 (S_ringref5_Line.mk v_y185.fEdge v_y185.fUp v_t6 v_y185.fPending)) 6).fMasked))), .d (.v (.bool (((setA v_r93 v_t5 (S_ringref5_Line.mk v_y185.fEdge v_y185.fUp v_t6 v_y185.fPending)) 6).fPending))), .d (.v (.bool (((setA v_r93 v_t5 (S_ringref5_Line.mk v_y185.fEdge v_y185.fUp v_t6 v_y185.fPending)) 7).fEdge))), .d (.v (.bool (((setA v_r93 v_t5 (S_ringref5_Line.mk v_y185.fEdge v_y185.fUp v_t6 v_y185.fPending)) 7).fUp))), .d (.v (.bool (((setA v_r93 v_t5 (S_ringref5_Line.mk v_y185.fEdge v_y185.fUp v_t6 v_y185.fPending)) 7).fMasked))), .d (.v (.bool (((setA v_r93 v_t5 (S_ringref5_Line.mk v_y185.fEdge v_y185.fUp v_t6 v_y185.fPending)) 7).fPending)))], .c]) (ts := []) (s := [0, 1, 43, 46]) (l := [14, 15, 16, 17, 30, 31]) (by kernel_rfl) (by kernel_rfl) (.cons (show 1 + 1 ≤ 4 by decide) (.cons h257 (.cons (And.intro (congrArg mkAgg (arr_take (γ := FV) (sz := 4) (g := (fun x => [.d (.v (.bool x.fEdge)), .d (.v (.bool x.fUp)), .d (.v (.bool x.fMasked)), .d (.v (.bool x.fPending))])) (pre := []) (post := []) (fun _ => rfl) h258).1) (arr_take (γ := FV) (sz := 4) (g := (fun x => [.d (.v (.bool x.fEdge)), .d (.v (.bool x.fUp)), .d (.v (.bool x.fMasked)), .d (.v (.bool x.fPending))])) (pre := []) (post := []) (fun _ => rfl) h258).2) (.cons (show 0 + 4 ≤ 4 by decide) (.cons (show 2 + 1 ≤ 4 by decide) (.cons (show 0 + 32 ≤ 32 by decide) (.cons (show 0 + 32 ≤ 32 by decide) (.cons h259 (.cons (arr_store (γ := FV) (sz := 4) (g := (fun x => [.d (.v (.bool x.fEdge)), .d (.v (.bool x.fUp)), .d (.v (.bool x.fMasked)), .d (.v (.bool x.fPending))])) (pre := []) (post := []) (o := 0) (y := (S_ringref5_Line.mk v_y183.fEdge v_t6 v_y183.fMasked true)) (zs := [.d (.v (.bool v_y183.fEdge)), .d (.v (.bool v_t6)), .d (.v (.bool v_y183.fMasked)), .d (.v (.bool true))]) (fun _ => rfl) h260 rfl (Nat.le_of_ble_eq_true rfl)).1 (.cons (arr_store (γ := FV) (sz := 4) (g := (fun x => [.d (.v (.bool x.fEdge)), .d (.v (.bool x.fUp)), .d (.v (.bool x.fMasked)), .d (.v (.bool x.fPending))])) (pre := []) (post := []) (o := 0) (y := (S_ringref5_Line.mk v_y183.fEdge v_t6 v_y183.fMasked true)) (zs := [.d (.v (.bool v_y183.fEdge)), .d (.v (.bool v_t6)), .d (.v (.bool v_y183.fMasked)), .d (.v (.bool true))]) (fun _ => rfl) h260 rfl (Nat.le_of_ble_eq_true rfl)).2 (.cons h261 (.cons (arr_store (γ := FV) (sz := 4) (g := (fun x => [.d (.v (.bool x.fEdge)), .d (.v (.bool x.fUp)), .d (.v (.bool x.fMasked)), .d (.v (.bool x.fPending))])) (pre := []) (post := []) (o := 0) (y := (S_ringref5_Line.mk v_y185.fEdge v_y185.fUp v_t6 v_y185.fPending)) (zs := [.d (.v (.bool v_y185.fEdge)), .d (.v (.bool v_y185.fUp)), .d (.v (.bool v_t6)), .d (.v (.bool v_y185.fPending))]) (fun _ => rfl) h262 rfl (Nat.le_of_ble_eq_true rfl)).1 (.cons (arr_store (γ := FV) (sz := 4) (g := (fun x => [.d (.v (.bool x.fEdge)), .d (.v (.bool x.fUp)), .d (.v (.bool x.fMasked)), .d (.v (.bool x.fPending))])) (pre := []) (post := []) (o := 0) (y := (S_ringref5_Line.mk v_y185.fEdge v_y185.fUp v_t6 v_y185.fPending)) (zs := [.d (.v (.bool v_y185.fEdge)), .d (.v (.bool v_y185.fUp)), .d (.v (.bool v_t6)), .d (.v (.bool v_y185.fPending))]) (fun _ => rfl) h262 rfl (Nat.le_of_ble_eq_true rfl)).2 .nil))))))))))))) (G_ringlaw5_IrqSays_C9_ok hF (.s (cR (cR (cR (cR (cR (cR (cR (cR (cR (cR (cR (cR (cR (cR (cR (cR (cR (cR (cR (cR (cR (cR (bodyOf Try.f3))))))))))))))))))))))) :: []) n v_r22 v_r27 v_r93 v_t5 v_y183 v_t6 v_y185 _ h281 ?_)
                      cases v_o202 with
                      | x0 v_z203 =>
                        dsimp only at h
                        obtain rfl := Option.some.inj h
                        exact pend_sound TTok mix 1 (hs := []) (by kernel_rfl) (by kernel_rfl) (by kernel_rfl) .nil
                    · rw [if_neg h261] at h; cases h
                  · rw [if_neg h259] at h; cases h
                · rw [if_neg h257] at h; cases h
              | x1  =>
                dsimp only at h
                by_cases h282 : 0 ≤ v_t5 ∧ v_t5 < (8 : Int)
                · rw [if_pos h282] at h
                  obtain ⟨v_y204, h283, h⟩ := bind_some h
                  by_cases h284 : 0 ≤ v_t5 ∧ v_t5 < (8 : Int)
                  · rw [if_pos h284] at h
                    obtain ⟨v_y205, h285, h⟩ := bind_some h
                    by_cases h286 : 0 ≤ v_t5 ∧ v_t5 < (8 : Int)
                    · rw [if_pos h286] at h
                      obtain ⟨v_y206, h287, h⟩ := bind_some h
                      obtain ⟨v_o221, h306, h⟩ := bind_some h
                      refine pkk_sound TTok mix hF 11 (hs := [.c, .l (.d (.agg [.v (.bool v_y204.fEdge), .v (.bool v_y204.fUp), .v (.bool v_y204.fMasked), .v (.bool v_y204.fPending)])), .c, .c, .c, .c, .c, .c, .c, .c, .x [.d (.v (.bool (((setA v_r93 v_t5 (S_ringref5_Line.mk v_y183.fEdge v_t6 v_y183.fMasked (!v_y183.fUp))) 0).fEdge))), .d (.v (.bool (((setA v_r93 v_t5 (S_ringref5_Line.mk v_y183.fEdge v_t6 v_y183.fMasked (!v_y183.fUp))) 0).fUp))), .d (.v (.bool (((setA v_r93 v_t5 (S_ringref5_Line.mk v_y183.fEdge v_t6 v_y183.fMasked (!v_y183.fUp))) 0).fMasked))), .d (.v (.bool (((setA v_r93 v_t5 (S_ringref5_Line.mk v_y183.fEdge v_t6 v_y183.fMasked (!v_y183.fUp))) 0).fPending))), .d (.v (.bool (((setA v_r93 v_t5 (S_ringref5_Line.mk v_y183.fEdge v_t6 v_y183.fMasked (!v_y183.fUp))) 1).fEdge))), .d (.v (.bool (((setA v_r93 v_t5 (S_ringref5_Line.mk v_y183.fEdge v_t6 v_y183.fMasked (!v_y183.fUp))) 1).fUp))), .d (.v (.bool (((setA v_r93 v_t5 (S_ringref5_Line.mk v_y183.fEdge v_t6 v_y183.fMasked (!v_y183.fUp))) 1).fMasked))), .d (.v (.bool (((setA v_r93 v_t5 (S_ringref5_Line.mk v_y183.fEdge v_t6 v_y183.fMasked (!v_y183.fUp))) 1).fPending))), .d (.v (.bool (((setA v_r93 v_t5 (S_ringref5_Line.mk v_y183.fEdge v_t6 v_y183.fMasked (!v_y183.fUp))) 2).fEdge))), .d (.v (.bool (((setA v_r93 v_t5 (S_ringref5_Line.mk v_y183.fEdge v_t6 v_y183.fMasked (!v_y183.fUp))) 2).fUp))), .d (.v (.bool (((setA v_r93 v_t5 (S_ringref5_Line.mk v_y183.fEdge v_t6 v_y183.fMasked (!v_y183.fUp))) 2).fMasked))), .d (.v (.bool (((setA v_r93 v_t5 (S_ringref5_Line.mk v_y183.fEdge v_t6 v_y183.fMasked (!v_y183.fUp))) 2).fPending))), .d (.v (.bool (((setA v_r93 v_t5 (S_ringref5_Line.mk v_y183.fEdge v_t6 v_y183.fMasked (!v_y183.fUp))) 3).fEdge))), .d (.v (.bool (((setA v_r93 v_t5 (S_ringref5_Line.mk v_y183.fEdge v_t6 v_y183.fMasked (!v_y183.fUp))) 3).fUp))), .d (.v (.bool (((setA v_r93 v_t5 (S_ringref5_Line.mk v_y183.fEdge v_t6 v_y183.fMasked (!v_y183.fUp))) 3).fMasked))), .d (.v (.bool (((setA v_r93 v_t5 (S_ringref5_Line.mk v_y183.fEdge v_t6 v_y183.fMasked (!v_y183.fUp))) 3).fPending))), .d (.v (.bool (((setA v_r93 v_t5 (S_ringref5_Line.mk v_y183.fEdge v_t6 v_y183.fMasked (!v_y183.fUp))) 4).fEdge))), .d (.v (.bool (((setA v_r93 v_t5 (S_ringref5_Line.mk v_y183.fEdge v_t6 v_y183.fMasked (!v_y183.fUp))) 4).fUp))), .d (.v (.bool (((setA v_r93 v_t5 (S_ringref5_Line.mk v_y183.fEdge v_t6 v_y183.fMasked (!v_y183.fUp))) 4).fMasked))), .d (.v (.bool (((setA v_r93 v_t5 (S_ringref5_Line.mk v_y183.fEdge v_t6 v_y183.fMasked (!v_y183.fUp))) 4).fPending))), .d (.v (.bool (((setA v_r93 v_t5 (S_ringref5_Line.mk v_y183.fEdge v_t6 v_y183.fMasked (!v_y183.fUp))) 5).fEdge))), .d (.v (.bool (((setA v_r93 v_t5 (S_ringref5_Line.mk v_y183.fEdge v_t6 v_y183.fMasked (!v_y183.fUp))) 5).fUp))), .d (.v (.bool (((setA v_r93 v_t5 (S_ringref5_Line.mk v_y183.fEdge v_t6 v_y183.fMasked (!v_y183.fUp))) 5).fMasked))), .d (.v (.bool (((setA v_r93 v_t5 (S_ringref5_Line.mk v_y183.fEdge v_t6 v_y183.fMasked (!v_y183.fUp))) 5).fPending))), .d (.v (.bool (((setA v_r93 v_t5 (S_ringref5_Line.mk v_y183.fEdge v_t6 v_y183.fMasked (!v_y183.fUp))) 6).fEdge))), .d (.v (.bool (((setA v_r93 v_t5 (S_ringref5_Line.mk v_y183.fEdge v_t6 v_y183.fMasked (!v_y183.fUp))) 6).fUp))), .d (.v (.bool (((setA v_r93 v_t5 (S_ringref5_Line.mk v_y183.fEdge v_t6 v_y183.fMasked (!v_y183.fUp))) 6).fMasked))), .d (.v (.bool (((setA v_r93 v_t5 (S_ringref5_Line.mk v_y183.fEdge v_t6 v_y183.fMasked (!v_y183.fUp))) 6).fPending))), .d (.v (.bool (((setA v_r93 v_t5 (S_ringref5_Line.mk v_y183.fEdge v_t6 v_y183.fMasked (!v_y183.fUp))) 7).fEdge))), .d (.v (.bool (((setA v_r93 v_t5 (S_ringref5_Line.mk v_y183.fEdge v_t6 v_y183.fMasked (!v_y183.fUp))) 7).fUp))), .d (.v (.bool (((setA v_r93 v_t5 (S_ringref5_Line.mk v_y183.fEdge v_t6 v_y183.fMasked (!v_y183.fUp))) 7).fMasked))), .d (.v (.bool (((setA v_r93 v_t5 (S_ringref5_Line.mk v_y183.fEdge v_t6 v_y183.fMasked (!v_y183.fUp))) 7).fPending)))], .c, .x [.d (.v (.bool (((setA v_r93 v_t5 (S_ringref5_Line.mk v_y204.fEdge v_y204.fUp v_t6 v_y204.fPending)) 0).fEdge))), .d (.v (.bool (((setA v_r93 v_t5 (S_ringref5_Line.mk v_y204.fEdge v_y204.fUp v_t6 v_y204.fPending)) 0).fUp))), .d (.v (.bool (((setA v_r93 v_t5 (S_ringref5_Line.mk v_y204.fEdge v_y204.fUp v_t6 v_y204.fPending)) 0).fMasked))), .d (.v (.bool (((setA v_r93 v_t5 (S_ringref5_Line.mk v_y204.fEdge v_y204.fUp v_t6 v_y204.fPending)) 0).fPending))), .d (.v (.bool (((setA v_r93 v_t5 (S_ringref5_Line.mk v_y204.fEdge v_y204.fUp v_t6 v_y204.fPending)) 1).fEdge))), .d (.v (.bool (((setA v_r93 v_t5 (S_ringref5_Line.mk v_y204.fEdge v_y204.fUp v_t6 v_y204.fPending)) 1).fUp))), .d (.v (.bool (((setA v_r93 v_t5 (S_ringref5_Line.mk v_y204.fEdge v_y204.fUp v_t6 v_y204.fPending)) 1).fMasked))), .d (.v (.bool (((setA v_r93 v_t5 (S_ringref5_Line.mk v_y204.fEdge v_y204.fUp v_t6 v_y204.fPending)) 1).fPending))), .d (.v (.bool (((setA v_r93 v_t5 (S_ringref5_Line.mk v_y204.fEdge v_y204.fUp v_t6 v_y204.fPending)) 2).fEdge))), .d (.v (.bool (((setA v_r93 v_t5 (S_ringref5_Line.mk v_y204.fEdge v_y204.fUp v_t6 v_y204.fPending)) 2).fUp))), .d (.v (.bool (((setA v_r93 v_t5 (S_ringref5_Line.mk v_y204.fEdge v_y204.fUp v_t6 v_y204.fPending)) 2).fMasked))), .d (.v (.bool (((setA v_r93 v_t5 (S_ringref5_Line.mk v_y204.fEdge v_y204.fUp v_t6 v_y204.fPending)) 2).fPending))), .d (.v (.bool (((setA v_r93 v_t5 (S_ringref5_Line.mk v_y204.fEdge v_y204.fUp v_t6 v_y204.fPending)) 3).fEdge))), .d (.v (.bool (((setA v_r93 v_t5 (S_ringref5_Line.mk v_y204.fEdge v_y204.fUp v_t6 v_y204.fPending)) 3).fUp))), .d (.v (.bool (((setA v_r93 v_t5 (S_ringref5_Line.mk v_y204.fEdge v_y204.fUp v_t6 v_y204.fPending)) 3).fMasked))), .d (.v (.bool (((setA v_r93 v_t5 (S_ringref5_Line.mk v_y204.fEdge v_y204.fUp v_t6 v_y204.fPending)) 3).fPending))), .d (.v (.bool (((setA v_r93 v_t5 (S_ringref5_Line.mk v_y204.fEdge v_y204.fUp v_t6 v_y204.fPending)) 4).fEdge))), .d (.v (.bool (((setA v_r93 v_t5 (S_ringref5_Line.mk v_y204.fEdge v_y204.fUp v_t6 v_y204.fPending)) 4).fUp))), .d (.v (.bool (((setA v_r93 v_t5 (S_ringref5_Line.mk v_y204.fEdge v_y204.fUp v_t6 v_y204.fPending)) 4).fMasked))), .d (.v (.bool (((setA v_r93 v_t5 (S_ringref5_Line.mk v_y204.fEdge v_y204.fUp v_t6 v_y204.fPending)) 4).fPending))), .d (.v (.bool (((setA v_r93 v_t5 (S_ringref5_Line.mk v_y204.fEdge v_y204.fUp v_t6 v_y204.fPending)) 5).fEdge))), .d (.v (.bool (((setA v_r93 v_t5 (S_ringref5_Line.mk v_y204.fEdge v_y204.fUp v_t6 v_y204.fPending)) 5).fUp))), .d (.v (.bool (((setA v_r93 v_t5 (S_ringref5_Line.mk v_y204.fEdge v_y204.fUp v_t6 v_y204.fPending)) 5).fMasked))), .d (.v (.bool (((setA v_r93 v_t5 (S_ringref5_Line.mk v_y204.fEdge v_y204.fUp v_t6 v_y204.fPending)) 5).fPending))), .d (.v (.bool (((setA v_r93 v_t5 (S_ringref5_Line.mk v_y204.fEdge v_y204.fUp v_t6 v_y204.fPending)) 6).fEdge))), .d (.v (.bool (((setA v_r93 v_t5 (S_ringref5_Line.mk v_y204.fEdge v_y204.fUp v_t6 v_y204.fPending)) 6).fUp))), .d (.v (.bool (((setA v_r93 v_t5 (S_ringref5_Line.mk v_y204.fEdge v_y204.fUp v_t6 v_y204.fPending)) 6).fMasked))), .d (.v (.bool (((setA v_r93 v_t5 (S_ringref5_Line.mk v_y204.fEdge v_y204.fUp v_t6 v_y204.fPending)) 6).fPending))), .d (.v (.bool (((setA v_r93 v_t5 (S_ringref5_Line.mk v_y204.fEdge v_y204.fUp v_t6 v_y204.fPending)) 7).fEdge))), .d (.v (.bool (((setA v_r93 v_t5 (S_ringref5_Line.mk v_y204.fEdge v_y204.fUp v_t6 v_y204.fPending)) 7).fUp))), .d (.v (.bool (((setA v_r93 v_t5 (S_ringref5_Line.mk v_y204.fEdge v_y204.fUp v_t6 v_y204.fPending)) 7).fMasked))), .d (.v (.bool (((setA v_r93 v_t5 (S_ringref5_Line.mk v_y204.fEdge v_y204.fUp v_t6 v_y204.fPending)) 7).fPending)))], .c]) (ts := []) (s := [0, 1, 43, 46]) (l := [14, 15, 16, 17, 30, 31]) (by kernel_rfl) (by kernel_rfl) (.cons (show 1 + 1 ≤ 4 by decide) (.cons h282 (.cons (And.intro (congrArg mkAgg (arr_take (γ := FV) (sz := 4) (g := (fun x => [.d (.v (.bool x.fEdge)), .d (.v (.bool x.fUp)), .d (.v (.bool x.fMasked)), .d (.v (.bool x.fPending))])) (pre := []) (post := []) (fun _ => rfl) h283).1) (arr_take (γ := FV) (sz := 4) (g := (fun x => [.d (.v (.bool x.fEdge)), .d (.v (.bool x.fUp)), .d (.v (.bool x.fMasked)), .d (.v (.bool x.fPending))])) (pre := []) (post := []) (fun _ => rfl) h283).2) (.cons (show 0 + 4 ≤ 4 by decide) (.cons (show 2 + 1 ≤ 4 by decide) (.cons (show 0 + 32 ≤ 32 by decide) (.cons (show 0 + 32 ≤ 32 by decide) (.cons h284 (.cons (arr_store (γ := FV) (sz := 4) (g := (fun x => [.d (.v (.bool x.fEdge)), .d (.v (.bool x.fUp)), .d (.v (.bool x.fMasked)), .d (.v (.bool x.fPending))])) (pre := []) (post := []) (o := 0) (y := (S_ringref5_Line.mk v_y183.fEdge v_t6 v_y183.fMasked (!v_y183.fUp))) (zs := [.d (.v (.bool v_y183.fEdge)), .d (.v (.bool v_t6)), .d (.v (.bool v_y183.fMasked)), .d (.v (.bool (!v_y183.fUp)))]) (fun _ => rfl) h285 rfl (Nat.le_of_ble_eq_true rfl)).1 (.cons (arr_store (γ := FV) (sz := 4) (g := (fun x => [.d (.v (.bool x.fEdge)), .d (.v (.bool x.fUp)), .d (.v (.bool x.fMasked)), .d (.v (.bool x.fPending))])) (pre := []) (post := []) (o := 0) (y := (S_ringref5_Line.mk v_y183.fEdge v_t6 v_y183.fMasked (!v_y183.fUp))) (zs := [.d (.v (.bool v_y183.fEdge)), .d (.v (.bool v_t6)), .d (.v (.bool v_y183.fMasked)), .d (.v (.bool (!v_y183.fUp)))]) (fun _ => rfl) h285 rfl (Nat.le_of_ble_eq_true rfl)).2 (.cons h286 (.cons (arr_store (γ := FV) (sz := 4) (g := (fun x => [.d (.v (.bool x.fEdge)), .d (.v (.bool x.fUp)), .d (.v (.bool x.fMasked)), .d (.v (.bool x.fPending))])) (pre := []) (post := []) (o := 0) (y := (S_ringref5_Line.mk v_y204.fEdge v_y204.fUp v_t6 v_y204.fPending)) (zs := [.d (.v (.bool v_y204.fEdge)), .d (.v (.bool v_y204.fUp)), .d (.v (.bool v_t6)), .d (.v (.bool v_y204.fPending))]) (fun _ => rfl) h287 rfl (Nat.le_of_ble_eq_true rfl)).1 (.cons (arr_store (γ := FV) (sz := 4) (g := (fun x => [.d (.v (.bool x.fEdge)), .d (.v (.bool x.fUp)), .d (.v (.bool x.fMasked)), .d (.v (.bool x.fPending))])) (pre := []) (post := []) (o := 0) (y := (S_ringref5_Line.mk v_y204.fEdge v_y204.fUp v_t6 v_y204.fPending)) (zs := [.d (.v (.bool v_y204.fEdge)), .d (.v (.bool v_y204.fUp)), .d (.v (.bool v_t6)), .d (.v (.bool v_y204.fPending))]) (fun _ => rfl) h287 rfl (Nat.le_of_ble_eq_true rfl)).2 .nil))))))))))))) (G_ringlaw5_IrqSays_C10_ok hF (.s (cR (cR (cR (cR (cR (cR (cR (cR (cR (cR (cR (cR (cR (cR (cR (cR (cR (cR (cR (cR (cR (cR (bodyOf Try.f3))))))))))))))))))))))) :: []) n v_r22 v_r27 v_r93 v_t5 v_y183 v_t6 v_y204 _ h306 ?_)
                      cases v_o221 with
                      | x0 v_z222 =>
                        dsimp only at h
                        obtain rfl := Option.some.inj h
                        exact pend_sound TTok mix 1 (hs := []) (by kernel_rfl) (by kernel_rfl) (by kernel_rfl) .nil
                    · rw [if_neg h286] at h; cases h
                  · rw [if_neg h284] at h; cases h
                · rw [if_neg h282] at h; cases h
              | x2  =>
                dsimp only at h
                by_cases h307 : 0 ≤ v_t5 ∧ v_t5 < (8 : Int)
                · rw [if_pos h307] at h
                  obtain ⟨v_y223, h308, h⟩ := bind_some h
                  by_cases h309 : 0 ≤ v_t5 ∧ v_t5 < (8 : Int)
                  · rw [if_pos h309] at h
                    obtain ⟨v_y224, h310, h⟩ := bind_some h
                    by_cases h311 : 0 ≤ v_t5 ∧ v_t5 < (8 : Int)
                    · rw [if_pos h311] at h
                      obtain ⟨v_y225, h312, h⟩ := bind_some h
                      obtain ⟨v_o240, h331, h⟩ := bind_some h
                      refine pkk_sound TTok mix hF 11 (hs := [.c, .l (.d (.agg [.v (.bool v_y223.fEdge), .v (.bool v_y223.fUp), .v (.bool v_y223.fMasked), .v (.bool v_y223.fPending)])), .c, .c, .c, .c, .c, .c, .c, .c, .x [.d (.v (.bool (((setA v_r93 v_t5 (S_ringref5_Line.mk v_y183.fEdge v_t6 v_y183.fMasked false)) 0).fEdge))), .d (.v (.bool (((setA v_r93 v_t5 (S_ringref5_Line.mk v_y183.fEdge v_t6 v_y183.fMasked false)) 0).fUp))), .d (.v (.bool (((setA v_r93 v_t5 (S_ringref5_Line.mk v_y183.fEdge v_t6 v_y183.fMasked false)) 0).fMasked))), .d (.v (.bool (((setA v_r93 v_t5 (S_ringref5_Line.mk v_y183.fEdge v_t6 v_y183.fMasked false)) 0).fPending))), .d (.v (.bool (((setA v_r93 v_t5 (S_ringref5_Line.mk v_y183.fEdge v_t6 v_y183.fMasked false)) 1).fEdge))), .d (.v (.bool (((setA v_r93 v_t5 (S_ringref5_Line.mk v_y183.fEdge v_t6 v_y183.fMasked false)) 1).fUp))), .d (.v (.bool (((setA v_r93 v_t5 (S_ringref5_Line.mk v_y183.fEdge v_t6 v_y183.fMasked false)) 1).fMasked))), .d (.v (.bool (((setA v_r93 v_t5 (S_ringref5_Line.mk v_y183.fEdge v_t6 v_y183.fMasked false)) 1).fPending))), .d (.v (.bool (((setA v_r93 v_t5 (S_ringref5_Line.mk v_y183.fEdge v_t6 v_y183.fMasked false)) 2).fEdge))), .d (.v (.bool (((setA v_r93 v_t5 (S_ringref5_Line.mk v_y183.fEdge v_t6 v_y183.fMasked false)) 2).fUp))), .d (.v (.bool (((setA v_r93 v_t5 (S_ringref5_Line.mk v_y183.fEdge v_t6 v_y183.fMasked false)) 2).fMasked))), .d (.v (.bool (((setA v_r93 v_t5 (S_ringref5_Line.mk v_y183.fEdge v_t6 v_y183.fMasked false)) 2).fPending))), .d (.v (.bool (((setA v_r93 v_t5 (S_ringref5_Line.mk v_y183.fEdge v_t6 v_y183.fMasked false)) 3).fEdge))), .d (.v (.bool (((setA v_r93 v_t5 (S_ringref5_Line.mk v_y183.fEdge v_t6 v_y183.fMasked false)) 3).fUp))), .d (.v (.bool (((setA v_r93 v_t5 (S_ringref5_Line.mk v_y183.fEdge v_t6 v_y183.fMasked false)) 3).fMasked))), .d (.v (.bool (((setA v_r93 v_t5 (S_ringref5_Line.mk v_y183.fEdge v_t6 v_y183.fMasked false)) 3).fPending))), .d (.v (.bool (((setA v_r93 v_t5 (S_ringref5_Line.mk v_y183.fEdge v_t6 v_y183.fMasked false)) 4).fEdge))), .d (.v (.bool (((setA v_r93 v_t5 (S_ringref5_Line.mk v_y183.fEdge v_t6 v_y183.fMasked false)) 4).fUp))), .d (.v (.bool (((setA v_r93 v_t5 (S_ringref5_Line.mk v_y183.fEdge v_t6 v_y183.fMasked false)) 4).fMasked))), .d (.v (.bool (((setA v_r93 v_t5 (S_ringref5_Line.mk v_y183.fEdge v_t6 v_y183.fMasked false)) 4).fPending))), .d (.v (.bool (((setA v_r93 v_t5 (S_ringref5_Line.mk v_y183.fEdge v_t6 v_y183.fMasked false)) 5).fEdge))), .d (.v (.bool (((setA v_r93 v_t5 (S_ringref5_Line.mk v_y183.fEdge v_t6 v_y183.fMasked false)) 5).fUp))), .d (.v (.bool (((setA v_r93 v_t5 (S_ringref5_Line.mk v_y183.fEdge v_t6 v_y183.fMasked false)) 5).fMasked))), .d (.v (.bool (((setA v_r93 v_t5 (S_ringref5_Line.mk v_y183.fEdge v_t6 v_y183.fMasked false)) 5).fPending))), .d (.v (.bool (((setA v_r93 v_t5 (S_ringref5_Line.mk v_y183.fEdge v_t6 v_y183.fMasked false)) 6).fEdge))), .d (.v (.bool (((setA v_r93 v_t5 (S_ringref5_Line.mk v_y183.fEdge v_t6 v_y183.fMasked false)) 6).fUp))), .d (.v (.bool (((setA v_r93 v_t5 (S_ringref5_Line.mk v_y183.fEdge v_t6 v_y183.fMasked false)) 6).fMasked))), .d (.v (.bool (((setA v_r93 v_t5 (S_ringref5_Line.mk v_y183.fEdge v_t6 v_y183.fMasked false)) 6).fPending))), .d (.v (.bool (((setA v_r93 v_t5 (S_ringref5_Line.mk v_y183.fEdge v_t6 v_y183.fMasked false)) 7).fEdge))), .d (.v (.bool (((setA v_r93 v_t5 (S_ringref5_Line.mk v_y183.fEdge v_t6 v_y183.fMasked false)) 7).fUp))), .d (.v (.bool (((setA v_r93 v_t5 (S_ringref5_Line.mk v_y183.fEdge v_t6 v_y183.fMasked false)) 7).fMasked))), .d (.v (.bool (((setA v_r93 v_t5 (S_ringref5_Line.mk v_y183.fEdge v_t6 v_y183.fMasked false)) 7).fPending)))], .c, .x [.d (.v (.bool (((setA v_r93 v_t5 (S_ringref5_Line.mk v_y223.fEdge v_y223.fUp v_t6 v_y223.fPending)) 0).fEdge))), .d (.v (.bool (((setA v_r93 v_t5 (S_ringref5_Line.mk v_y223.fEdge v_y223.fUp v_t6 v_y223.fPending)) 0).fUp))), .d (.v (.bool (((setA v_r93 v_t5 (S_ringref5_Line.mk v_y223.fEdge v_y223.fUp v_t6 v_y223.fPending)) 0).fMasked))), .d (.v (.bool (((setA v_r93 v_t5 (S_ringref5_Line.mk v_y223.fEdge v_y223.fUp v_t6 v_y223.fPending)) 0).fPending))), .d (.v (.bool (((setA v_r93 v_t5 (S_ringref5_Line.mk v_y223.fEdge v_y223.fUp v_t6 v_y223.fPending)) 1).fEdge))), .d (.v (.bool (((setA v_r93 v_t5 (S_ringref5_Line.mk v_y223.fEdge v_y223.fUp v_t6 v_y223.fPending)) 1).fUp))), .d (.v (.bool (((setA v_r93 v_t5 (S_ringref5_Line.mk v_y223.fEdge v_y223.fUp v_t6 v_y223.fPending)) 1).fMasked))), .d (.v (.bool (((setA v_r93 v_t5 (S_ringref5_Line.mk v_y223.fEdge v_y223.fUp v_t6 v_y223.fPending)) 1).fPending))), .d (.v (.bool (((setA v_r93 v_t5 (S_ringref5_Line.mk v_y223.fEdge v_y223.fUp v_t6 v_y223.fPending)) 2).fEdge))), .d (.v (.bool (((setA v_r93 v_t5 (S_ringref5_Line.mk v_y223.fEdge v_y223.fUp v_t6 v_y223.fPending)) 2).fUp))), .d (.v (.bool (((setA v_r93 v_t5 (S_ringref5_Line.mk v_y223.fEdge v_y223.fUp v_t6 v_y223.fPending)) 2).fMasked))), .d (.v (.bool (((setA v_r93 v_t5 (S_ringref5_Line.mk v_y223.fEdge v_y223.fUp v_t6 v_y223.fPending)) 2).fPending))), .d (.v (.bool (((setA v_r93 v_t5 (S_ringref5_Line.mk v_y223.fEdge v_y223.fUp v_t6 v_y223.fPending)) 3).fEdge))), .d (.v (.bool (((setA v_r93 v_t5 (S_ringref5_Line.mk v_y223.fEdge v_y223.fUp v_t6 v_y223.fPending)) 3).fUp))), .d (.v (.bool (((setA v_r93 v_t5 (S_ringref5_Line.mk v_y223.fEdge v_y223.fUp v_t6 v_y223.fPending)) 3).fMasked))), .d (.v (.bool (((setA v_r93 v_t5 (S_ringref5_Line.mk v_y223.fEdge v_y223.fUp v_t6 v_y223.fPending)) 3).fPending))), .d (.v (.bool (((setA v_r93 v_t5 (S_ringref5_Line.mk v_y223.fEdge v_y223.fUp v_t6 v_y223.fPending)) 4).fEdge))), .d (.v (.bool (((setA v_r93 v_t5 (S_ringref5_Line.mk v_y223.fEdge v_y223.fUp v_t6 v_y223.fPending)) 4).fUp))), .d (.v (.bool (((setA v_r93 v_t5 (S_ringref5_Line.mk v_y223.fEdge v_y223.fUp v_t6 v_y223.fPending)) 4).fMasked))), .d (.v (.bool (((setA v_r93 v_t5 (S_ringref5_Line.mk v_y223.fEdge v_y223.fUp v_t6 v_y223.fPending)) 4).fPending))), .d (.v (.bool (((setA v_r93 v_t5 (S_ringref5_Line.mk v_y223.fEdge v_y223.fUp v_t6 v_y223.fPending)) 5).fEdge))), .d (.v (.bool (((setA v_r93 v_t5 (S_ringref5_Line.mk v_y223.fEdge v_y223.fUp v_t6 v_y223.fPending)) 5).fUp))), .d (.v (.bool (((setA v_r93 v_t5 (S_ringref5_Line.mk v_y223.fEdge v_y223.fUp v_t6 v_y223.fPending)) 5).fMasked))), .d (.v (.bool (((setA v_r93 v_t5 (S_ringref5_Line.mk v_y223.fEdge v_y223.fUp v_t6 v_y223.fPending)) 5).fPending))), .d (.v (.bool (((setA v_r93 v_t5 (S_ringref5_Line.mk v_y223.fEdge v_y223.fUp v_t6 v_y223.fPending)) 6).fEdge))), .d (.v (.bool (((setA v_r93 v_t5 (S_ringref5_Line.mk v_y223.fEdge v_y223.fUp v_t6 v_y223.fPending)) 6).fUp))), .d (.v (.bool (((setA v_r93 v_t5 (S_ringref5_Line.mk v_y223.fEdge v_y223.fUp v_t6 v_y223.fPending)) 6).fMasked))), .d (.v (.bool (((setA v_r93 v_t5 (S_ringref5_Line.mk v_y223.fEdge v_y223.fUp v_t6 v_y223.fPending)) 6).fPending))), .d (.v (.bool (((setA v_r93 v_t5 (S_ringref5_Line.mk v_y223.fEdge v_y223.fUp v_t6 v_y223.fPending)) 7).fEdge))), .d (.v (.bool (((setA v_r93 v_t5 (S_ringref5_Line.mk v_y223.fEdge v_y223.fUp v_t6 v_y223.fPending)) 7).fUp))), .d (.v (.bool (((setA v_r93 v_t5 (S_ringref5_Line.mk v_y223.fEdge v_y223.fUp v_t6 v_y223.fPending)) 7).fMasked))), .d (.v (.bool (((setA v_r93 v_t5 (S_ringref5_Line.mk v_y223.fEdge v_y223.fUp v_t6 v_y223.fPending)) 7).fPending)))], .c]) (ts := []) (s := [0, 1, 43, 46]) (l := [14, 15, 16, 17, 30, 31]) (by kernel_rfl) (by kernel_rfl) (.cons (show 1 + 1 ≤ 4 by decide) (.cons h307 (.cons (And.intro (congrArg mkAgg (arr_take (γ := FV) (sz := 4) (g := (fun x => [.d (.v (.bool x.fEdge)), .d (.v (.bool x.fUp)), .d (.v (.bool x.fMasked)), .d (.v (.bool x.fPending))])) (pre := []) (post := []) (fun _ => rfl) h308).1) (arr_take (γ := FV) (sz := 4) (g := (fun x => [.d (.v (.bool x.fEdge)), .d (.v (.bool x.fUp)), .d (.v (.bool x.fMasked)), .d (.v (.bool x.fPending))])) (pre := []) (post := []) (fun _ => rfl) h308).2) (.cons (show 0 + 4 ≤ 4 by decide) (.cons (show 2 + 1 ≤ 4 by decide) (.cons (show 0 + 32 ≤ 32 by decide) (.cons (show 0 + 32 ≤ 32 by decide) (.cons h309 (.cons (arr_store (γ := FV) (sz := 4) (g := (fun x => [.d (.v (.bool x.fEdge)), .d (.v (.bool x.fUp)), .d (.v (.bool x.fMasked)), .d (.v (.bool x.fPending))])) (pre := []) (post := []) (o := 0) (y := (S_ringref5_Line.mk v_y183.fEdge v_t6 v_y183.fMasked false)) (zs := [.d (.v (.bool v_y183.fEdge)), .d (.v (.bool v_t6)), .d (.v (.bool v_y183.fMasked)), .d (.v (.bool false))]) (fun _ => rfl) h310 rfl (Nat.le_of_ble_eq_true rfl)).1 (.cons (arr_store (γ := FV) (sz := 4) (g := (fun x => [.d (.v (.bool x.fEdge)), .d (.v (.bool x.fUp)), .d (.v (.bool x.fMasked)), .d (.v (.bool x.fPending))])) (pre := []) (post := []) (o := 0) (y := (S_ringref5_Line.mk v_y183.fEdge v_t6 v_y183.fMasked false)) (zs := [.d (.v (.bool v_y183.fEdge)), .d (.v (.bool v_t6)), .d (.v (.bool v_y183.fMasked)), .d (.v (.bool false))]) (fun _ => rfl) h310 rfl (Nat.le_of_ble_eq_true rfl)).2 (.cons h311 (.cons (arr_store (γ := FV) (sz := 4) (g := (fun x => [.d (.v (.bool x.fEdge)), .d (.v (.bool x.fUp)), .d (.v (.bool x.fMasked)), .d (.v (.bool x.fPending))])) (pre := []) (post := []) (o := 0) (y := (S_ringref5_Line.mk v_y223.fEdge v_y223.fUp v_t6 v_y223.fPending)) (zs := [.d (.v (.bool v_y223.fEdge)), .d (.v (.bool v_y223.fUp)), .d (.v (.bool v_t6)), .d (.v (.bool v_y223.fPending))]) (fun _ => rfl) h312 rfl (Nat.le_of_ble_eq_true rfl)).1 (.cons (arr_store (γ := FV) (sz := 4) (g := (fun x => [.d (.v (.bool x.fEdge)), .d (.v (.bool x.fUp)), .d (.v (.bool x.fMasked)), .d (.v (.bool x.fPending))])) (pre := []) (post := []) (o := 0) (y := (S_ringref5_Line.mk v_y223.fEdge v_y223.fUp v_t6 v_y223.fPending)) (zs := [.d (.v (.bool v_y223.fEdge)), .d (.v (.bool v_y223.fUp)), .d (.v (.bool v_t6)), .d (.v (.bool v_y223.fPending))]) (fun _ => rfl) h312 rfl (Nat.le_of_ble_eq_true rfl)).2 .nil))))))))))))) (G_ringlaw5_IrqSays_C11_ok hF (.s (cR (cR (cR (cR (cR (cR (cR (cR (cR (cR (cR (cR (cR (cR (cR (cR (cR (cR (cR (cR (cR (cR (bodyOf Try.f3))))))))))))))))))))))) :: []) n v_r22 v_r27 v_r93 v_t5 v_y183 v_t6 v_y223 _ h331 ?_)
                      cases v_o240 with
                      | x0 v_z241 =>
                        dsimp only at h
                        obtain rfl := Option.some.inj h
                        exact pend_sound TTok mix 1 (hs := []) (by kernel_rfl) (by kernel_rfl) (by kernel_rfl) .nil
                    · rw [if_neg h311] at h; cases h
                  · rw [if_neg h309] at h; cases h
                · rw [if_neg h307] at h; cases h
            · rw [if_neg h248] at h; cases h
    · rw [if_neg h82] at h
      obtain ⟨v_o77, h99, h⟩ := bind_some h
      refine pkk_sound TTok mix hF 26 (hs := [.c, .c, .r (.tup [eS_irq_Lines v_r22.1, (eI .i64) v_r22.2]), .c, .c, .r (.tup [eS_irq_Lines v_r27.1, (eI .i64) v_r27.2]), .c, .c, .r (.tup [(eI .i64) v_r36.1, (eI .i64) v_r36.2]), .c, .r (.tup [eS_irq_Lines v_r39.1, (eI .i64) v_r39.2.1, (eI .i64) v_r39.2.2]), .c, .r ((eI .i64) v_r55), .c, .r ((eI .i64) v_r56), .t false, .c, .t true]) (ts := []) (s := [45, 75, 123, 168]) (l := [14, 15, 16, 17, 18, 19, 20, 21, 22, 23, 24]) (by kernel_rfl) (by kernel_rfl) (.cons (show 0 + 4 ≤ 4 by decide) (.cons (G_irq_Set_ok n (S_irq_Lines.mk v_t1 v_t2 v_t3 v_t4) v_t5 v_t6 _ h21) (.cons (show 0 + 4 ≤ 4 by decide) (.cons (G_irq_Mask_ok n (S_irq_Lines.mk v_t1 v_t2 v_t3 v_t4) v_t5 v_t6 _ h27) (.cons (show 0 + 4 ≤ 4 by decide) (.cons (G_irq_Next_ok n (S_irq_Lines.mk v_t1 v_t2 v_t3 v_t4) _ h39) (.cons (G_irq_Take_ok n (S_irq_Lines.mk v_t1 v_t2 v_t3 v_t4) _ h44) (.cons (show 0 + 4 ≤ 4 by decide) (.cons (G_ringref5_LinesErr_ok n v_t1 v_t2 v_t3 v_t4 _ h61) (.cons (G_irq_Check_ok n (S_irq_Lines.mk v_t1 v_t2 v_t3 v_t4) _ h62) (.cons (nf h63) (.cons (show 0 + 4 ≤ 4 by decide) (.cons (nt h82) .nil))))))))))))) (G_ringlaw5_IrqSays_C1_ok hF (.s (cR (cT (cR (cL (cR (cR (cR (cR (cR (cR (cR (cR (cR (bodyOf Try.f3)))))))))))))) :: .s (cR (cR (cR (cR (cR (cR (cR (cR (cR (cR (bodyOf Try.f3))))))))))) :: []) n v_r22 v_r27 v_r36 v_r39 v_r55 _ h99 ?_)
      cases v_o77 with
      | x0 v_z78 =>
        dsimp only at h
        obtain rfl := Option.some.inj h
        exact pend_sound TTok mix 2 (hs := []) (by kernel_rfl) (by kernel_rfl) (by kernel_rfl) .nil
  · rw [if_neg h63] at h
    obtain rfl := Option.some.inj h
    exact pend_sound TTok mix 22 (hs := [.c, .c, .r (.tup [eS_irq_Lines v_r22.1, (eI .i64) v_r22.2]), .c, .c, .r (.tup [eS_irq_Lines v_r27.1, (eI .i64) v_r27.2]), .c, .c, .r (.tup [(eI .i64) v_r36.1, (eI .i64) v_r36.2]), .c, .r (.tup [eS_irq_Lines v_r39.1, (eI .i64) v_r39.2.1, (eI .i64) v_r39.2.2]), .c, .r ((eI .i64) v_r55), .c, .r ((eI .i64) v_r56), .t true]) (by kernel_rfl) (by kernel_rfl) (by kernel_rfl) (.cons (show 0 + 4 ≤ 4 by decide) (.cons (G_irq_Set_ok n (S_irq_Lines.mk v_t1 v_t2 v_t3 v_t4) v_t5 v_t6 _ h21) (.cons (show 0 + 4 ≤ 4 by decide) (.cons (G_irq_Mask_ok n (S_irq_Lines.mk v_t1 v_t2 v_t3 v_t4) v_t5 v_t6 _ h27) (.cons (show 0 + 4 ≤ 4 by decide) (.cons (G_irq_Next_ok n (S_irq_Lines.mk v_t1 v_t2 v_t3 v_t4) _ h39) (.cons (G_irq_Take_ok n (S_irq_Lines.mk v_t1 v_t2 v_t3 v_t4) _ h44) (.cons (show 0 + 4 ≤ 4 by decide) (.cons (G_ringref5_LinesErr_ok n v_t1 v_t2 v_t3 v_t4 _ h61) (.cons (G_irq_Check_ok n (S_irq_Lines.mk v_t1 v_t2 v_t3 v_t4) _ h62) (.cons (nt h63) .nil)))))))))))
theorem IrqSays_walk (H : ∀ (a0 : Int) (a1 : Int) (a2 : Int) (a3 : Int) (a4 : Int) (a5 : Bool), (fun a => (Lit.int .i64 a).wf = true) a0 → (fun a => (Lit.int .i64 a).wf = true) a1 → (fun a => (Lit.int .i64 a).wf = true) a2 → (fun a => (Lit.int .i64 a).wf = true) a3 → (fun a => (Lit.int .i64 a).wf = true) a4 → (fun _ => True) a5 → ∃ n, G_ringlaw5_IrqSays n a0 a1 a2 a3 a4 a5 = some true) (w : World) (v0 : Value) (v1 : Value) (v2 : Value) (v3 : Value) (v4 : Value) (v5 : Value) (h0 : rep.Arg w (.int .i64) v0) (h1 : rep.Arg w (.int .i64) v1) (h2 : rep.Arg w (.int .i64) v2) (h3 : rep.Arg w (.int .i64) v3) (h4 : rep.Arg w (.int .i64) v4) (h5 : rep.Arg w .bool v5) : Calls Try.prog 3 #[v0, v1, v2, v3, v4, v5] w (help.Ret (.bool true) w) := by
  obtain ⟨a0, o0, r0⟩ := arg_one (br_int .i64) (by rfl) h0
  obtain ⟨a1, o1, r1⟩ := arg_one (br_int .i64) (by rfl) h1
  obtain ⟨a2, o2, r2⟩ := arg_one (br_int .i64) (by rfl) h2
  obtain ⟨a3, o3, r3⟩ := arg_one (br_int .i64) (by rfl) h3
  obtain ⟨a4, o4, r4⟩ := arg_one (br_int .i64) (by rfl) h4
  obtain ⟨a5, o5, r5⟩ := arg_one br_bool (by rfl) h5
  obtain ⟨n, hn⟩ := H a0 a1 a2 a3 a4 a5 o0 o1 o2 o3 o4 o5
  exact walk_of (G_ringlaw5_IrqSays_ok n a0 a1 a2 a3 a4 a5 true hn) (RT_cons r0 (RT_cons r1 (RT_cons r2 (RT_cons r3 (RT_cons r4 (RT_cons r5 RT_nil))))))
/- FRAME IrqSays; ringhall/ringlaw5.IrqSays; (.int .i64) | (.int .i64) | (.int .i64) | (.int .i64) | (.int .i64) | .bool; .int .i64 0 | .int .i64 0 | .int .i64 0 | .int .i64 0 | .int .i64 0 | .bool false -/
end Go.Proofs.YtccmjndnjpjohaaR.pv
