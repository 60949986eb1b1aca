/- What the functions compute, as functions over plain data, with their contracts: written by gen.py. -/
import Derived.Test.YtnmpnljjaoddhaaProg
import Derived.Test.YtnmpnljjaoddhaaQr
import Derived.Test.YtnmpnljjaoddhaaSc
set_option maxRecDepth 100000
set_option linter.all false
namespace Go.Proofs.Ytnmpnljjaoddhaa.pv
open Go.RowKit
def TT : List TI := [
⟨1, 0, .oth, []⟩,
⟨1, 8, .oth, [.nf]⟩,
⟨1, 8, .int .i64, [.i .i64]⟩,
⟨1, 8, .int .i64, [.i .i64]⟩,
⟨1, 1, .bool, [.b]⟩,
⟨1, 1, .int .u8, [.i .u8]⟩,
⟨1, 1, .int .u8, [.i .u8]⟩,
⟨4, 24, .st [(0, 2), (1, 3), (2, 4), (3, 6)], [.i .i64, .i .i64, .b, .i .u8]⟩,
⟨4, 24, .st [(0, 2), (1, 3), (2, 4), (3, 6)], [.i .i64, .i .i64, .b, .i .u8]⟩,
⟨1, 16, .str, [.s]⟩,
⟨1, 16, .str, [.s]⟩,
⟨1, 16, .str, [.s]⟩,
⟨1, 8, .int .u64, [.i .u64]⟩,
⟨2, 24, .st [(0, 9), (1, 12)], [.s, .i .u64]⟩,
⟨2, 24, .st [(0, 9), (1, 12)], [.s, .i .u64]⟩,
⟨1, 8, .oth, [.np]⟩,
⟨1, 8, .oth, [.np]⟩,
⟨1, 8, .oth, [.np]⟩,
⟨1, 8, .st [(0, 17)], [.np]⟩,
⟨1, 8, .st [(0, 17)], [.np]⟩,
⟨1, 16, .oth, [.ni]⟩,
⟨1, 4, .int .i32, [.i .i32]⟩,
⟨1, 24, .sl 3, [.sl]⟩,
⟨1, 8, .int .i64, [.i .i64]⟩,
⟨1, 0, .oth, []⟩,
⟨1, 8, .oth, [.nf]⟩,
⟨1, 8, .oth, [.nf]⟩,
⟨1, 8, .oth, [.nf]⟩,
⟨1, 8, .oth, [.nf]⟩,
⟨1, 8, .oth, [.nf]⟩,
⟨6, 48, .st [(0, 3), (1, 3), (2, 3), (3, 3), (4, 3), (5, 3)], [.i .i64, .i .i64, .i .i64, .i .i64, .i .i64, .i .i64]⟩,
⟨6, 48, .st [(0, 3), (1, 3), (2, 3), (3, 3), (4, 3), (5, 3)], [.i .i64, .i .i64, .i .i64, .i .i64, .i .i64, .i .i64]⟩,
⟨6, 64, .st [(0, 3), (1, 3), (2, 22), (3, 3), (4, 3), (5, 3)], [.i .i64, .i .i64, .sl, .i .i64, .i .i64, .i .i64]⟩,
⟨6, 64, .st [(0, 3), (1, 3), (2, 22), (3, 3), (4, 3), (5, 3)], [.i .i64, .i .i64, .sl, .i .i64, .i .i64, .i .i64]⟩,
⟨1, 8, .oth, [.nf]⟩,
⟨1, 0, .oth, []⟩,
⟨1, 8, .oth, [.nf]⟩,
⟨1, 0, .oth, []⟩,
⟨1, 8, .oth, [.nf]⟩,
⟨1, 8, .oth, [.nf]⟩,
⟨1, 8, .oth, [.nf]⟩,
⟨1, 8, .oth, [.nf]⟩,
⟨1, 8, .oth, [.nf]⟩,
⟨1, 8, .oth, [.nf]⟩,
⟨1, 8, .oth, [.nf]⟩,
⟨1, 24, .sl 51, [.sl]⟩,
⟨2, 32, .st [(0, 4), (1, 45)], [.b, .sl]⟩,
⟨2, 32, .st [(0, 4), (1, 45)], [.b, .sl]⟩,
⟨16, 256, .arr 8 47, (List.replicate 8 [.b, .sl]).flatten⟩,
⟨16, 256, .arr 8 47, (List.replicate 8 [.b, .sl]).flatten⟩,
⟨7, 32, .st [(0, 4), (1, 4), (2, 3), (3, 3), (4, 4), (5, 4), (6, 4)], [.b, .b, .i .i64, .i .i64, .b, .b, .b]⟩,
⟨7, 32, .st [(0, 4), (1, 4), (2, 3), (3, 3), (4, 4), (5, 4), (6, 4)], [.b, .b, .i .i64, .i .i64, .b, .b, .b]⟩,
⟨1, 0, .oth, []⟩,
⟨1, 8, .oth, [.nf]⟩,
⟨1, 0, .oth, []⟩,
⟨1, 8, .oth, [.nf]⟩,
⟨1, 8, .oth, [.nf]⟩,
⟨1, 0, .oth, []⟩,
⟨1, 8, .oth, [.nf]⟩,
⟨1, 8, .oth, [.nf]⟩,
⟨448, 2048, .arr 64 51, (List.replicate 64 [.b, .b, .i .i64, .i .i64, .b, .b, .b]).flatten⟩,
⟨448, 2048, .arr 64 51, (List.replicate 64 [.b, .b, .i .i64, .i .i64, .b, .b, .b]).flatten⟩,
⟨1, 8, .oth, [.nf]⟩,
⟨1, 8, .oth, [.nf]⟩,
⟨1, 8, .oth, [.nf]⟩,
⟨1, 8, .oth, [.nf]⟩,
⟨1, 8, .oth, [.nf]⟩,
⟨1, 8, .oth, [.nf]⟩,
⟨1, 8, .oth, [.nf]⟩,
⟨1, 24, .sl 78, [.sl]⟩,
⟨1, 8, .oth, [.nf]⟩,
⟨1, 0, .oth, []⟩,
⟨1, 8, .oth, [.nf]⟩,
⟨1, 8, .oth, [.nf]⟩,
⟨1, 0, .oth, []⟩,
⟨1, 8, .oth, [.nf]⟩,
⟨1, 24, .sl 79, [.sl]⟩,
⟨2, 16, .st [(0, 3), (1, 3)], [.i .i64, .i .i64]⟩,
⟨2, 16, .st [(0, 3), (1, 3)], [.i .i64, .i .i64]⟩,
⟨2, 16, .arr 2 3, [.i .i64, .i .i64]⟩,
⟨1, 8, .oth, [.nf]⟩,
⟨1, 8, .oth, [.nf]⟩,
⟨1, 8, .oth, [.nf]⟩,
⟨1, 8, .oth, [.nf]⟩,
⟨1, 8, .oth, [.nf]⟩,
⟨1, 8, .oth, [.nf]⟩,
⟨1, 8, .oth, [.nf]⟩,
⟨1, 8, .oth, [.nf]⟩,
⟨1, 8, .oth, [.nf]⟩,
⟨1, 8, .oth, [.nf]⟩,
⟨1, 8, .oth, [.nf]⟩,
⟨1, 24, .sl 95, [.sl]⟩,
⟨2, 32, .st [(0, 91), (1, 3)], [.sl, .i .i64]⟩,
⟨2, 32, .st [(0, 91), (1, 3)], [.sl, .i .i64]⟩,
⟨3, 16, .st [(0, 3), (1, 4), (2, 4)], [.i .i64, .b, .b]⟩,
⟨3, 16, .st [(0, 3), (1, 4), (2, 4)], [.i .i64, .b, .b]⟩,
⟨1, 0, .oth, []⟩,
⟨1, 8, .oth, [.nf]⟩,
⟨1, 8, .oth, [.nf]⟩,
⟨1, 0, .oth, []⟩,
⟨1, 8, .oth, [.nf]⟩,
⟨1, 8, .oth, [.nf]⟩,
⟨1, 8, .oth, [.nf]⟩,
⟨1, 8, .oth, [.nf]⟩,
⟨1, 8, .oth, [.nf]⟩,
⟨1, 0, .oth, []⟩,
⟨1, 8, .oth, [.nf]⟩,
⟨1, 8, .oth, [.nf]⟩,
⟨1, 24, .sl 110, [.sl]⟩,
⟨3, 24, .st [(0, 3), (1, 3), (2, 3)], [.i .i64, .i .i64, .i .i64]⟩,
⟨3, 24, .st [(0, 3), (1, 3), (2, 3)], [.i .i64, .i .i64, .i .i64]⟩,
⟨1, 0, .oth, []⟩,
⟨1, 8, .oth, [.nf]⟩,
⟨1, 8, .oth, [.nf]⟩,
⟨1, 0, .oth, []⟩,
⟨1, 8, .oth, [.nf]⟩,
⟨1, 8, .oth, [.nf]⟩,
⟨1, 8, .oth, [.nf]⟩,
⟨64, 512, .arr 64 3, List.replicate 64 (.i .i64)⟩,
⟨64, 512, .arr 64 3, List.replicate 64 (.i .i64)⟩,
⟨1, 8, .oth, [.nf]⟩,
⟨1, 8, .oth, [.nf]⟩,
⟨1, 8, .oth, [.nf]⟩,
⟨1, 8, .oth, [.nf]⟩,
⟨1, 8, .oth, [.nf]⟩,
⟨1, 8, .oth, [.nf]⟩,
⟨1, 8, .oth, [.nf]⟩,
⟨1, 24, .sl 138, [.sl]⟩,
⟨2, 32, .st [(0, 3), (1, 127)], [.i .i64, .sl]⟩,
⟨2, 32, .st [(0, 3), (1, 127)], [.i .i64, .sl]⟩,
⟨1, 0, .oth, []⟩,
⟨1, 8, .oth, [.nf]⟩,
⟨1, 0, .oth, []⟩,
⟨1, 8, .oth, [.nf]⟩,
⟨1, 8, .oth, [.nf]⟩,
⟨1, 8, .oth, [.nf]⟩,
⟨1, 8, .oth, [.nf]⟩,
⟨2, 16, .st [(0, 3), (1, 3)], [.i .i64, .i .i64]⟩,
⟨2, 16, .st [(0, 3), (1, 3)], [.i .i64, .i .i64]⟩,
⟨1, 8, .oth, [.nf]⟩,
⟨64, 64, .arr 64 4, List.replicate 64 (.b)⟩,
⟨1, 8, .oth, [.nf]⟩,
⟨1, 8, .oth, [.nf]⟩,
⟨1, 8, .oth, [.nf]⟩,
⟨1, 8, .oth, [.nf]⟩,
⟨1, 0, .oth, []⟩,
⟨1, 8, .oth, [.nf]⟩,
⟨1, 8, .oth, [.nf]⟩,
⟨1, 8, .oth, [.nf]⟩,
⟨1, 8, .oth, [.nf]⟩,
⟨1, 8, .oth, [.nf]⟩,
⟨1, 8, .oth, [.nf]⟩,
⟨1, 8, .oth, [.nf]⟩,
⟨3, 24, .st [(0, 4), (1, 3), (2, 3)], [.b, .i .i64, .i .i64]⟩,
⟨3, 24, .st [(0, 4), (1, 3), (2, 3)], [.b, .i .i64, .i .i64]⟩,
⟨1, 24, .sl 154, [.sl]⟩,
⟨1, 8, .oth, [.nf]⟩,
⟨1, 8, .oth, [.nf]⟩,
⟨1, 8, .oth, [.nf]⟩,
⟨1, 8, .oth, [.nf]⟩,
⟨1, 8, .oth, [.nf]⟩,
⟨1, 8, .oth, [.nf]⟩,
⟨1, 8, .oth, [.nf]⟩,
⟨1, 8, .oth, [.nf]⟩,
⟨1, 0, .oth, []⟩,
⟨1, 8, .oth, [.nf]⟩,
⟨1, 8, .oth, [.nf]⟩,
⟨1, 8, .oth, [.nf]⟩,
⟨1, 24, .sl 69, [.sl]⟩,
⟨1, 8, .oth, [.nf]⟩,
⟨1, 8, .oth, [.nf]⟩,
⟨1, 8, .oth, [.nf]⟩,
⟨1, 8, .oth, [.nf]⟩,
⟨1, 8, .oth, [.nf]⟩,
⟨1, 8, .oth, [.nf]⟩,
⟨1, 8, .oth, [.nf]⟩,
⟨1, 8, .oth, [.np]⟩,
⟨1, 8, .oth, [.nf]⟩,
⟨1, 8, .oth, [.nf]⟩,
⟨1, 8, .oth, [.nf]⟩,
⟨1, 8, .oth, [.nf]⟩,
⟨1, 8, .oth, [.nf]⟩,
⟨1, 8, .oth, [.nf]⟩,
⟨1, 8, .oth, [.nf]⟩,
⟨1, 8, .oth, [.nf]⟩,
⟨1, 8, .oth, [.nf]⟩,
⟨1, 8, .oth, [.nf]⟩,
⟨1, 8, .oth, [.nf]⟩,
⟨1, 8, .oth, [.nf]⟩,
⟨1, 8, .oth, [.nf]⟩,
⟨1, 8, .oth, [.nf]⟩,
⟨1, 8, .oth, [.nf]⟩,
⟨1, 8, .oth, [.nf]⟩,
⟨1, 8, .int .u64, [.i .u64]⟩,
⟨1, 8, .oth, [.nf]⟩,
⟨1, 8, .oth, [.nf]⟩,
⟨1, 8, .oth, [.nf]⟩,
⟨1, 8, .oth, [.nf]⟩,
⟨1, 8, .oth, [.nf]⟩,
⟨1, 8, .oth, [.nf]⟩,
⟨1, 8, .oth, [.nf]⟩,
⟨1, 8, .oth, [.nf]⟩,
⟨1, 8, .oth, [.nf]⟩,
⟨1, 8, .oth, [.np]⟩,
⟨1, 8, .oth, [.nf]⟩,
⟨1, 8, .oth, [.nf]⟩,
⟨1, 8, .oth, [.nf]⟩,
⟨1, 8, .oth, [.nf]⟩,
⟨4, 40, .st [(0, 17), (1, 17), (2, 17), (3, 9)], [.np, .np, .np, .s]⟩,
⟨4, 40, .st [(0, 17), (1, 17), (2, 17), (3, 9)], [.np, .np, .np, .s]⟩,
⟨0, 0, .arr 0 16, []⟩,
⟨0, 0, .st [(0, 210)], []⟩,
⟨0, 0, .st [(0, 210)], []⟩,
⟨1, 8, .oth, [.nf]⟩,
⟨1, 4, .int .u32, [.i .u32]⟩,
⟨1, 1, .int .u8, [.i .u8]⟩,
⟨1, 1, .int .u8, [.i .u8]⟩,
⟨1, 8, .oth, [.nf]⟩,
⟨1, 8, .oth, [.np]⟩,
⟨1, 4, .int .i32, [.i .i32]⟩,
⟨1, 4, .int .i32, [.i .i32]⟩,
⟨11, 48, .st [(0, 12), (1, 12), (2, 214), (3, 215), (4, 5), (5, 5), (6, 216), (7, 217), (8, 218), (9, 219), (10, 220)], [.i .u64, .i .u64, .i .u32, .i .u8, .i .u8, .i .u8, .i .u8, .nf, .np, .i .i32, .i .i32]⟩,
⟨11, 48, .st [(0, 12), (1, 12), (2, 214), (3, 215), (4, 5), (5, 5), (6, 216), (7, 217), (8, 218), (9, 219), (10, 220)], [.i .u64, .i .u64, .i .u32, .i .u8, .i .u8, .i .u8, .i .u8, .nf, .np, .i .i32, .i .i32]⟩,
⟨1, 8, .oth, [.np]⟩]
theorem TTok : TOk Try.prog TT := by unfold TOk; kernel_rfl
theorem mix : Try.prog.follows .mixedOrders = true := by kernel_rfl
structure S_api_Stat where
  fKind : Int
  fMode : Int
  fUser : Int
  fGroup : Int
  fSize : Int
  fLinks : Int
def eS_api_Stat (x : S_api_Stat) : PV := .agg [.v (.int .i64 x.fKind), .v (.int .i64 x.fMode), .v (.int .i64 x.fUser), .v (.int .i64 x.fGroup), .v (.int .i64 x.fSize), .v (.int .i64 x.fLinks)]
structure S_api_Cred where
  fUser : Int
  fGroup : Int
  fMore : (List Int)
  fCaps : Int
  fLevel : Int
  fKind : Int
def eS_api_Cred (x : S_api_Cred) : PV := .agg [.v (.int .i64 x.fUser), .v (.int .i64 x.fGroup), .sl (x.fMore.map (eI .i64)), .v (.int .i64 x.fCaps), .v (.int .i64 x.fLevel), .v (.int .i64 x.fKind)]
structure S_mode_Entry where
  fGroup : Bool
  fId : Int
  fMay : Int
def eS_mode_Entry (x : S_mode_Entry) : PV := .agg [.v (.bool x.fGroup), .v (.int .i64 x.fId), .v (.int .i64 x.fMay)]
def eqS_api_Stat (x y : S_api_Stat) : Bool := ((x.fKind == y.fKind) && ((x.fMode == y.fMode) && ((x.fUser == y.fUser) && ((x.fGroup == y.fGroup) && ((x.fSize == y.fSize) && ((x.fLinks == y.fLinks) && true))))))
theorem eqS_api_Stat_ok (x y : S_api_Stat) : EqA Try.prog 31 [((.int .i64 x.fKind)), ((.int .i64 x.fMode)), ((.int .i64 x.fUser)), ((.int .i64 x.fGroup)), ((.int .i64 x.fSize)), ((.int .i64 x.fLinks))] [((.int .i64 y.fKind)), ((.int .i64 y.fMode)), ((.int .i64 y.fUser)), ((.int .i64 y.fGroup)), ((.int .i64 y.fSize)), ((.int .i64 y.fLinks))] (eqS_api_Stat x y) := eqA_of TTok (by kernel_rfl) (by kernel_rfl) (by kernel_rfl)
inductive G_cred_Check_L1_R where
  | x0 (v_x13 : Int)
  | x1 
def G_cred_Check_L1_ex : G_cred_Check_L1_R → Ex
  | .x0 _ => .ret
  | .x1  => .exit 0
def G_cred_Check_L1_st (v_c9 : S_api_Cred) : G_cred_Check_L1_R → PS
  | .x0 v_x13 => ⟨[dd, dd, .d (.v (.int .i64 v_x13)), dd, dd, dd, dd, dd, dd, dd, dd, dd, dd, dd, dd, dd, dd, dd, dd, dd, dd, dd, dd, dd, dd, dd, dd, dd, dd, dd, dd, dd, dd, dd, dd, dd, dd, dd, dd, dd, dd, dd, dd, dd, dd, dd, dd, dd, dd, dd, dd, dd, dd, dd, dd, dd, dd, dd, dd, dd, dd, dd, dd, dd, dd, dd, dd, dd, dd, dd, dd, dd, dd, dd, dd, dd, dd, dd, dd, dd, dd, dd, dd], []⟩
  | .x1  => ⟨[dd, .ref 0 0, dd, dd, dd, dd, dd, dd, dd, dd, dd, dd, dd, dd, dd, dd, dd, dd, dd, dd, dd, dd, dd, dd, dd, dd, dd, dd, dd, dd, dd, dd, dd, dd, dd, dd, dd, dd, dd, dd, dd, dd, dd, dd, dd, dd, dd, dd, dd, dd, dd, dd, dd, dd, dd, dd, dd, dd, dd, dd, dd, dd, dd, dd, dd, dd, dd, dd, dd, dd, dd, dd, dd, dd, dd, dd, dd, dd, dd, dd, dd, dd, dd], [.box [.d (.v (.int .i64 v_c9.fUser)), .d (.v (.int .i64 v_c9.fGroup)), .d (.sl (v_c9.fMore.map (eI .i64))), .d (.v (.int .i64 v_c9.fCaps)), .d (.v (.int .i64 v_c9.fLevel)), .d (.v (.int .i64 v_c9.fKind))]]⟩
def G_cred_Check_L1_hd (v_c9 : S_api_Cred) (v_x10 : Int) : PS := ⟨[dd, .ref 0 0, dd, dd, dd, dd, dd, dd, dd, dd, dd, .d (.sl (([v_c9.fUser, v_c9.fGroup]).map (eI .i64))), .d (.v (.int .i64 (([v_c9.fUser, v_c9.fGroup]).length : Int))), .d (.v (.int .i64 v_x10)), dd, dd, dd, dd, dd, dd, dd, dd, dd, dd, dd, dd, dd, dd, dd, dd, dd, dd, dd, dd, dd, dd, dd, dd, dd, dd, dd, dd, dd, dd, dd, dd, dd, dd, dd, dd, dd, dd, dd, dd, dd, dd, dd, dd, dd, dd, dd, dd, dd, dd, dd, dd, dd, dd, dd, dd, dd, dd, dd, dd, dd, dd, dd, dd, dd, dd, dd, dd, dd], [.box [.d (.v (.int .i64 v_c9.fUser)), .d (.v (.int .i64 v_c9.fGroup)), .d (.sl (v_c9.fMore.map (eI .i64))), .d (.v (.int .i64 v_c9.fCaps)), .d (.v (.int .i64 v_c9.fLevel)), .d (.v (.int .i64 v_c9.fKind))]]⟩
def G_cred_Check_L1 (n : Nat) (v_c9 : S_api_Cred) : Nat → Int → Option G_cred_Check_L1_R
  | 0, _ => none
  | k + 1, v_x10 =>
    if v_x10 < (([v_c9.fUser, v_c9.fGroup]).length : Int) then
     (getI ([v_c9.fUser, v_c9.fGroup]) v_x10).bind fun (v_y12 : Int) =>
     if v_y12 < 0 then
      some (.x0 1)
     else
      if v_y12 > 99 then
       some (.x0 1)
      else
       G_cred_Check_L1 n v_c9 k (wi .i64 (v_x10 + 1))
    else
     some (.x1 )
theorem G_cred_Check_L1_ok {Fi : Ex → PS → Prop} (hF : KC 83 Fi) (ks : List Fr) (n : Nat) (v_c9 : S_api_Cred)  : ∀ (k : Nat) (v_x10 : Int) (o : G_cred_Check_L1_R), G_cred_Check_L1 n v_c9 k v_x10 = some o → RunE Try.prog 83 Fi ks (G_cred_Check_L1_ex o) (G_cred_Check_L1_st v_c9 o) → RunE Try.prog 83 Fi (.l k (cP (cB (cR (cL (cR (bodyOf Try.f97)))))) :: ks) .normal (G_cred_Check_L1_hd v_c9 v_x10)
  | 0, v_x10, o, h, q => by rw [G_cred_Check_L1] at h; cases h
  | k + 1, v_x10, o, h, q => by
    rw [G_cred_Check_L1] at h
    by_cases h1 : v_x10 < (([v_c9.fUser, v_c9.fGroup]).length : Int)
    · rw [if_pos h1] at h
      obtain ⟨v_y12, h5, h⟩ := bind_some h
      by_cases h6 : v_y12 < 0
      · rw [if_pos h6] at h
        cases h
        exact pkk_sound TTok mix hF 19 (hs := [.t true, .y ((eI .i64) v_y12), .c, .t true, .c, .c]) (ts := []) (s := []) (l := [2]) (by kernel_rfl) (by kernel_rfl) (.cons (dt h1) (.cons (getI_ob (f := (eI .i64)) h5) (.cons (dt h6) .nil))) q
      · rw [if_neg h6] at h
        by_cases h7 : v_y12 > 99
        · rw [if_pos h7] at h
          cases h
          exact pkk_sound TTok mix hF 19 (hs := [.t true, .y ((eI .i64) v_y12), .c, .t false, .c, .t true]) (ts := []) (s := []) (l := [2]) (by kernel_rfl) (by kernel_rfl) (.cons (dt h1) (.cons (getI_ob (f := (eI .i64)) h5) (.cons (df h6) (.cons (dt h7) .nil)))) q
        · rw [if_neg h7] at h
          exact pkk_sound TTok mix hF 16 (hs := [.t true, .y ((eI .i64) v_y12), .c, .t false, .c, .t false]) (ts := []) (s := [0]) (l := [1, 11, 12, 13]) (by kernel_rfl) (by kernel_rfl) (.cons (dt h1) (.cons (getI_ob (f := (eI .i64)) h5) (.cons (df h6) (.cons (df h7) .nil)))) (G_cred_Check_L1_ok hF ks n v_c9 k (wi .i64 (v_x10 + 1)) _ h q)
    · rw [if_neg h1] at h
      cases h
      exact pkk_sound TTok mix hF 8 (hs := [.t false]) (ts := []) (s := [0]) (l := [1]) (by kernel_rfl) (by kernel_rfl) (.cons (df h1) .nil) q
inductive G_cred_Check_L2_R where
  | x0 (v_x22 : Int)
  | x1 
def G_cred_Check_L2_ex : G_cred_Check_L2_R → Ex
  | .x0 _ => .ret
  | .x1  => .exit 2
def G_cred_Check_L2_st (v_c9 : S_api_Cred) : G_cred_Check_L2_R → PS
  | .x0 v_x22 => ⟨[dd, dd, .d (.v (.int .i64 v_x22)), dd, dd, dd, dd, dd, dd, dd, dd, dd, dd, dd, dd, dd, dd, dd, dd, dd, dd, dd, dd, dd, dd, dd, dd, dd, dd, dd, dd, dd, dd, dd, dd, dd, dd, dd, dd, dd, dd, dd, dd, dd, dd, dd, dd, dd, dd, dd, dd, dd, dd, dd, dd, dd, dd, dd, dd, dd, dd, dd, dd, dd, dd, dd, dd, dd, dd, dd, dd, dd, dd, dd, dd, dd, dd, dd, dd, dd, dd, dd, dd], []⟩
  | .x1  => ⟨[dd, .ref 0 0, dd, dd, dd, dd, dd, dd, dd, dd, dd, dd, dd, dd, dd, dd, dd, dd, dd, dd, dd, dd, dd, dd, dd, dd, dd, dd, dd, dd, dd, dd, dd, dd, dd, dd, dd, dd, dd, dd, dd, dd, dd, dd, dd, dd, dd, dd, dd, dd, dd, dd, dd, dd, dd, dd, dd, dd, dd, dd, dd, dd, dd, dd, dd, dd, dd, dd, dd, dd, dd, dd, dd, dd, dd, dd, dd, dd, dd, dd, dd, dd, dd], [.box [.d (.v (.int .i64 v_c9.fUser)), .d (.v (.int .i64 v_c9.fGroup)), .d (.sl (v_c9.fMore.map (eI .i64))), .d (.v (.int .i64 v_c9.fCaps)), .d (.v (.int .i64 v_c9.fLevel)), .d (.v (.int .i64 v_c9.fKind))]]⟩
def G_cred_Check_L2_hd (v_c9 : S_api_Cred) (v_x17 : Int) : PS := ⟨[dd, .ref 0 0, dd, dd, dd, dd, dd, dd, dd, dd, dd, dd, dd, dd, dd, dd, dd, dd, dd, dd, dd, dd, dd, dd, dd, dd, dd, dd, dd, .d (.sl (v_c9.fMore.map (eI .i64))), .d (.v (.int .i64 (v_c9.fMore.length : Int))), .d (.v (.int .i64 v_x17)), dd, dd, dd, dd, dd, dd, dd, dd, dd, dd, dd, dd, dd, dd, dd, dd, dd, dd, dd, dd, dd, dd, dd, dd, dd, dd, dd, dd, dd, dd, dd, dd, dd, dd, dd, dd, dd, dd, dd, dd, dd, dd, dd, dd, dd, dd, dd, dd, dd, dd, dd], [.box [.d (.v (.int .i64 v_c9.fUser)), .d (.v (.int .i64 v_c9.fGroup)), .d (.sl (v_c9.fMore.map (eI .i64))), .d (.v (.int .i64 v_c9.fCaps)), .d (.v (.int .i64 v_c9.fLevel)), .d (.v (.int .i64 v_c9.fKind))]]⟩
def G_cred_Check_L2 (n : Nat) (v_c9 : S_api_Cred) : Nat → Int → Option G_cred_Check_L2_R
  | 0, _ => none
  | k + 1, v_x17 =>
    if v_x17 < (v_c9.fMore.length : Int) then
     (getI v_c9.fMore v_x17).bind fun (v_y21 : Int) =>
     if v_y21 < 0 then
      some (.x0 1)
     else
      if v_y21 > 99 then
       some (.x0 1)
      else
       if v_x17 > 0 then
        (getI v_c9.fMore (wi .i64 (v_x17 - 1))).bind fun (v_y25 : Int) =>
        if v_y21 ≤ v_y25 then
         some (.x0 3)
        else
         G_cred_Check_L2 n v_c9 k (wi .i64 (v_x17 + 1))
       else
        G_cred_Check_L2 n v_c9 k (wi .i64 (v_x17 + 1))
    else
     some (.x1 )
theorem G_cred_Check_L2_ok {Fi : Ex → PS → Prop} (hF : KC 83 Fi) (ks : List Fr) (n : Nat) (v_c9 : S_api_Cred)  : ∀ (k : Nat) (v_x17 : Int) (o : G_cred_Check_L2_R), G_cred_Check_L2 n v_c9 k v_x17 = some o → RunE Try.prog 83 Fi ks (G_cred_Check_L2_ex o) (G_cred_Check_L2_st v_c9 o) → RunE Try.prog 83 Fi (.l k (cP (cB (cR (cL (cR (cR (cR (bodyOf Try.f97)))))))) :: ks) .normal (G_cred_Check_L2_hd v_c9 v_x17)
  | 0, v_x17, o, h, q => by rw [G_cred_Check_L2] at h; cases h
  | k + 1, v_x17, o, h, q => by
    rw [G_cred_Check_L2] at h
    by_cases h10 : v_x17 < (v_c9.fMore.length : Int)
    · rw [if_pos h10] at h
      obtain ⟨v_y21, h19, h⟩ := bind_some h
      by_cases h20 : v_y21 < 0
      · rw [if_pos h20] at h
        cases h
        exact pkk_sound TTok mix hF 21 (hs := [.t true, .y ((eI .i64) v_y21), .c, .t true, .c, .c]) (ts := []) (s := []) (l := [2]) (by kernel_rfl) (by kernel_rfl) (.cons (dt h10) (.cons (getI_ob (f := (eI .i64)) h19) (.cons (dt h20) .nil))) q
      · rw [if_neg h20] at h
        by_cases h21 : v_y21 > 99
        · rw [if_pos h21] at h
          cases h
          exact pkk_sound TTok mix hF 21 (hs := [.t true, .y ((eI .i64) v_y21), .c, .t false, .c, .t true]) (ts := []) (s := []) (l := [2]) (by kernel_rfl) (by kernel_rfl) (.cons (dt h10) (.cons (getI_ob (f := (eI .i64)) h19) (.cons (df h20) (.cons (dt h21) .nil)))) q
        · rw [if_neg h21] at h
          by_cases h24 : v_x17 > 0
          · rw [if_pos h24] at h
            obtain ⟨v_y25, h25, h⟩ := bind_some h
            by_cases h26 : v_y21 ≤ v_y25
            · rw [if_pos h26] at h
              cases h
              exact pkk_sound TTok mix hF 24 (hs := [.t true, .y ((eI .i64) v_y21), .c, .t false, .c, .t false, .t true, .c, .c, .c, .c, .c, .c, .y ((eI .i64) v_y25), .c, .c, .c, .t true]) (ts := []) (s := []) (l := [2]) (by kernel_rfl) (by kernel_rfl) (.cons (dt h10) (.cons (getI_ob (f := (eI .i64)) h19) (.cons (df h20) (.cons (df h21) (.cons (dt h24) (.cons (getI_ob (f := (eI .i64)) h25) (.cons (dt h26) .nil))))))) q
            · rw [if_neg h26] at h
              exact pkk_sound TTok mix hF 21 (hs := [.t true, .y ((eI .i64) v_y21), .c, .t false, .c, .t false, .t true, .c, .c, .c, .c, .c, .c, .y ((eI .i64) v_y25), .c, .c, .c, .t false]) (ts := []) (s := [0]) (l := [1, 29, 30, 31]) (by kernel_rfl) (by kernel_rfl) (.cons (dt h10) (.cons (getI_ob (f := (eI .i64)) h19) (.cons (df h20) (.cons (df h21) (.cons (dt h24) (.cons (getI_ob (f := (eI .i64)) h25) (.cons (df h26) .nil))))))) (G_cred_Check_L2_ok hF ks n v_c9 k (wi .i64 (v_x17 + 1)) _ h q)
          · rw [if_neg h24] at h
            exact pkk_sound TTok mix hF 21 (hs := [.t true, .y ((eI .i64) v_y21), .c, .t false, .c, .t false, .t false, .c, .c, .c, .c, .c, .c, .c, .c]) (ts := []) (s := [0]) (l := [1, 29, 30, 31]) (by kernel_rfl) (by kernel_rfl) (.cons (dt h10) (.cons (getI_ob (f := (eI .i64)) h19) (.cons (df h20) (.cons (df h21) (.cons (df h24) .nil))))) (G_cred_Check_L2_ok hF ks n v_c9 k (wi .i64 (v_x17 + 1)) _ h q)
    · rw [if_neg h10] at h
      cases h
      exact pkk_sound TTok mix hF 8 (hs := [.t false]) (ts := []) (s := [0]) (l := [1]) (by kernel_rfl) (by kernel_rfl) (.cons (df h10) .nil) q
inductive G_cred_Check_C3_R where
  | x0 (v_x29 : Bool)
def G_cred_Check_C3_ex : G_cred_Check_C3_R → Ex
  | .x0 _ => .normal
def G_cred_Check_C3_st (v_c9 : S_api_Cred) : G_cred_Check_C3_R → PS
  | .x0 v_x29 => ⟨[dd, dd, dd, dd, dd, dd, dd, dd, dd, dd, dd, dd, dd, dd, dd, dd, dd, dd, dd, dd, dd, dd, dd, dd, dd, dd, dd, dd, dd, dd, dd, dd, dd, dd, dd, dd, dd, dd, dd, dd, dd, dd, dd, dd, dd, dd, dd, dd, dd, dd, dd, dd, dd, dd, dd, dd, dd, dd, dd, dd, dd, dd, dd, dd, dd, dd, dd, dd, dd, dd, dd, dd, dd, dd, dd, dd, dd, dd, dd, dd, dd, dd, .d (.v (.bool v_x29))], []⟩
def G_cred_Check_C3_hd (v_c9 : S_api_Cred)  : PS := ⟨[dd, .ref 0 0, dd, dd, dd, dd, dd, dd, dd, dd, dd, dd, dd, dd, dd, dd, dd, dd, dd, dd, dd, dd, dd, dd, dd, dd, dd, dd, dd, dd, dd, dd, dd, dd, dd, dd, dd, dd, dd, dd, dd, dd, dd, dd, dd, dd, dd, dd, dd, dd, dd, dd, dd, dd, dd, dd, dd, dd, dd, dd, dd, dd, dd, dd, dd, dd, dd, dd, dd, dd, dd, dd, dd, dd, dd, dd, dd, dd, dd, dd, dd, dd, dd], [.box [.d (.v (.int .i64 v_c9.fUser)), .d (.v (.int .i64 v_c9.fGroup)), .d (.sl (v_c9.fMore.map (eI .i64))), .d (.v (.int .i64 v_c9.fCaps)), .d (.v (.int .i64 v_c9.fLevel)), .d (.v (.int .i64 v_c9.fKind))]]⟩
def G_cred_Check_C3 (n : Nat) (v_c9 : S_api_Cred) : Option G_cred_Check_C3_R :=
  if v_c9.fCaps < 0 then
   some (.x0 true)
  else
   if v_c9.fCaps > 127 then
    some (.x0 true)
   else
    if v_c9.fLevel < 0 then
     some (.x0 true)
    else
     if v_c9.fLevel > 7 then
      some (.x0 true)
     else
      if v_c9.fKind < 0 then
       some (.x0 true)
      else
       some (.x0 (decide (v_c9.fKind > 255)))
theorem G_cred_Check_C3_ok {Fi : Ex → PS → Prop} (hF : KC 83 Fi) (ks : List Fr) (n : Nat) (v_c9 : S_api_Cred)  (o : G_cred_Check_C3_R) (h : G_cred_Check_C3 n v_c9 = some o) (q : RunE Try.prog 83 Fi ks (G_cred_Check_C3_ex o) (G_cred_Check_C3_st v_c9 o)) : RunE Try.prog 83 Fi (.s (cL (cL (cR (cR (cR (cR (bodyOf Try.f97))))))) :: ks) .normal (G_cred_Check_C3_hd v_c9) := by
  unfold G_cred_Check_C3 at h
  by_cases h33 : v_c9.fCaps < 0
  · rw [if_pos h33] at h
    cases h
    exact pkk_sound TTok mix hF 1 (hs := [.c, .t true, .c, .c, .c, .c, .c, .c, .c, .c, .c, .c, .c, .c, .c, .c]) (ts := []) (s := []) (l := [82]) (by kernel_rfl) (by kernel_rfl) (.cons (dt h33) .nil) q
  · rw [if_neg h33] at h
    by_cases h34 : v_c9.fCaps > 127
    · rw [if_pos h34] at h
      cases h
      exact pkk_sound TTok mix hF 1 (hs := [.c, .t false, .c, .c, .c, .t true, .c, .c, .c, .c, .c, .c, .c, .c, .c, .c, .c]) (ts := []) (s := []) (l := [82]) (by kernel_rfl) (by kernel_rfl) (.cons (df h33) (.cons (dt h34) .nil)) q
    · rw [if_neg h34] at h
      by_cases h35 : v_c9.fLevel < 0
      · rw [if_pos h35] at h
        cases h
        exact pkk_sound TTok mix hF 1 (hs := [.c, .t false, .c, .c, .c, .t false, .c, .c, .c, .t true, .c, .c, .c, .c, .c, .c, .c, .c]) (ts := []) (s := []) (l := [82]) (by kernel_rfl) (by kernel_rfl) (.cons (df h33) (.cons (df h34) (.cons (dt h35) .nil))) q
      · rw [if_neg h35] at h
        by_cases h36 : v_c9.fLevel > 7
        · rw [if_pos h36] at h
          cases h
          exact pkk_sound TTok mix hF 1 (hs := [.c, .t false, .c, .c, .c, .t false, .c, .c, .c, .t false, .c, .c, .c, .t true, .c, .c, .c, .c, .c]) (ts := []) (s := []) (l := [82]) (by kernel_rfl) (by kernel_rfl) (.cons (df h33) (.cons (df h34) (.cons (df h35) (.cons (dt h36) .nil)))) q
        · rw [if_neg h36] at h
          by_cases h37 : v_c9.fKind < 0
          · rw [if_pos h37] at h
            cases h
            exact pkk_sound TTok mix hF 1 (hs := [.c, .t false, .c, .c, .c, .t false, .c, .c, .c, .t false, .c, .c, .c, .t false, .c, .c, .c, .t true, .c, .c]) (ts := []) (s := []) (l := [82]) (by kernel_rfl) (by kernel_rfl) (.cons (df h33) (.cons (df h34) (.cons (df h35) (.cons (df h36) (.cons (dt h37) .nil))))) q
          · rw [if_neg h37] at h
            cases h
            exact pkk_sound TTok mix hF 1 (hs := [.c, .t false, .c, .c, .c, .t false, .c, .c, .c, .t false, .c, .c, .c, .t false, .c, .c, .c, .t false, .c, .c, .c]) (ts := []) (s := []) (l := [82]) (by kernel_rfl) (by kernel_rfl) (.cons (df h33) (.cons (df h34) (.cons (df h35) (.cons (df h36) (.cons (df h37) .nil))))) q
/- ringhall/cred.Check -/
def G_cred_Check (n : Nat) (v_c9 : S_api_Cred) : Option (Int) :=
  (G_cred_Check_L1 n v_c9 n 0).bind fun v_o15 => match v_o15 with
  | .x0 v_z16 =>
    some v_z16
  | .x1  =>
    if (v_c9.fMore.length : Int) > 4 then
     some 2
    else
     (G_cred_Check_L2 n v_c9 n 0).bind fun v_o27 => match v_o27 with
     | .x0 v_z28 =>
       some v_z28
     | .x1  =>
       (G_cred_Check_C3 n v_c9).bind fun v_o35 => match v_o35 with
       | .x0 v_z36 =>
         if v_z36 = true then
          some 1
         else
          some 0
theorem G_cred_Check_ok (n : Nat) (v_c9 : S_api_Cred) (r : Int) (h : G_cred_Check n v_c9 = some r) : Ret Try.prog 97 [eS_api_Cred v_c9] ((eI .i64) r) := by
  refine ret_run (n := 83) (fn := Try.f97) (c := bodyOf Try.f97) (by kernel_rfl) (by kernel_rfl) (by kernel_rfl) (by kernel_rfl) ?_
  have hF : KC 83 (FinR Try.prog Try.f97 ((eI .i64) r)) := FinR.kc' (by kernel_rfl)
  unfold G_cred_Check at h
  obtain ⟨v_o15, h8, h⟩ := bind_some h
  refine pkk_sound TTok mix hF 7 (hs := [.c, .c, .bd, .u (.d (.v (.int .i64 (([v_c9.fUser, v_c9.fGroup]).length : Int)))), .n n]) (ts := []) (s := [0]) (l := [1, 11, 12, 13]) (by kernel_rfl) (by kernel_rfl) (.cons (len_ob (f := (eI .i64)) (l := [v_c9.fUser, v_c9.fGroup])) .nil) (G_cred_Check_L1_ok hF (.b 0 :: .s (cR (cR (bodyOf Try.f97))) :: []) n v_c9 n 0 _ h8 ?_)
  cases v_o15 with
  | x0 v_z16 =>
    dsimp only at h
    obtain rfl := Option.some.inj h
    exact pend_sound TTok mix 2 (hs := []) (by kernel_rfl) (by kernel_rfl) (by kernel_rfl) .nil
  | x1  =>
    dsimp only at h
    by_cases h9 : (v_c9.fMore.length : Int) > 4
    · rw [if_pos h9] at h
      obtain rfl := Option.some.inj h
      exact pend_sound TTok mix 9 (hs := [.c, .u (.d (.v (.int .i64 (v_c9.fMore.length : Int)))), .t true]) (by kernel_rfl) (by kernel_rfl) (by kernel_rfl) (.cons (len_ob (f := (eI .i64)) (l := v_c9.fMore)) (.cons (dt h9) .nil))
    · rw [if_neg h9] at h
      obtain ⟨v_o27, h27, h⟩ := bind_some h
      refine pkk_sound TTok mix hF 11 (hs := [.c, .u (.d (.v (.int .i64 (v_c9.fMore.length : Int)))), .t false, .c, .u (.d (.v (.int .i64 (v_c9.fMore.length : Int)))), .n n]) (ts := []) (s := [0]) (l := [1, 29, 30, 31]) (by kernel_rfl) (by kernel_rfl) (.cons (len_ob (f := (eI .i64)) (l := v_c9.fMore)) (.cons (df h9) (.cons (len_ob (f := (eI .i64)) (l := v_c9.fMore)) .nil))) (G_cred_Check_L2_ok hF (.b 2 :: .s (cR (cR (cR (cR (bodyOf Try.f97))))) :: []) n v_c9 n 0 _ h27 ?_)
      cases v_o27 with
      | x0 v_z28 =>
        dsimp only at h
        obtain rfl := Option.some.inj h
        exact pend_sound TTok mix 2 (hs := []) (by kernel_rfl) (by kernel_rfl) (by kernel_rfl) .nil
      | x1  =>
        dsimp only at h
        obtain ⟨v_o35, h38, h⟩ := bind_some h
        refine pkk_sound TTok mix hF 3 (hs := []) (ts := []) (s := [0]) (l := [1]) (by kernel_rfl) (by kernel_rfl) .nil (G_cred_Check_C3_ok hF (.s (cR (cL (cR (cR (cR (cR (bodyOf Try.f97))))))) :: .s (cR (cR (cR (cR (cR (bodyOf Try.f97)))))) :: []) n v_c9 _ h38 ?_)
        cases v_o35 with
        | x0 v_z36 =>
          dsimp only at h
          by_cases h39 : v_z36 = true
          · rw [if_pos h39] at h
            obtain rfl := Option.some.inj h
            exact pend_sound TTok mix 5 (hs := [.t true]) (by kernel_rfl) (by kernel_rfl) (by kernel_rfl) (.cons h39 .nil)
          · rw [if_neg h39] at h
            obtain rfl := Option.some.inj h
            exact pend_sound TTok mix 5 (hs := [.t false]) (by kernel_rfl) (by kernel_rfl) (by kernel_rfl) (.cons (vf h39) .nil)
inductive G_mode_Check_C1_R where
  | x0 (v_x39 : Bool)
def G_mode_Check_C1_ex : G_mode_Check_C1_R → Ex
  | .x0 _ => .normal
def G_mode_Check_C1_st (v_s38 : S_api_Stat) : G_mode_Check_C1_R → PS
  | .x0 v_x39 => ⟨[dd, dd, dd, dd, dd, dd, dd, dd, dd, dd, dd, dd, dd, dd, dd, dd, dd, dd, dd, dd, dd, dd, dd, dd, dd, dd, dd, dd, dd, dd, .d (.v (.bool v_x39))], []⟩
def G_mode_Check_C1_hd (v_s38 : S_api_Stat)  : PS := ⟨[dd, .ref 0 0, dd, dd, dd, dd, dd, dd, dd, dd, dd, dd, dd, dd, dd, dd, dd, dd, dd, dd, dd, dd, dd, dd, dd, dd, dd, dd, dd, dd, dd], [.box [.d (.v (.int .i64 v_s38.fKind)), .d (.v (.int .i64 v_s38.fMode)), .d (.v (.int .i64 v_s38.fUser)), .d (.v (.int .i64 v_s38.fGroup)), .d (.v (.int .i64 v_s38.fSize)), .d (.v (.int .i64 v_s38.fLinks))]]⟩
def G_mode_Check_C1 (n : Nat) (v_s38 : S_api_Stat) : Option G_mode_Check_C1_R :=
  if v_s38.fMode < 0 then
   some (.x0 true)
  else
   if v_s38.fMode > 511 then
    some (.x0 true)
   else
    if v_s38.fUser < 0 then
     some (.x0 true)
    else
     if v_s38.fUser > 99 then
      some (.x0 true)
     else
      if v_s38.fGroup < 0 then
       some (.x0 true)
      else
       some (.x0 (decide (v_s38.fGroup > 99)))
theorem G_mode_Check_C1_ok {Fi : Ex → PS → Prop} (hF : KC 31 Fi) (ks : List Fr) (n : Nat) (v_s38 : S_api_Stat)  (o : G_mode_Check_C1_R) (h : G_mode_Check_C1 n v_s38 = some o) (q : RunE Try.prog 31 Fi ks (G_mode_Check_C1_ex o) (G_mode_Check_C1_st v_s38 o)) : RunE Try.prog 31 Fi (.s (cL (cL (cR (bodyOf Try.f22)))) :: ks) .normal (G_mode_Check_C1_hd v_s38) := by
  unfold G_mode_Check_C1 at h
  by_cases h48 : v_s38.fMode < 0
  · rw [if_pos h48] at h
    cases h
    exact pkk_sound TTok mix hF 1 (hs := [.c, .t true, .c, .c, .c, .c, .c, .c, .c, .c, .c, .c, .c, .c, .c, .c]) (ts := []) (s := []) (l := [30]) (by kernel_rfl) (by kernel_rfl) (.cons (dt h48) .nil) q
  · rw [if_neg h48] at h
    by_cases h49 : v_s38.fMode > 511
    · rw [if_pos h49] at h
      cases h
      exact pkk_sound TTok mix hF 1 (hs := [.c, .t false, .c, .c, .c, .t true, .c, .c, .c, .c, .c, .c, .c, .c, .c, .c, .c]) (ts := []) (s := []) (l := [30]) (by kernel_rfl) (by kernel_rfl) (.cons (df h48) (.cons (dt h49) .nil)) q
    · rw [if_neg h49] at h
      by_cases h50 : v_s38.fUser < 0
      · rw [if_pos h50] at h
        cases h
        exact pkk_sound TTok mix hF 1 (hs := [.c, .t false, .c, .c, .c, .t false, .c, .c, .c, .t true, .c, .c, .c, .c, .c, .c, .c, .c]) (ts := []) (s := []) (l := [30]) (by kernel_rfl) (by kernel_rfl) (.cons (df h48) (.cons (df h49) (.cons (dt h50) .nil))) q
      · rw [if_neg h50] at h
        by_cases h51 : v_s38.fUser > 99
        · rw [if_pos h51] at h
          cases h
          exact pkk_sound TTok mix hF 1 (hs := [.c, .t false, .c, .c, .c, .t false, .c, .c, .c, .t false, .c, .c, .c, .t true, .c, .c, .c, .c, .c]) (ts := []) (s := []) (l := [30]) (by kernel_rfl) (by kernel_rfl) (.cons (df h48) (.cons (df h49) (.cons (df h50) (.cons (dt h51) .nil)))) q
        · rw [if_neg h51] at h
          by_cases h52 : v_s38.fGroup < 0
          · rw [if_pos h52] at h
            cases h
            exact pkk_sound TTok mix hF 1 (hs := [.c, .t false, .c, .c, .c, .t false, .c, .c, .c, .t false, .c, .c, .c, .t false, .c, .c, .c, .t true, .c, .c]) (ts := []) (s := []) (l := [30]) (by kernel_rfl) (by kernel_rfl) (.cons (df h48) (.cons (df h49) (.cons (df h50) (.cons (df h51) (.cons (dt h52) .nil))))) q
          · rw [if_neg h52] at h
            cases h
            exact pkk_sound TTok mix hF 1 (hs := [.c, .t false, .c, .c, .c, .t false, .c, .c, .c, .t false, .c, .c, .c, .t false, .c, .c, .c, .t false, .c, .c, .c]) (ts := []) (s := []) (l := [30]) (by kernel_rfl) (by kernel_rfl) (.cons (df h48) (.cons (df h49) (.cons (df h50) (.cons (df h51) (.cons (df h52) .nil))))) q
/- ringhall/mode.Check -/
def G_mode_Check (n : Nat) (v_s38 : S_api_Stat) : Option (Int) :=
  (G_mode_Check_C1 n v_s38).bind fun v_o45 => match v_o45 with
  | .x0 v_z46 =>
    if v_z46 = true then
     some 1
    else
     some 0
theorem G_mode_Check_ok (n : Nat) (v_s38 : S_api_Stat) (r : Int) (h : G_mode_Check n v_s38 = some r) : Ret Try.prog 22 [eS_api_Stat v_s38] ((eI .i64) r) := by
  refine ret_run (n := 31) (fn := Try.f22) (c := bodyOf Try.f22) (by kernel_rfl) (by kernel_rfl) (by kernel_rfl) (by kernel_rfl) ?_
  have hF : KC 31 (FinR Try.prog Try.f22 ((eI .i64) r)) := FinR.kc' (by kernel_rfl)
  unfold G_mode_Check at h
  obtain ⟨v_o45, h53, h⟩ := bind_some h
  refine pkk_sound TTok mix hF 4 (hs := []) (ts := []) (s := [0]) (l := [1]) (by kernel_rfl) (by kernel_rfl) .nil (G_mode_Check_C1_ok hF (.s (cR (cL (cR (bodyOf Try.f22)))) :: .s (cR (cR (bodyOf Try.f22))) :: []) n v_s38 _ h53 ?_)
  cases v_o45 with
  | x0 v_z46 =>
    dsimp only at h
    by_cases h54 : v_z46 = true
    · rw [if_pos h54] at h
      obtain rfl := Option.some.inj h
      exact pend_sound TTok mix 5 (hs := [.t true]) (by kernel_rfl) (by kernel_rfl) (by kernel_rfl) (.cons h54 .nil)
    · rw [if_neg h54] at h
      obtain rfl := Option.some.inj h
      exact pend_sound TTok mix 5 (hs := [.t false]) (by kernel_rfl) (by kernel_rfl) (by kernel_rfl) (.cons (vf h54) .nil)
/- ringhall/mode.wanted -/
def G_mode_wanted (n : Nat) (v_want48 : Int) : Option (Int) :=
  some (bits .or .i64 (bits .or .i64 (shlI .i64 (bits .and .i64 v_want48 1) 2) (bits .and .i64 v_want48 2)) (shrI .i64 (bits .and .i64 v_want48 4) 2))
theorem G_mode_wanted_ok (n : Nat) (v_want48 : Int) (r : Int) (h : G_mode_wanted n v_want48 = some r) : Ret Try.prog 98 [(eI .i64) v_want48] ((eI .i64) r) := by
  refine ret_run (n := 13) (fn := Try.f98) (c := bodyOf Try.f98) (by kernel_rfl) (by kernel_rfl) (by kernel_rfl) (by kernel_rfl) ?_
  have hF : KC 13 (FinR Try.prog Try.f98 ((eI .i64) r)) := FinR.kc' (by kernel_rfl)
  unfold G_mode_wanted at h
  obtain rfl := Option.some.inj h
  exact pend_sound TTok mix 5 (hs := []) (by kernel_rfl) (by kernel_rfl) (by kernel_rfl) (.cons (show (0 : Int) ≤ 2 by decide) (.cons (show (0 : Int) ≤ 2 by decide) .nil))
inductive G_slices_Index_int_int_L1_R where
  | x0 (v_x62 : Int)
  | x1 
def G_slices_Index_int_int_L1_ex : G_slices_Index_int_int_L1_R → Ex
  | .x0 _ => .ret
  | .x1  => .exit 0
def G_slices_Index_int_int_L1_st (v_s57 : (List Int)) (v_v58 : Int) : G_slices_Index_int_int_L1_R → PS
  | .x0 v_x62 => ⟨[dd, dd, dd, dd, .d (.v (.int .i64 v_x62)), dd, dd, dd, dd, dd, dd, dd, dd, dd, dd, dd, dd, dd, dd], []⟩
  | .x1  => ⟨[dd, dd, dd, dd, dd, dd, dd, dd, dd, dd, dd, dd, dd, dd, dd, dd, dd, dd, dd], []⟩
def G_slices_Index_int_int_L1_hd (v_s57 : (List Int)) (v_v58 : Int) (v_x59 : Int) : PS := ⟨[.d (.sl (v_s57.map (eI .i64))), .d (.v (.int .i64 v_v58)), dd, dd, dd, dd, dd, .d (.v (.int .i64 (v_s57.length : Int))), .d (.v (.int .i64 v_x59)), dd, dd, dd, dd, dd, dd, dd, dd, dd, dd], []⟩
def G_slices_Index_int_int_L1 (n : Nat) (v_s57 : (List Int)) (v_v58 : Int) : Nat → Int → Option G_slices_Index_int_int_L1_R
  | 0, _ => none
  | k + 1, v_x59 =>
    if v_x59 < (v_s57.length : Int) then
     (getI v_s57 v_x59).bind fun (v_y61 : Int) =>
     if v_v58 = v_y61 then
      some (.x0 v_x59)
     else
      G_slices_Index_int_int_L1 n v_s57 v_v58 k (wi .i64 (v_x59 + 1))
    else
     some (.x1 )
theorem G_slices_Index_int_int_L1_ok {Fi : Ex → PS → Prop} (hF : KC 19 Fi) (ks : List Fr) (n : Nat) (v_s57 : (List Int)) (v_v58 : Int)  : ∀ (k : Nat) (v_x59 : Int) (o : G_slices_Index_int_int_L1_R), G_slices_Index_int_int_L1 n v_s57 v_v58 k v_x59 = some o → RunE Try.prog 19 Fi ks (G_slices_Index_int_int_L1_ex o) (G_slices_Index_int_int_L1_st v_s57 v_v58 o) → RunE Try.prog 19 Fi (.l k (cP (cB (cR (cL (cR (bodyOf Try.f102)))))) :: ks) .normal (G_slices_Index_int_int_L1_hd v_s57 v_v58 v_x59)
  | 0, v_x59, o, h, q => by rw [G_slices_Index_int_int_L1] at h; cases h
  | k + 1, v_x59, o, h, q => by
    rw [G_slices_Index_int_int_L1] at h
    by_cases h71 : v_x59 < (v_s57.length : Int)
    · rw [if_pos h71] at h
      obtain ⟨v_y61, h74, h⟩ := bind_some h
      by_cases h75 : v_v58 = v_y61
      · rw [if_pos h75] at h
        cases h
        exact pkk_sound TTok mix hF 19 (hs := [.t true, .y ((eI .i64) v_y61), .c, .t true]) (ts := []) (s := []) (l := [4]) (by kernel_rfl) (by kernel_rfl) (.cons (dt h71) (.cons (getI_ob (f := (eI .i64)) h74) (.cons (bt h75) .nil))) q
      · rw [if_neg h75] at h
        exact pkk_sound TTok mix hF 16 (hs := [.t true, .y ((eI .i64) v_y61), .c, .t false]) (ts := []) (s := []) (l := [0, 1, 7, 8]) (by kernel_rfl) (by kernel_rfl) (.cons (dt h71) (.cons (getI_ob (f := (eI .i64)) h74) (.cons (bf h75) .nil))) (G_slices_Index_int_int_L1_ok hF ks n v_s57 v_v58 k (wi .i64 (v_x59 + 1)) _ h q)
    · rw [if_neg h71] at h
      cases h
      exact pkk_sound TTok mix hF 8 (hs := [.t false]) (ts := []) (s := []) (l := []) (by kernel_rfl) (by kernel_rfl) (.cons (df h71) .nil) q
/- slices.Index[[]int,int] -/
def G_slices_Index_int_int (n : Nat) (v_s57 : (List Int)) (v_v58 : Int) : Option (Int) :=
  (G_slices_Index_int_int_L1 n v_s57 v_v58 n 0).bind fun v_o63 => match v_o63 with
  | .x0 v_z64 =>
    some v_z64
  | .x1  =>
    some (-1)
theorem G_slices_Index_int_int_ok (n : Nat) (v_s57 : (List Int)) (v_v58 : Int) (r : Int) (h : G_slices_Index_int_int n v_s57 v_v58 = some r) : Ret Try.prog 102 [(eL (eI .i64)) v_s57, (eI .i64) v_v58] ((eI .i64) r) := by
  refine ret_run (n := 19) (fn := Try.f102) (c := bodyOf Try.f102) (by kernel_rfl) (by kernel_rfl) (by kernel_rfl) (by kernel_rfl) ?_
  have hF : KC 19 (FinR Try.prog Try.f102 ((eI .i64) r)) := FinR.kc' (by kernel_rfl)
  unfold G_slices_Index_int_int at h
  obtain ⟨v_o63, h76, h⟩ := bind_some h
  refine pkk_sound TTok mix hF 7 (hs := [.u (.d (.v (.int .i64 (v_s57.length : Int)))), .n n]) (ts := []) (s := []) (l := [0, 1, 7, 8]) (by kernel_rfl) (by kernel_rfl) (.cons (len_ob (f := (eI .i64)) (l := v_s57)) .nil) (G_slices_Index_int_int_L1_ok hF (.b 0 :: .s (cR (cR (bodyOf Try.f102))) :: []) n v_s57 v_v58 n 0 _ h76 ?_)
  cases v_o63 with
  | x0 v_z64 =>
    dsimp only at h
    obtain rfl := Option.some.inj h
    exact pend_sound TTok mix 2 (hs := []) (by kernel_rfl) (by kernel_rfl) (by kernel_rfl) .nil
  | x1  =>
    dsimp only at h
    obtain rfl := Option.some.inj h
    exact pend_sound TTok mix 4 (hs := []) (by kernel_rfl) (by kernel_rfl) (by kernel_rfl) .nil
/- slices.Contains[[]int,int] -/
def G_slices_Contains_int_int (n : Nat) (v_s55 : (List Int)) (v_v56 : Int) : Option (Bool) :=
  (G_slices_Index_int_int n v_s55 v_v56).bind fun (v_r65 : (Int)) =>
  some (decide (v_r65 ≥ 0))
theorem G_slices_Contains_int_int_ok (n : Nat) (v_s55 : (List Int)) (v_v56 : Int) (r : Bool) (h : G_slices_Contains_int_int n v_s55 v_v56 = some r) : Ret Try.prog 24 [(eL (eI .i64)) v_s55, (eI .i64) v_v56] (eB r) := by
  refine ret_run (n := 9) (fn := Try.f24) (c := bodyOf Try.f24) (by kernel_rfl) (by kernel_rfl) (by kernel_rfl) (by kernel_rfl) ?_
  have hF : KC 9 (FinR Try.prog Try.f24 (eB r)) := FinR.kc' (by kernel_rfl)
  unfold G_slices_Contains_int_int at h
  obtain ⟨v_r65, h77, h⟩ := bind_some h
  obtain rfl := Option.some.inj h
  exact pend_sound TTok mix 5 (hs := [.r ((eI .i64) v_r65)]) (by kernel_rfl) (by kernel_rfl) (by kernel_rfl) (.cons (G_slices_Index_int_int_ok n v_s55 v_v56 _ h77) .nil)
/- ringhall/cred.In -/
def G_cred_In (n : Nat) (v_c52 : S_api_Cred) (v_group53 : Int) : Option (Bool × Int) :=
  (G_cred_Check n v_c52).bind fun (v_r54 : (Int)) =>
  if v_r54 = 0 then
   if v_group53 = v_c52.fGroup then
    some (true, 0)
   else
    (G_slices_Contains_int_int n v_c52.fMore v_group53).bind fun (v_r67 : (Bool)) =>
    some (v_r67, 0)
  else
   some (false, v_r54)
theorem G_cred_In_ok (n : Nat) (v_c52 : S_api_Cred) (v_group53 : Int) (r : Bool × Int) (h : G_cred_In n v_c52 v_group53 = some r) : Ret Try.prog 101 [eS_api_Cred v_c52, (eI .i64) v_group53] (.tup [eB r.1, (eI .i64) r.2]) := by
  refine ret_run (n := 22) (fn := Try.f101) (c := bodyOf Try.f101) (by kernel_rfl) (by kernel_rfl) (by kernel_rfl) (by kernel_rfl) ?_
  have hF : KC 22 (FinR Try.prog Try.f101 (.tup [eB r.1, (eI .i64) r.2])) := FinR.kc' (by kernel_rfl)
  unfold G_cred_In at h
  obtain ⟨v_r54, h67, h⟩ := bind_some h
  by_cases h69 : v_r54 = 0
  · rw [if_pos h69] at h
    by_cases h79 : v_group53 = v_c52.fGroup
    · rw [if_pos h79] at h
      obtain rfl := Option.some.inj h
      exact pend_sound TTok mix 12 (hs := [.c, .r ((eI .i64) v_r54), .t false, .c, .t true, .c, .c, .c]) (by kernel_rfl) (by kernel_rfl) (by kernel_rfl) (.cons (G_cred_Check_ok n v_c52 _ h67) (.cons (nf h69) (.cons (bt h79) .nil)))
    · rw [if_neg h79] at h
      obtain ⟨v_r67, h80, h⟩ := bind_some h
      obtain rfl := Option.some.inj h
      exact pend_sound TTok mix 12 (hs := [.c, .r ((eI .i64) v_r54), .t false, .c, .t false, .c, .c, .c, .c, .r (eB v_r67)]) (by kernel_rfl) (by kernel_rfl) (by kernel_rfl) (.cons (G_cred_Check_ok n v_c52 _ h67) (.cons (nf h69) (.cons (bf h79) (.cons (G_slices_Contains_int_int_ok n v_c52.fMore v_group53 _ h80) .nil))))
  · rw [if_neg h69] at h
    obtain rfl := Option.some.inj h
    exact pend_sound TTok mix 12 (hs := [.c, .r ((eI .i64) v_r54), .t true]) (by kernel_rfl) (by kernel_rfl) (by kernel_rfl) (.cons (G_cred_Check_ok n v_c52 _ h67) (.cons (nt h69) .nil))
/- ringhall/mode.bits -/
def G_mode_bits (n : Nat) (v_s50 : S_api_Stat) (v_c51 : S_api_Cred) : Option (Int) :=
  if v_c51.fUser = v_s50.fUser then
   some (shrI .i64 v_s50.fMode 6)
  else
   (G_cred_In n v_c51 v_s50.fGroup).bind fun (v_r68 : (Bool × Int)) =>
   if v_r68.1 = true then
    some (bits .and .i64 (shrI .i64 v_s50.fMode 3) 7)
   else
    some (bits .and .i64 v_s50.fMode 7)
theorem G_mode_bits_ok (n : Nat) (v_s50 : S_api_Stat) (v_c51 : S_api_Cred) (r : Int) (h : G_mode_bits n v_s50 v_c51 = some r) : Ret Try.prog 99 [eS_api_Stat v_s50, eS_api_Cred v_c51] ((eI .i64) r) := by
  refine ret_run (n := 30) (fn := Try.f99) (c := bodyOf Try.f99) (by kernel_rfl) (by kernel_rfl) (by kernel_rfl) (by kernel_rfl) ?_
  have hF : KC 30 (FinR Try.prog Try.f99 ((eI .i64) r)) := FinR.kc' (by kernel_rfl)
  unfold G_mode_bits at h
  by_cases h65 : v_c51.fUser = v_s50.fUser
  · rw [if_pos h65] at h
    obtain rfl := Option.some.inj h
    exact pend_sound TTok mix 10 (hs := [.c, .c, .t true, .c]) (by kernel_rfl) (by kernel_rfl) (by kernel_rfl) (.cons (bt h65) (.cons (show (0 : Int) ≤ 6 by decide) .nil))
  · rw [if_neg h65] at h
    obtain ⟨v_r68, h81, h⟩ := bind_some h
    by_cases h84 : v_r68.1 = true
    · rw [if_pos h84] at h
      obtain rfl := Option.some.inj h
      exact pend_sound TTok mix 17 (hs := [.c, .c, .t false, .c, .c, .r (.tup [eB v_r68.1, (eI .i64) v_r68.2]), .t true, .c]) (by kernel_rfl) (by kernel_rfl) (by kernel_rfl) (.cons (bf h65) (.cons (G_cred_In_ok n v_c51 v_s50.fGroup _ h81) (.cons h84 (.cons (show (0 : Int) ≤ 3 by decide) .nil))))
    · rw [if_neg h84] at h
      obtain rfl := Option.some.inj h
      exact pend_sound TTok mix 17 (hs := [.c, .c, .t false, .c, .c, .r (.tup [eB v_r68.1, (eI .i64) v_r68.2]), .t false, .c]) (by kernel_rfl) (by kernel_rfl) (by kernel_rfl) (.cons (bf h65) (.cons (G_cred_In_ok n v_c51 v_s50.fGroup _ h81) (.cons (vf h84) .nil)))
inductive G_mode_over_C1_R where
  | x0 (v_out72 : Int)
def G_mode_over_C1_ex : G_mode_over_C1_R → Ex
  | .x0 _ => .normal
def G_mode_over_C1_st (v_c71 : S_api_Cred) (v_s70 : S_api_Stat) : G_mode_over_C1_R → PS
  | .x0 v_out72 => ⟨[dd, dd, dd, .ref 0 0, dd, .d (.v (.int .i64 v_out72)), dd, dd, dd, dd, dd, dd, dd, dd, dd, dd, dd, dd, dd, dd, dd, dd, dd, dd], [.box [.d (.v (.int .i64 v_c71.fUser)), .d (.v (.int .i64 v_c71.fGroup)), .d (.sl (v_c71.fMore.map (eI .i64))), .d (.v (.int .i64 v_c71.fCaps)), .d (.v (.int .i64 v_c71.fLevel)), .d (.v (.int .i64 v_c71.fKind))]]⟩
def G_mode_over_C1_hd (v_c71 : S_api_Cred) (v_s70 : S_api_Stat)  : PS := ⟨[dd, dd, .ref 0 0, .ref 1 0, dd, .d (.v (.int .i64 0)), dd, dd, dd, .d (.v (.bool ((bits .and .i64 v_c71.fCaps 1) != 0))), dd, dd, dd, dd, dd, dd, dd, dd, dd, dd, dd, dd, dd, dd], [.box [.d (.v (.int .i64 v_s70.fKind)), .d (.v (.int .i64 v_s70.fMode)), .d (.v (.int .i64 v_s70.fUser)), .d (.v (.int .i64 v_s70.fGroup)), .d (.v (.int .i64 v_s70.fSize)), .d (.v (.int .i64 v_s70.fLinks))], .box [.d (.v (.int .i64 v_c71.fUser)), .d (.v (.int .i64 v_c71.fGroup)), .d (.sl (v_c71.fMore.map (eI .i64))), .d (.v (.int .i64 v_c71.fCaps)), .d (.v (.int .i64 v_c71.fLevel)), .d (.v (.int .i64 v_c71.fKind))]]⟩
def G_mode_over_C1 (n : Nat) (v_c71 : S_api_Cred) (v_s70 : S_api_Stat) : Option G_mode_over_C1_R :=
  if (bits .and .i64 v_c71.fCaps 1) = 0 then
   some (.x0 0)
  else
   if v_s70.fKind = 2 then
    some (.x0 (bits .or .i64 (bits .or .i64 0 4) 1))
   else
    some (.x0 (bits .or .i64 0 4))
theorem G_mode_over_C1_ok {Fi : Ex → PS → Prop} (hF : KC 24 Fi) (ks : List Fr) (n : Nat) (v_c71 : S_api_Cred) (v_s70 : S_api_Stat)  (o : G_mode_over_C1_R) (h : G_mode_over_C1 n v_c71 v_s70 = some o) (q : RunE Try.prog 24 Fi ks (G_mode_over_C1_ex o) (G_mode_over_C1_st v_c71 v_s70 o)) : RunE Try.prog 24 Fi (.s (cR (cL (cR (cR (bodyOf Try.f100))))) :: ks) .normal (G_mode_over_C1_hd v_c71 v_s70) := by
  unfold G_mode_over_C1 at h
  by_cases h89 : (bits .and .i64 v_c71.fCaps 1) = 0
  · rw [if_pos h89] at h
    cases h
    exact pkk_sound TTok mix hF 2 (hs := [.t false]) (ts := []) (s := [1]) (l := [3, 5]) (by kernel_rfl) (by kernel_rfl) (.cons (nf h89) .nil) q
  · rw [if_neg h89] at h
    by_cases h90 : v_s70.fKind = 2
    · rw [if_pos h90] at h
      cases h
      exact pkk_sound TTok mix hF 7 (hs := [.t true, .c, .t true]) (ts := []) (s := [1]) (l := [3, 5]) (by kernel_rfl) (by kernel_rfl) (.cons (nt h89) (.cons (bt h90) .nil)) q
    · rw [if_neg h90] at h
      cases h
      exact pkk_sound TTok mix hF 7 (hs := [.t true, .c, .t false]) (ts := []) (s := [1]) (l := [3, 5]) (by kernel_rfl) (by kernel_rfl) (.cons (nt h89) (.cons (bf h90) .nil)) q
/- ringhall/mode.over -/
def G_mode_over (n : Nat) (v_s70 : S_api_Stat) (v_c71 : S_api_Cred) : Option (Int) :=
  (G_mode_over_C1 n v_c71 v_s70).bind fun v_o75 => match v_o75 with
  | .x0 v_z76 =>
    if (bits .and .i64 v_c71.fCaps 2) = 0 then
     some v_z76
    else
     some (bits .or .i64 v_z76 2)
theorem G_mode_over_ok (n : Nat) (v_s70 : S_api_Stat) (v_c71 : S_api_Cred) (r : Int) (h : G_mode_over n v_s70 v_c71 = some r) : Ret Try.prog 100 [eS_api_Stat v_s70, eS_api_Cred v_c71] ((eI .i64) r) := by
  refine ret_run (n := 24) (fn := Try.f100) (c := bodyOf Try.f100) (by kernel_rfl) (by kernel_rfl) (by kernel_rfl) (by kernel_rfl) ?_
  have hF : KC 24 (FinR Try.prog Try.f100 ((eI .i64) r)) := FinR.kc' (by kernel_rfl)
  unfold G_mode_over at h
  obtain ⟨v_o75, h91, h⟩ := bind_some h
  refine pkk_sound TTok mix hF 7 (hs := [.c]) (ts := []) (s := [0, 3]) (l := [2, 3, 5, 9]) (by kernel_rfl) (by kernel_rfl) .nil (G_mode_over_C1_ok hF (.s (cR (cR (cR (bodyOf Try.f100)))) :: []) n v_c71 v_s70 _ h91 ?_)
  cases v_o75 with
  | x0 v_z76 =>
    dsimp only at h
    by_cases h93 : (bits .and .i64 v_c71.fCaps 2) = 0
    · rw [if_pos h93] at h
      obtain rfl := Option.some.inj h
      exact pend_sound TTok mix 8 (hs := [.c, .t false]) (by kernel_rfl) (by kernel_rfl) (by kernel_rfl) (.cons (nf h93) .nil)
    · rw [if_neg h93] at h
      obtain rfl := Option.some.inj h
      exact pend_sound TTok mix 8 (hs := [.c, .t true]) (by kernel_rfl) (by kernel_rfl) (by kernel_rfl) (.cons (nt h93) .nil)
/- ringhall/mode.May -/
def G_mode_May (n : Nat) (v_s6 : S_api_Stat) (v_c7 : S_api_Cred) (v_want8 : Int) : Option (Bool × Int) :=
  (G_cred_Check n v_c7).bind fun (v_r37 : (Int)) =>
  if v_r37 = 0 then
   (G_mode_Check n v_s6).bind fun (v_r47 : (Int)) =>
   if v_r47 = 0 then
    if v_want8 < 0 then
     some (false, 1)
    else
     if v_want8 > 7 then
      some (false, 1)
     else
      (G_mode_wanted n v_want8).bind fun (v_r49 : (Int)) =>
      (G_mode_bits n v_s6 v_c7).bind fun (v_r69 : (Int)) =>
      (G_mode_over n v_s6 v_c7).bind fun (v_r77 : (Int)) =>
      some (((bits .andNot .i64 v_r49 (bits .or .i64 v_r69 v_r77)) == 0), 0)
   else
    some (false, v_r47)
  else
   some (false, v_r37)
theorem G_mode_May_ok (n : Nat) (v_s6 : S_api_Stat) (v_c7 : S_api_Cred) (v_want8 : Int) (r : Bool × Int) (h : G_mode_May n v_s6 v_c7 v_want8 = some r) : Ret Try.prog 17 [eS_api_Stat v_s6, eS_api_Cred v_c7, (eI .i64) v_want8] (.tup [eB r.1, (eI .i64) r.2]) := by
  refine ret_run (n := 37) (fn := Try.f17) (c := bodyOf Try.f17) (by kernel_rfl) (by kernel_rfl) (by kernel_rfl) (by kernel_rfl) ?_
  have hF : KC 37 (FinR Try.prog Try.f17 (.tup [eB r.1, (eI .i64) r.2])) := FinR.kc' (by kernel_rfl)
  unfold G_mode_May at h
  obtain ⟨v_r37, h40, h⟩ := bind_some h
  by_cases h42 : v_r37 = 0
  · rw [if_pos h42] at h
    obtain ⟨v_r47, h55, h⟩ := bind_some h
    by_cases h57 : v_r47 = 0
    · rw [if_pos h57] at h
      by_cases h58 : v_want8 < 0
      · rw [if_pos h58] at h
        obtain rfl := Option.some.inj h
        exact pend_sound TTok mix 24 (hs := [.c, .r ((eI .i64) v_r37), .t false, .c, .r ((eI .i64) v_r47), .t false, .t true, .c, .c]) (by kernel_rfl) (by kernel_rfl) (by kernel_rfl) (.cons (G_cred_Check_ok n v_c7 _ h40) (.cons (nf h42) (.cons (G_mode_Check_ok n v_s6 _ h55) (.cons (nf h57) (.cons (dt h58) .nil)))))
      · rw [if_neg h58] at h
        by_cases h59 : v_want8 > 7
        · rw [if_pos h59] at h
          obtain rfl := Option.some.inj h
          exact pend_sound TTok mix 24 (hs := [.c, .r ((eI .i64) v_r37), .t false, .c, .r ((eI .i64) v_r47), .t false, .t false, .c, .t true]) (by kernel_rfl) (by kernel_rfl) (by kernel_rfl) (.cons (G_cred_Check_ok n v_c7 _ h40) (.cons (nf h42) (.cons (G_mode_Check_ok n v_s6 _ h55) (.cons (nf h57) (.cons (df h58) (.cons (dt h59) .nil))))))
        · rw [if_neg h59] at h
          obtain ⟨v_r49, h62, h⟩ := bind_some h
          obtain ⟨v_r69, h86, h⟩ := bind_some h
          obtain ⟨v_r77, h94, h⟩ := bind_some h
          obtain rfl := Option.some.inj h
          exact pend_sound TTok mix 24 (hs := [.c, .r ((eI .i64) v_r37), .t false, .c, .r ((eI .i64) v_r47), .t false, .t false, .c, .t false, .r ((eI .i64) v_r49), .c, .c, .r ((eI .i64) v_r69), .c, .c, .r ((eI .i64) v_r77)]) (by kernel_rfl) (by kernel_rfl) (by kernel_rfl) (.cons (G_cred_Check_ok n v_c7 _ h40) (.cons (nf h42) (.cons (G_mode_Check_ok n v_s6 _ h55) (.cons (nf h57) (.cons (df h58) (.cons (df h59) (.cons (G_mode_wanted_ok n v_want8 _ h62) (.cons (G_mode_bits_ok n v_s6 v_c7 _ h86) (.cons (G_mode_over_ok n v_s6 v_c7 _ h94) .nil)))))))))
    · rw [if_neg h57] at h
      obtain rfl := Option.some.inj h
      exact pend_sound TTok mix 19 (hs := [.c, .r ((eI .i64) v_r37), .t false, .c, .r ((eI .i64) v_r47), .t true]) (by kernel_rfl) (by kernel_rfl) (by kernel_rfl) (.cons (G_cred_Check_ok n v_c7 _ h40) (.cons (nf h42) (.cons (G_mode_Check_ok n v_s6 _ h55) (.cons (nt h57) .nil))))
  · rw [if_neg h42] at h
    obtain rfl := Option.some.inj h
    exact pend_sound TTok mix 12 (hs := [.c, .r ((eI .i64) v_r37), .t true]) (by kernel_rfl) (by kernel_rfl) (by kernel_rfl) (.cons (G_cred_Check_ok n v_c7 _ h40) (.cons (nt h42) .nil))
/- ringhall/mode.rights -/
def G_mode_rights (n : Nat) (v_b99 : Int) : Option (Int) :=
  some (bits .or .i64 (bits .or .i64 (bits .and .i64 (shrI .i64 v_b99 2) 1) (bits .and .i64 v_b99 2)) (shlI .i64 (bits .and .i64 v_b99 1) 2))
theorem G_mode_rights_ok (n : Nat) (v_b99 : Int) (r : Int) (h : G_mode_rights n v_b99 = some r) : Ret Try.prog 140 [(eI .i64) v_b99] ((eI .i64) r) := by
  refine ret_run (n := 13) (fn := Try.f140) (c := bodyOf Try.f140) (by kernel_rfl) (by kernel_rfl) (by kernel_rfl) (by kernel_rfl) ?_
  have hF : KC 13 (FinR Try.prog Try.f140 ((eI .i64) r)) := FinR.kc' (by kernel_rfl)
  unfold G_mode_rights at h
  obtain rfl := Option.some.inj h
  exact pend_sound TTok mix 5 (hs := []) (by kernel_rfl) (by kernel_rfl) (by kernel_rfl) (.cons (show (0 : Int) ≤ 2 by decide) (.cons (show (0 : Int) ≤ 2 by decide) .nil))
inductive G_mode_Listed_L1_R where
  | x0 (v_x87 : Bool) (v_x88 : Int)
  | x1 
def G_mode_Listed_L1_ex : G_mode_Listed_L1_R → Ex
  | .x0 _ _ => .ret
  | .x1  => .exit 0
def G_mode_Listed_L1_st (v_l80 : (List S_mode_Entry)) (v_want82 : Int) (v_r83 : (Bool × Int)) (v_s79 : S_api_Stat) (v_c81 : S_api_Cred) : G_mode_Listed_L1_R → PS
  | .x0 v_x87 v_x88 => ⟨[dd, dd, dd, dd, dd, dd, dd, dd, .d (.v (.bool v_x87)), .d (.v (.int .i64 v_x88)), dd, dd, dd, dd, dd, dd, dd, dd, dd, dd, dd, dd, dd, dd, dd, dd, dd, dd, dd, dd, dd, dd, dd, dd, dd, dd, dd, dd, dd, dd, dd, dd, dd, dd, dd, dd, dd, dd, dd, dd, dd, dd, dd, dd, dd, dd, dd, dd, dd, dd, dd, dd, dd, dd, dd, dd, dd, dd, dd, dd, dd, dd, dd, dd, dd, dd, dd, dd], []⟩
  | .x1  => ⟨[dd, .d (.sl (v_l80.map eS_mode_Entry)), dd, .d (.v (.int .i64 v_want82)), .ref 0 0, dd, .ref 1 0, dd, dd, dd, .d (.v (.bool v_r83.1)), dd, dd, dd, dd, dd, dd, dd, dd, dd, dd, dd, dd, dd, dd, dd, dd, dd, dd, dd, dd, dd, dd, dd, dd, dd, dd, dd, dd, dd, dd, dd, dd, dd, dd, dd, dd, dd, dd, dd, dd, dd, dd, dd, dd, dd, dd, dd, dd, dd, dd, dd, dd, dd, dd, dd, dd, dd, dd, dd, dd, dd, dd, dd, dd, dd, dd, dd], [.box [.d (.v (.int .i64 v_s79.fKind)), .d (.v (.int .i64 v_s79.fMode)), .d (.v (.int .i64 v_s79.fUser)), .d (.v (.int .i64 v_s79.fGroup)), .d (.v (.int .i64 v_s79.fSize)), .d (.v (.int .i64 v_s79.fLinks))], .box [.d (.v (.int .i64 v_c81.fUser)), .d (.v (.int .i64 v_c81.fGroup)), .d (.sl (v_c81.fMore.map (eI .i64))), .d (.v (.int .i64 v_c81.fCaps)), .d (.v (.int .i64 v_c81.fLevel)), .d (.v (.int .i64 v_c81.fKind))]]⟩
def G_mode_Listed_L1_hd (v_l80 : (List S_mode_Entry)) (v_want82 : Int) (v_r83 : (Bool × Int)) (v_s79 : S_api_Stat) (v_c81 : S_api_Cred) (v_x84 : Int) : PS := ⟨[dd, .d (.sl (v_l80.map eS_mode_Entry)), dd, .d (.v (.int .i64 v_want82)), .ref 0 0, dd, .ref 1 0, dd, dd, dd, .d (.v (.bool v_r83.1)), dd, dd, dd, dd, dd, dd, dd, dd, dd, dd, dd, dd, dd, dd, dd, dd, dd, dd, dd, .d (.sl (v_l80.map eS_mode_Entry)), .d (.v (.int .i64 (v_l80.length : Int))), .d (.v (.int .i64 v_x84)), dd, dd, dd, dd, dd, dd, dd, dd, dd, dd, dd, dd, dd, dd, dd, dd, dd, dd, dd, dd, dd, dd, dd, dd, dd, dd, dd, dd, dd, dd, dd, dd, dd, dd, dd, dd, dd, dd, dd, dd, dd, dd, dd, dd, dd], [.box [.d (.v (.int .i64 v_s79.fKind)), .d (.v (.int .i64 v_s79.fMode)), .d (.v (.int .i64 v_s79.fUser)), .d (.v (.int .i64 v_s79.fGroup)), .d (.v (.int .i64 v_s79.fSize)), .d (.v (.int .i64 v_s79.fLinks))], .box [.d (.v (.int .i64 v_c81.fUser)), .d (.v (.int .i64 v_c81.fGroup)), .d (.sl (v_c81.fMore.map (eI .i64))), .d (.v (.int .i64 v_c81.fCaps)), .d (.v (.int .i64 v_c81.fLevel)), .d (.v (.int .i64 v_c81.fKind))]]⟩
def G_mode_Listed_L1 (n : Nat) (v_l80 : (List S_mode_Entry)) (v_want82 : Int) (v_r83 : (Bool × Int)) (v_s79 : S_api_Stat) (v_c81 : S_api_Cred) : Nat → Int → Option G_mode_Listed_L1_R
  | 0, _ => none
  | k + 1, v_x84 =>
    if v_x84 < (v_l80.length : Int) then
     (getI v_l80 v_x84).bind fun (v_y86 : S_mode_Entry) =>
     if v_y86.fMay < 0 then
      some (.x0 false 1)
     else
      if v_y86.fMay > 7 then
       some (.x0 false 1)
      else
       G_mode_Listed_L1 n v_l80 v_want82 v_r83 v_s79 v_c81 k (wi .i64 (v_x84 + 1))
    else
     some (.x1 )
theorem G_mode_Listed_L1_ok {Fi : Ex → PS → Prop} (hF : KC 78 Fi) (ks : List Fr) (n : Nat) (v_l80 : (List S_mode_Entry)) (v_want82 : Int) (v_r83 : (Bool × Int)) (v_s79 : S_api_Stat) (v_c81 : S_api_Cred)  : ∀ (k : Nat) (v_x84 : Int) (o : G_mode_Listed_L1_R), G_mode_Listed_L1 n v_l80 v_want82 v_r83 v_s79 v_c81 k v_x84 = some o → RunE Try.prog 78 Fi ks (G_mode_Listed_L1_ex o) (G_mode_Listed_L1_st v_l80 v_want82 v_r83 v_s79 v_c81 o) → RunE Try.prog 78 Fi (.l k (cP (cB (cR (cL (cR (cR (cR (cR (bodyOf Try.f96))))))))) :: ks) .normal (G_mode_Listed_L1_hd v_l80 v_want82 v_r83 v_s79 v_c81 v_x84)
  | 0, v_x84, o, h, q => by rw [G_mode_Listed_L1] at h; cases h
  | k + 1, v_x84, o, h, q => by
    rw [G_mode_Listed_L1] at h
    by_cases h100 : v_x84 < (v_l80.length : Int)
    · rw [if_pos h100] at h
      obtain ⟨v_y86, h104, h⟩ := bind_some h
      by_cases h105 : v_y86.fMay < 0
      · rw [if_pos h105] at h
        cases h
        exact pkk_sound TTok mix hF 19 (hs := [.t true, .y (eS_mode_Entry v_y86), .c, .c, .t true, .c, .c, .c]) (ts := []) (s := []) (l := [8, 9]) (by kernel_rfl) (by kernel_rfl) (.cons (dt h100) (.cons (getI_ob (f := eS_mode_Entry) h104) (.cons (show 0 + 3 ≤ 3 by decide) (.cons (dt h105) .nil)))) q
      · rw [if_neg h105] at h
        by_cases h106 : v_y86.fMay > 7
        · rw [if_pos h106] at h
          cases h
          exact pkk_sound TTok mix hF 19 (hs := [.t true, .y (eS_mode_Entry v_y86), .c, .c, .t false, .c, .c, .c, .t true]) (ts := []) (s := []) (l := [8, 9]) (by kernel_rfl) (by kernel_rfl) (.cons (dt h100) (.cons (getI_ob (f := eS_mode_Entry) h104) (.cons (show 0 + 3 ≤ 3 by decide) (.cons (df h105) (.cons (dt h106) .nil))))) q
        · rw [if_neg h106] at h
          exact pkk_sound TTok mix hF 16 (hs := [.t true, .y (eS_mode_Entry v_y86), .c, .c, .t false, .c, .c, .c, .t false]) (ts := []) (s := [0, 1]) (l := [1, 3, 4, 6, 10, 30, 31, 32]) (by kernel_rfl) (by kernel_rfl) (.cons (dt h100) (.cons (getI_ob (f := eS_mode_Entry) h104) (.cons (show 0 + 3 ≤ 3 by decide) (.cons (df h105) (.cons (df h106) .nil))))) (G_mode_Listed_L1_ok hF ks n v_l80 v_want82 v_r83 v_s79 v_c81 k (wi .i64 (v_x84 + 1)) _ h q)
    · rw [if_neg h100] at h
      cases h
      exact pkk_sound TTok mix hF 8 (hs := [.t false]) (ts := []) (s := [0, 1]) (l := [1, 3, 4, 6, 10]) (by kernel_rfl) (by kernel_rfl) (.cons (df h100) .nil) q
inductive G_mode_Listed_L2_R where
  | x0 (v_x114 : Bool) (v_x115 : Int)
  | x1 
def G_mode_Listed_L2_ex : G_mode_Listed_L2_R → Ex
  | .x0 _ _ => .ret
  | .x1  => .exit 2
def G_mode_Listed_L2_st (v_want82 : Int) (v_r83 : (Bool × Int)) (v_l80 : (List S_mode_Entry)) (v_s79 : S_api_Stat) (v_c81 : S_api_Cred) : G_mode_Listed_L2_R → PS
  | .x0 v_x114 v_x115 => ⟨[dd, dd, dd, dd, dd, dd, dd, dd, .d (.v (.bool v_x114)), .d (.v (.int .i64 v_x115)), dd, dd, dd, dd, dd, dd, dd, dd, dd, dd, dd, dd, dd, dd, dd, dd, dd, dd, dd, dd, dd, dd, dd, dd, dd, dd, dd, dd, dd, dd, dd, dd, dd, dd, dd, dd, dd, dd, dd, dd, dd, dd, dd, dd, dd, dd, dd, dd, dd, dd, dd, dd, dd, dd, dd, dd, dd, dd, dd, dd, dd, dd, dd, dd, dd, dd, dd, dd], []⟩
  | .x1  => ⟨[dd, dd, dd, dd, dd, dd, dd, dd, dd, dd, .d (.v (.bool v_r83.1)), dd, dd, dd, dd, dd, dd, dd, dd, dd, dd, dd, dd, dd, dd, dd, dd, dd, dd, dd, dd, dd, dd, dd, dd, dd, dd, dd, dd, dd, dd, dd, dd, dd, dd, dd, dd, dd, dd, dd, dd, dd, dd, dd, dd, dd, dd, dd, dd, dd, dd, dd, dd, dd, dd, dd, dd, dd, dd, dd, dd, dd, dd, dd, dd, dd, dd, dd], []⟩
def G_mode_Listed_L2_hd (v_want82 : Int) (v_r83 : (Bool × Int)) (v_l80 : (List S_mode_Entry)) (v_s79 : S_api_Stat) (v_c81 : S_api_Cred) (v_x94 : Int) : PS := ⟨[dd, dd, dd, .d (.v (.int .i64 v_want82)), .ref 0 0, dd, .ref 1 0, dd, dd, dd, .d (.v (.bool v_r83.1)), dd, dd, dd, dd, dd, dd, dd, dd, dd, dd, dd, dd, dd, dd, dd, dd, dd, dd, dd, dd, dd, dd, dd, dd, dd, dd, dd, dd, dd, dd, dd, dd, dd, dd, .d (.sl (v_l80.map eS_mode_Entry)), .d (.v (.int .i64 (v_l80.length : Int))), .d (.v (.int .i64 v_x94)), dd, dd, dd, dd, dd, dd, dd, dd, dd, dd, dd, dd, dd, dd, dd, dd, dd, dd, dd, dd, dd, dd, dd, dd, dd, dd, dd, dd, dd, dd], [.box [.d (.v (.int .i64 v_s79.fKind)), .d (.v (.int .i64 v_s79.fMode)), .d (.v (.int .i64 v_s79.fUser)), .d (.v (.int .i64 v_s79.fGroup)), .d (.v (.int .i64 v_s79.fSize)), .d (.v (.int .i64 v_s79.fLinks))], .box [.d (.v (.int .i64 v_c81.fUser)), .d (.v (.int .i64 v_c81.fGroup)), .d (.sl (v_c81.fMore.map (eI .i64))), .d (.v (.int .i64 v_c81.fCaps)), .d (.v (.int .i64 v_c81.fLevel)), .d (.v (.int .i64 v_c81.fKind))]]⟩
def G_mode_Listed_L2 (n : Nat) (v_want82 : Int) (v_r83 : (Bool × Int)) (v_l80 : (List S_mode_Entry)) (v_s79 : S_api_Stat) (v_c81 : S_api_Cred) : Nat → Int → Option G_mode_Listed_L2_R
  | 0, _ => none
  | k + 1, v_x94 =>
    if v_x94 < (v_l80.length : Int) then
     (getI v_l80 v_x94).bind fun (v_y107 : S_mode_Entry) =>
     if v_y107.fGroup = true then
      (G_cred_In n v_c81 v_y107.fId).bind fun (v_r109 : (Bool × Int)) =>
      if v_r109.1 = true then
       (G_mode_over n v_s79 v_c81).bind fun (v_r112 : (Int)) =>
       (G_mode_rights n v_r112).bind fun (v_r113 : (Int)) =>
       some (.x0 ((bits .andNot .i64 (bits .andNot .i64 v_want82 v_y107.fMay) v_r113) == 0) 0)
      else
       G_mode_Listed_L2 n v_want82 v_r83 v_l80 v_s79 v_c81 k (wi .i64 (v_x94 + 1))
     else
      if v_y107.fId = v_c81.fUser then
       (G_mode_over n v_s79 v_c81).bind fun (v_r118 : (Int)) =>
       (G_mode_rights n v_r118).bind fun (v_r119 : (Int)) =>
       some (.x0 ((bits .andNot .i64 (bits .andNot .i64 v_want82 v_y107.fMay) v_r119) == 0) 0)
      else
       G_mode_Listed_L2 n v_want82 v_r83 v_l80 v_s79 v_c81 k (wi .i64 (v_x94 + 1))
    else
     some (.x1 )
theorem G_mode_Listed_L2_ok {Fi : Ex → PS → Prop} (hF : KC 78 Fi) (ks : List Fr) (n : Nat) (v_want82 : Int) (v_r83 : (Bool × Int)) (v_l80 : (List S_mode_Entry)) (v_s79 : S_api_Stat) (v_c81 : S_api_Cred)  : ∀ (k : Nat) (v_x94 : Int) (o : G_mode_Listed_L2_R), G_mode_Listed_L2 n v_want82 v_r83 v_l80 v_s79 v_c81 k v_x94 = some o → RunE Try.prog 78 Fi ks (G_mode_Listed_L2_ex o) (G_mode_Listed_L2_st v_want82 v_r83 v_l80 v_s79 v_c81 o) → RunE Try.prog 78 Fi (.l k (cP (cB (cR (cL (cR (cR (cR (cR (cR (bodyOf Try.f96)))))))))) :: ks) .normal (G_mode_Listed_L2_hd v_want82 v_r83 v_l80 v_s79 v_c81 v_x94)
  | 0, v_x94, o, h, q => by rw [G_mode_Listed_L2] at h; cases h
  | k + 1, v_x94, o, h, q => by
    rw [G_mode_Listed_L2] at h
    by_cases h108 : v_x94 < (v_l80.length : Int)
    · rw [if_pos h108] at h
      obtain ⟨v_y107, h128, h⟩ := bind_some h
      by_cases h131 : v_y107.fGroup = true
      · rw [if_pos h131] at h
        obtain ⟨v_r109, h132, h⟩ := bind_some h
        by_cases h136 : v_r109.1 = true
        · rw [if_pos h136] at h
          obtain ⟨v_r112, h137, h⟩ := bind_some h
          obtain ⟨v_r113, h138, h⟩ := bind_some h
          cases h
          exact pkk_sound TTok mix hF 26 (hs := [.t true, .y (eS_mode_Entry v_y107), .c, .c, .c, .c, .t true, .c, .c, .r (.tup [eB v_r109.1, (eI .i64) v_r109.2]), .t true, .c, .c, .c, .r ((eI .i64) v_r112), .r ((eI .i64) v_r113)]) (ts := []) (s := []) (l := [8, 9]) (by kernel_rfl) (by kernel_rfl) (.cons (dt h108) (.cons (getI_ob (f := eS_mode_Entry) h128) (.cons (show 0 + 3 ≤ 3 by decide) (.cons h131 (.cons (G_cred_In_ok n v_c81 v_y107.fId _ h132) (.cons h136 (.cons (G_mode_over_ok n v_s79 v_c81 _ h137) (.cons (G_mode_rights_ok n v_r112 _ h138) .nil)))))))) q
        · rw [if_neg h136] at h
          exact pkk_sound TTok mix hF 23 (hs := [.t true, .y (eS_mode_Entry v_y107), .c, .c, .c, .c, .t true, .c, .c, .r (.tup [eB v_r109.1, (eI .i64) v_r109.2]), .t false]) (ts := []) (s := [0, 1]) (l := [3, 4, 6, 10, 45, 46, 47]) (by kernel_rfl) (by kernel_rfl) (.cons (dt h108) (.cons (getI_ob (f := eS_mode_Entry) h128) (.cons (show 0 + 3 ≤ 3 by decide) (.cons h131 (.cons (G_cred_In_ok n v_c81 v_y107.fId _ h132) (.cons (vf h136) .nil)))))) (G_mode_Listed_L2_ok hF ks n v_want82 v_r83 v_l80 v_s79 v_c81 k (wi .i64 (v_x94 + 1)) _ h q)
      · rw [if_neg h131] at h
        by_cases h142 : v_y107.fId = v_c81.fUser
        · rw [if_pos h142] at h
          obtain ⟨v_r118, h143, h⟩ := bind_some h
          obtain ⟨v_r119, h144, h⟩ := bind_some h
          cases h
          exact pkk_sound TTok mix hF 26 (hs := [.t true, .y (eS_mode_Entry v_y107), .c, .c, .c, .c, .t false, .t true, .c, .c, .c, .r ((eI .i64) v_r118), .r ((eI .i64) v_r119)]) (ts := []) (s := []) (l := [8, 9]) (by kernel_rfl) (by kernel_rfl) (.cons (dt h108) (.cons (getI_ob (f := eS_mode_Entry) h128) (.cons (show 0 + 3 ≤ 3 by decide) (.cons (vf h131) (.cons (bt h142) (.cons (G_mode_over_ok n v_s79 v_c81 _ h143) (.cons (G_mode_rights_ok n v_r118 _ h144) .nil))))))) q
        · rw [if_neg h142] at h
          exact pkk_sound TTok mix hF 23 (hs := [.t true, .y (eS_mode_Entry v_y107), .c, .c, .c, .c, .t false, .t false]) (ts := []) (s := [0, 1]) (l := [3, 4, 6, 10, 45, 46, 47]) (by kernel_rfl) (by kernel_rfl) (.cons (dt h108) (.cons (getI_ob (f := eS_mode_Entry) h128) (.cons (show 0 + 3 ≤ 3 by decide) (.cons (vf h131) (.cons (bf h142) .nil))))) (G_mode_Listed_L2_ok hF ks n v_want82 v_r83 v_l80 v_s79 v_c81 k (wi .i64 (v_x94 + 1)) _ h q)
    · rw [if_neg h108] at h
      cases h
      exact pkk_sound TTok mix hF 8 (hs := [.t false]) (ts := []) (s := []) (l := [10]) (by kernel_rfl) (by kernel_rfl) (.cons (df h108) .nil) q
/- ringhall/mode.Listed -/
def G_mode_Listed (n : Nat) (v_s79 : S_api_Stat) (v_l80 : (List S_mode_Entry)) (v_c81 : S_api_Cred) (v_want82 : Int) : Option (Bool × Int) :=
  (G_mode_May n v_s79 v_c81 v_want82).bind fun (v_r83 : (Bool × Int)) =>
  if v_r83.2 = 0 then
   if (v_l80.length : Int) > 6 then
    some (false, 2)
   else
    (G_mode_Listed_L1 n v_l80 v_want82 v_r83 v_s79 v_c81 n 0).bind fun v_o91 => match v_o91 with
    | .x0 v_z92 v_z93 =>
      some (v_z92, v_z93)
    | .x1  =>
      (G_mode_Listed_L2 n v_want82 v_r83 v_l80 v_s79 v_c81 n 0).bind fun v_o122 => match v_o122 with
      | .x0 v_z123 v_z124 =>
        some (v_z123, v_z124)
      | .x1  =>
        some (v_r83.1, 0)
  else
   some (false, v_r83.2)
theorem G_mode_Listed_ok (n : Nat) (v_s79 : S_api_Stat) (v_l80 : (List S_mode_Entry)) (v_c81 : S_api_Cred) (v_want82 : Int) (r : Bool × Int) (h : G_mode_Listed n v_s79 v_l80 v_c81 v_want82 = some r) : Ret Try.prog 96 [eS_api_Stat v_s79, (eL eS_mode_Entry) v_l80, eS_api_Cred v_c81, (eI .i64) v_want82] (.tup [eB r.1, (eI .i64) r.2]) := by
  refine ret_run (n := 78) (fn := Try.f96) (c := bodyOf Try.f96) (by kernel_rfl) (by kernel_rfl) (by kernel_rfl) (by kernel_rfl) ?_
  have hF : KC 78 (FinR Try.prog Try.f96 (.tup [eB r.1, (eI .i64) r.2])) := FinR.kc' (by kernel_rfl)
  unfold G_mode_Listed at h
  obtain ⟨v_r83, h96, h⟩ := bind_some h
  by_cases h98 : v_r83.2 = 0
  · rw [if_pos h98] at h
    by_cases h99 : (v_l80.length : Int) > 6
    · rw [if_pos h99] at h
      obtain rfl := Option.some.inj h
      exact pend_sound TTok mix 17 (hs := [.c, .c, .r (.tup [eB v_r83.1, (eI .i64) v_r83.2]), .t false, .u (.d (.v (.int .i64 (v_l80.length : Int)))), .t true]) (by kernel_rfl) (by kernel_rfl) (by kernel_rfl) (.cons (G_mode_May_ok n v_s79 v_c81 v_want82 _ h96) (.cons (nf h98) (.cons (len_ob (f := eS_mode_Entry) (l := v_l80)) (.cons (dt h99) .nil))))
    · rw [if_neg h99] at h
      obtain ⟨v_o91, h107, h⟩ := bind_some h
      refine pkk_sound TTok mix hF 19 (hs := [.c, .c, .r (.tup [eB v_r83.1, (eI .i64) v_r83.2]), .t false, .u (.d (.v (.int .i64 (v_l80.length : Int)))), .t false, .u (.d (.v (.int .i64 (v_l80.length : Int)))), .n n]) (ts := []) (s := [0, 3]) (l := [1, 3, 4, 6, 10, 30, 31, 32]) (by kernel_rfl) (by kernel_rfl) (.cons (G_mode_May_ok n v_s79 v_c81 v_want82 _ h96) (.cons (nf h98) (.cons (len_ob (f := eS_mode_Entry) (l := v_l80)) (.cons (df h99) (.cons (len_ob (f := eS_mode_Entry) (l := v_l80)) .nil))))) (G_mode_Listed_L1_ok hF (.b 0 :: .s (cR (cR (cR (cR (cR (bodyOf Try.f96)))))) :: []) n v_l80 v_want82 v_r83 v_s79 v_c81 n 0 _ h107 ?_)
      cases v_o91 with
      | x0 v_z92 v_z93 =>
        dsimp only at h
        obtain rfl := Option.some.inj h
        exact pend_sound TTok mix 2 (hs := []) (by kernel_rfl) (by kernel_rfl) (by kernel_rfl) .nil
      | x1  =>
        dsimp only at h
        obtain ⟨v_o122, h145, h⟩ := bind_some h
        refine pkk_sound TTok mix hF 6 (hs := [.u (.d (.v (.int .i64 (v_l80.length : Int)))), .n n]) (ts := []) (s := [0, 1]) (l := [3, 4, 6, 10, 45, 46, 47]) (by kernel_rfl) (by kernel_rfl) (.cons (len_ob (f := eS_mode_Entry) (l := v_l80)) .nil) (G_mode_Listed_L2_ok hF (.b 2 :: .s (cR (cR (cR (cR (cR (cR (bodyOf Try.f96))))))) :: []) n v_want82 v_r83 v_l80 v_s79 v_c81 n 0 _ h145 ?_)
        cases v_o122 with
        | x0 v_z123 v_z124 =>
          dsimp only at h
          obtain rfl := Option.some.inj h
          exact pend_sound TTok mix 2 (hs := []) (by kernel_rfl) (by kernel_rfl) (by kernel_rfl) .nil
        | x1  =>
          dsimp only at h
          obtain rfl := Option.some.inj h
          exact pend_sound TTok mix 4 (hs := []) (by kernel_rfl) (by kernel_rfl) (by kernel_rfl) .nil
  · rw [if_neg h98] at h
    obtain rfl := Option.some.inj h
    exact pend_sound TTok mix 12 (hs := [.c, .c, .r (.tup [eB v_r83.1, (eI .i64) v_r83.2]), .t true]) (by kernel_rfl) (by kernel_rfl) (by kernel_rfl) (.cons (G_mode_May_ok n v_s79 v_c81 v_want82 _ h96) (.cons (nt h98) .nil))
inductive G_ringlaw5_mays_C1_R where
  | x0 (v_x126 : Bool)
def G_ringlaw5_mays_C1_ex : G_ringlaw5_mays_C1_R → Ex
  | .x0 _ => .normal
def G_ringlaw5_mays_C1_st (v_r78 : (Bool × Int)) (v_r125 : (Bool × Int)) : G_ringlaw5_mays_C1_R → PS
  | .x0 v_x126 => ⟨[.d (.v (.bool v_x126)), dd, dd, dd, dd, dd, dd, dd, dd, dd, dd, dd, dd, dd, dd, dd, dd, dd, dd, dd, dd, dd, dd, dd, dd, dd, dd, dd, dd, dd, dd, dd, dd], []⟩
def G_ringlaw5_mays_C1_hd (v_r78 : (Bool × Int)) (v_r125 : (Bool × Int))  : PS := ⟨[dd, dd, .d (.v (.bool v_r78.1)), .d (.v (.int .i64 v_r78.2)), .d (.v (.bool v_r125.1)), .d (.v (.int .i64 v_r125.2)), dd, dd, dd, dd, dd, dd, dd, dd, dd, dd, dd, dd, dd, dd, dd, dd, dd, dd, dd, dd, dd, dd, dd, dd, dd, dd, dd], []⟩
def G_ringlaw5_mays_C1 (n : Nat) (v_r78 : (Bool × Int)) (v_r125 : (Bool × Int)) : Option G_ringlaw5_mays_C1_R :=
  if v_r78.2 = 0 then
   if v_r125.2 = 0 then
    if v_r78.1 = true then
     some (.x0 v_r125.1)
    else
     some (.x0 false)
   else
    some (.x0 false)
  else
   some (.x0 false)
theorem G_ringlaw5_mays_C1_ok {Fi : Ex → PS → Prop} (hF : KC 33 Fi) (ks : List Fr) (n : Nat) (v_r78 : (Bool × Int)) (v_r125 : (Bool × Int))  (o : G_ringlaw5_mays_C1_R) (h : G_ringlaw5_mays_C1 n v_r78 v_r125 = some o) (q : RunE Try.prog 33 Fi ks (G_ringlaw5_mays_C1_ex o) (G_ringlaw5_mays_C1_st v_r78 v_r125 o)) : RunE Try.prog 33 Fi (.s (cL (cR (cR (cR (cR (bodyOf Try.f16)))))) :: ks) .normal (G_ringlaw5_mays_C1_hd v_r78 v_r125) := by
  unfold G_ringlaw5_mays_C1 at h
  by_cases h150 : v_r78.2 = 0
  · rw [if_pos h150] at h
    by_cases h151 : v_r125.2 = 0
    · rw [if_pos h151] at h
      by_cases h152 : v_r78.1 = true
      · rw [if_pos h152] at h
        cases h
        exact pkk_sound TTok mix hF 1 (hs := [.t true, .c, .t true, .t true]) (ts := []) (s := []) (l := [0]) (by kernel_rfl) (by kernel_rfl) (.cons (bt h150) (.cons (bt h151) (.cons h152 .nil))) q
      · rw [if_neg h152] at h
        cases h
        exact pkk_sound TTok mix hF 1 (hs := [.t true, .c, .t true, .t false]) (ts := []) (s := []) (l := [0]) (by kernel_rfl) (by kernel_rfl) (.cons (bt h150) (.cons (bt h151) (.cons (vf h152) .nil))) q
    · rw [if_neg h151] at h
      cases h
      exact pkk_sound TTok mix hF 1 (hs := [.t true, .c, .t false, .c]) (ts := []) (s := []) (l := [0]) (by kernel_rfl) (by kernel_rfl) (.cons (bt h150) (.cons (bf h151) .nil)) q
  · rw [if_neg h150] at h
    cases h
    exact pkk_sound TTok mix hF 1 (hs := [.t false, .c, .c, .c]) (ts := []) (s := []) (l := [0]) (by kernel_rfl) (by kernel_rfl) (.cons (bf h150) .nil) q
/- ringhall/ringlaw5.mays -/
def G_ringlaw5_mays (n : Nat)  : Option (Bool) :=
  (G_mode_May n (S_api_Stat.mk 0 420 1 0 0 0) (S_api_Cred.mk 1 0 ([] : (List Int)) 0 0 0) 2).bind fun (v_r78 : (Bool × Int)) =>
  (G_mode_Listed n (S_api_Stat.mk 0 420 1 0 0 0) ([(S_mode_Entry.mk false 2 2)]) (S_api_Cred.mk 2 0 ([] : (List Int)) 0 0 0) 2).bind fun (v_r125 : (Bool × Int)) =>
  (G_ringlaw5_mays_C1 n v_r78 v_r125).bind fun v_o130 => match v_o130 with
  | .x0 v_z131 =>
    some v_z131
theorem G_ringlaw5_mays_ok (n : Nat)  (r : Bool) (h : G_ringlaw5_mays n  = some r) : Ret Try.prog 16 [] (eB r) := by
  refine ret_run (n := 33) (fn := Try.f16) (c := bodyOf Try.f16) (by kernel_rfl) (by kernel_rfl) (by kernel_rfl) (by kernel_rfl) ?_
  have hF : KC 33 (FinR Try.prog Try.f16 (eB r)) := FinR.kc' (by kernel_rfl)
  unfold G_ringlaw5_mays at h
  obtain ⟨v_r78, h95, h⟩ := bind_some h
  obtain ⟨v_r125, h146, h⟩ := bind_some h
  obtain ⟨v_o130, h153, h⟩ := bind_some h
  refine pkk_sound TTok mix hF 9 (hs := [.c, .c, .r (.tup [eB v_r78.1, (eI .i64) v_r78.2]), .c, .bd, .r (.tup [eB v_r125.1, (eI .i64) v_r125.2])]) (ts := []) (s := []) (l := [2, 3, 4, 5]) (by kernel_rfl) (by kernel_rfl) (.cons (show 0 + 6 ≤ 6 by decide) (.cons (G_mode_May_ok n (S_api_Stat.mk 0 420 1 0 0 0) (S_api_Cred.mk 1 0 ([] : (List Int)) 0 0 0) 2 _ h95) (.cons (G_mode_Listed_ok n (S_api_Stat.mk 0 420 1 0 0 0) ([(S_mode_Entry.mk false 2 2)]) (S_api_Cred.mk 2 0 ([] : (List Int)) 0 0 0) 2 _ h146) .nil))) (G_ringlaw5_mays_C1_ok hF (.s (cR (cR (cR (cR (cR (bodyOf Try.f16)))))) :: []) n v_r78 v_r125 _ h153 ?_)
  cases v_o130 with
  | x0 v_z131 =>
    dsimp only at h
    obtain rfl := Option.some.inj h
    exact pend_sound TTok mix 1 (hs := []) (by kernel_rfl) (by kernel_rfl) (by kernel_rfl) .nil
/- ringhall/mode.Set -/
def G_mode_Set (n : Nat) (v_s134 : S_api_Stat) (v_c135 : S_api_Cred) (v_mode136 : Int) : Option (S_api_Stat × Int) :=
  (G_mode_May n v_s134 v_c135 0).bind fun (v_r137 : (Bool × Int)) =>
  if v_r137.2 = 0 then
   if v_mode136 < 0 then
    some ((S_api_Stat.mk 0 0 0 0 0 0), 1)
   else
    if v_mode136 > 511 then
     some ((S_api_Stat.mk 0 0 0 0 0 0), 1)
    else
     if v_c135.fUser = v_s134.fUser then
      some ((S_api_Stat.mk v_s134.fKind v_mode136 v_s134.fUser v_s134.fGroup v_s134.fSize v_s134.fLinks), 0)
     else
      if (bits .and .i64 v_c135.fCaps 4) = 0 then
       some ((S_api_Stat.mk 0 0 0 0 0 0), 7)
      else
       some ((S_api_Stat.mk v_s134.fKind v_mode136 v_s134.fUser v_s134.fGroup v_s134.fSize v_s134.fLinks), 0)
  else
   some ((S_api_Stat.mk 0 0 0 0 0 0), v_r137.2)
theorem G_mode_Set_ok (n : Nat) (v_s134 : S_api_Stat) (v_c135 : S_api_Cred) (v_mode136 : Int) (r : S_api_Stat × Int) (h : G_mode_Set n v_s134 v_c135 v_mode136 = some r) : Ret Try.prog 18 [eS_api_Stat v_s134, eS_api_Cred v_c135, (eI .i64) v_mode136] (.tup [eS_api_Stat r.1, (eI .i64) r.2]) := by
  refine ret_run (n := 42) (fn := Try.f18) (c := bodyOf Try.f18) (by kernel_rfl) (by kernel_rfl) (by kernel_rfl) (by kernel_rfl) ?_
  have hF : KC 42 (FinR Try.prog Try.f18 (.tup [eS_api_Stat r.1, (eI .i64) r.2])) := FinR.kc' (by kernel_rfl)
  unfold G_mode_Set at h
  obtain ⟨v_r137, h157, h⟩ := bind_some h
  by_cases h159 : v_r137.2 = 0
  · rw [if_pos h159] at h
    by_cases h160 : v_mode136 < 0
    · rw [if_pos h160] at h
      obtain rfl := Option.some.inj h
      exact pend_sound TTok mix 17 (hs := [.c, .c, .r (.tup [eB v_r137.1, (eI .i64) v_r137.2]), .t false, .t true, .c, .c, .c]) (by kernel_rfl) (by kernel_rfl) (by kernel_rfl) (.cons (G_mode_May_ok n v_s134 v_c135 0 _ h157) (.cons (nf h159) (.cons (dt h160) (.cons (show 0 + 6 ≤ 6 by decide) .nil))))
    · rw [if_neg h160] at h
      by_cases h162 : v_mode136 > 511
      · rw [if_pos h162] at h
        obtain rfl := Option.some.inj h
        exact pend_sound TTok mix 17 (hs := [.c, .c, .r (.tup [eB v_r137.1, (eI .i64) v_r137.2]), .t false, .t false, .c, .t true, .c]) (by kernel_rfl) (by kernel_rfl) (by kernel_rfl) (.cons (G_mode_May_ok n v_s134 v_c135 0 _ h157) (.cons (nf h159) (.cons (df h160) (.cons (dt h162) (.cons (show 0 + 6 ≤ 6 by decide) .nil)))))
      · rw [if_neg h162] at h
        by_cases h164 : v_c135.fUser = v_s134.fUser
        · rw [if_pos h164] at h
          obtain rfl := Option.some.inj h
          exact pend_sound TTok mix 24 (hs := [.c, .c, .r (.tup [eB v_r137.1, (eI .i64) v_r137.2]), .t false, .t false, .c, .t false, .c, .c, .t false, .c, .c, .c, .c, .c, .c, .c]) (by kernel_rfl) (by kernel_rfl) (by kernel_rfl) (.cons (G_mode_May_ok n v_s134 v_c135 0 _ h157) (.cons (nf h159) (.cons (df h160) (.cons (df h162) (.cons (nf h164) (.cons (show 1 + 1 ≤ 6 by decide) (.cons (show 0 + 6 ≤ 6 by decide) .nil)))))))
        · rw [if_neg h164] at h
          by_cases h166 : (bits .and .i64 v_c135.fCaps 4) = 0
          · rw [if_pos h166] at h
            obtain rfl := Option.some.inj h
            exact pend_sound TTok mix 22 (hs := [.c, .c, .r (.tup [eB v_r137.1, (eI .i64) v_r137.2]), .t false, .t false, .c, .t false, .c, .c, .t true, .c, .c, .c, .c, .t true, .c]) (by kernel_rfl) (by kernel_rfl) (by kernel_rfl) (.cons (G_mode_May_ok n v_s134 v_c135 0 _ h157) (.cons (nf h159) (.cons (df h160) (.cons (df h162) (.cons (nt h164) (.cons (bt h166) (.cons (show 0 + 6 ≤ 6 by decide) .nil)))))))
          · rw [if_neg h166] at h
            obtain rfl := Option.some.inj h
            exact pend_sound TTok mix 24 (hs := [.c, .c, .r (.tup [eB v_r137.1, (eI .i64) v_r137.2]), .t false, .t false, .c, .t false, .c, .c, .t true, .c, .c, .c, .c, .t false, .c, .c, .c]) (by kernel_rfl) (by kernel_rfl) (by kernel_rfl) (.cons (G_mode_May_ok n v_s134 v_c135 0 _ h157) (.cons (nf h159) (.cons (df h160) (.cons (df h162) (.cons (nt h164) (.cons (bf h166) (.cons (show 1 + 1 ≤ 6 by decide) (.cons (show 0 + 6 ≤ 6 by decide) .nil))))))))
  · rw [if_neg h159] at h
    obtain rfl := Option.some.inj h
    exact pend_sound TTok mix 12 (hs := [.c, .c, .r (.tup [eB v_r137.1, (eI .i64) v_r137.2]), .t true, .c]) (by kernel_rfl) (by kernel_rfl) (by kernel_rfl) (.cons (G_mode_May_ok n v_s134 v_c135 0 _ h157) (.cons (nt h159) (.cons (show 0 + 6 ≤ 6 by decide) .nil)))
inductive G_mode_Own_C1_R where
  | x0 (v_x144 : Bool)
def G_mode_Own_C1_ex : G_mode_Own_C1_R → Ex
  | .x0 _ => .normal
def G_mode_Own_C1_st (v_user141 : Int) (v_group142 : Int) (v_s139 : S_api_Stat) (v_c140 : S_api_Cred) : G_mode_Own_C1_R → PS
  | .x0 v_x144 => ⟨[dd, dd, .d (.v (.int .i64 v_user141)), .d (.v (.int .i64 v_group142)), .ref 0 0, .ref 1 0, dd, dd, .ref 2 0, dd, dd, dd, dd, dd, dd, dd, dd, dd, dd, dd, dd, dd, dd, dd, dd, dd, dd, dd, dd, dd, dd, dd, dd, dd, dd, dd, dd, .d (.v (.bool v_x144)), dd, dd, dd, dd, dd, dd, dd, dd, dd, dd, dd, dd, dd, dd, dd, dd, dd, dd, dd, dd, dd, dd, dd, dd, dd, dd, dd, dd, dd, dd, dd, dd, dd, dd, dd, dd, dd, dd], [.box [.d (.v (.int .i64 v_s139.fKind)), .d (.v (.int .i64 v_s139.fMode)), .d (.v (.int .i64 v_s139.fUser)), .d (.v (.int .i64 v_s139.fGroup)), .d (.v (.int .i64 v_s139.fSize)), .d (.v (.int .i64 v_s139.fLinks))], .box [.d (.v (.int .i64 v_c140.fUser)), .d (.v (.int .i64 v_c140.fGroup)), .d (.sl (v_c140.fMore.map (eI .i64))), .d (.v (.int .i64 v_c140.fCaps)), .d (.v (.int .i64 v_c140.fLevel)), .d (.v (.int .i64 v_c140.fKind))], .box [.d (.v (.int .i64 0)), .d (.v (.int .i64 0)), .d (.v (.int .i64 0)), .d (.v (.int .i64 0)), .d (.v (.int .i64 0)), .d (.v (.int .i64 0))]]⟩
def G_mode_Own_C1_hd (v_user141 : Int) (v_group142 : Int) (v_s139 : S_api_Stat) (v_c140 : S_api_Cred)  : PS := ⟨[dd, dd, .d (.v (.int .i64 v_user141)), .d (.v (.int .i64 v_group142)), .ref 0 0, .ref 1 0, dd, dd, .ref 2 0, dd, dd, dd, dd, dd, dd, dd, dd, dd, dd, dd, dd, dd, dd, dd, dd, dd, dd, dd, dd, dd, dd, dd, dd, dd, dd, dd, dd, dd, dd, dd, dd, dd, dd, dd, dd, dd, dd, dd, dd, dd, dd, dd, dd, dd, dd, dd, dd, dd, dd, dd, dd, dd, dd, dd, dd, dd, dd, dd, dd, dd, dd, dd, dd, dd, dd, dd], [.box [.d (.v (.int .i64 v_s139.fKind)), .d (.v (.int .i64 v_s139.fMode)), .d (.v (.int .i64 v_s139.fUser)), .d (.v (.int .i64 v_s139.fGroup)), .d (.v (.int .i64 v_s139.fSize)), .d (.v (.int .i64 v_s139.fLinks))], .box [.d (.v (.int .i64 v_c140.fUser)), .d (.v (.int .i64 v_c140.fGroup)), .d (.sl (v_c140.fMore.map (eI .i64))), .d (.v (.int .i64 v_c140.fCaps)), .d (.v (.int .i64 v_c140.fLevel)), .d (.v (.int .i64 v_c140.fKind))], .box [.d (.v (.int .i64 0)), .d (.v (.int .i64 0)), .d (.v (.int .i64 0)), .d (.v (.int .i64 0)), .d (.v (.int .i64 0)), .d (.v (.int .i64 0))]]⟩
def G_mode_Own_C1 (n : Nat) (v_user141 : Int) (v_group142 : Int) (v_s139 : S_api_Stat) (v_c140 : S_api_Cred) : Option G_mode_Own_C1_R :=
  if v_user141 < 0 then
   some (.x0 true)
  else
   if v_user141 > 99 then
    some (.x0 true)
   else
    if v_group142 < 0 then
     some (.x0 true)
    else
     some (.x0 (decide (v_group142 > 99)))
theorem G_mode_Own_C1_ok {Fi : Ex → PS → Prop} (hF : KC 76 Fi) (ks : List Fr) (n : Nat) (v_user141 : Int) (v_group142 : Int) (v_s139 : S_api_Stat) (v_c140 : S_api_Cred)  (o : G_mode_Own_C1_R) (h : G_mode_Own_C1 n v_user141 v_group142 v_s139 v_c140 = some o) (q : RunE Try.prog 76 Fi ks (G_mode_Own_C1_ex o) (G_mode_Own_C1_st v_user141 v_group142 v_s139 v_c140 o)) : RunE Try.prog 76 Fi (.s (cL (cL (cR (cR (bodyOf Try.f19))))) :: ks) .normal (G_mode_Own_C1_hd v_user141 v_group142 v_s139 v_c140) := by
  unfold G_mode_Own_C1 at h
  by_cases h174 : v_user141 < 0
  · rw [if_pos h174] at h
    cases h
    exact pkk_sound TTok mix hF 1 (hs := [.t true, .c, .c, .c, .c, .c]) (ts := []) (s := [0, 1, 2]) (l := [2, 3, 4, 5, 8, 37]) (by kernel_rfl) (by kernel_rfl) (.cons (dt h174) .nil) q
  · rw [if_neg h174] at h
    by_cases h175 : v_user141 > 99
    · rw [if_pos h175] at h
      cases h
      exact pkk_sound TTok mix hF 1 (hs := [.t false, .c, .t true, .c, .c, .c]) (ts := []) (s := [0, 1, 2]) (l := [2, 3, 4, 5, 8, 37]) (by kernel_rfl) (by kernel_rfl) (.cons (df h174) (.cons (dt h175) .nil)) q
    · rw [if_neg h175] at h
      by_cases h176 : v_group142 < 0
      · rw [if_pos h176] at h
        cases h
        exact pkk_sound TTok mix hF 1 (hs := [.t false, .c, .t false, .c, .t true, .c]) (ts := []) (s := [0, 1, 2]) (l := [2, 3, 4, 5, 8, 37]) (by kernel_rfl) (by kernel_rfl) (.cons (df h174) (.cons (df h175) (.cons (dt h176) .nil))) q
      · rw [if_neg h176] at h
        cases h
        exact pkk_sound TTok mix hF 1 (hs := [.t false, .c, .t false, .c, .t false, .c]) (ts := []) (s := [0, 1, 2]) (l := [2, 3, 4, 5, 8, 37]) (by kernel_rfl) (by kernel_rfl) (.cons (df h174) (.cons (df h175) (.cons (df h176) .nil))) q
inductive G_mode_Own_C2_R where
  | x0 (v_x158 : Bool)
def G_mode_Own_C2_ex : G_mode_Own_C2_R → Ex
  | .x0 _ => .normal
def G_mode_Own_C2_st (v_user141 : Int) (v_group142 : Int) (v_r157 : (Bool × Int)) (v_s139 : S_api_Stat) (v_c140 : S_api_Cred) : G_mode_Own_C2_R → PS
  | .x0 v_x158 => ⟨[dd, dd, .d (.v (.int .i64 v_user141)), .d (.v (.int .i64 v_group142)), .ref 0 0, dd, dd, dd, .ref 1 0, dd, dd, dd, dd, dd, dd, dd, dd, dd, dd, dd, dd, dd, dd, dd, dd, dd, dd, dd, dd, dd, dd, dd, dd, dd, dd, dd, dd, dd, dd, dd, dd, dd, dd, dd, dd, dd, dd, dd, dd, dd, dd, dd, dd, dd, dd, dd, dd, dd, dd, dd, dd, dd, dd, dd, dd, dd, dd, dd, dd, .d (.v (.bool v_x158)), dd, dd, dd, dd, dd, dd], [.box [.d (.v (.int .i64 v_s139.fKind)), .d (.v (.int .i64 v_s139.fMode)), .d (.v (.int .i64 v_s139.fUser)), .d (.v (.int .i64 v_s139.fGroup)), .d (.v (.int .i64 v_s139.fSize)), .d (.v (.int .i64 v_s139.fLinks))], .box [.d (.v (.int .i64 0)), .d (.v (.int .i64 0)), .d (.v (.int .i64 0)), .d (.v (.int .i64 0)), .d (.v (.int .i64 0)), .d (.v (.int .i64 0))]]⟩
def G_mode_Own_C2_hd (v_user141 : Int) (v_group142 : Int) (v_r157 : (Bool × Int)) (v_s139 : S_api_Stat) (v_c140 : S_api_Cred)  : PS := ⟨[dd, dd, .d (.v (.int .i64 v_user141)), .d (.v (.int .i64 v_group142)), .ref 0 0, .ref 1 0, dd, dd, .ref 2 0, dd, dd, dd, .d (.v (.bool v_r157.1)), dd, dd, dd, dd, dd, dd, dd, dd, dd, dd, dd, dd, dd, dd, dd, dd, dd, dd, dd, dd, dd, dd, dd, dd, dd, dd, dd, dd, dd, dd, dd, dd, dd, dd, dd, dd, dd, dd, dd, dd, dd, dd, dd, dd, dd, dd, dd, dd, dd, dd, dd, dd, dd, dd, dd, dd, dd, dd, dd, dd, dd, dd, dd], [.box [.d (.v (.int .i64 v_s139.fKind)), .d (.v (.int .i64 v_s139.fMode)), .d (.v (.int .i64 v_s139.fUser)), .d (.v (.int .i64 v_s139.fGroup)), .d (.v (.int .i64 v_s139.fSize)), .d (.v (.int .i64 v_s139.fLinks))], .box [.d (.v (.int .i64 v_c140.fUser)), .d (.v (.int .i64 v_c140.fGroup)), .d (.sl (v_c140.fMore.map (eI .i64))), .d (.v (.int .i64 v_c140.fCaps)), .d (.v (.int .i64 v_c140.fLevel)), .d (.v (.int .i64 v_c140.fKind))], .box [.d (.v (.int .i64 0)), .d (.v (.int .i64 0)), .d (.v (.int .i64 0)), .d (.v (.int .i64 0)), .d (.v (.int .i64 0)), .d (.v (.int .i64 0))]]⟩
def G_mode_Own_C2 (n : Nat) (v_user141 : Int) (v_group142 : Int) (v_r157 : (Bool × Int)) (v_s139 : S_api_Stat) (v_c140 : S_api_Cred) : Option G_mode_Own_C2_R :=
  if v_c140.fUser = v_s139.fUser then
   if v_user141 = v_s139.fUser then
    if v_r157.1 = true then
     some (.x0 false)
    else
     some (.x0 (v_group142 != v_s139.fGroup))
   else
    some (.x0 true)
  else
   some (.x0 true)
theorem G_mode_Own_C2_ok {Fi : Ex → PS → Prop} (hF : KC 76 Fi) (ks : List Fr) (n : Nat) (v_user141 : Int) (v_group142 : Int) (v_r157 : (Bool × Int)) (v_s139 : S_api_Stat) (v_c140 : S_api_Cred)  (o : G_mode_Own_C2_R) (h : G_mode_Own_C2 n v_user141 v_group142 v_r157 v_s139 v_c140 = some o) (q : RunE Try.prog 76 Fi ks (G_mode_Own_C2_ex o) (G_mode_Own_C2_st v_user141 v_group142 v_r157 v_s139 v_c140 o)) : RunE Try.prog 76 Fi (.s (cL (cR (cT (cR (cL (cR (cR (cR (bodyOf Try.f19))))))))) :: ks) .normal (G_mode_Own_C2_hd v_user141 v_group142 v_r157 v_s139 v_c140) := by
  unfold G_mode_Own_C2 at h
  by_cases h195 : v_c140.fUser = v_s139.fUser
  · rw [if_pos h195] at h
    by_cases h196 : v_user141 = v_s139.fUser
    · rw [if_pos h196] at h
      by_cases h197 : v_r157.1 = true
      · rw [if_pos h197] at h
        cases h
        exact pkk_sound TTok mix hF 1 (hs := [.c, .c, .t false, .c, .c, .c, .c, .t false, .c, .c, .t false, .c, .c, .c, .c]) (ts := []) (s := [0, 2]) (l := [2, 3, 4, 8, 69]) (by kernel_rfl) (by kernel_rfl) (.cons (nf h195) (.cons (nf h196) (.cons (bnf h197) .nil))) q
      · rw [if_neg h197] at h
        cases h
        exact pkk_sound TTok mix hF 1 (hs := [.c, .c, .t false, .c, .c, .c, .c, .t false, .c, .c, .t true, .c, .c, .c, .c, .c]) (ts := []) (s := [0, 2]) (l := [2, 3, 4, 8, 69]) (by kernel_rfl) (by kernel_rfl) (.cons (nf h195) (.cons (nf h196) (.cons (bnt (vf h197)) .nil))) q
    · rw [if_neg h196] at h
      cases h
      exact pkk_sound TTok mix hF 1 (hs := [.c, .c, .t false, .c, .c, .c, .c, .t true, .c, .c, .c]) (ts := []) (s := [0, 2]) (l := [2, 3, 4, 8, 69]) (by kernel_rfl) (by kernel_rfl) (.cons (nf h195) (.cons (nt h196) .nil)) q
  · rw [if_neg h195] at h
    cases h
    exact pkk_sound TTok mix hF 1 (hs := [.c, .c, .t true, .c, .c, .c, .c, .c, .c, .c]) (ts := []) (s := [0, 2]) (l := [2, 3, 4, 8, 69]) (by kernel_rfl) (by kernel_rfl) (.cons (nt h195) .nil) q
/- ringhall/mode.Own -/
def G_mode_Own (n : Nat) (v_s139 : S_api_Stat) (v_c140 : S_api_Cred) (v_user141 : Int) (v_group142 : Int) : Option (S_api_Stat × Int) :=
  (G_mode_May n v_s139 v_c140 0).bind fun (v_r143 : (Bool × Int)) =>
  if v_r143.2 = 0 then
   (G_mode_Own_C1 n v_user141 v_group142 v_s139 v_c140).bind fun v_o148 => match v_o148 with
   | .x0 v_z149 =>
     if v_z149 = true then
      some ((S_api_Stat.mk 0 0 0 0 0 0), 1)
     else
      if (bits .and .i64 v_c140.fCaps 4) = 0 then
       (G_cred_In n v_c140 v_group142).bind fun (v_r157 : (Bool × Int)) =>
       (G_mode_Own_C2 n v_user141 v_group142 v_r157 v_s139 v_c140).bind fun v_o162 => match v_o162 with
       | .x0 v_z163 =>
         if v_z163 = true then
          some ((S_api_Stat.mk 0 0 0 0 0 0), 7)
         else
          some ((S_api_Stat.mk v_s139.fKind v_s139.fMode v_user141 v_group142 v_s139.fSize v_s139.fLinks), 0)
      else
       some ((S_api_Stat.mk v_s139.fKind v_s139.fMode v_user141 v_group142 v_s139.fSize v_s139.fLinks), 0)
  else
   some ((S_api_Stat.mk 0 0 0 0 0 0), v_r143.2)
theorem G_mode_Own_ok (n : Nat) (v_s139 : S_api_Stat) (v_c140 : S_api_Cred) (v_user141 : Int) (v_group142 : Int) (r : S_api_Stat × Int) (h : G_mode_Own n v_s139 v_c140 v_user141 v_group142 = some r) : Ret Try.prog 19 [eS_api_Stat v_s139, eS_api_Cred v_c140, (eI .i64) v_user141, (eI .i64) v_group142] (.tup [eS_api_Stat r.1, (eI .i64) r.2]) := by
  refine ret_run (n := 76) (fn := Try.f19) (c := bodyOf Try.f19) (by kernel_rfl) (by kernel_rfl) (by kernel_rfl) (by kernel_rfl) ?_
  have hF : KC 76 (FinR Try.prog Try.f19 (.tup [eS_api_Stat r.1, (eI .i64) r.2])) := FinR.kc' (by kernel_rfl)
  unfold G_mode_Own at h
  obtain ⟨v_r143, h168, h⟩ := bind_some h
  by_cases h170 : v_r143.2 = 0
  · rw [if_pos h170] at h
    obtain ⟨v_o148, h177, h⟩ := bind_some h
    refine pkk_sound TTok mix hF 11 (hs := [.c, .c, .r (.tup [eB v_r143.1, (eI .i64) v_r143.2]), .t false]) (ts := []) (s := [0, 3, 6]) (l := [2, 3, 4, 5, 8]) (by kernel_rfl) (by kernel_rfl) (.cons (G_mode_May_ok n v_s139 v_c140 0 _ h168) (.cons (nf h170) .nil)) (G_mode_Own_C1_ok hF (.s (cR (cL (cR (cR (bodyOf Try.f19))))) :: .s (cR (cR (cR (bodyOf Try.f19)))) :: []) n v_user141 v_group142 v_s139 v_c140 _ h177 ?_)
    cases v_o148 with
    | x0 v_z149 =>
      dsimp only at h
      by_cases h179 : v_z149 = true
      · rw [if_pos h179] at h
        obtain rfl := Option.some.inj h
        exact pend_sound TTok mix 5 (hs := [.t true, .c]) (by kernel_rfl) (by kernel_rfl) (by kernel_rfl) (.cons h179 (.cons (show 0 + 6 ≤ 6 by decide) .nil))
      · rw [if_neg h179] at h
        by_cases h190 : (bits .and .i64 v_c140.fCaps 4) = 0
        · rw [if_pos h190] at h
          obtain ⟨v_r157, h191, h⟩ := bind_some h
          obtain ⟨v_o162, h198, h⟩ := bind_some h
          refine pkk_sound TTok mix hF 9 (hs := [.t false, .c, .t true, .c, .r (.tup [eB v_r157.1, (eI .i64) v_r157.2])]) (ts := []) (s := [0, 1, 2]) (l := [2, 3, 4, 5, 8, 12]) (by kernel_rfl) (by kernel_rfl) (.cons (vf h179) (.cons (bt h190) (.cons (G_cred_In_ok n v_c140 v_group142 _ h191) .nil))) (G_mode_Own_C2_ok hF (.s (cR (cR (cT (cR (cL (cR (cR (cR (bodyOf Try.f19))))))))) :: .s (cR (cR (cR (cR (bodyOf Try.f19))))) :: []) n v_user141 v_group142 v_r157 v_s139 v_c140 _ h198 ?_)
          cases v_o162 with
          | x0 v_z163 =>
            dsimp only at h
            by_cases h200 : v_z163 = true
            · rw [if_pos h200] at h
              obtain rfl := Option.some.inj h
              exact pend_sound TTok mix 5 (hs := [.t true, .c]) (by kernel_rfl) (by kernel_rfl) (by kernel_rfl) (.cons h200 (.cons (show 0 + 6 ≤ 6 by decide) .nil))
            · rw [if_neg h200] at h
              obtain rfl := Option.some.inj h
              exact pend_sound TTok mix 7 (hs := [.t false, .c, .c, .c, .c]) (by kernel_rfl) (by kernel_rfl) (by kernel_rfl) (.cons (vf h200) (.cons (show 2 + 1 ≤ 6 by decide) (.cons (show 3 + 1 ≤ 6 by decide) (.cons (show 0 + 6 ≤ 6 by decide) .nil))))
        · rw [if_neg h190] at h
          obtain rfl := Option.some.inj h
          exact pend_sound TTok mix 12 (hs := [.t false, .c, .t false, .c, .c, .c, .c]) (by kernel_rfl) (by kernel_rfl) (by kernel_rfl) (.cons (vf h179) (.cons (bf h190) (.cons (show 2 + 1 ≤ 6 by decide) (.cons (show 3 + 1 ≤ 6 by decide) (.cons (show 0 + 6 ≤ 6 by decide) .nil)))))
  · rw [if_neg h170] at h
    obtain rfl := Option.some.inj h
    exact pend_sound TTok mix 12 (hs := [.c, .c, .r (.tup [eB v_r143.1, (eI .i64) v_r143.2]), .t true, .c]) (by kernel_rfl) (by kernel_rfl) (by kernel_rfl) (.cons (G_mode_May_ok n v_s139 v_c140 0 _ h168) (.cons (nt h170) (.cons (show 0 + 6 ≤ 6 by decide) .nil)))
inductive G_ringref5_CredErr_C1_R where
  | x0 (v_x166 : Bool)
def G_ringref5_CredErr_C1_ex : G_ringref5_CredErr_C1_R → Ex
  | .x0 _ => .normal
def G_ringref5_CredErr_C1_st (v_c165 : S_api_Cred) : G_ringref5_CredErr_C1_R → PS
  | .x0 v_x166 => ⟨[dd, .ref 0 0, dd, dd, dd, dd, dd, dd, dd, dd, dd, dd, dd, dd, dd, dd, dd, dd, dd, .d (.v (.bool v_x166)), dd, dd, dd, dd, dd, dd, dd, dd, dd, dd, dd, dd, dd, dd, dd, dd, dd, dd, dd, dd, dd, dd, dd, dd, dd, dd, dd, dd, dd, dd, dd, dd, dd, dd, dd, dd, dd, dd, dd, dd, dd, dd, dd, dd, dd], [.box [.d (.v (.int .i64 v_c165.fUser)), .d (.v (.int .i64 v_c165.fGroup)), .d (.sl (v_c165.fMore.map (eI .i64))), .d (.v (.int .i64 v_c165.fCaps)), .d (.v (.int .i64 v_c165.fLevel)), .d (.v (.int .i64 v_c165.fKind))]]⟩
def G_ringref5_CredErr_C1_hd (v_c165 : S_api_Cred)  : PS := ⟨[dd, .ref 0 0, dd, dd, dd, dd, dd, dd, dd, dd, dd, dd, dd, dd, dd, dd, dd, dd, dd, dd, dd, dd, dd, dd, dd, dd, dd, dd, dd, dd, dd, dd, dd, dd, dd, dd, dd, dd, dd, dd, dd, dd, dd, dd, dd, dd, dd, dd, dd, dd, dd, dd, dd, dd, dd, dd, dd, dd, dd, dd, dd, dd, dd, dd, dd], [.box [.d (.v (.int .i64 v_c165.fUser)), .d (.v (.int .i64 v_c165.fGroup)), .d (.sl (v_c165.fMore.map (eI .i64))), .d (.v (.int .i64 v_c165.fCaps)), .d (.v (.int .i64 v_c165.fLevel)), .d (.v (.int .i64 v_c165.fKind))]]⟩
def G_ringref5_CredErr_C1 (n : Nat) (v_c165 : S_api_Cred) : Option G_ringref5_CredErr_C1_R :=
  if (minI v_c165.fUser v_c165.fGroup) < 0 then
   some (.x0 true)
  else
   some (.x0 (decide ((maxI v_c165.fUser v_c165.fGroup) > 99)))
theorem G_ringref5_CredErr_C1_ok {Fi : Ex → PS → Prop} (hF : KC 65 Fi) (ks : List Fr) (n : Nat) (v_c165 : S_api_Cred)  (o : G_ringref5_CredErr_C1_R) (h : G_ringref5_CredErr_C1 n v_c165 = some o) (q : RunE Try.prog 65 Fi ks (G_ringref5_CredErr_C1_ex o) (G_ringref5_CredErr_C1_st v_c165 o)) : RunE Try.prog 65 Fi (.s (cL (cL (cR (bodyOf Try.f20)))) :: ks) .normal (G_ringref5_CredErr_C1_hd v_c165) := by
  unfold G_ringref5_CredErr_C1 at h
  by_cases h203 : (minI v_c165.fUser v_c165.fGroup) < 0
  · rw [if_pos h203] at h
    cases h
    exact pkk_sound TTok mix hF 1 (hs := [.c, .c, .t true, .c, .c, .c, .c, .c]) (ts := []) (s := [0]) (l := [1, 19]) (by kernel_rfl) (by kernel_rfl) (.cons (dt h203) .nil) q
  · rw [if_neg h203] at h
    cases h
    exact pkk_sound TTok mix hF 1 (hs := [.c, .c, .t false, .c, .c, .c, .c, .c, .c, .c]) (ts := []) (s := [0]) (l := [1, 19]) (by kernel_rfl) (by kernel_rfl) (.cons (df h203) .nil) q
inductive G_ringref5_CredErr_L2_R where
  | x0 (v_x174 : Int)
  | x1 
def G_ringref5_CredErr_L2_ex : G_ringref5_CredErr_L2_R → Ex
  | .x0 _ => .ret
  | .x1  => .exit 0
def G_ringref5_CredErr_L2_st (v_c165 : S_api_Cred) : G_ringref5_CredErr_L2_R → PS
  | .x0 v_x174 => ⟨[dd, dd, .d (.v (.int .i64 v_x174)), dd, dd, dd, dd, dd, dd, dd, dd, dd, dd, dd, dd, dd, dd, dd, dd, dd, dd, dd, dd, dd, dd, dd, dd, dd, dd, dd, dd, dd, dd, dd, dd, dd, dd, dd, dd, dd, dd, dd, dd, dd, dd, dd, dd, dd, dd, dd, dd, dd, dd, dd, dd, dd, dd, dd, dd, dd, dd, dd, dd, dd, dd], []⟩
  | .x1  => ⟨[dd, .ref 0 0, dd, dd, dd, dd, dd, dd, dd, dd, dd, dd, dd, dd, dd, dd, dd, dd, dd, dd, dd, dd, dd, dd, dd, dd, dd, dd, dd, dd, dd, dd, dd, dd, dd, dd, dd, dd, dd, dd, dd, dd, dd, dd, dd, dd, dd, dd, dd, dd, dd, dd, dd, dd, dd, dd, dd, dd, dd, dd, dd, dd, dd, dd, dd], [.box [.d (.v (.int .i64 v_c165.fUser)), .d (.v (.int .i64 v_c165.fGroup)), .d (.sl (v_c165.fMore.map (eI .i64))), .d (.v (.int .i64 v_c165.fCaps)), .d (.v (.int .i64 v_c165.fLevel)), .d (.v (.int .i64 v_c165.fKind))]]⟩
def G_ringref5_CredErr_L2_hd (v_c165 : S_api_Cred) (v_last170 : Int) (v_x171 : Int) : PS := ⟨[dd, .ref 0 0, dd, .d (.v (.int .i64 v_last170)), dd, dd, dd, dd, dd, dd, dd, dd, dd, dd, dd, dd, dd, dd, dd, dd, dd, dd, dd, dd, dd, .d (.sl (v_c165.fMore.map (eI .i64))), .d (.v (.int .i64 (v_c165.fMore.length : Int))), .d (.v (.int .i64 v_x171)), dd, dd, dd, dd, dd, dd, dd, dd, dd, dd, dd, dd, dd, dd, dd, dd, dd, dd, dd, dd, dd, dd, dd, dd, dd, dd, dd, dd, dd, dd, dd, dd, dd, dd, dd, dd, dd], [.box [.d (.v (.int .i64 v_c165.fUser)), .d (.v (.int .i64 v_c165.fGroup)), .d (.sl (v_c165.fMore.map (eI .i64))), .d (.v (.int .i64 v_c165.fCaps)), .d (.v (.int .i64 v_c165.fLevel)), .d (.v (.int .i64 v_c165.fKind))]]⟩
def G_ringref5_CredErr_L2 (n : Nat) (v_c165 : S_api_Cred) : Nat → Int → Int → Option G_ringref5_CredErr_L2_R
  | 0, _, _ => none
  | k + 1, v_last170, v_x171 =>
    if v_x171 < (v_c165.fMore.length : Int) then
     (getI v_c165.fMore v_x171).bind fun (v_y173 : Int) =>
     if v_y173 < 0 then
      some (.x0 1)
     else
      if v_y173 > 99 then
       some (.x0 1)
      else
       if v_y173 ≤ v_last170 then
        some (.x0 3)
       else
        G_ringref5_CredErr_L2 n v_c165 k v_y173 (wi .i64 (v_x171 + 1))
    else
     some (.x1 )
theorem G_ringref5_CredErr_L2_ok {Fi : Ex → PS → Prop} (hF : KC 65 Fi) (ks : List Fr) (n : Nat) (v_c165 : S_api_Cred)  : ∀ (k : Nat) (v_last170 : Int) (v_x171 : Int) (o : G_ringref5_CredErr_L2_R), G_ringref5_CredErr_L2 n v_c165 k v_last170 v_x171 = some o → RunE Try.prog 65 Fi ks (G_ringref5_CredErr_L2_ex o) (G_ringref5_CredErr_L2_st v_c165 o) → RunE Try.prog 65 Fi (.l k (cP (cB (cR (cL (cR (cR (cR (cR (bodyOf Try.f20))))))))) :: ks) .normal (G_ringref5_CredErr_L2_hd v_c165 v_last170 v_x171)
  | 0, v_last170, v_x171, o, h, q => by rw [G_ringref5_CredErr_L2] at h; cases h
  | k + 1, v_last170, v_x171, o, h, q => by
    rw [G_ringref5_CredErr_L2] at h
    by_cases h207 : v_x171 < (v_c165.fMore.length : Int)
    · rw [if_pos h207] at h
      obtain ⟨v_y173, h212, h⟩ := bind_some h
      by_cases h213 : v_y173 < 0
      · rw [if_pos h213] at h
        cases h
        exact pkk_sound TTok mix hF 21 (hs := [.t true, .y ((eI .i64) v_y173), .c, .t true, .c, .c]) (ts := []) (s := []) (l := [2]) (by kernel_rfl) (by kernel_rfl) (.cons (dt h207) (.cons (getI_ob (f := (eI .i64)) h212) (.cons (dt h213) .nil))) q
      · rw [if_neg h213] at h
        by_cases h214 : v_y173 > 99
        · rw [if_pos h214] at h
          cases h
          exact pkk_sound TTok mix hF 21 (hs := [.t true, .y ((eI .i64) v_y173), .c, .t false, .c, .t true]) (ts := []) (s := []) (l := [2]) (by kernel_rfl) (by kernel_rfl) (.cons (dt h207) (.cons (getI_ob (f := (eI .i64)) h212) (.cons (df h213) (.cons (dt h214) .nil)))) q
        · rw [if_neg h214] at h
          by_cases h215 : v_y173 ≤ v_last170
          · rw [if_pos h215] at h
            cases h
            exact pkk_sound TTok mix hF 26 (hs := [.t true, .y ((eI .i64) v_y173), .c, .t false, .c, .t false, .t true]) (ts := []) (s := []) (l := [2]) (by kernel_rfl) (by kernel_rfl) (.cons (dt h207) (.cons (getI_ob (f := (eI .i64)) h212) (.cons (df h213) (.cons (df h214) (.cons (dt h215) .nil))))) q
          · rw [if_neg h215] at h
            exact pkk_sound TTok mix hF 23 (hs := [.t true, .y ((eI .i64) v_y173), .c, .t false, .c, .t false, .t false]) (ts := []) (s := [0]) (l := [1, 3, 25, 26, 27]) (by kernel_rfl) (by kernel_rfl) (.cons (dt h207) (.cons (getI_ob (f := (eI .i64)) h212) (.cons (df h213) (.cons (df h214) (.cons (df h215) .nil))))) (G_ringref5_CredErr_L2_ok hF ks n v_c165 k v_y173 (wi .i64 (v_x171 + 1)) _ h q)
    · rw [if_neg h207] at h
      cases h
      exact pkk_sound TTok mix hF 8 (hs := [.t false]) (ts := []) (s := [0]) (l := [1]) (by kernel_rfl) (by kernel_rfl) (.cons (df h207) .nil) q
inductive G_ringref5_CredErr_C3_R where
  | x0 (v_x179 : Bool)
def G_ringref5_CredErr_C3_ex : G_ringref5_CredErr_C3_R → Ex
  | .x0 _ => .normal
def G_ringref5_CredErr_C3_st (v_c165 : S_api_Cred) : G_ringref5_CredErr_C3_R → PS
  | .x0 v_x179 => ⟨[dd, dd, dd, dd, dd, dd, dd, dd, dd, dd, dd, dd, dd, dd, dd, dd, dd, dd, dd, dd, dd, dd, dd, dd, dd, dd, dd, dd, dd, dd, dd, dd, dd, dd, dd, dd, dd, dd, dd, dd, dd, dd, dd, dd, dd, dd, dd, dd, dd, dd, dd, dd, dd, dd, dd, dd, dd, dd, dd, dd, dd, dd, dd, dd, .d (.v (.bool v_x179))], []⟩
def G_ringref5_CredErr_C3_hd (v_c165 : S_api_Cred)  : PS := ⟨[dd, .ref 0 0, dd, dd, dd, dd, dd, dd, dd, dd, dd, dd, dd, dd, dd, dd, dd, dd, dd, dd, dd, dd, dd, dd, dd, dd, dd, dd, dd, dd, dd, dd, dd, dd, dd, dd, dd, dd, dd, dd, dd, dd, dd, dd, dd, dd, dd, dd, dd, dd, dd, dd, dd, dd, dd, dd, dd, dd, dd, dd, dd, dd, dd, dd, dd], [.box [.d (.v (.int .i64 v_c165.fUser)), .d (.v (.int .i64 v_c165.fGroup)), .d (.sl (v_c165.fMore.map (eI .i64))), .d (.v (.int .i64 v_c165.fCaps)), .d (.v (.int .i64 v_c165.fLevel)), .d (.v (.int .i64 v_c165.fKind))]]⟩
def G_ringref5_CredErr_C3 (n : Nat) (v_c165 : S_api_Cred) : Option G_ringref5_CredErr_C3_R :=
  if (minI (minI v_c165.fCaps v_c165.fLevel) v_c165.fKind) < 0 then
   some (.x0 true)
  else
   if v_c165.fCaps > 127 then
    some (.x0 true)
   else
    if v_c165.fLevel > 7 then
     some (.x0 true)
    else
     some (.x0 (decide (v_c165.fKind > 255)))
theorem G_ringref5_CredErr_C3_ok {Fi : Ex → PS → Prop} (hF : KC 65 Fi) (ks : List Fr) (n : Nat) (v_c165 : S_api_Cred)  (o : G_ringref5_CredErr_C3_R) (h : G_ringref5_CredErr_C3 n v_c165 = some o) (q : RunE Try.prog 65 Fi ks (G_ringref5_CredErr_C3_ex o) (G_ringref5_CredErr_C3_st v_c165 o)) : RunE Try.prog 65 Fi (.s (cL (cL (cR (cR (cR (cR (cR (bodyOf Try.f20)))))))) :: ks) .normal (G_ringref5_CredErr_C3_hd v_c165) := by
  unfold G_ringref5_CredErr_C3 at h
  by_cases h220 : (minI (minI v_c165.fCaps v_c165.fLevel) v_c165.fKind) < 0
  · rw [if_pos h220] at h
    cases h
    exact pkk_sound TTok mix hF 1 (hs := [.c, .c, .c, .e 19 [] (.d (.v (.int .i64 (minI (minI v_c165.fCaps v_c165.fLevel) v_c165.fKind)))) [], .t true, .c, .c, .c, .c, .c, .c, .c, .c]) (ts := []) (s := []) (l := [64]) (by kernel_rfl) (by kernel_rfl) (.cons (xmin3 (P := Try.prog) (T := TT) (x := (.tmp 43)) (y := (.tmp 45)) (z := (.tmp 47)) (t1 := 3) (t2 := 3) (t3 := 3) (k := .i64) (a := v_c165.fCaps) (b := v_c165.fLevel) (c := v_c165.fKind)) (.cons (dt h220) .nil)) q
  · rw [if_neg h220] at h
    by_cases h221 : v_c165.fCaps > 127
    · rw [if_pos h221] at h
      cases h
      exact pkk_sound TTok mix hF 1 (hs := [.c, .c, .c, .e 19 [] (.d (.v (.int .i64 (minI (minI v_c165.fCaps v_c165.fLevel) v_c165.fKind)))) [], .t false, .c, .c, .c, .t true, .c, .c, .c, .c, .c]) (ts := []) (s := []) (l := [64]) (by kernel_rfl) (by kernel_rfl) (.cons (xmin3 (P := Try.prog) (T := TT) (x := (.tmp 43)) (y := (.tmp 45)) (z := (.tmp 47)) (t1 := 3) (t2 := 3) (t3 := 3) (k := .i64) (a := v_c165.fCaps) (b := v_c165.fLevel) (c := v_c165.fKind)) (.cons (df h220) (.cons (dt h221) .nil))) q
    · rw [if_neg h221] at h
      by_cases h222 : v_c165.fLevel > 7
      · rw [if_pos h222] at h
        cases h
        exact pkk_sound TTok mix hF 1 (hs := [.c, .c, .c, .e 19 [] (.d (.v (.int .i64 (minI (minI v_c165.fCaps v_c165.fLevel) v_c165.fKind)))) [], .t false, .c, .c, .c, .t false, .c, .c, .c, .t true, .c, .c]) (ts := []) (s := []) (l := [64]) (by kernel_rfl) (by kernel_rfl) (.cons (xmin3 (P := Try.prog) (T := TT) (x := (.tmp 43)) (y := (.tmp 45)) (z := (.tmp 47)) (t1 := 3) (t2 := 3) (t3 := 3) (k := .i64) (a := v_c165.fCaps) (b := v_c165.fLevel) (c := v_c165.fKind)) (.cons (df h220) (.cons (df h221) (.cons (dt h222) .nil)))) q
      · rw [if_neg h222] at h
        cases h
        exact pkk_sound TTok mix hF 1 (hs := [.c, .c, .c, .e 19 [] (.d (.v (.int .i64 (minI (minI v_c165.fCaps v_c165.fLevel) v_c165.fKind)))) [], .t false, .c, .c, .c, .t false, .c, .c, .c, .t false, .c, .c, .c]) (ts := []) (s := []) (l := [64]) (by kernel_rfl) (by kernel_rfl) (.cons (xmin3 (P := Try.prog) (T := TT) (x := (.tmp 43)) (y := (.tmp 45)) (z := (.tmp 47)) (t1 := 3) (t2 := 3) (t3 := 3) (k := .i64) (a := v_c165.fCaps) (b := v_c165.fLevel) (c := v_c165.fKind)) (.cons (df h220) (.cons (df h221) (.cons (df h222) .nil)))) q
/- ringhall/ringref5.CredErr -/
def G_ringref5_CredErr (n : Nat) (v_c165 : S_api_Cred) : Option (Int) :=
  (G_ringref5_CredErr_C1 n v_c165).bind fun v_o168 => match v_o168 with
  | .x0 v_z169 =>
    if v_z169 = true then
     some 1
    else
     if (v_c165.fMore.length : Int) > 4 then
      some 2
     else
      (G_ringref5_CredErr_L2 n v_c165 n (-1) 0).bind fun v_o177 => match v_o177 with
      | .x0 v_z178 =>
        some v_z178
      | .x1  =>
        (G_ringref5_CredErr_C3 n v_c165).bind fun v_o183 => match v_o183 with
        | .x0 v_z184 =>
          if v_z184 = true then
           some 1
          else
           some 0
theorem G_ringref5_CredErr_ok (n : Nat) (v_c165 : S_api_Cred) (r : Int) (h : G_ringref5_CredErr n v_c165 = some r) : Ret Try.prog 20 [eS_api_Cred v_c165] ((eI .i64) r) := by
  refine ret_run (n := 65) (fn := Try.f20) (c := bodyOf Try.f20) (by kernel_rfl) (by kernel_rfl) (by kernel_rfl) (by kernel_rfl) ?_
  have hF : KC 65 (FinR Try.prog Try.f20 ((eI .i64) r)) := FinR.kc' (by kernel_rfl)
  unfold G_ringref5_CredErr at h
  obtain ⟨v_o168, h204, h⟩ := bind_some h
  refine pkk_sound TTok mix hF 4 (hs := []) (ts := []) (s := [0]) (l := [1]) (by kernel_rfl) (by kernel_rfl) .nil (G_ringref5_CredErr_C1_ok hF (.s (cR (cL (cR (bodyOf Try.f20)))) :: .s (cR (cR (bodyOf Try.f20))) :: []) n v_c165 _ h204 ?_)
  cases v_o168 with
  | x0 v_z169 =>
    dsimp only at h
    by_cases h205 : v_z169 = true
    · rw [if_pos h205] at h
      obtain rfl := Option.some.inj h
      exact pend_sound TTok mix 5 (hs := [.t true]) (by kernel_rfl) (by kernel_rfl) (by kernel_rfl) (.cons h205 .nil)
    · rw [if_neg h205] at h
      by_cases h206 : (v_c165.fMore.length : Int) > 4
      · rw [if_pos h206] at h
        obtain rfl := Option.some.inj h
        exact pend_sound TTok mix 10 (hs := [.t false, .c, .u (.d (.v (.int .i64 (v_c165.fMore.length : Int)))), .t true]) (by kernel_rfl) (by kernel_rfl) (by kernel_rfl) (.cons (vf h205) (.cons (len_ob (f := (eI .i64)) (l := v_c165.fMore)) (.cons (dt h206) .nil)))
      · rw [if_neg h206] at h
        obtain ⟨v_o177, h216, h⟩ := bind_some h
        refine pkk_sound TTok mix hF 14 (hs := [.t false, .c, .u (.d (.v (.int .i64 (v_c165.fMore.length : Int)))), .t false, .c, .u (.d (.v (.int .i64 (v_c165.fMore.length : Int)))), .n n]) (ts := []) (s := [0]) (l := [1, 3, 25, 26, 27]) (by kernel_rfl) (by kernel_rfl) (.cons (vf h205) (.cons (len_ob (f := (eI .i64)) (l := v_c165.fMore)) (.cons (df h206) (.cons (len_ob (f := (eI .i64)) (l := v_c165.fMore)) .nil)))) (G_ringref5_CredErr_L2_ok hF (.b 0 :: .s (cR (cR (cR (cR (cR (bodyOf Try.f20)))))) :: []) n v_c165 n (-1) 0 _ h216 ?_)
        cases v_o177 with
        | x0 v_z178 =>
          dsimp only at h
          obtain rfl := Option.some.inj h
          exact pend_sound TTok mix 2 (hs := []) (by kernel_rfl) (by kernel_rfl) (by kernel_rfl) .nil
        | x1  =>
          dsimp only at h
          obtain ⟨v_o183, h223, h⟩ := bind_some h
          refine pkk_sound TTok mix hF 3 (hs := []) (ts := []) (s := [0]) (l := [1]) (by kernel_rfl) (by kernel_rfl) .nil (G_ringref5_CredErr_C3_ok hF (.s (cR (cL (cR (cR (cR (cR (cR (bodyOf Try.f20)))))))) :: .s (cR (cR (cR (cR (cR (cR (bodyOf Try.f20))))))) :: []) n v_c165 _ h223 ?_)
          cases v_o183 with
          | x0 v_z184 =>
            dsimp only at h
            by_cases h224 : v_z184 = true
            · rw [if_pos h224] at h
              obtain rfl := Option.some.inj h
              exact pend_sound TTok mix 5 (hs := [.t true]) (by kernel_rfl) (by kernel_rfl) (by kernel_rfl) (.cons h224 .nil)
            · rw [if_neg h224] at h
              obtain rfl := Option.some.inj h
              exact pend_sound TTok mix 5 (hs := [.t false]) (by kernel_rfl) (by kernel_rfl) (by kernel_rfl) (.cons (vf h224) .nil)
inductive G_ringref5_StatErr_C1_R where
  | x0 (v_x187 : Bool)
def G_ringref5_StatErr_C1_ex : G_ringref5_StatErr_C1_R → Ex
  | .x0 _ => .normal
def G_ringref5_StatErr_C1_st (v_s186 : S_api_Stat) : G_ringref5_StatErr_C1_R → PS
  | .x0 v_x187 => ⟨[dd, dd, dd, dd, dd, dd, dd, dd, dd, dd, dd, dd, dd, dd, dd, dd, dd, dd, dd, dd, dd, dd, dd, dd, dd, dd, .d (.v (.bool v_x187))], []⟩
def G_ringref5_StatErr_C1_hd (v_s186 : S_api_Stat)  : PS := ⟨[dd, .ref 0 0, dd, dd, dd, dd, dd, dd, dd, dd, dd, dd, dd, dd, dd, dd, dd, dd, dd, dd, dd, dd, dd, dd, dd, dd, dd], [.box [.d (.v (.int .i64 v_s186.fKind)), .d (.v (.int .i64 v_s186.fMode)), .d (.v (.int .i64 v_s186.fUser)), .d (.v (.int .i64 v_s186.fGroup)), .d (.v (.int .i64 v_s186.fSize)), .d (.v (.int .i64 v_s186.fLinks))]]⟩
def G_ringref5_StatErr_C1 (n : Nat) (v_s186 : S_api_Stat) : Option G_ringref5_StatErr_C1_R :=
  if v_s186.fMode < 0 then
   some (.x0 true)
  else
   if v_s186.fMode > 511 then
    some (.x0 true)
   else
    if (minI v_s186.fUser v_s186.fGroup) < 0 then
     some (.x0 true)
    else
     some (.x0 (decide ((maxI v_s186.fUser v_s186.fGroup) > 99)))
theorem G_ringref5_StatErr_C1_ok {Fi : Ex → PS → Prop} (hF : KC 27 Fi) (ks : List Fr) (n : Nat) (v_s186 : S_api_Stat)  (o : G_ringref5_StatErr_C1_R) (h : G_ringref5_StatErr_C1 n v_s186 = some o) (q : RunE Try.prog 27 Fi ks (G_ringref5_StatErr_C1_ex o) (G_ringref5_StatErr_C1_st v_s186 o)) : RunE Try.prog 27 Fi (.s (cL (cL (cR (bodyOf Try.f21)))) :: ks) .normal (G_ringref5_StatErr_C1_hd v_s186) := by
  unfold G_ringref5_StatErr_C1 at h
  by_cases h230 : v_s186.fMode < 0
  · rw [if_pos h230] at h
    cases h
    exact pkk_sound TTok mix hF 1 (hs := [.c, .t true, .c, .c, .c, .c, .c, .c, .c, .c, .c, .c, .c, .c, .c, .c]) (ts := []) (s := []) (l := [26]) (by kernel_rfl) (by kernel_rfl) (.cons (dt h230) .nil) q
  · rw [if_neg h230] at h
    by_cases h231 : v_s186.fMode > 511
    · rw [if_pos h231] at h
      cases h
      exact pkk_sound TTok mix hF 1 (hs := [.c, .t false, .c, .c, .c, .t true, .c, .c, .c, .c, .c, .c, .c, .c, .c, .c, .c]) (ts := []) (s := []) (l := [26]) (by kernel_rfl) (by kernel_rfl) (.cons (df h230) (.cons (dt h231) .nil)) q
    · rw [if_neg h231] at h
      by_cases h232 : (minI v_s186.fUser v_s186.fGroup) < 0
      · rw [if_pos h232] at h
        cases h
        exact pkk_sound TTok mix hF 1 (hs := [.c, .t false, .c, .c, .c, .t false, .c, .c, .c, .c, .c, .c, .c, .t true, .c, .c, .c, .c, .c]) (ts := []) (s := []) (l := [26]) (by kernel_rfl) (by kernel_rfl) (.cons (df h230) (.cons (df h231) (.cons (dt h232) .nil))) q
      · rw [if_neg h232] at h
        cases h
        exact pkk_sound TTok mix hF 1 (hs := [.c, .t false, .c, .c, .c, .t false, .c, .c, .c, .c, .c, .c, .c, .t false, .c, .c, .c, .c, .c, .c, .c]) (ts := []) (s := []) (l := [26]) (by kernel_rfl) (by kernel_rfl) (.cons (df h230) (.cons (df h231) (.cons (df h232) .nil))) q
/- ringhall/ringref5.StatErr -/
def G_ringref5_StatErr (n : Nat) (v_s186 : S_api_Stat) : Option (Int) :=
  (G_ringref5_StatErr_C1 n v_s186).bind fun v_o191 => match v_o191 with
  | .x0 v_z192 =>
    if v_z192 = true then
     some 1
    else
     some 0
theorem G_ringref5_StatErr_ok (n : Nat) (v_s186 : S_api_Stat) (r : Int) (h : G_ringref5_StatErr n v_s186 = some r) : Ret Try.prog 21 [eS_api_Stat v_s186] ((eI .i64) r) := by
  refine ret_run (n := 27) (fn := Try.f21) (c := bodyOf Try.f21) (by kernel_rfl) (by kernel_rfl) (by kernel_rfl) (by kernel_rfl) ?_
  have hF : KC 27 (FinR Try.prog Try.f21 ((eI .i64) r)) := FinR.kc' (by kernel_rfl)
  unfold G_ringref5_StatErr at h
  obtain ⟨v_o191, h233, h⟩ := bind_some h
  refine pkk_sound TTok mix hF 4 (hs := []) (ts := []) (s := [0]) (l := [1]) (by kernel_rfl) (by kernel_rfl) .nil (G_ringref5_StatErr_C1_ok hF (.s (cR (cL (cR (bodyOf Try.f21)))) :: .s (cR (cR (bodyOf Try.f21))) :: []) n v_s186 _ h233 ?_)
  cases v_o191 with
  | x0 v_z192 =>
    dsimp only at h
    by_cases h234 : v_z192 = true
    · rw [if_pos h234] at h
      obtain rfl := Option.some.inj h
      exact pend_sound TTok mix 5 (hs := [.t true]) (by kernel_rfl) (by kernel_rfl) (by kernel_rfl) (.cons h234 .nil)
    · rw [if_neg h234] at h
      obtain rfl := Option.some.inj h
      exact pend_sound TTok mix 5 (hs := [.t false]) (by kernel_rfl) (by kernel_rfl) (by kernel_rfl) (.cons (vf h234) .nil)
/- ringhall/ringref5.Groups -/
def G_ringref5_Groups (n : Nat) (v_c221 : S_api_Cred) : Option ((List Int)) :=
  (app 8 ([v_c221.fGroup]) v_c221.fMore).bind fun (v_a222 : (List Int)) =>
  some v_a222
theorem G_ringref5_Groups_ok (n : Nat) (v_c221 : S_api_Cred) (r : (List Int)) (h : G_ringref5_Groups n v_c221 = some r) : Ret Try.prog 25 [eS_api_Cred v_c221] ((eL (eI .i64)) r) := by
  refine ret_run (n := 9) (fn := Try.f25) (c := bodyOf Try.f25) (by kernel_rfl) (by kernel_rfl) (by kernel_rfl) (by kernel_rfl) ?_
  have hF : KC 9 (FinR Try.prog Try.f25 ((eL (eI .i64)) r)) := FinR.kc' (by kernel_rfl)
  unfold G_ringref5_Groups at h
  obtain ⟨v_a222, h282, h⟩ := bind_some h
  obtain rfl := Option.some.inj h
  exact pend_sound TTok mix 5 (hs := [.c, .w ([v_c221.fGroup].map (eI .i64)), .c, .w (v_a222.map (eI .i64))]) (by kernel_rfl) (by kernel_rfl) (by kernel_rfl) (.cons (Eq.refl ([v_c221.fGroup].map (eI .i64))) (.cons (app_ob (f := (eI .i64)) (s := 1) h282 (fun _ => rfl)).1 (.cons (app_ob (f := (eI .i64)) (s := 1) h282 (fun _ => rfl)).2.1 (.cons (app_ob (f := (eI .i64)) (s := 1) h282 (fun _ => rfl)).2.2.1 (.cons (app_ob (f := (eI .i64)) (s := 1) h282 (fun _ => rfl)).2.2.2 .nil)))))
inductive G_ringref5_MayOf_C1_R where
  | x0 (v_octal328 : Int)
def G_ringref5_MayOf_C1_ex : G_ringref5_MayOf_C1_R → Ex
  | .x0 _ => .normal
def G_ringref5_MayOf_C1_st (v_want325 : Int) (v_s323 : S_api_Stat) (v_r327 : (Bool)) (v_c324 : S_api_Cred) : G_ringref5_MayOf_C1_R → PS
  | .x0 v_octal328 => ⟨[dd, dd, .d (.v (.int .i64 v_want325)), .ref 0 0, .ref 1 0, dd, dd, .d (.v (.int .i64 v_octal328)), dd, dd, dd, dd, dd, dd, dd, dd, dd, dd, dd, dd, dd, dd, dd, dd, dd, dd, dd, dd, dd, dd, dd, dd, dd, dd, dd, dd, dd, dd, dd, dd, dd, dd, dd, dd, dd, dd, dd, dd, dd, dd, dd, dd, dd, dd, dd, dd, dd, dd, dd, dd, dd, dd, dd, dd, dd, dd, dd, dd, dd, dd, dd, dd, dd, dd, dd, dd], [.box [.d (.v (.int .i64 v_s323.fKind)), .d (.v (.int .i64 v_s323.fMode)), .d (.v (.int .i64 v_s323.fUser)), .d (.v (.int .i64 v_s323.fGroup)), .d (.v (.int .i64 v_s323.fSize)), .d (.v (.int .i64 v_s323.fLinks))], .box [.d (.v (.int .i64 v_c324.fUser)), .d (.v (.int .i64 v_c324.fGroup)), .d (.sl (v_c324.fMore.map (eI .i64))), .d (.v (.int .i64 v_c324.fCaps)), .d (.v (.int .i64 v_c324.fLevel)), .d (.v (.int .i64 v_c324.fKind))]]⟩
def G_ringref5_MayOf_C1_hd (v_want325 : Int) (v_s323 : S_api_Stat) (v_r327 : (Bool)) (v_c324 : S_api_Cred)  : PS := ⟨[dd, dd, .d (.v (.int .i64 v_want325)), .ref 0 0, .ref 1 0, dd, dd, .d (.v (.int .i64 (remI v_s323.fMode 8))), dd, dd, dd, dd, dd, dd, dd, .d (.v (.bool v_r327)), dd, dd, dd, dd, dd, dd, dd, dd, dd, dd, dd, dd, dd, dd, dd, dd, dd, dd, dd, dd, dd, dd, dd, dd, dd, dd, dd, dd, dd, dd, dd, dd, dd, dd, dd, dd, dd, dd, dd, dd, dd, dd, dd, dd, dd, dd, dd, dd, dd, dd, dd, dd, dd, dd, dd, dd, dd, dd, dd, dd], [.box [.d (.v (.int .i64 v_s323.fKind)), .d (.v (.int .i64 v_s323.fMode)), .d (.v (.int .i64 v_s323.fUser)), .d (.v (.int .i64 v_s323.fGroup)), .d (.v (.int .i64 v_s323.fSize)), .d (.v (.int .i64 v_s323.fLinks))], .box [.d (.v (.int .i64 v_c324.fUser)), .d (.v (.int .i64 v_c324.fGroup)), .d (.sl (v_c324.fMore.map (eI .i64))), .d (.v (.int .i64 v_c324.fCaps)), .d (.v (.int .i64 v_c324.fLevel)), .d (.v (.int .i64 v_c324.fKind))]]⟩
def G_ringref5_MayOf_C1 (n : Nat) (v_want325 : Int) (v_s323 : S_api_Stat) (v_r327 : (Bool)) (v_c324 : S_api_Cred) : Option G_ringref5_MayOf_C1_R :=
  if v_r327 = true then
   some (.x0 (remI (quoI .i64 v_s323.fMode 8) 8))
  else
   some (.x0 (remI v_s323.fMode 8))
theorem G_ringref5_MayOf_C1_ok {Fi : Ex → PS → Prop} (hF : KC 76 Fi) (ks : List Fr) (n : Nat) (v_want325 : Int) (v_s323 : S_api_Stat) (v_r327 : (Bool)) (v_c324 : S_api_Cred)  (o : G_ringref5_MayOf_C1_R) (h : G_ringref5_MayOf_C1 n v_want325 v_s323 v_r327 v_c324 = some o) (q : RunE Try.prog 76 Fi ks (G_ringref5_MayOf_C1_ex o) (G_ringref5_MayOf_C1_st v_want325 v_s323 v_r327 v_c324 o)) : RunE Try.prog 76 Fi (.s (cR (cL (cR (cR (bodyOf Try.f23))))) :: ks) .normal (G_ringref5_MayOf_C1_hd v_want325 v_s323 v_r327 v_c324) := by
  unfold G_ringref5_MayOf_C1 at h
  by_cases h408 : v_r327 = true
  · rw [if_pos h408] at h
    cases h
    exact pkk_sound TTok mix hF 2 (hs := [.t true, .c]) (ts := []) (s := [0, 1]) (l := [2, 3, 4, 7]) (by kernel_rfl) (by kernel_rfl) (.cons h408 (.cons (show (8 : Int) ≠ 0 by decide) (.cons (show (8 : Int) ≠ 0 by decide) .nil))) q
  · rw [if_neg h408] at h
    cases h
    exact pkk_sound TTok mix hF 2 (hs := [.t false]) (ts := []) (s := [0, 1]) (l := [2, 3, 4, 7]) (by kernel_rfl) (by kernel_rfl) (.cons (vf h408) .nil) q
inductive G_ringref5_MayOf_C2_R where
  | x0 (v_octal332 : Int)
def G_ringref5_MayOf_C2_ex : G_ringref5_MayOf_C2_R → Ex
  | .x0 _ => .normal
def G_ringref5_MayOf_C2_st (v_want325 : Int) (v_z331 : Int) (v_c324 : S_api_Cred) (v_s323 : S_api_Stat) : G_ringref5_MayOf_C2_R → PS
  | .x0 v_octal332 => ⟨[dd, dd, .d (.v (.int .i64 v_want325)), .ref 0 0, .ref 1 0, dd, dd, .d (.v (.int .i64 v_octal332)), dd, dd, dd, dd, dd, dd, dd, dd, dd, dd, dd, dd, dd, dd, dd, dd, dd, dd, dd, dd, dd, dd, dd, dd, dd, dd, dd, dd, dd, dd, dd, dd, dd, dd, dd, dd, dd, dd, dd, dd, dd, dd, dd, dd, dd, dd, dd, dd, dd, dd, dd, dd, dd, dd, dd, dd, dd, dd, dd, dd, dd, dd, dd, dd, dd, dd, dd, dd], [.box [.d (.v (.int .i64 v_s323.fKind)), .d (.v (.int .i64 v_s323.fMode)), .d (.v (.int .i64 v_s323.fUser)), .d (.v (.int .i64 v_s323.fGroup)), .d (.v (.int .i64 v_s323.fSize)), .d (.v (.int .i64 v_s323.fLinks))], .box [.d (.v (.int .i64 v_c324.fUser)), .d (.v (.int .i64 v_c324.fGroup)), .d (.sl (v_c324.fMore.map (eI .i64))), .d (.v (.int .i64 v_c324.fCaps)), .d (.v (.int .i64 v_c324.fLevel)), .d (.v (.int .i64 v_c324.fKind))]]⟩
def G_ringref5_MayOf_C2_hd (v_want325 : Int) (v_z331 : Int) (v_c324 : S_api_Cred) (v_s323 : S_api_Stat)  : PS := ⟨[dd, dd, .d (.v (.int .i64 v_want325)), .ref 0 0, .ref 1 0, dd, dd, .d (.v (.int .i64 v_z331)), dd, dd, dd, dd, dd, dd, dd, dd, dd, dd, dd, dd, dd, dd, dd, dd, .d (.v (.bool (v_c324.fUser == v_s323.fUser))), dd, dd, dd, dd, dd, dd, dd, dd, dd, dd, dd, dd, dd, dd, dd, dd, dd, dd, dd, dd, dd, dd, dd, dd, dd, dd, dd, dd, dd, dd, dd, dd, dd, dd, dd, dd, dd, dd, dd, dd, dd, dd, dd, dd, dd, dd, dd, dd, dd, dd, dd], [.box [.d (.v (.int .i64 v_s323.fKind)), .d (.v (.int .i64 v_s323.fMode)), .d (.v (.int .i64 v_s323.fUser)), .d (.v (.int .i64 v_s323.fGroup)), .d (.v (.int .i64 v_s323.fSize)), .d (.v (.int .i64 v_s323.fLinks))], .box [.d (.v (.int .i64 v_c324.fUser)), .d (.v (.int .i64 v_c324.fGroup)), .d (.sl (v_c324.fMore.map (eI .i64))), .d (.v (.int .i64 v_c324.fCaps)), .d (.v (.int .i64 v_c324.fLevel)), .d (.v (.int .i64 v_c324.fKind))]]⟩
def G_ringref5_MayOf_C2 (n : Nat) (v_want325 : Int) (v_z331 : Int) (v_c324 : S_api_Cred) (v_s323 : S_api_Stat) : Option G_ringref5_MayOf_C2_R :=
  if v_c324.fUser = v_s323.fUser then
   some (.x0 (quoI .i64 v_s323.fMode 64))
  else
   some (.x0 v_z331)
theorem G_ringref5_MayOf_C2_ok {Fi : Ex → PS → Prop} (hF : KC 76 Fi) (ks : List Fr) (n : Nat) (v_want325 : Int) (v_z331 : Int) (v_c324 : S_api_Cred) (v_s323 : S_api_Stat)  (o : G_ringref5_MayOf_C2_R) (h : G_ringref5_MayOf_C2 n v_want325 v_z331 v_c324 v_s323 = some o) (q : RunE Try.prog 76 Fi ks (G_ringref5_MayOf_C2_ex o) (G_ringref5_MayOf_C2_st v_want325 v_z331 v_c324 v_s323 o)) : RunE Try.prog 76 Fi (.s (cR (cL (cR (cR (cR (bodyOf Try.f23)))))) :: ks) .normal (G_ringref5_MayOf_C2_hd v_want325 v_z331 v_c324 v_s323) := by
  unfold G_ringref5_MayOf_C2 at h
  by_cases h414 : v_c324.fUser = v_s323.fUser
  · rw [if_pos h414] at h
    cases h
    exact pkk_sound TTok mix hF 2 (hs := [.t true, .c]) (ts := []) (s := [0, 1]) (l := [2, 3, 4, 7]) (by kernel_rfl) (by kernel_rfl) (.cons (bt h414) (.cons (show (64 : Int) ≠ 0 by decide) .nil)) q
  · rw [if_neg h414] at h
    cases h
    exact pkk_sound TTok mix hF 2 (hs := [.t false]) (ts := []) (s := [0, 1]) (l := [2, 3, 4, 7]) (by kernel_rfl) (by kernel_rfl) (.cons (bf h414) .nil) q
inductive G_ringref5_MayOf_C3_R where
  | x0 (v_x336 : Bool)
def G_ringref5_MayOf_C3_ex : G_ringref5_MayOf_C3_R → Ex
  | .x0 _ => .normal
def G_ringref5_MayOf_C3_st (v_want325 : Int) (v_z335 : Int) (v_s323 : S_api_Stat) (v_c324 : S_api_Cred) : G_ringref5_MayOf_C3_R → PS
  | .x0 v_x336 => ⟨[dd, dd, .d (.v (.int .i64 v_want325)), .ref 0 0, .ref 1 0, dd, dd, .d (.v (.int .i64 v_z335)), dd, dd, dd, dd, dd, dd, dd, dd, dd, dd, dd, dd, dd, dd, dd, dd, dd, dd, dd, dd, dd, dd, dd, dd, dd, dd, dd, dd, dd, dd, dd, dd, .d (.v (.bool v_x336)), dd, dd, dd, dd, dd, dd, dd, dd, dd, dd, dd, dd, dd, dd, dd, dd, dd, dd, dd, dd, dd, dd, dd, dd, dd, dd, dd, dd, dd, dd, dd, dd, dd, dd, dd], [.box [.d (.v (.int .i64 v_s323.fKind)), .d (.v (.int .i64 v_s323.fMode)), .d (.v (.int .i64 v_s323.fUser)), .d (.v (.int .i64 v_s323.fGroup)), .d (.v (.int .i64 v_s323.fSize)), .d (.v (.int .i64 v_s323.fLinks))], .box [.d (.v (.int .i64 v_c324.fUser)), .d (.v (.int .i64 v_c324.fGroup)), .d (.sl (v_c324.fMore.map (eI .i64))), .d (.v (.int .i64 v_c324.fCaps)), .d (.v (.int .i64 v_c324.fLevel)), .d (.v (.int .i64 v_c324.fKind))]]⟩
def G_ringref5_MayOf_C3_hd (v_want325 : Int) (v_z335 : Int) (v_s323 : S_api_Stat) (v_c324 : S_api_Cred)  : PS := ⟨[dd, dd, .d (.v (.int .i64 v_want325)), .ref 0 0, .ref 1 0, dd, dd, .d (.v (.int .i64 v_z335)), dd, dd, dd, dd, dd, dd, dd, dd, dd, dd, dd, dd, dd, dd, dd, dd, dd, dd, dd, dd, dd, dd, dd, dd, dd, dd, dd, dd, dd, dd, dd, dd, dd, dd, dd, dd, dd, dd, dd, dd, dd, dd, dd, dd, dd, dd, dd, dd, dd, dd, dd, dd, dd, dd, dd, dd, dd, dd, dd, dd, dd, dd, dd, dd, dd, dd, dd, dd], [.box [.d (.v (.int .i64 v_s323.fKind)), .d (.v (.int .i64 v_s323.fMode)), .d (.v (.int .i64 v_s323.fUser)), .d (.v (.int .i64 v_s323.fGroup)), .d (.v (.int .i64 v_s323.fSize)), .d (.v (.int .i64 v_s323.fLinks))], .box [.d (.v (.int .i64 v_c324.fUser)), .d (.v (.int .i64 v_c324.fGroup)), .d (.sl (v_c324.fMore.map (eI .i64))), .d (.v (.int .i64 v_c324.fCaps)), .d (.v (.int .i64 v_c324.fLevel)), .d (.v (.int .i64 v_c324.fKind))]]⟩
def G_ringref5_MayOf_C3 (n : Nat) (v_want325 : Int) (v_z335 : Int) (v_s323 : S_api_Stat) (v_c324 : S_api_Cred) : Option G_ringref5_MayOf_C3_R :=
  if (remI v_want325 2) = 1 then
   if v_z335 < 4 then
    some (.x0 ((remI v_c324.fCaps 2) == 0))
   else
    some (.x0 false)
  else
   some (.x0 false)
theorem G_ringref5_MayOf_C3_ok {Fi : Ex → PS → Prop} (hF : KC 76 Fi) (ks : List Fr) (n : Nat) (v_want325 : Int) (v_z335 : Int) (v_s323 : S_api_Stat) (v_c324 : S_api_Cred)  (o : G_ringref5_MayOf_C3_R) (h : G_ringref5_MayOf_C3 n v_want325 v_z335 v_s323 v_c324 = some o) (q : RunE Try.prog 76 Fi ks (G_ringref5_MayOf_C3_ex o) (G_ringref5_MayOf_C3_st v_want325 v_z335 v_s323 v_c324 o)) : RunE Try.prog 76 Fi (.s (cL (cL (cR (cR (cR (cR (bodyOf Try.f23))))))) :: ks) .normal (G_ringref5_MayOf_C3_hd v_want325 v_z335 v_s323 v_c324) := by
  unfold G_ringref5_MayOf_C3 at h
  by_cases h422 : (remI v_want325 2) = 1
  · rw [if_pos h422] at h
    by_cases h423 : v_z335 < 4
    · rw [if_pos h423] at h
      cases h
      exact pkk_sound TTok mix hF 1 (hs := [.t true, .c, .t true, .c, .c, .c, .c]) (ts := []) (s := [0, 1]) (l := [2, 3, 4, 7, 40]) (by kernel_rfl) (by kernel_rfl) (.cons (show (2 : Int) ≠ 0 by decide) (.cons (bt h422) (.cons (dt h423) (.cons (show (2 : Int) ≠ 0 by decide) .nil)))) q
    · rw [if_neg h423] at h
      cases h
      exact pkk_sound TTok mix hF 1 (hs := [.t true, .c, .t false, .c, .c, .c]) (ts := []) (s := [0, 1]) (l := [2, 3, 4, 7, 40]) (by kernel_rfl) (by kernel_rfl) (.cons (show (2 : Int) ≠ 0 by decide) (.cons (bt h422) (.cons (df h423) .nil))) q
  · rw [if_neg h422] at h
    cases h
    exact pkk_sound TTok mix hF 1 (hs := [.t false, .c, .c, .c, .c, .c]) (ts := []) (s := [0, 1]) (l := [2, 3, 4, 7, 40]) (by kernel_rfl) (by kernel_rfl) (.cons (show (2 : Int) ≠ 0 by decide) (.cons (bf h422) .nil)) q
inductive G_ringref5_MayOf_C4_R where
  | x0 (v_x341 : Bool)
def G_ringref5_MayOf_C4_ex : G_ringref5_MayOf_C4_R → Ex
  | .x0 _ => .normal
def G_ringref5_MayOf_C4_st (v_want325 : Int) (v_z335 : Int) (v_s323 : S_api_Stat) (v_c324 : S_api_Cred) : G_ringref5_MayOf_C4_R → PS
  | .x0 v_x341 => ⟨[dd, dd, .d (.v (.int .i64 v_want325)), .ref 0 0, .ref 1 0, dd, dd, .d (.v (.int .i64 v_z335)), dd, dd, dd, dd, dd, dd, dd, dd, dd, dd, dd, dd, dd, dd, dd, dd, dd, dd, dd, dd, dd, dd, dd, dd, dd, dd, dd, dd, dd, dd, dd, dd, dd, dd, dd, dd, dd, dd, dd, dd, dd, dd, dd, dd, dd, dd, dd, dd, dd, .d (.v (.bool v_x341)), dd, dd, dd, dd, dd, dd, dd, dd, dd, dd, dd, dd, dd, dd, dd, dd, dd, dd], [.box [.d (.v (.int .i64 v_s323.fKind)), .d (.v (.int .i64 v_s323.fMode)), .d (.v (.int .i64 v_s323.fUser)), .d (.v (.int .i64 v_s323.fGroup)), .d (.v (.int .i64 v_s323.fSize)), .d (.v (.int .i64 v_s323.fLinks))], .box [.d (.v (.int .i64 v_c324.fUser)), .d (.v (.int .i64 v_c324.fGroup)), .d (.sl (v_c324.fMore.map (eI .i64))), .d (.v (.int .i64 v_c324.fCaps)), .d (.v (.int .i64 v_c324.fLevel)), .d (.v (.int .i64 v_c324.fKind))]]⟩
def G_ringref5_MayOf_C4_hd (v_want325 : Int) (v_z335 : Int) (v_s323 : S_api_Stat) (v_c324 : S_api_Cred)  : PS := ⟨[dd, dd, .d (.v (.int .i64 v_want325)), .ref 0 0, .ref 1 0, dd, dd, .d (.v (.int .i64 v_z335)), dd, dd, dd, dd, dd, dd, dd, dd, dd, dd, dd, dd, dd, dd, dd, dd, dd, dd, dd, dd, dd, dd, dd, dd, dd, dd, dd, dd, dd, dd, dd, dd, dd, dd, dd, dd, dd, dd, dd, dd, dd, dd, dd, dd, dd, dd, dd, dd, dd, dd, dd, dd, dd, dd, dd, dd, dd, dd, dd, dd, dd, dd, dd, dd, dd, dd, dd, dd], [.box [.d (.v (.int .i64 v_s323.fKind)), .d (.v (.int .i64 v_s323.fMode)), .d (.v (.int .i64 v_s323.fUser)), .d (.v (.int .i64 v_s323.fGroup)), .d (.v (.int .i64 v_s323.fSize)), .d (.v (.int .i64 v_s323.fLinks))], .box [.d (.v (.int .i64 v_c324.fUser)), .d (.v (.int .i64 v_c324.fGroup)), .d (.sl (v_c324.fMore.map (eI .i64))), .d (.v (.int .i64 v_c324.fCaps)), .d (.v (.int .i64 v_c324.fLevel)), .d (.v (.int .i64 v_c324.fKind))]]⟩
def G_ringref5_MayOf_C4 (n : Nat) (v_want325 : Int) (v_z335 : Int) (v_s323 : S_api_Stat) (v_c324 : S_api_Cred) : Option G_ringref5_MayOf_C4_R :=
  if (remI (quoI .i64 v_want325 2) 2) = 1 then
   if (remI (quoI .i64 v_z335 2) 2) = 0 then
    some (.x0 ((remI (quoI .i64 v_c324.fCaps 2) 2) == 0))
   else
    some (.x0 false)
  else
   some (.x0 false)
theorem G_ringref5_MayOf_C4_ok {Fi : Ex → PS → Prop} (hF : KC 76 Fi) (ks : List Fr) (n : Nat) (v_want325 : Int) (v_z335 : Int) (v_s323 : S_api_Stat) (v_c324 : S_api_Cred)  (o : G_ringref5_MayOf_C4_R) (h : G_ringref5_MayOf_C4 n v_want325 v_z335 v_s323 v_c324 = some o) (q : RunE Try.prog 76 Fi ks (G_ringref5_MayOf_C4_ex o) (G_ringref5_MayOf_C4_st v_want325 v_z335 v_s323 v_c324 o)) : RunE Try.prog 76 Fi (.s (cL (cL (cR (cR (cR (cR (cR (bodyOf Try.f23)))))))) :: ks) .normal (G_ringref5_MayOf_C4_hd v_want325 v_z335 v_s323 v_c324) := by
  unfold G_ringref5_MayOf_C4 at h
  by_cases h437 : (remI (quoI .i64 v_want325 2) 2) = 1
  · rw [if_pos h437] at h
    by_cases h440 : (remI (quoI .i64 v_z335 2) 2) = 0
    · rw [if_pos h440] at h
      cases h
      exact pkk_sound TTok mix hF 1 (hs := [.t true, .c, .c, .c, .t true, .c, .c, .c, .c, .c]) (ts := []) (s := [0, 1]) (l := [2, 3, 4, 7, 57]) (by kernel_rfl) (by kernel_rfl) (.cons (show (2 : Int) ≠ 0 by decide) (.cons (show (2 : Int) ≠ 0 by decide) (.cons (bt h437) (.cons (show (2 : Int) ≠ 0 by decide) (.cons (show (2 : Int) ≠ 0 by decide) (.cons (bt h440) (.cons (show (2 : Int) ≠ 0 by decide) (.cons (show (2 : Int) ≠ 0 by decide) .nil)))))))) q
    · rw [if_neg h440] at h
      cases h
      exact pkk_sound TTok mix hF 1 (hs := [.t true, .c, .c, .c, .t false, .c, .c, .c, .c]) (ts := []) (s := [0, 1]) (l := [2, 3, 4, 7, 57]) (by kernel_rfl) (by kernel_rfl) (.cons (show (2 : Int) ≠ 0 by decide) (.cons (show (2 : Int) ≠ 0 by decide) (.cons (bt h437) (.cons (show (2 : Int) ≠ 0 by decide) (.cons (show (2 : Int) ≠ 0 by decide) (.cons (bf h440) .nil)))))) q
  · rw [if_neg h437] at h
    cases h
    exact pkk_sound TTok mix hF 1 (hs := [.t false, .c, .c, .c, .c, .c, .c, .c, .c]) (ts := []) (s := [0, 1]) (l := [2, 3, 4, 7, 57]) (by kernel_rfl) (by kernel_rfl) (.cons (show (2 : Int) ≠ 0 by decide) (.cons (show (2 : Int) ≠ 0 by decide) (.cons (bf h437) .nil))) q
inductive G_ringref5_MayOf_C5_R where
  | x0 (v_x346 : Bool)
def G_ringref5_MayOf_C5_ex : G_ringref5_MayOf_C5_R → Ex
  | .x0 _ => .normal
def G_ringref5_MayOf_C5_st (v_want325 : Int) (v_z335 : Int) (v_s323 : S_api_Stat) (v_c324 : S_api_Cred) : G_ringref5_MayOf_C5_R → PS
  | .x0 v_x346 => ⟨[dd, dd, dd, dd, dd, dd, .d (.v (.bool v_x346)), dd, dd, dd, dd, dd, dd, dd, dd, dd, dd, dd, dd, dd, dd, dd, dd, dd, dd, dd, dd, dd, dd, dd, dd, dd, dd, dd, dd, dd, dd, dd, dd, dd, dd, dd, dd, dd, dd, dd, dd, dd, dd, dd, dd, dd, dd, dd, dd, dd, dd, dd, dd, dd, dd, dd, dd, dd, dd, dd, dd, dd, dd, dd, dd, dd, dd, dd, dd, dd], []⟩
def G_ringref5_MayOf_C5_hd (v_want325 : Int) (v_z335 : Int) (v_s323 : S_api_Stat) (v_c324 : S_api_Cred)  : PS := ⟨[dd, dd, .d (.v (.int .i64 v_want325)), .ref 0 0, .ref 1 0, dd, dd, .d (.v (.int .i64 v_z335)), dd, dd, dd, dd, dd, dd, dd, dd, dd, dd, dd, dd, dd, dd, dd, dd, dd, dd, dd, dd, dd, dd, dd, dd, dd, dd, dd, dd, dd, dd, dd, dd, dd, dd, dd, dd, dd, dd, dd, dd, dd, dd, dd, dd, dd, dd, dd, dd, dd, dd, dd, dd, dd, dd, dd, dd, dd, dd, dd, dd, dd, dd, dd, dd, dd, dd, dd, dd], [.box [.d (.v (.int .i64 v_s323.fKind)), .d (.v (.int .i64 v_s323.fMode)), .d (.v (.int .i64 v_s323.fUser)), .d (.v (.int .i64 v_s323.fGroup)), .d (.v (.int .i64 v_s323.fSize)), .d (.v (.int .i64 v_s323.fLinks))], .box [.d (.v (.int .i64 v_c324.fUser)), .d (.v (.int .i64 v_c324.fGroup)), .d (.sl (v_c324.fMore.map (eI .i64))), .d (.v (.int .i64 v_c324.fCaps)), .d (.v (.int .i64 v_c324.fLevel)), .d (.v (.int .i64 v_c324.fKind))]]⟩
def G_ringref5_MayOf_C5 (n : Nat) (v_want325 : Int) (v_z335 : Int) (v_s323 : S_api_Stat) (v_c324 : S_api_Cred) : Option G_ringref5_MayOf_C5_R :=
  if v_want325 < 4 then
   some (.x0 true)
  else
   if (remI v_z335 2) = 1 then
    some (.x0 true)
   else
    if v_s323.fKind = 2 then
     some (.x0 ((remI v_c324.fCaps 2) == 1))
    else
     some (.x0 false)
theorem G_ringref5_MayOf_C5_ok {Fi : Ex → PS → Prop} (hF : KC 76 Fi) (ks : List Fr) (n : Nat) (v_want325 : Int) (v_z335 : Int) (v_s323 : S_api_Stat) (v_c324 : S_api_Cred)  (o : G_ringref5_MayOf_C5_R) (h : G_ringref5_MayOf_C5 n v_want325 v_z335 v_s323 v_c324 = some o) (q : RunE Try.prog 76 Fi ks (G_ringref5_MayOf_C5_ex o) (G_ringref5_MayOf_C5_st v_want325 v_z335 v_s323 v_c324 o)) : RunE Try.prog 76 Fi (.s (cL (cR (cR (cR (cR (cR (cR (bodyOf Try.f23)))))))) :: ks) .normal (G_ringref5_MayOf_C5_hd v_want325 v_z335 v_s323 v_c324) := by
  unfold G_ringref5_MayOf_C5 at h
  by_cases h450 : v_want325 < 4
  · rw [if_pos h450] at h
    cases h
    exact pkk_sound TTok mix hF 1 (hs := [.t true, .c, .c, .c, .c, .c, .c, .c]) (ts := []) (s := []) (l := [6]) (by kernel_rfl) (by kernel_rfl) (.cons (dt h450) .nil) q
  · rw [if_neg h450] at h
    by_cases h452 : (remI v_z335 2) = 1
    · rw [if_pos h452] at h
      cases h
      exact pkk_sound TTok mix hF 1 (hs := [.t false, .c, .c, .t true, .c, .c, .c, .c]) (ts := []) (s := []) (l := [6]) (by kernel_rfl) (by kernel_rfl) (.cons (df h450) (.cons (show (2 : Int) ≠ 0 by decide) (.cons (bt h452) .nil))) q
    · rw [if_neg h452] at h
      by_cases h453 : v_s323.fKind = 2
      · rw [if_pos h453] at h
        cases h
        exact pkk_sound TTok mix hF 1 (hs := [.t false, .c, .c, .t false, .c, .c, .c, .c, .t true, .c, .c, .c, .c, .c]) (ts := []) (s := []) (l := [6]) (by kernel_rfl) (by kernel_rfl) (.cons (df h450) (.cons (show (2 : Int) ≠ 0 by decide) (.cons (bf h452) (.cons (bt h453) (.cons (show (2 : Int) ≠ 0 by decide) .nil))))) q
      · rw [if_neg h453] at h
        cases h
        exact pkk_sound TTok mix hF 1 (hs := [.t false, .c, .c, .t false, .c, .c, .c, .c, .t false, .c, .c, .c, .c]) (ts := []) (s := []) (l := [6]) (by kernel_rfl) (by kernel_rfl) (.cons (df h450) (.cons (show (2 : Int) ≠ 0 by decide) (.cons (bf h452) (.cons (bf h453) .nil)))) q
/- ringhall/ringref5.MayOf -/
def G_ringref5_MayOf (n : Nat) (v_s323 : S_api_Stat) (v_c324 : S_api_Cred) (v_want325 : Int) : Option (Bool) :=
  (G_ringref5_Groups n v_c324).bind fun (v_r326 : ((List Int))) =>
  (G_slices_Contains_int_int n v_r326 v_s323.fGroup).bind fun (v_r327 : (Bool)) =>
  (G_ringref5_MayOf_C1 n v_want325 v_s323 v_r327 v_c324).bind fun v_o330 => match v_o330 with
  | .x0 v_z331 =>
    (G_ringref5_MayOf_C2 n v_want325 v_z331 v_c324 v_s323).bind fun v_o334 => match v_o334 with
    | .x0 v_z335 =>
      (G_ringref5_MayOf_C3 n v_want325 v_z335 v_s323 v_c324).bind fun v_o339 => match v_o339 with
      | .x0 v_z340 =>
        if v_z340 = true then
         some false
        else
         (G_ringref5_MayOf_C4 n v_want325 v_z335 v_s323 v_c324).bind fun v_o344 => match v_o344 with
         | .x0 v_z345 =>
           if v_z345 = true then
            some false
           else
            (G_ringref5_MayOf_C5 n v_want325 v_z335 v_s323 v_c324).bind fun v_o350 => match v_o350 with
            | .x0 v_z351 =>
              some v_z351
theorem G_ringref5_MayOf_ok (n : Nat) (v_s323 : S_api_Stat) (v_c324 : S_api_Cred) (v_want325 : Int) (r : Bool) (h : G_ringref5_MayOf n v_s323 v_c324 v_want325 = some r) : Ret Try.prog 23 [eS_api_Stat v_s323, eS_api_Cred v_c324, (eI .i64) v_want325] (eB r) := by
  refine ret_run (n := 76) (fn := Try.f23) (c := bodyOf Try.f23) (by kernel_rfl) (by kernel_rfl) (by kernel_rfl) (by kernel_rfl) ?_
  have hF : KC 76 (FinR Try.prog Try.f23 (eB r)) := FinR.kc' (by kernel_rfl)
  unfold G_ringref5_MayOf at h
  obtain ⟨v_r326, h403, h⟩ := bind_some h
  obtain ⟨v_r327, h404, h⟩ := bind_some h
  obtain ⟨v_o330, h411, h⟩ := bind_some h
  refine pkk_sound TTok mix hF 7 (hs := [.c, .c, .r ((eL (eI .i64)) v_r326), .c, .r (eB v_r327)]) (ts := []) (s := [0, 3]) (l := [2, 3, 4, 7, 15]) (by kernel_rfl) (by kernel_rfl) (.cons (show (8 : Int) ≠ 0 by decide) (.cons (G_ringref5_Groups_ok n v_c324 _ h403) (.cons (G_slices_Contains_int_int_ok n v_r326 v_s323.fGroup _ h404) .nil))) (G_ringref5_MayOf_C1_ok hF (.s (cR (cR (cR (bodyOf Try.f23)))) :: []) n v_want325 v_s323 v_r327 v_c324 _ h411 ?_)
  cases v_o330 with
  | x0 v_z331 =>
    dsimp only at h
    obtain ⟨v_o334, h416, h⟩ := bind_some h
    refine pkk_sound TTok mix hF 3 (hs := [.c, .c]) (ts := []) (s := [0, 1]) (l := [2, 3, 4, 7, 24]) (by kernel_rfl) (by kernel_rfl) .nil (G_ringref5_MayOf_C2_ok hF (.s (cR (cR (cR (cR (bodyOf Try.f23))))) :: []) n v_want325 v_z331 v_c324 v_s323 _ h416 ?_)
    cases v_o334 with
    | x0 v_z335 =>
      dsimp only at h
      obtain ⟨v_o339, h425, h⟩ := bind_some h
      refine pkk_sound TTok mix hF 2 (hs := []) (ts := []) (s := [0, 1]) (l := [2, 3, 4, 7]) (by kernel_rfl) (by kernel_rfl) .nil (G_ringref5_MayOf_C3_ok hF (.s (cR (cL (cR (cR (cR (cR (bodyOf Try.f23))))))) :: .s (cR (cR (cR (cR (cR (bodyOf Try.f23)))))) :: []) n v_want325 v_z335 v_s323 v_c324 _ h425 ?_)
      cases v_o339 with
      | x0 v_z340 =>
        dsimp only at h
        by_cases h426 : v_z340 = true
        · rw [if_pos h426] at h
          obtain rfl := Option.some.inj h
          exact pend_sound TTok mix 5 (hs := [.t true]) (by kernel_rfl) (by kernel_rfl) (by kernel_rfl) (.cons h426 .nil)
        · rw [if_neg h426] at h
          obtain ⟨v_o344, h443, h⟩ := bind_some h
          refine pkk_sound TTok mix hF 4 (hs := [.t false]) (ts := []) (s := [0, 1]) (l := [2, 3, 4, 7]) (by kernel_rfl) (by kernel_rfl) (.cons (vf h426) .nil) (G_ringref5_MayOf_C4_ok hF (.s (cR (cL (cR (cR (cR (cR (cR (bodyOf Try.f23)))))))) :: .s (cR (cR (cR (cR (cR (cR (bodyOf Try.f23))))))) :: []) n v_want325 v_z335 v_s323 v_c324 _ h443 ?_)
          cases v_o344 with
          | x0 v_z345 =>
            dsimp only at h
            by_cases h444 : v_z345 = true
            · rw [if_pos h444] at h
              obtain rfl := Option.some.inj h
              exact pend_sound TTok mix 5 (hs := [.t true]) (by kernel_rfl) (by kernel_rfl) (by kernel_rfl) (.cons h444 .nil)
            · rw [if_neg h444] at h
              obtain ⟨v_o350, h455, h⟩ := bind_some h
              refine pkk_sound TTok mix hF 3 (hs := [.t false]) (ts := []) (s := [0, 1]) (l := [2, 3, 4, 7]) (by kernel_rfl) (by kernel_rfl) (.cons (vf h444) .nil) (G_ringref5_MayOf_C5_ok hF (.s (cR (cR (cR (cR (cR (cR (cR (bodyOf Try.f23)))))))) :: []) n v_want325 v_z335 v_s323 v_c324 _ h455 ?_)
              cases v_o350 with
              | x0 v_z351 =>
                dsimp only at h
                obtain rfl := Option.some.inj h
                exact pend_sound TTok mix 1 (hs := []) (by kernel_rfl) (by kernel_rfl) (by kernel_rfl) .nil
inductive G_ringlaw5_ModeSays_C1_R where
  | x0 (v_err195 : Int)
def G_ringlaw5_ModeSays_C1_ex : G_ringlaw5_ModeSays_C1_R → Ex
  | .x0 _ => .normal
def G_ringlaw5_ModeSays_C1_st (v_want3 : Int) (v_n4 : Int) (v_m5 : Int) (v_r133 : (Bool × Int)) (v_r138 : (S_api_Stat × Int)) (v_r164 : (S_api_Stat × Int)) (v_r185 : (Int)) (v_s1 : S_api_Stat) (v_c2 : S_api_Cred) : G_ringlaw5_ModeSays_C1_R → PS
  | .x0 v_err195 => ⟨[dd, dd, .d (.v (.int .i64 v_want3)), .d (.v (.int .i64 v_n4)), .d (.v (.int .i64 v_m5)), .ref 0 0, .ref 1 0, dd, dd, dd, dd, .d (.v (.bool v_r133.1)), .d (.v (.int .i64 v_r133.2)), .ref 2 0, .d (.v (.int .i64 v_r138.2)), .ref 3 0, .d (.v (.int .i64 v_r164.2)), .d (.v (.int .i64 v_err195)), dd, dd, dd, dd, dd, dd, dd, dd, dd, dd, dd, dd, dd, dd, dd, dd, dd, dd, dd, dd, dd, dd, dd, dd, dd, dd, dd, dd, dd, dd, dd, dd, dd, dd, dd, dd, dd, dd, dd, dd, dd, dd, dd, dd, dd, dd, dd, dd, dd, dd, dd, dd, dd, dd, dd, dd, dd, dd, dd, dd, dd, dd, dd, dd, dd, dd, dd, dd, dd, dd, dd, dd, dd, dd, dd, dd, dd, dd, dd, dd, dd, dd, dd, dd, dd, dd, dd, dd, dd, dd, dd, dd, dd, dd, dd, dd, dd, dd, dd, dd, dd, dd, dd, dd, dd, dd, dd, dd, dd, dd, dd, dd, dd, dd, dd, dd, dd, dd, dd, dd, dd, dd, dd, dd, dd, dd, dd, dd, dd, dd, dd, dd, dd, dd, dd, dd, dd, dd, dd, dd, dd, dd, dd, dd, dd, dd, dd, dd, dd, dd, dd, dd, dd, dd, dd, dd, dd, dd, dd, dd, dd, dd, dd, dd, dd, dd, dd, dd, dd, dd, dd, dd, dd, dd, dd, dd, dd, dd, dd, dd], [.box [.d (.v (.int .i64 v_s1.fKind)), .d (.v (.int .i64 v_s1.fMode)), .d (.v (.int .i64 v_s1.fUser)), .d (.v (.int .i64 v_s1.fGroup)), .d (.v (.int .i64 v_s1.fSize)), .d (.v (.int .i64 v_s1.fLinks))], .box [.d (.v (.int .i64 v_c2.fUser)), .d (.v (.int .i64 v_c2.fGroup)), .d (.sl (v_c2.fMore.map (eI .i64))), .d (.v (.int .i64 v_c2.fCaps)), .d (.v (.int .i64 v_c2.fLevel)), .d (.v (.int .i64 v_c2.fKind))], .box [.d (.v (.int .i64 v_r138.1.fKind)), .d (.v (.int .i64 v_r138.1.fMode)), .d (.v (.int .i64 v_r138.1.fUser)), .d (.v (.int .i64 v_r138.1.fGroup)), .d (.v (.int .i64 v_r138.1.fSize)), .d (.v (.int .i64 v_r138.1.fLinks))], .box [.d (.v (.int .i64 v_r164.1.fKind)), .d (.v (.int .i64 v_r164.1.fMode)), .d (.v (.int .i64 v_r164.1.fUser)), .d (.v (.int .i64 v_r164.1.fGroup)), .d (.v (.int .i64 v_r164.1.fSize)), .d (.v (.int .i64 v_r164.1.fLinks))]]⟩
def G_ringlaw5_ModeSays_C1_hd (v_want3 : Int) (v_n4 : Int) (v_m5 : Int) (v_r133 : (Bool × Int)) (v_r138 : (S_api_Stat × Int)) (v_r164 : (S_api_Stat × Int)) (v_r185 : (Int)) (v_s1 : S_api_Stat) (v_c2 : S_api_Cred)  : PS := ⟨[dd, dd, .d (.v (.int .i64 v_want3)), .d (.v (.int .i64 v_n4)), .d (.v (.int .i64 v_m5)), .ref 0 0, .ref 1 0, dd, dd, dd, dd, .d (.v (.bool v_r133.1)), .d (.v (.int .i64 v_r133.2)), .ref 2 0, .d (.v (.int .i64 v_r138.2)), .ref 3 0, .d (.v (.int .i64 v_r164.2)), .d (.v (.int .i64 v_r185)), dd, dd, dd, dd, dd, dd, dd, dd, dd, dd, dd, dd, dd, dd, dd, dd, dd, dd, dd, dd, dd, dd, dd, dd, dd, dd, dd, dd, dd, dd, dd, dd, .d (.v (.bool (v_r185 == 0))), dd, dd, dd, dd, dd, dd, dd, dd, dd, dd, dd, dd, dd, dd, dd, dd, dd, dd, dd, dd, dd, dd, dd, dd, dd, dd, dd, dd, dd, dd, dd, dd, dd, dd, dd, dd, dd, dd, dd, dd, dd, dd, dd, dd, dd, dd, dd, dd, dd, dd, dd, dd, dd, dd, dd, dd, dd, dd, dd, dd, dd, dd, dd, dd, dd, dd, dd, dd, dd, dd, dd, dd, dd, dd, dd, dd, dd, dd, dd, dd, dd, dd, dd, dd, dd, dd, dd, dd, dd, dd, dd, dd, dd, dd, dd, dd, dd, dd, dd, dd, dd, dd, dd, dd, dd, dd, dd, dd, dd, dd, dd, dd, dd, dd, dd, dd, dd, dd, dd, dd, dd, dd, dd, dd, dd, dd, dd, dd, dd, dd, dd, dd, dd, dd, dd, dd, dd, dd, dd, dd, dd, dd, dd, dd, dd, dd, dd], [.box [.d (.v (.int .i64 v_s1.fKind)), .d (.v (.int .i64 v_s1.fMode)), .d (.v (.int .i64 v_s1.fUser)), .d (.v (.int .i64 v_s1.fGroup)), .d (.v (.int .i64 v_s1.fSize)), .d (.v (.int .i64 v_s1.fLinks))], .box [.d (.v (.int .i64 v_c2.fUser)), .d (.v (.int .i64 v_c2.fGroup)), .d (.sl (v_c2.fMore.map (eI .i64))), .d (.v (.int .i64 v_c2.fCaps)), .d (.v (.int .i64 v_c2.fLevel)), .d (.v (.int .i64 v_c2.fKind))], .box [.d (.v (.int .i64 v_r138.1.fKind)), .d (.v (.int .i64 v_r138.1.fMode)), .d (.v (.int .i64 v_r138.1.fUser)), .d (.v (.int .i64 v_r138.1.fGroup)), .d (.v (.int .i64 v_r138.1.fSize)), .d (.v (.int .i64 v_r138.1.fLinks))], .box [.d (.v (.int .i64 v_r164.1.fKind)), .d (.v (.int .i64 v_r164.1.fMode)), .d (.v (.int .i64 v_r164.1.fUser)), .d (.v (.int .i64 v_r164.1.fGroup)), .d (.v (.int .i64 v_r164.1.fSize)), .d (.v (.int .i64 v_r164.1.fLinks))]]⟩
def G_ringlaw5_ModeSays_C1 (n : Nat) (v_want3 : Int) (v_n4 : Int) (v_m5 : Int) (v_r133 : (Bool × Int)) (v_r138 : (S_api_Stat × Int)) (v_r164 : (S_api_Stat × Int)) (v_r185 : (Int)) (v_s1 : S_api_Stat) (v_c2 : S_api_Cred) : Option G_ringlaw5_ModeSays_C1_R :=
  if v_r185 = 0 then
   (G_ringref5_StatErr n v_s1).bind fun (v_r194 : (Int)) =>
   some (.x0 v_r194)
  else
   some (.x0 v_r185)
theorem G_ringlaw5_ModeSays_C1_ok {Fi : Ex → PS → Prop} (hF : KC 198 Fi) (ks : List Fr) (n : Nat) (v_want3 : Int) (v_n4 : Int) (v_m5 : Int) (v_r133 : (Bool × Int)) (v_r138 : (S_api_Stat × Int)) (v_r164 : (S_api_Stat × Int)) (v_r185 : (Int)) (v_s1 : S_api_Stat) (v_c2 : S_api_Cred)  (o : G_ringlaw5_ModeSays_C1_R) (h : G_ringlaw5_ModeSays_C1 n v_want3 v_n4 v_m5 v_r133 v_r138 v_r164 v_r185 v_s1 v_c2 = some o) (q : RunE Try.prog 198 Fi ks (G_ringlaw5_ModeSays_C1_ex o) (G_ringlaw5_ModeSays_C1_st v_want3 v_n4 v_m5 v_r133 v_r138 v_r164 v_r185 v_s1 v_c2 o)) : RunE Try.prog 198 Fi (.s (cR (cL (cR (cR (cR (cR (cR (cR (bodyOf Try.f4))))))))) :: ks) .normal (G_ringlaw5_ModeSays_C1_hd v_want3 v_n4 v_m5 v_r133 v_r138 v_r164 v_r185 v_s1 v_c2) := by
  unfold G_ringlaw5_ModeSays_C1 at h
  by_cases h236 : v_r185 = 0
  · rw [if_pos h236] at h
    obtain ⟨v_r194, h237, h⟩ := bind_some h
    cases h
    exact pkk_sound TTok mix hF 2 (hs := [.t true, .c, .r ((eI .i64) v_r194)]) (ts := []) (s := [0, 1, 2, 3]) (l := [2, 3, 4, 5, 6, 11, 12, 13, 14, 15, 16, 17]) (by kernel_rfl) (by kernel_rfl) (.cons (bt h236) (.cons (G_ringref5_StatErr_ok n v_s1 _ h237) .nil)) q
  · rw [if_neg h236] at h
    cases h
    exact pkk_sound TTok mix hF 2 (hs := [.t false]) (ts := []) (s := [0, 1, 2, 3]) (l := [2, 3, 4, 5, 6, 11, 12, 13, 14, 15, 16, 17]) (by kernel_rfl) (by kernel_rfl) (.cons (bf h236) .nil) q
inductive G_ringlaw5_ModeSays_C2_R where
  | x0 (v_x209 : Bool)
def G_ringlaw5_ModeSays_C2_ex : G_ringlaw5_ModeSays_C2_R → Ex
  | .x0 _ => .normal
def G_ringlaw5_ModeSays_C2_st (v_r133 : (Bool × Int)) (v_r138 : (S_api_Stat × Int)) (v_r164 : (S_api_Stat × Int)) (v_z198 : Int) : G_ringlaw5_ModeSays_C2_R → PS
  | .x0 v_x209 => ⟨[dd, dd, dd, dd, dd, dd, dd, dd, dd, dd, .d (.v (.bool v_x209)), dd, dd, dd, dd, dd, dd, dd, dd, dd, dd, dd, dd, dd, dd, dd, dd, dd, dd, dd, dd, dd, dd, dd, dd, dd, dd, dd, dd, dd, dd, dd, dd, dd, dd, dd, dd, dd, dd, dd, dd, dd, dd, dd, dd, dd, dd, dd, dd, dd, dd, dd, dd, dd, dd, dd, dd, dd, dd, dd, dd, dd, dd, dd, dd, dd, dd, dd, dd, dd, dd, dd, dd, dd, dd, dd, dd, dd, dd, dd, dd, dd, dd, dd, dd, dd, dd, dd, dd, dd, dd, dd, dd, dd, dd, dd, dd, dd, dd, dd, dd, dd, dd, dd, dd, dd, dd, dd, dd, dd, dd, dd, dd, dd, dd, dd, dd, dd, dd, dd, dd, dd, dd, dd, dd, dd, dd, dd, dd, dd, dd, dd, dd, dd, dd, dd, dd, dd, dd, dd, dd, dd, dd, dd, dd, dd, dd, dd, dd, dd, dd, dd, dd, dd, dd, dd, dd, dd, dd, dd, dd, dd, dd, dd, dd, dd, dd, dd, dd, dd, dd, dd, dd, dd, dd, dd, dd, dd, dd, dd, dd, dd, dd, dd, dd, dd, dd, dd], []⟩
def G_ringlaw5_ModeSays_C2_hd (v_r133 : (Bool × Int)) (v_r138 : (S_api_Stat × Int)) (v_r164 : (S_api_Stat × Int)) (v_z198 : Int)  : PS := ⟨[dd, dd, dd, dd, dd, dd, dd, dd, dd, dd, dd, .d (.v (.bool v_r133.1)), .d (.v (.int .i64 v_r133.2)), .ref 0 0, .d (.v (.int .i64 v_r138.2)), .ref 1 0, .d (.v (.int .i64 v_r164.2)), .d (.v (.int .i64 v_z198)), dd, dd, dd, dd, dd, dd, dd, dd, dd, dd, dd, dd, dd, dd, dd, dd, dd, dd, dd, dd, dd, dd, dd, dd, dd, dd, dd, dd, dd, dd, dd, dd, dd, dd, dd, dd, dd, dd, dd, dd, dd, dd, dd, dd, dd, dd, dd, dd, dd, dd, dd, dd, dd, dd, dd, dd, dd, dd, dd, dd, dd, dd, dd, dd, dd, dd, dd, dd, dd, dd, dd, dd, dd, dd, dd, dd, dd, dd, dd, dd, dd, dd, dd, dd, dd, dd, dd, dd, dd, dd, dd, dd, dd, dd, dd, dd, dd, dd, dd, dd, dd, dd, dd, dd, dd, dd, dd, dd, dd, dd, dd, dd, dd, dd, dd, dd, dd, dd, dd, dd, dd, dd, dd, dd, dd, dd, dd, dd, dd, dd, dd, dd, dd, dd, dd, dd, dd, dd, dd, dd, dd, dd, dd, dd, dd, dd, dd, dd, dd, dd, dd, dd, dd, dd, dd, dd, dd, dd, dd, dd, dd, dd, dd, dd, dd, dd, dd, dd, dd, dd, dd, dd, dd, dd, dd, dd, dd, dd, dd, dd], [.box [.d (.v (.int .i64 v_r138.1.fKind)), .d (.v (.int .i64 v_r138.1.fMode)), .d (.v (.int .i64 v_r138.1.fUser)), .d (.v (.int .i64 v_r138.1.fGroup)), .d (.v (.int .i64 v_r138.1.fSize)), .d (.v (.int .i64 v_r138.1.fLinks))], .box [.d (.v (.int .i64 v_r164.1.fKind)), .d (.v (.int .i64 v_r164.1.fMode)), .d (.v (.int .i64 v_r164.1.fUser)), .d (.v (.int .i64 v_r164.1.fGroup)), .d (.v (.int .i64 v_r164.1.fSize)), .d (.v (.int .i64 v_r164.1.fLinks))]]⟩
def G_ringlaw5_ModeSays_C2 (n : Nat) (v_r133 : (Bool × Int)) (v_r138 : (S_api_Stat × Int)) (v_r164 : (S_api_Stat × Int)) (v_z198 : Int) : Option G_ringlaw5_ModeSays_C2_R :=
  if v_r133.2 = v_z198 then
   if v_r138.2 = v_z198 then
    if v_r164.2 = v_z198 then
     if v_r133.1 = true then
      some (.x0 false)
     else
      if (eqRes .eql (eqS_api_Stat v_r138.1 (S_api_Stat.mk 0 0 0 0 0 0))) = true then
       some (.x0 (eqRes .eql (eqS_api_Stat v_r164.1 (S_api_Stat.mk 0 0 0 0 0 0))))
      else
       some (.x0 false)
    else
     some (.x0 false)
   else
    some (.x0 false)
  else
   some (.x0 false)
theorem G_ringlaw5_ModeSays_C2_ok {Fi : Ex → PS → Prop} (hF : KC 198 Fi) (ks : List Fr) (n : Nat) (v_r133 : (Bool × Int)) (v_r138 : (S_api_Stat × Int)) (v_r164 : (S_api_Stat × Int)) (v_z198 : Int)  (o : G_ringlaw5_ModeSays_C2_R) (h : G_ringlaw5_ModeSays_C2 n v_r133 v_r138 v_r164 v_z198 = some o) (q : RunE Try.prog 198 Fi ks (G_ringlaw5_ModeSays_C2_ex o) (G_ringlaw5_ModeSays_C2_st v_r133 v_r138 v_r164 v_z198 o)) : RunE Try.prog 198 Fi (.s (cL (cT (cR (cL (cR (cR (cR (cR (cR (cR (cR (cR (bodyOf Try.f4))))))))))))) :: ks) .normal (G_ringlaw5_ModeSays_C2_hd v_r133 v_r138 v_r164 v_z198) := by
  unfold G_ringlaw5_ModeSays_C2 at h
  by_cases h260 : v_r133.2 = v_z198
  · rw [if_pos h260] at h
    by_cases h261 : v_r138.2 = v_z198
    · rw [if_pos h261] at h
      by_cases h262 : v_r164.2 = v_z198
      · rw [if_pos h262] at h
        by_cases h263 : v_r133.1 = true
        · rw [if_pos h263] at h
          cases h
          exact pkk_sound TTok mix hF 1 (hs := [.t true, .c, .c, .t true, .c, .c, .t true, .c, .t false, .c, .c, .c, .c, .c]) (ts := []) (s := []) (l := [10]) (by kernel_rfl) (by kernel_rfl) (.cons (bt h260) (.cons (bt h261) (.cons (bt h262) (.cons (bnf h263) .nil)))) q
        · rw [if_neg h263] at h
          by_cases h264 : (eqRes .eql (eqS_api_Stat v_r138.1 (S_api_Stat.mk 0 0 0 0 0 0))) = true
          · rw [if_pos h264] at h
            cases h
            exact pkk_sound TTok mix hF 1 (hs := [.t true, .c, .c, .t true, .c, .c, .t true, .c, .t true, .c, .c, .c, .q (eqS_api_Stat v_r138.1 (S_api_Stat.mk 0 0 0 0 0 0)), .t true, .c, .c, .c, .q (eqS_api_Stat v_r164.1 (S_api_Stat.mk 0 0 0 0 0 0))]) (ts := []) (s := []) (l := [10]) (by kernel_rfl) (by kernel_rfl) (.cons (bt h260) (.cons (bt h261) (.cons (bt h262) (.cons (bnt (vf h263)) (.cons (eqS_api_Stat_ok v_r138.1 (S_api_Stat.mk 0 0 0 0 0 0)) (.cons h264 (.cons (eqS_api_Stat_ok v_r164.1 (S_api_Stat.mk 0 0 0 0 0 0)) .nil))))))) q
          · rw [if_neg h264] at h
            cases h
            exact pkk_sound TTok mix hF 1 (hs := [.t true, .c, .c, .t true, .c, .c, .t true, .c, .t true, .c, .c, .c, .q (eqS_api_Stat v_r138.1 (S_api_Stat.mk 0 0 0 0 0 0)), .t false, .c, .c]) (ts := []) (s := []) (l := [10]) (by kernel_rfl) (by kernel_rfl) (.cons (bt h260) (.cons (bt h261) (.cons (bt h262) (.cons (bnt (vf h263)) (.cons (eqS_api_Stat_ok v_r138.1 (S_api_Stat.mk 0 0 0 0 0 0)) (.cons (vf h264) .nil)))))) q
      · rw [if_neg h262] at h
        cases h
        exact pkk_sound TTok mix hF 1 (hs := [.t true, .c, .c, .t true, .c, .c, .t false, .c, .c, .c, .c, .c, .c, .c]) (ts := []) (s := []) (l := [10]) (by kernel_rfl) (by kernel_rfl) (.cons (bt h260) (.cons (bt h261) (.cons (bf h262) .nil))) q
    · rw [if_neg h261] at h
      cases h
      exact pkk_sound TTok mix hF 1 (hs := [.t true, .c, .c, .t false, .c, .c, .c, .c, .c, .c, .c, .c, .c, .c]) (ts := []) (s := []) (l := [10]) (by kernel_rfl) (by kernel_rfl) (.cons (bt h260) (.cons (bf h261) .nil)) q
  · rw [if_neg h260] at h
    cases h
    exact pkk_sound TTok mix hF 1 (hs := [.t false, .c, .c, .c, .c, .c, .c, .c, .c, .c, .c, .c, .c, .c]) (ts := []) (s := []) (l := [10]) (by kernel_rfl) (by kernel_rfl) (.cons (bf h260) .nil) q
inductive G_ringlaw5_ModeSays_C3_R where
  | x0 (v_x217 : Bool)
def G_ringlaw5_ModeSays_C3_ex : G_ringlaw5_ModeSays_C3_R → Ex
  | .x0 _ => .normal
def G_ringlaw5_ModeSays_C3_st (v_n4 : Int) (v_m5 : Int) (v_r138 : (S_api_Stat × Int)) (v_r164 : (S_api_Stat × Int)) (v_c2 : S_api_Cred) (v_s1 : S_api_Stat) : G_ringlaw5_ModeSays_C3_R → PS
  | .x0 v_x217 => ⟨[dd, dd, dd, .d (.v (.int .i64 v_n4)), .d (.v (.int .i64 v_m5)), .ref 0 0, .ref 1 0, dd, dd, dd, dd, dd, dd, .ref 2 0, .d (.v (.int .i64 v_r138.2)), .ref 3 0, .d (.v (.int .i64 v_r164.2)), dd, .ref 4 0, .ref 5 0, .d (.v (.bool ((remI (quoI .i64 v_c2.fCaps 4) 2) == 1))), .d (.v (.int .i64 1)), .d (.v (.int .i64 0)), dd, dd, dd, dd, dd, dd, dd, dd, dd, dd, dd, dd, dd, dd, dd, dd, dd, dd, dd, dd, dd, dd, dd, dd, dd, dd, dd, dd, dd, dd, dd, dd, dd, dd, dd, dd, dd, dd, dd, dd, dd, dd, dd, dd, dd, dd, dd, dd, dd, dd, dd, dd, dd, dd, dd, dd, dd, dd, dd, dd, dd, dd, dd, dd, dd, dd, dd, dd, dd, dd, dd, dd, dd, dd, dd, dd, dd, dd, dd, dd, dd, dd, dd, dd, dd, dd, dd, dd, dd, dd, dd, dd, dd, dd, dd, dd, dd, dd, dd, dd, dd, dd, dd, dd, dd, dd, dd, dd, dd, dd, dd, dd, dd, dd, dd, dd, dd, dd, dd, dd, dd, dd, .d (.v (.bool v_x217)), dd, dd, dd, dd, dd, dd, dd, dd, dd, dd, dd, dd, dd, dd, dd, dd, dd, dd, dd, dd, dd, dd, dd, dd, dd, dd, dd, dd, dd, dd, dd, dd, dd, dd, dd, dd, dd, dd, dd, dd, dd, dd, dd, dd, dd, dd, dd, dd, dd, dd, dd, dd], [.box [.d (.v (.int .i64 v_s1.fKind)), .d (.v (.int .i64 v_s1.fMode)), .d (.v (.int .i64 v_s1.fUser)), .d (.v (.int .i64 v_s1.fGroup)), .d (.v (.int .i64 v_s1.fSize)), .d (.v (.int .i64 v_s1.fLinks))], .box [.d (.v (.int .i64 v_c2.fUser)), .d (.v (.int .i64 v_c2.fGroup)), .d (.sl (v_c2.fMore.map (eI .i64))), .d (.v (.int .i64 v_c2.fCaps)), .d (.v (.int .i64 v_c2.fLevel)), .d (.v (.int .i64 v_c2.fKind))], .box [.d (.v (.int .i64 v_r138.1.fKind)), .d (.v (.int .i64 v_r138.1.fMode)), .d (.v (.int .i64 v_r138.1.fUser)), .d (.v (.int .i64 v_r138.1.fGroup)), .d (.v (.int .i64 v_r138.1.fSize)), .d (.v (.int .i64 v_r138.1.fLinks))], .box [.d (.v (.int .i64 v_r164.1.fKind)), .d (.v (.int .i64 v_r164.1.fMode)), .d (.v (.int .i64 v_r164.1.fUser)), .d (.v (.int .i64 v_r164.1.fGroup)), .d (.v (.int .i64 v_r164.1.fSize)), .d (.v (.int .i64 v_r164.1.fLinks))], .box [.d (.v (.int .i64 v_s1.fKind)), .d (.v (.int .i64 v_n4)), .d (.v (.int .i64 v_s1.fUser)), .d (.v (.int .i64 v_s1.fGroup)), .d (.v (.int .i64 v_s1.fSize)), .d (.v (.int .i64 v_s1.fLinks))], .box [.d (.v (.int .i64 v_s1.fKind)), .d (.v (.int .i64 v_s1.fMode)), .d (.v (.int .i64 v_n4)), .d (.v (.int .i64 v_m5)), .d (.v (.int .i64 v_s1.fSize)), .d (.v (.int .i64 v_s1.fLinks))]]⟩
def G_ringlaw5_ModeSays_C3_hd (v_n4 : Int) (v_m5 : Int) (v_r138 : (S_api_Stat × Int)) (v_r164 : (S_api_Stat × Int)) (v_c2 : S_api_Cred) (v_s1 : S_api_Stat)  : PS := ⟨[dd, dd, dd, .d (.v (.int .i64 v_n4)), .d (.v (.int .i64 v_m5)), .ref 0 0, .ref 1 0, dd, dd, dd, dd, dd, dd, .ref 2 0, .d (.v (.int .i64 v_r138.2)), .ref 3 0, .d (.v (.int .i64 v_r164.2)), dd, .ref 4 0, .ref 5 0, .d (.v (.bool ((remI (quoI .i64 v_c2.fCaps 4) 2) == 1))), .d (.v (.int .i64 1)), .d (.v (.int .i64 0)), dd, dd, dd, dd, dd, dd, dd, dd, dd, dd, dd, dd, dd, dd, dd, dd, dd, dd, dd, dd, dd, dd, dd, dd, dd, dd, dd, dd, dd, dd, dd, dd, dd, dd, dd, dd, dd, dd, dd, dd, dd, dd, dd, dd, dd, dd, dd, dd, dd, dd, dd, dd, dd, dd, dd, dd, dd, dd, dd, dd, dd, dd, dd, dd, dd, dd, dd, dd, dd, dd, dd, dd, dd, dd, dd, dd, dd, dd, dd, dd, dd, dd, dd, dd, dd, dd, dd, dd, dd, dd, dd, dd, dd, dd, dd, dd, dd, dd, dd, dd, dd, dd, dd, dd, dd, dd, dd, dd, dd, dd, dd, dd, dd, dd, dd, dd, dd, dd, dd, dd, dd, dd, dd, dd, dd, dd, dd, dd, dd, dd, dd, dd, dd, dd, dd, dd, dd, dd, dd, dd, dd, dd, dd, dd, dd, dd, dd, dd, dd, dd, dd, dd, dd, dd, dd, dd, dd, dd, dd, dd, dd, dd, dd, dd, dd, dd, dd, dd, dd, dd, dd, dd, dd, dd, dd], [.box [.d (.v (.int .i64 v_s1.fKind)), .d (.v (.int .i64 v_s1.fMode)), .d (.v (.int .i64 v_s1.fUser)), .d (.v (.int .i64 v_s1.fGroup)), .d (.v (.int .i64 v_s1.fSize)), .d (.v (.int .i64 v_s1.fLinks))], .box [.d (.v (.int .i64 v_c2.fUser)), .d (.v (.int .i64 v_c2.fGroup)), .d (.sl (v_c2.fMore.map (eI .i64))), .d (.v (.int .i64 v_c2.fCaps)), .d (.v (.int .i64 v_c2.fLevel)), .d (.v (.int .i64 v_c2.fKind))], .box [.d (.v (.int .i64 v_r138.1.fKind)), .d (.v (.int .i64 v_r138.1.fMode)), .d (.v (.int .i64 v_r138.1.fUser)), .d (.v (.int .i64 v_r138.1.fGroup)), .d (.v (.int .i64 v_r138.1.fSize)), .d (.v (.int .i64 v_r138.1.fLinks))], .box [.d (.v (.int .i64 v_r164.1.fKind)), .d (.v (.int .i64 v_r164.1.fMode)), .d (.v (.int .i64 v_r164.1.fUser)), .d (.v (.int .i64 v_r164.1.fGroup)), .d (.v (.int .i64 v_r164.1.fSize)), .d (.v (.int .i64 v_r164.1.fLinks))], .box [.d (.v (.int .i64 v_s1.fKind)), .d (.v (.int .i64 v_n4)), .d (.v (.int .i64 v_s1.fUser)), .d (.v (.int .i64 v_s1.fGroup)), .d (.v (.int .i64 v_s1.fSize)), .d (.v (.int .i64 v_s1.fLinks))], .box [.d (.v (.int .i64 v_s1.fKind)), .d (.v (.int .i64 v_s1.fMode)), .d (.v (.int .i64 v_n4)), .d (.v (.int .i64 v_m5)), .d (.v (.int .i64 v_s1.fSize)), .d (.v (.int .i64 v_s1.fLinks))]]⟩
def G_ringlaw5_ModeSays_C3 (n : Nat) (v_n4 : Int) (v_m5 : Int) (v_r138 : (S_api_Stat × Int)) (v_r164 : (S_api_Stat × Int)) (v_c2 : S_api_Cred) (v_s1 : S_api_Stat) : Option G_ringlaw5_ModeSays_C3_R :=
  if (minI v_n4 v_m5) < 0 then
   some (.x0 true)
  else
   some (.x0 (decide ((maxI v_n4 v_m5) > 99)))
theorem G_ringlaw5_ModeSays_C3_ok {Fi : Ex → PS → Prop} (hF : KC 198 Fi) (ks : List Fr) (n : Nat) (v_n4 : Int) (v_m5 : Int) (v_r138 : (S_api_Stat × Int)) (v_r164 : (S_api_Stat × Int)) (v_c2 : S_api_Cred) (v_s1 : S_api_Stat)  (o : G_ringlaw5_ModeSays_C3_R) (h : G_ringlaw5_ModeSays_C3 n v_n4 v_m5 v_r138 v_r164 v_c2 v_s1 = some o) (q : RunE Try.prog 198 Fi ks (G_ringlaw5_ModeSays_C3_ex o) (G_ringlaw5_ModeSays_C3_st v_n4 v_m5 v_r138 v_r164 v_c2 v_s1 o)) : RunE Try.prog 198 Fi (.s (cL (cL (cR (cR (cR (cR (cR (cR (cR (cR (cR (cR (cR (cR (cR (cR (cR (bodyOf Try.f4)))))))))))))))))) :: ks) .normal (G_ringlaw5_ModeSays_C3_hd v_n4 v_m5 v_r138 v_r164 v_c2 v_s1) := by
  unfold G_ringlaw5_ModeSays_C3 at h
  by_cases h275 : (minI v_n4 v_m5) < 0
  · rw [if_pos h275] at h
    cases h
    exact pkk_sound TTok mix hF 1 (hs := [.t true, .c, .c, .c]) (ts := []) (s := [0, 1, 2, 3, 4, 5]) (l := [3, 4, 5, 6, 13, 14, 15, 16, 18, 19, 20, 21, 22, 145]) (by kernel_rfl) (by kernel_rfl) (.cons (dt h275) .nil) q
  · rw [if_neg h275] at h
    cases h
    exact pkk_sound TTok mix hF 1 (hs := [.t false, .c, .c, .c]) (ts := []) (s := [0, 1, 2, 3, 4, 5]) (l := [3, 4, 5, 6, 13, 14, 15, 16, 18, 19, 20, 21, 22, 145]) (by kernel_rfl) (by kernel_rfl) (.cons (df h275) .nil) q
inductive G_ringlaw5_ModeSays_C4_R where
  | x0 (v_x237 : Bool)
def G_ringlaw5_ModeSays_C4_ex : G_ringlaw5_ModeSays_C4_R → Ex
  | .x0 _ => .normal
def G_ringlaw5_ModeSays_C4_st (v_n4 : Int) (v_m5 : Int) (v_r138 : (S_api_Stat × Int)) (v_r164 : (S_api_Stat × Int)) (v_c2 : S_api_Cred) (v_s1 : S_api_Stat) : G_ringlaw5_ModeSays_C4_R → PS
  | .x0 v_x237 => ⟨[dd, dd, dd, dd, dd, dd, dd, dd, dd, dd, dd, dd, dd, .ref 0 0, .d (.v (.int .i64 v_r138.2)), .ref 1 0, .d (.v (.int .i64 v_r164.2)), dd, .ref 2 0, .ref 3 0, dd, .d (.v (.int .i64 1)), .d (.v (.int .i64 0)), dd, dd, dd, dd, dd, dd, dd, dd, dd, dd, dd, dd, dd, dd, dd, dd, dd, dd, dd, dd, dd, dd, dd, dd, dd, dd, dd, dd, dd, dd, dd, dd, dd, dd, dd, dd, dd, dd, dd, dd, dd, dd, dd, dd, dd, dd, dd, dd, dd, dd, dd, dd, dd, dd, dd, dd, dd, dd, dd, dd, dd, dd, dd, dd, dd, dd, dd, dd, dd, dd, dd, dd, dd, dd, dd, dd, dd, dd, dd, dd, dd, dd, dd, dd, dd, dd, dd, dd, dd, dd, dd, dd, dd, dd, dd, dd, dd, dd, dd, dd, dd, dd, dd, dd, dd, dd, dd, dd, dd, dd, dd, dd, dd, dd, dd, dd, dd, dd, dd, dd, dd, dd, dd, dd, dd, dd, dd, dd, dd, dd, dd, dd, dd, dd, dd, dd, dd, dd, dd, dd, dd, dd, dd, dd, dd, dd, dd, dd, dd, dd, .d (.v (.bool v_x237)), dd, dd, dd, dd, dd, dd, dd, dd, dd, dd, dd, dd, dd, dd, dd, dd, dd, dd, dd, dd, dd, dd, dd, dd], [.box [.d (.v (.int .i64 v_r138.1.fKind)), .d (.v (.int .i64 v_r138.1.fMode)), .d (.v (.int .i64 v_r138.1.fUser)), .d (.v (.int .i64 v_r138.1.fGroup)), .d (.v (.int .i64 v_r138.1.fSize)), .d (.v (.int .i64 v_r138.1.fLinks))], .box [.d (.v (.int .i64 v_r164.1.fKind)), .d (.v (.int .i64 v_r164.1.fMode)), .d (.v (.int .i64 v_r164.1.fUser)), .d (.v (.int .i64 v_r164.1.fGroup)), .d (.v (.int .i64 v_r164.1.fSize)), .d (.v (.int .i64 v_r164.1.fLinks))], .box [.d (.v (.int .i64 v_s1.fKind)), .d (.v (.int .i64 v_n4)), .d (.v (.int .i64 v_s1.fUser)), .d (.v (.int .i64 v_s1.fGroup)), .d (.v (.int .i64 v_s1.fSize)), .d (.v (.int .i64 v_s1.fLinks))], .box [.d (.v (.int .i64 v_s1.fKind)), .d (.v (.int .i64 v_s1.fMode)), .d (.v (.int .i64 v_n4)), .d (.v (.int .i64 v_m5)), .d (.v (.int .i64 v_s1.fSize)), .d (.v (.int .i64 v_s1.fLinks))]]⟩
def G_ringlaw5_ModeSays_C4_hd (v_n4 : Int) (v_m5 : Int) (v_r138 : (S_api_Stat × Int)) (v_r164 : (S_api_Stat × Int)) (v_c2 : S_api_Cred) (v_s1 : S_api_Stat)  : PS := ⟨[dd, dd, dd, .d (.v (.int .i64 v_n4)), .d (.v (.int .i64 v_m5)), .ref 0 0, .ref 1 0, dd, dd, dd, dd, dd, dd, .ref 2 0, .d (.v (.int .i64 v_r138.2)), .ref 3 0, .d (.v (.int .i64 v_r164.2)), dd, .ref 4 0, .ref 5 0, .d (.v (.bool ((remI (quoI .i64 v_c2.fCaps 4) 2) == 1))), .d (.v (.int .i64 1)), .d (.v (.int .i64 0)), dd, dd, dd, dd, dd, dd, dd, dd, dd, dd, dd, dd, dd, dd, dd, dd, dd, dd, dd, dd, dd, dd, dd, dd, dd, dd, dd, dd, dd, dd, dd, dd, dd, dd, dd, dd, dd, dd, dd, dd, dd, dd, dd, dd, dd, dd, dd, dd, dd, dd, dd, dd, dd, dd, dd, dd, dd, dd, dd, dd, dd, dd, dd, dd, dd, dd, dd, dd, dd, dd, dd, dd, dd, dd, dd, dd, dd, dd, dd, dd, dd, dd, dd, dd, dd, dd, dd, dd, dd, dd, dd, dd, dd, dd, dd, dd, dd, dd, dd, dd, dd, dd, dd, dd, dd, dd, dd, dd, dd, dd, dd, dd, dd, dd, dd, dd, dd, dd, dd, dd, dd, dd, dd, dd, dd, dd, dd, dd, dd, dd, dd, dd, dd, dd, dd, dd, dd, dd, dd, dd, dd, dd, dd, dd, dd, dd, dd, dd, dd, dd, dd, dd, dd, dd, dd, dd, dd, dd, dd, dd, dd, dd, dd, dd, dd, dd, dd, dd, dd, dd, dd, dd, dd, dd, dd], [.box [.d (.v (.int .i64 v_s1.fKind)), .d (.v (.int .i64 v_s1.fMode)), .d (.v (.int .i64 v_s1.fUser)), .d (.v (.int .i64 v_s1.fGroup)), .d (.v (.int .i64 v_s1.fSize)), .d (.v (.int .i64 v_s1.fLinks))], .box [.d (.v (.int .i64 v_c2.fUser)), .d (.v (.int .i64 v_c2.fGroup)), .d (.sl (v_c2.fMore.map (eI .i64))), .d (.v (.int .i64 v_c2.fCaps)), .d (.v (.int .i64 v_c2.fLevel)), .d (.v (.int .i64 v_c2.fKind))], .box [.d (.v (.int .i64 v_r138.1.fKind)), .d (.v (.int .i64 v_r138.1.fMode)), .d (.v (.int .i64 v_r138.1.fUser)), .d (.v (.int .i64 v_r138.1.fGroup)), .d (.v (.int .i64 v_r138.1.fSize)), .d (.v (.int .i64 v_r138.1.fLinks))], .box [.d (.v (.int .i64 v_r164.1.fKind)), .d (.v (.int .i64 v_r164.1.fMode)), .d (.v (.int .i64 v_r164.1.fUser)), .d (.v (.int .i64 v_r164.1.fGroup)), .d (.v (.int .i64 v_r164.1.fSize)), .d (.v (.int .i64 v_r164.1.fLinks))], .box [.d (.v (.int .i64 v_s1.fKind)), .d (.v (.int .i64 v_n4)), .d (.v (.int .i64 v_s1.fUser)), .d (.v (.int .i64 v_s1.fGroup)), .d (.v (.int .i64 v_s1.fSize)), .d (.v (.int .i64 v_s1.fLinks))], .box [.d (.v (.int .i64 v_s1.fKind)), .d (.v (.int .i64 v_s1.fMode)), .d (.v (.int .i64 v_n4)), .d (.v (.int .i64 v_m5)), .d (.v (.int .i64 v_s1.fSize)), .d (.v (.int .i64 v_s1.fLinks))]]⟩
def G_ringlaw5_ModeSays_C4 (n : Nat) (v_n4 : Int) (v_m5 : Int) (v_r138 : (S_api_Stat × Int)) (v_r164 : (S_api_Stat × Int)) (v_c2 : S_api_Cred) (v_s1 : S_api_Stat) : Option G_ringlaw5_ModeSays_C4_R :=
  if (remI (quoI .i64 v_c2.fCaps 4) 2) = 1 then
   some (.x0 false)
  else
   if v_c2.fUser = v_s1.fUser then
    if v_n4 = v_s1.fUser then
     if v_m5 = v_s1.fGroup then
      some (.x0 false)
     else
      (G_ringref5_Groups n v_c2).bind fun (v_r239 : ((List Int))) =>
      (G_slices_Contains_int_int n v_r239 v_m5).bind fun (v_r240 : (Bool)) =>
      some (.x0 (!v_r240))
    else
     some (.x0 true)
   else
    some (.x0 true)
theorem G_ringlaw5_ModeSays_C4_ok {Fi : Ex → PS → Prop} (hF : KC 198 Fi) (ks : List Fr) (n : Nat) (v_n4 : Int) (v_m5 : Int) (v_r138 : (S_api_Stat × Int)) (v_r164 : (S_api_Stat × Int)) (v_c2 : S_api_Cred) (v_s1 : S_api_Stat)  (o : G_ringlaw5_ModeSays_C4_R) (h : G_ringlaw5_ModeSays_C4 n v_n4 v_m5 v_r138 v_r164 v_c2 v_s1 = some o) (q : RunE Try.prog 198 Fi ks (G_ringlaw5_ModeSays_C4_ex o) (G_ringlaw5_ModeSays_C4_st v_n4 v_m5 v_r138 v_r164 v_c2 v_s1 o)) : RunE Try.prog 198 Fi (.s (cL (cF (cR (cL (cR (cR (cR (cR (cR (cR (cR (cR (cR (cR (cR (cR (cR (cR (cR (bodyOf Try.f4)))))))))))))))))))) :: ks) .normal (G_ringlaw5_ModeSays_C4_hd v_n4 v_m5 v_r138 v_r164 v_c2 v_s1) := by
  unfold G_ringlaw5_ModeSays_C4 at h
  by_cases h300 : (remI (quoI .i64 v_c2.fCaps 4) 2) = 1
  · rw [if_pos h300] at h
    cases h
    exact pkk_sound TTok mix hF 1 (hs := [.t false, .c, .c, .c, .c, .c, .c, .c, .c]) (ts := []) (s := [2, 3, 4, 5]) (l := [13, 14, 15, 16, 18, 19, 21, 22, 173]) (by kernel_rfl) (by kernel_rfl) (.cons (bnf (bt h300)) .nil) q
  · rw [if_neg h300] at h
    by_cases h301 : v_c2.fUser = v_s1.fUser
    · rw [if_pos h301] at h
      by_cases h302 : v_n4 = v_s1.fUser
      · rw [if_pos h302] at h
        by_cases h303 : v_m5 = v_s1.fGroup
        · rw [if_pos h303] at h
          cases h
          exact pkk_sound TTok mix hF 1 (hs := [.t true, .c, .c, .c, .c, .c, .c, .c, .t false, .c, .c, .c, .c, .c, .c, .t false, .c, .c, .c, .c, .c, .t false, .c, .c, .c, .c, .c, .c]) (ts := []) (s := [2, 3, 4, 5]) (l := [13, 14, 15, 16, 18, 19, 21, 22, 173]) (by kernel_rfl) (by kernel_rfl) (.cons (bnt (bf h300)) (.cons (nf h301) (.cons (nf h302) (.cons (nf h303) .nil)))) q
        · rw [if_neg h303] at h
          obtain ⟨v_r239, h304, h⟩ := bind_some h
          obtain ⟨v_r240, h305, h⟩ := bind_some h
          cases h
          exact pkk_sound TTok mix hF 1 (hs := [.t true, .c, .c, .c, .c, .c, .c, .c, .t false, .c, .c, .c, .c, .c, .c, .t false, .c, .c, .c, .c, .c, .t true, .c, .c, .r ((eL (eI .i64)) v_r239), .c, .c, .r (eB v_r240), .c, .c, .c]) (ts := []) (s := [2, 3, 4, 5]) (l := [13, 14, 15, 16, 18, 19, 21, 22, 173]) (by kernel_rfl) (by kernel_rfl) (.cons (bnt (bf h300)) (.cons (nf h301) (.cons (nf h302) (.cons (nt h303) (.cons (G_ringref5_Groups_ok n v_c2 _ h304) (.cons (G_slices_Contains_int_int_ok n v_r239 v_m5 _ h305) .nil)))))) q
      · rw [if_neg h302] at h
        cases h
        exact pkk_sound TTok mix hF 1 (hs := [.t true, .c, .c, .c, .c, .c, .c, .c, .t false, .c, .c, .c, .c, .c, .c, .t true, .c, .c, .c, .c, .c, .c]) (ts := []) (s := [2, 3, 4, 5]) (l := [13, 14, 15, 16, 18, 19, 21, 22, 173]) (by kernel_rfl) (by kernel_rfl) (.cons (bnt (bf h300)) (.cons (nf h301) (.cons (nt h302) .nil))) q
    · rw [if_neg h301] at h
      cases h
      exact pkk_sound TTok mix hF 1 (hs := [.t true, .c, .c, .c, .c, .c, .c, .c, .t true, .c, .c, .c, .c, .c, .c, .c, .c, .c, .c, .c, .c]) (ts := []) (s := [2, 3, 4, 5]) (l := [13, 14, 15, 16, 18, 19, 21, 22, 173]) (by kernel_rfl) (by kernel_rfl) (.cons (bnt (bf h300)) (.cons (nt h301) .nil)) q
inductive G_ringlaw5_ModeSays_C5_R where
  | x0 (v_wantO234 : Int)
def G_ringlaw5_ModeSays_C5_ex : G_ringlaw5_ModeSays_C5_R → Ex
  | .x0 _ => .normal
def G_ringlaw5_ModeSays_C5_st (v_n4 : Int) (v_m5 : Int) (v_r138 : (S_api_Stat × Int)) (v_r164 : (S_api_Stat × Int)) (v_c2 : S_api_Cred) (v_z220 : Bool) (v_s1 : S_api_Stat) : G_ringlaw5_ModeSays_C5_R → PS
  | .x0 v_wantO234 => ⟨[dd, dd, dd, dd, dd, dd, dd, dd, dd, dd, dd, dd, dd, .ref 0 0, .d (.v (.int .i64 v_r138.2)), .ref 1 0, .d (.v (.int .i64 v_r164.2)), dd, .ref 2 0, .ref 3 0, dd, .d (.v (.int .i64 1)), .d (.v (.int .i64 v_wantO234)), dd, dd, dd, dd, dd, dd, dd, dd, dd, dd, dd, dd, dd, dd, dd, dd, dd, dd, dd, dd, dd, dd, dd, dd, dd, dd, dd, dd, dd, dd, dd, dd, dd, dd, dd, dd, dd, dd, dd, dd, dd, dd, dd, dd, dd, dd, dd, dd, dd, dd, dd, dd, dd, dd, dd, dd, dd, dd, dd, dd, dd, dd, dd, dd, dd, dd, dd, dd, dd, dd, dd, dd, dd, dd, dd, dd, dd, dd, dd, dd, dd, dd, dd, dd, dd, dd, dd, dd, dd, dd, dd, dd, dd, dd, dd, dd, dd, dd, dd, dd, dd, dd, dd, dd, dd, dd, dd, dd, dd, dd, dd, dd, dd, dd, dd, dd, dd, dd, dd, dd, dd, dd, dd, dd, dd, dd, dd, dd, dd, dd, dd, dd, dd, dd, dd, dd, dd, dd, dd, dd, dd, dd, dd, dd, dd, dd, dd, dd, dd, dd, dd, dd, dd, dd, dd, dd, dd, dd, dd, dd, dd, dd, dd, dd, dd, dd, dd, dd, dd, dd, dd, dd, dd, dd, dd], [.box [.d (.v (.int .i64 v_r138.1.fKind)), .d (.v (.int .i64 v_r138.1.fMode)), .d (.v (.int .i64 v_r138.1.fUser)), .d (.v (.int .i64 v_r138.1.fGroup)), .d (.v (.int .i64 v_r138.1.fSize)), .d (.v (.int .i64 v_r138.1.fLinks))], .box [.d (.v (.int .i64 v_r164.1.fKind)), .d (.v (.int .i64 v_r164.1.fMode)), .d (.v (.int .i64 v_r164.1.fUser)), .d (.v (.int .i64 v_r164.1.fGroup)), .d (.v (.int .i64 v_r164.1.fSize)), .d (.v (.int .i64 v_r164.1.fLinks))], .box [.d (.v (.int .i64 v_s1.fKind)), .d (.v (.int .i64 v_n4)), .d (.v (.int .i64 v_s1.fUser)), .d (.v (.int .i64 v_s1.fGroup)), .d (.v (.int .i64 v_s1.fSize)), .d (.v (.int .i64 v_s1.fLinks))], .box [.d (.v (.int .i64 v_s1.fKind)), .d (.v (.int .i64 v_s1.fMode)), .d (.v (.int .i64 v_n4)), .d (.v (.int .i64 v_m5)), .d (.v (.int .i64 v_s1.fSize)), .d (.v (.int .i64 v_s1.fLinks))]]⟩
def G_ringlaw5_ModeSays_C5_hd (v_n4 : Int) (v_m5 : Int) (v_r138 : (S_api_Stat × Int)) (v_r164 : (S_api_Stat × Int)) (v_c2 : S_api_Cred) (v_z220 : Bool) (v_s1 : S_api_Stat)  : PS := ⟨[dd, dd, dd, .d (.v (.int .i64 v_n4)), .d (.v (.int .i64 v_m5)), .ref 0 0, .ref 1 0, dd, dd, dd, dd, dd, dd, .ref 2 0, .d (.v (.int .i64 v_r138.2)), .ref 3 0, .d (.v (.int .i64 v_r164.2)), dd, .ref 4 0, .ref 5 0, .d (.v (.bool ((remI (quoI .i64 v_c2.fCaps 4) 2) == 1))), .d (.v (.int .i64 1)), .d (.v (.int .i64 0)), dd, dd, dd, dd, dd, dd, dd, dd, dd, dd, dd, dd, dd, dd, dd, dd, dd, dd, dd, dd, dd, dd, dd, dd, dd, dd, dd, dd, dd, dd, dd, dd, dd, dd, dd, dd, dd, dd, dd, dd, dd, dd, dd, dd, dd, dd, dd, dd, dd, dd, dd, dd, dd, dd, dd, dd, dd, dd, dd, dd, dd, dd, dd, dd, dd, dd, dd, dd, dd, dd, dd, dd, dd, dd, dd, dd, dd, dd, dd, dd, dd, dd, dd, dd, dd, dd, dd, dd, dd, dd, dd, dd, dd, dd, dd, dd, dd, dd, dd, dd, dd, dd, dd, dd, dd, dd, dd, dd, dd, dd, dd, dd, dd, dd, dd, dd, dd, dd, dd, dd, dd, dd, .d (.v (.bool v_z220)), dd, dd, dd, dd, dd, dd, dd, dd, dd, dd, dd, dd, dd, dd, dd, dd, dd, dd, dd, dd, dd, dd, dd, dd, dd, dd, dd, dd, dd, dd, dd, dd, dd, dd, dd, dd, dd, dd, dd, dd, dd, dd, dd, dd, dd, dd, dd, dd, dd, dd, dd, dd], [.box [.d (.v (.int .i64 v_s1.fKind)), .d (.v (.int .i64 v_s1.fMode)), .d (.v (.int .i64 v_s1.fUser)), .d (.v (.int .i64 v_s1.fGroup)), .d (.v (.int .i64 v_s1.fSize)), .d (.v (.int .i64 v_s1.fLinks))], .box [.d (.v (.int .i64 v_c2.fUser)), .d (.v (.int .i64 v_c2.fGroup)), .d (.sl (v_c2.fMore.map (eI .i64))), .d (.v (.int .i64 v_c2.fCaps)), .d (.v (.int .i64 v_c2.fLevel)), .d (.v (.int .i64 v_c2.fKind))], .box [.d (.v (.int .i64 v_r138.1.fKind)), .d (.v (.int .i64 v_r138.1.fMode)), .d (.v (.int .i64 v_r138.1.fUser)), .d (.v (.int .i64 v_r138.1.fGroup)), .d (.v (.int .i64 v_r138.1.fSize)), .d (.v (.int .i64 v_r138.1.fLinks))], .box [.d (.v (.int .i64 v_r164.1.fKind)), .d (.v (.int .i64 v_r164.1.fMode)), .d (.v (.int .i64 v_r164.1.fUser)), .d (.v (.int .i64 v_r164.1.fGroup)), .d (.v (.int .i64 v_r164.1.fSize)), .d (.v (.int .i64 v_r164.1.fLinks))], .box [.d (.v (.int .i64 v_s1.fKind)), .d (.v (.int .i64 v_n4)), .d (.v (.int .i64 v_s1.fUser)), .d (.v (.int .i64 v_s1.fGroup)), .d (.v (.int .i64 v_s1.fSize)), .d (.v (.int .i64 v_s1.fLinks))], .box [.d (.v (.int .i64 v_s1.fKind)), .d (.v (.int .i64 v_s1.fMode)), .d (.v (.int .i64 v_n4)), .d (.v (.int .i64 v_m5)), .d (.v (.int .i64 v_s1.fSize)), .d (.v (.int .i64 v_s1.fLinks))]]⟩
def G_ringlaw5_ModeSays_C5 (n : Nat) (v_n4 : Int) (v_m5 : Int) (v_r138 : (S_api_Stat × Int)) (v_r164 : (S_api_Stat × Int)) (v_c2 : S_api_Cred) (v_z220 : Bool) (v_s1 : S_api_Stat) : Option G_ringlaw5_ModeSays_C5_R :=
  if v_z220 = true then
   some (.x0 1)
  else
   (G_ringlaw5_ModeSays_C4 n v_n4 v_m5 v_r138 v_r164 v_c2 v_s1).bind fun v_o244 => match v_o244 with
   | .x0 v_z245 =>
     if v_z245 = true then
      some (.x0 7)
     else
      some (.x0 0)
theorem G_ringlaw5_ModeSays_C5_ok {Fi : Ex → PS → Prop} (hF : KC 198 Fi) (ks : List Fr) (n : Nat) (v_n4 : Int) (v_m5 : Int) (v_r138 : (S_api_Stat × Int)) (v_r164 : (S_api_Stat × Int)) (v_c2 : S_api_Cred) (v_z220 : Bool) (v_s1 : S_api_Stat)  (o : G_ringlaw5_ModeSays_C5_R) (h : G_ringlaw5_ModeSays_C5 n v_n4 v_m5 v_r138 v_r164 v_c2 v_z220 v_s1 = some o) (q : RunE Try.prog 198 Fi ks (G_ringlaw5_ModeSays_C5_ex o) (G_ringlaw5_ModeSays_C5_st v_n4 v_m5 v_r138 v_r164 v_c2 v_z220 v_s1 o)) : RunE Try.prog 198 Fi (.s (cR (cL (cR (cR (cR (cR (cR (cR (cR (cR (cR (cR (cR (cR (cR (cR (cR (bodyOf Try.f4)))))))))))))))))) :: ks) .normal (G_ringlaw5_ModeSays_C5_hd v_n4 v_m5 v_r138 v_r164 v_c2 v_z220 v_s1) := by
  unfold G_ringlaw5_ModeSays_C5 at h
  by_cases h293 : v_z220 = true
  · rw [if_pos h293] at h
    cases h
    exact pkk_sound TTok mix hF 2 (hs := [.t true]) (ts := []) (s := [2, 3, 4, 5]) (l := [13, 14, 15, 16, 18, 19, 21, 22]) (by kernel_rfl) (by kernel_rfl) (.cons h293 .nil) q
  · rw [if_neg h293] at h
    obtain ⟨v_o244, h306, h⟩ := bind_some h
    refine pkk_sound TTok mix hF 2 (hs := [.t false]) (ts := []) (s := [0, 1, 2, 3, 4, 5]) (l := [3, 4, 5, 6, 13, 14, 15, 16, 18, 19, 20, 21, 22]) (by kernel_rfl) (by kernel_rfl) (.cons (vf h293) .nil) (G_ringlaw5_ModeSays_C4_ok hF (.s (cR (cF (cR (cL (cR (cR (cR (cR (cR (cR (cR (cR (cR (cR (cR (cR (cR (cR (cR (bodyOf Try.f4)))))))))))))))))))) :: ks) n v_n4 v_m5 v_r138 v_r164 v_c2 v_s1 _ h306 ?_)
    cases v_o244 with
    | x0 v_z245 =>
      dsimp only at h
      by_cases h307 : v_z245 = true
      · rw [if_pos h307] at h
        cases h
        exact pkk_sound TTok mix hF 2 (hs := [.t true]) (ts := []) (s := [0, 1, 2, 3]) (l := [13, 14, 15, 16, 18, 19, 21, 22]) (by kernel_rfl) (by kernel_rfl) (.cons h307 .nil) q
      · rw [if_neg h307] at h
        cases h
        exact pkk_sound TTok mix hF 2 (hs := [.t false]) (ts := []) (s := [0, 1, 2, 3]) (l := [13, 14, 15, 16, 18, 19, 21, 22]) (by kernel_rfl) (by kernel_rfl) (.cons (vf h307) .nil) q
inductive G_ringlaw5_ModeSays_C6_R where
  | x0 (v_x250 : Bool)
def G_ringlaw5_ModeSays_C6_ex : G_ringlaw5_ModeSays_C6_R → Ex
  | .x0 _ => .normal
def G_ringlaw5_ModeSays_C6_st (v_r138 : (S_api_Stat × Int)) (v_r164 : (S_api_Stat × Int)) (v_z249 : Int) : G_ringlaw5_ModeSays_C6_R → PS
  | .x0 v_x250 => ⟨[dd, dd, dd, dd, dd, dd, dd, dd, dd, dd, .d (.v (.bool v_x250)), dd, dd, dd, dd, dd, dd, dd, dd, dd, dd, dd, dd, dd, dd, dd, dd, dd, dd, dd, dd, dd, dd, dd, dd, dd, dd, dd, dd, dd, dd, dd, dd, dd, dd, dd, dd, dd, dd, dd, dd, dd, dd, dd, dd, dd, dd, dd, dd, dd, dd, dd, dd, dd, dd, dd, dd, dd, dd, dd, dd, dd, dd, dd, dd, dd, dd, dd, dd, dd, dd, dd, dd, dd, dd, dd, dd, dd, dd, dd, dd, dd, dd, dd, dd, dd, dd, dd, dd, dd, dd, dd, dd, dd, dd, dd, dd, dd, dd, dd, dd, dd, dd, dd, dd, dd, dd, dd, dd, dd, dd, dd, dd, dd, dd, dd, dd, dd, dd, dd, dd, dd, dd, dd, dd, dd, dd, dd, dd, dd, dd, dd, dd, dd, dd, dd, dd, dd, dd, dd, dd, dd, dd, dd, dd, dd, dd, dd, dd, dd, dd, dd, dd, dd, dd, dd, dd, dd, dd, dd, dd, dd, dd, dd, dd, dd, dd, dd, dd, dd, dd, dd, dd, dd, dd, dd, dd, dd, dd, dd, dd, dd, dd, dd, dd, dd, dd, dd], []⟩
def G_ringlaw5_ModeSays_C6_hd (v_r138 : (S_api_Stat × Int)) (v_r164 : (S_api_Stat × Int)) (v_z249 : Int)  : PS := ⟨[dd, dd, dd, dd, dd, dd, dd, dd, dd, dd, dd, dd, dd, .ref 0 0, .d (.v (.int .i64 v_r138.2)), .ref 1 0, .d (.v (.int .i64 v_r164.2)), dd, .ref 2 0, .ref 3 0, dd, .d (.v (.int .i64 1)), .d (.v (.int .i64 v_z249)), dd, dd, dd, dd, dd, dd, dd, dd, dd, dd, dd, dd, dd, dd, dd, dd, dd, dd, dd, dd, dd, dd, dd, dd, dd, dd, dd, dd, dd, dd, dd, dd, dd, dd, dd, dd, dd, dd, dd, dd, dd, dd, dd, dd, dd, dd, dd, dd, dd, dd, dd, dd, dd, dd, dd, dd, dd, dd, dd, dd, dd, dd, dd, dd, dd, dd, dd, dd, dd, dd, dd, dd, dd, dd, dd, dd, dd, dd, dd, dd, dd, dd, dd, dd, dd, dd, dd, dd, dd, dd, dd, dd, dd, dd, dd, dd, dd, dd, dd, dd, dd, dd, dd, dd, dd, dd, dd, dd, dd, dd, dd, dd, dd, dd, dd, dd, dd, dd, dd, dd, dd, dd, dd, dd, dd, dd, dd, dd, dd, dd, dd, dd, dd, dd, dd, dd, dd, dd, dd, dd, dd, dd, dd, dd, dd, dd, dd, dd, dd, dd, dd, dd, dd, dd, dd, dd, dd, dd, dd, dd, dd, dd, dd, dd, dd, dd, dd, dd, dd, dd, dd, dd, dd, dd, dd], [.box [.d (.v (.int .i64 v_r138.1.fKind)), .d (.v (.int .i64 v_r138.1.fMode)), .d (.v (.int .i64 v_r138.1.fUser)), .d (.v (.int .i64 v_r138.1.fGroup)), .d (.v (.int .i64 v_r138.1.fSize)), .d (.v (.int .i64 v_r138.1.fLinks))], .box [.d (.v (.int .i64 v_r164.1.fKind)), .d (.v (.int .i64 v_r164.1.fMode)), .d (.v (.int .i64 v_r164.1.fUser)), .d (.v (.int .i64 v_r164.1.fGroup)), .d (.v (.int .i64 v_r164.1.fSize)), .d (.v (.int .i64 v_r164.1.fLinks))], .box [.d (.v (.int .i64 0)), .d (.v (.int .i64 0)), .d (.v (.int .i64 0)), .d (.v (.int .i64 0)), .d (.v (.int .i64 0)), .d (.v (.int .i64 0))], .box [.d (.v (.int .i64 0)), .d (.v (.int .i64 0)), .d (.v (.int .i64 0)), .d (.v (.int .i64 0)), .d (.v (.int .i64 0)), .d (.v (.int .i64 0))]]⟩
def G_ringlaw5_ModeSays_C6 (n : Nat) (v_r138 : (S_api_Stat × Int)) (v_r164 : (S_api_Stat × Int)) (v_z249 : Int) : Option G_ringlaw5_ModeSays_C6_R :=
  if v_r138.2 = 1 then
   if (eqRes .eql (eqS_api_Stat v_r138.1 (S_api_Stat.mk 0 0 0 0 0 0))) = true then
    if v_r164.2 = v_z249 then
     some (.x0 (eqRes .eql (eqS_api_Stat v_r164.1 (S_api_Stat.mk 0 0 0 0 0 0))))
    else
     some (.x0 false)
   else
    some (.x0 false)
  else
   some (.x0 false)
theorem G_ringlaw5_ModeSays_C6_ok {Fi : Ex → PS → Prop} (hF : KC 198 Fi) (ks : List Fr) (n : Nat) (v_r138 : (S_api_Stat × Int)) (v_r164 : (S_api_Stat × Int)) (v_z249 : Int)  (o : G_ringlaw5_ModeSays_C6_R) (h : G_ringlaw5_ModeSays_C6 n v_r138 v_r164 v_z249 = some o) (q : RunE Try.prog 198 Fi ks (G_ringlaw5_ModeSays_C6_ex o) (G_ringlaw5_ModeSays_C6_st v_r138 v_r164 v_z249 o)) : RunE Try.prog 198 Fi (.s (cL (cR (cR (cR (cR (cR (cR (cR (cR (cR (cR (cR (cR (cR (cR (cR (cR (cR (cR (bodyOf Try.f4)))))))))))))))))))) :: ks) .normal (G_ringlaw5_ModeSays_C6_hd v_r138 v_r164 v_z249) := by
  unfold G_ringlaw5_ModeSays_C6 at h
  by_cases h313 : v_r138.2 = 1
  · rw [if_pos h313] at h
    by_cases h314 : (eqRes .eql (eqS_api_Stat v_r138.1 (S_api_Stat.mk 0 0 0 0 0 0))) = true
    · rw [if_pos h314] at h
      by_cases h315 : v_r164.2 = v_z249
      · rw [if_pos h315] at h
        cases h
        exact pkk_sound TTok mix hF 1 (hs := [.t true, .c, .c, .c, .c, .q (eqS_api_Stat v_r138.1 (S_api_Stat.mk 0 0 0 0 0 0)), .t true, .c, .c, .t true, .c, .c, .c, .c, .q (eqS_api_Stat v_r164.1 (S_api_Stat.mk 0 0 0 0 0 0))]) (ts := []) (s := []) (l := [10]) (by kernel_rfl) (by kernel_rfl) (.cons (bt h313) (.cons (eqS_api_Stat_ok v_r138.1 (S_api_Stat.mk 0 0 0 0 0 0)) (.cons h314 (.cons (bt h315) (.cons (eqS_api_Stat_ok v_r164.1 (S_api_Stat.mk 0 0 0 0 0 0)) .nil))))) q
      · rw [if_neg h315] at h
        cases h
        exact pkk_sound TTok mix hF 1 (hs := [.t true, .c, .c, .c, .c, .q (eqS_api_Stat v_r138.1 (S_api_Stat.mk 0 0 0 0 0 0)), .t true, .c, .c, .t false, .c, .c]) (ts := []) (s := []) (l := [10]) (by kernel_rfl) (by kernel_rfl) (.cons (bt h313) (.cons (eqS_api_Stat_ok v_r138.1 (S_api_Stat.mk 0 0 0 0 0 0)) (.cons h314 (.cons (bf h315) .nil)))) q
    · rw [if_neg h314] at h
      cases h
      exact pkk_sound TTok mix hF 1 (hs := [.t true, .c, .c, .c, .c, .q (eqS_api_Stat v_r138.1 (S_api_Stat.mk 0 0 0 0 0 0)), .t false, .c, .c, .c, .c, .c]) (ts := []) (s := []) (l := [10]) (by kernel_rfl) (by kernel_rfl) (.cons (bt h313) (.cons (eqS_api_Stat_ok v_r138.1 (S_api_Stat.mk 0 0 0 0 0 0)) (.cons (vf h314) .nil))) q
  · rw [if_neg h313] at h
    cases h
    exact pkk_sound TTok mix hF 1 (hs := [.t false, .c, .c, .c, .c, .c, .c, .c, .c]) (ts := []) (s := []) (l := [10]) (by kernel_rfl) (by kernel_rfl) (.cons (bf h313) .nil) q
inductive G_ringlaw5_ModeSays_C7_R where
  | x0 (v_x256 : Bool)
def G_ringlaw5_ModeSays_C7_ex : G_ringlaw5_ModeSays_C7_R → Ex
  | .x0 _ => .normal
def G_ringlaw5_ModeSays_C7_st (v_r138 : (S_api_Stat × Int)) (v_r164 : (S_api_Stat × Int)) (v_z249 : Int) (v_s1 : S_api_Stat) (v_n4 : Int) (v_m5 : Int) : G_ringlaw5_ModeSays_C7_R → PS
  | .x0 v_x256 => ⟨[dd, dd, dd, dd, dd, dd, dd, dd, dd, dd, .d (.v (.bool v_x256)), dd, dd, dd, dd, dd, dd, dd, dd, dd, dd, dd, dd, dd, dd, dd, dd, dd, dd, dd, dd, dd, dd, dd, dd, dd, dd, dd, dd, dd, dd, dd, dd, dd, dd, dd, dd, dd, dd, dd, dd, dd, dd, dd, dd, dd, dd, dd, dd, dd, dd, dd, dd, dd, dd, dd, dd, dd, dd, dd, dd, dd, dd, dd, dd, dd, dd, dd, dd, dd, dd, dd, dd, dd, dd, dd, dd, dd, dd, dd, dd, dd, dd, dd, dd, dd, dd, dd, dd, dd, dd, dd, dd, dd, dd, dd, dd, dd, dd, dd, dd, dd, dd, dd, dd, dd, dd, dd, dd, dd, dd, dd, dd, dd, dd, dd, dd, dd, dd, dd, dd, dd, dd, dd, dd, dd, dd, dd, dd, dd, dd, dd, dd, dd, dd, dd, dd, dd, dd, dd, dd, dd, dd, dd, dd, dd, dd, dd, dd, dd, dd, dd, dd, dd, dd, dd, dd, dd, dd, dd, dd, dd, dd, dd, dd, dd, dd, dd, dd, dd, dd, dd, dd, dd, dd, dd, dd, dd, dd, dd, dd, dd, dd, dd, dd, dd, dd, dd], []⟩
def G_ringlaw5_ModeSays_C7_hd (v_r138 : (S_api_Stat × Int)) (v_r164 : (S_api_Stat × Int)) (v_z249 : Int) (v_s1 : S_api_Stat) (v_n4 : Int) (v_m5 : Int)  : PS := ⟨[dd, dd, dd, dd, dd, dd, dd, dd, dd, dd, dd, dd, dd, .ref 0 0, .d (.v (.int .i64 v_r138.2)), .ref 1 0, .d (.v (.int .i64 v_r164.2)), dd, .ref 2 0, .ref 3 0, dd, .d (.v (.int .i64 1)), .d (.v (.int .i64 v_z249)), dd, dd, dd, dd, dd, dd, dd, dd, dd, dd, dd, dd, dd, dd, dd, dd, dd, dd, dd, dd, dd, dd, dd, dd, dd, dd, dd, dd, dd, dd, dd, dd, dd, dd, dd, dd, dd, dd, dd, dd, dd, dd, dd, dd, dd, dd, dd, dd, dd, dd, dd, dd, dd, dd, dd, dd, dd, dd, dd, dd, dd, dd, dd, dd, dd, dd, dd, dd, dd, dd, dd, dd, dd, dd, dd, dd, dd, dd, dd, dd, dd, dd, dd, dd, dd, dd, dd, dd, dd, dd, dd, dd, dd, dd, dd, dd, dd, dd, dd, dd, dd, dd, dd, dd, dd, dd, dd, dd, dd, dd, dd, dd, dd, dd, dd, dd, dd, dd, dd, dd, dd, dd, dd, dd, dd, dd, dd, dd, dd, dd, dd, dd, dd, dd, dd, dd, dd, dd, dd, dd, dd, dd, dd, dd, dd, dd, dd, dd, dd, dd, dd, dd, dd, dd, dd, dd, dd, dd, dd, dd, dd, dd, dd, dd, dd, dd, dd, dd, dd, dd, dd, dd, dd, dd, dd], [.box [.d (.v (.int .i64 v_r138.1.fKind)), .d (.v (.int .i64 v_r138.1.fMode)), .d (.v (.int .i64 v_r138.1.fUser)), .d (.v (.int .i64 v_r138.1.fGroup)), .d (.v (.int .i64 v_r138.1.fSize)), .d (.v (.int .i64 v_r138.1.fLinks))], .box [.d (.v (.int .i64 v_r164.1.fKind)), .d (.v (.int .i64 v_r164.1.fMode)), .d (.v (.int .i64 v_r164.1.fUser)), .d (.v (.int .i64 v_r164.1.fGroup)), .d (.v (.int .i64 v_r164.1.fSize)), .d (.v (.int .i64 v_r164.1.fLinks))], .box [.d (.v (.int .i64 0)), .d (.v (.int .i64 0)), .d (.v (.int .i64 0)), .d (.v (.int .i64 0)), .d (.v (.int .i64 0)), .d (.v (.int .i64 0))], .box [.d (.v (.int .i64 v_s1.fKind)), .d (.v (.int .i64 v_s1.fMode)), .d (.v (.int .i64 v_n4)), .d (.v (.int .i64 v_m5)), .d (.v (.int .i64 v_s1.fSize)), .d (.v (.int .i64 v_s1.fLinks))]]⟩
def G_ringlaw5_ModeSays_C7 (n : Nat) (v_r138 : (S_api_Stat × Int)) (v_r164 : (S_api_Stat × Int)) (v_z249 : Int) (v_s1 : S_api_Stat) (v_n4 : Int) (v_m5 : Int) : Option G_ringlaw5_ModeSays_C7_R :=
  if v_r138.2 = 1 then
   if (eqRes .eql (eqS_api_Stat v_r138.1 (S_api_Stat.mk 0 0 0 0 0 0))) = true then
    if v_r164.2 = v_z249 then
     some (.x0 (eqRes .eql (eqS_api_Stat v_r164.1 (S_api_Stat.mk v_s1.fKind v_s1.fMode v_n4 v_m5 v_s1.fSize v_s1.fLinks))))
    else
     some (.x0 false)
   else
    some (.x0 false)
  else
   some (.x0 false)
theorem G_ringlaw5_ModeSays_C7_ok {Fi : Ex → PS → Prop} (hF : KC 198 Fi) (ks : List Fr) (n : Nat) (v_r138 : (S_api_Stat × Int)) (v_r164 : (S_api_Stat × Int)) (v_z249 : Int) (v_s1 : S_api_Stat) (v_n4 : Int) (v_m5 : Int)  (o : G_ringlaw5_ModeSays_C7_R) (h : G_ringlaw5_ModeSays_C7 n v_r138 v_r164 v_z249 v_s1 v_n4 v_m5 = some o) (q : RunE Try.prog 198 Fi ks (G_ringlaw5_ModeSays_C7_ex o) (G_ringlaw5_ModeSays_C7_st v_r138 v_r164 v_z249 v_s1 v_n4 v_m5 o)) : RunE Try.prog 198 Fi (.s (cL (cR (cR (cR (cR (cR (cR (cR (cR (cR (cR (cR (cR (cR (cR (cR (cR (cR (cR (bodyOf Try.f4)))))))))))))))))))) :: ks) .normal (G_ringlaw5_ModeSays_C7_hd v_r138 v_r164 v_z249 v_s1 v_n4 v_m5) := by
  unfold G_ringlaw5_ModeSays_C7 at h
  by_cases h320 : v_r138.2 = 1
  · rw [if_pos h320] at h
    by_cases h321 : (eqRes .eql (eqS_api_Stat v_r138.1 (S_api_Stat.mk 0 0 0 0 0 0))) = true
    · rw [if_pos h321] at h
      by_cases h322 : v_r164.2 = v_z249
      · rw [if_pos h322] at h
        cases h
        exact pkk_sound TTok mix hF 1 (hs := [.t true, .c, .c, .c, .c, .q (eqS_api_Stat v_r138.1 (S_api_Stat.mk 0 0 0 0 0 0)), .t true, .c, .c, .t true, .c, .c, .c, .c, .q (eqS_api_Stat v_r164.1 (S_api_Stat.mk v_s1.fKind v_s1.fMode v_n4 v_m5 v_s1.fSize v_s1.fLinks))]) (ts := []) (s := []) (l := [10]) (by kernel_rfl) (by kernel_rfl) (.cons (bt h320) (.cons (eqS_api_Stat_ok v_r138.1 (S_api_Stat.mk 0 0 0 0 0 0)) (.cons h321 (.cons (bt h322) (.cons (eqS_api_Stat_ok v_r164.1 (S_api_Stat.mk v_s1.fKind v_s1.fMode v_n4 v_m5 v_s1.fSize v_s1.fLinks)) .nil))))) q
      · rw [if_neg h322] at h
        cases h
        exact pkk_sound TTok mix hF 1 (hs := [.t true, .c, .c, .c, .c, .q (eqS_api_Stat v_r138.1 (S_api_Stat.mk 0 0 0 0 0 0)), .t true, .c, .c, .t false, .c, .c]) (ts := []) (s := []) (l := [10]) (by kernel_rfl) (by kernel_rfl) (.cons (bt h320) (.cons (eqS_api_Stat_ok v_r138.1 (S_api_Stat.mk 0 0 0 0 0 0)) (.cons h321 (.cons (bf h322) .nil)))) q
    · rw [if_neg h321] at h
      cases h
      exact pkk_sound TTok mix hF 1 (hs := [.t true, .c, .c, .c, .c, .q (eqS_api_Stat v_r138.1 (S_api_Stat.mk 0 0 0 0 0 0)), .t false, .c, .c, .c, .c, .c]) (ts := []) (s := []) (l := [10]) (by kernel_rfl) (by kernel_rfl) (.cons (bt h320) (.cons (eqS_api_Stat_ok v_r138.1 (S_api_Stat.mk 0 0 0 0 0 0)) (.cons (vf h321) .nil))) q
  · rw [if_neg h320] at h
    cases h
    exact pkk_sound TTok mix hF 1 (hs := [.t false, .c, .c, .c, .c, .c, .c, .c, .c]) (ts := []) (s := []) (l := [10]) (by kernel_rfl) (by kernel_rfl) (.cons (bf h320) .nil) q
inductive G_ringlaw5_ModeSays_C8_R where
  | x0 (v_wantS262 : Int)
def G_ringlaw5_ModeSays_C8_ex : G_ringlaw5_ModeSays_C8_R → Ex
  | .x0 _ => .normal
def G_ringlaw5_ModeSays_C8_st (v_n4 : Int) (v_m5 : Int) (v_r138 : (S_api_Stat × Int)) (v_r164 : (S_api_Stat × Int)) (v_c2 : S_api_Cred) (v_s1 : S_api_Stat) : G_ringlaw5_ModeSays_C8_R → PS
  | .x0 v_wantS262 => ⟨[dd, dd, dd, .d (.v (.int .i64 v_n4)), .d (.v (.int .i64 v_m5)), .ref 0 0, .ref 1 0, dd, dd, dd, dd, dd, dd, .ref 2 0, .d (.v (.int .i64 v_r138.2)), .ref 3 0, .d (.v (.int .i64 v_r164.2)), dd, .ref 4 0, .ref 5 0, .d (.v (.bool ((remI (quoI .i64 v_c2.fCaps 4) 2) == 1))), .d (.v (.int .i64 v_wantS262)), .d (.v (.int .i64 0)), dd, dd, dd, dd, dd, dd, dd, dd, dd, dd, dd, dd, dd, dd, dd, dd, dd, dd, dd, dd, dd, dd, dd, dd, dd, dd, dd, dd, dd, dd, dd, dd, dd, dd, dd, dd, dd, dd, dd, dd, dd, dd, dd, dd, dd, dd, dd, dd, dd, dd, dd, dd, dd, dd, dd, dd, dd, dd, dd, dd, dd, dd, dd, dd, dd, dd, dd, dd, dd, dd, dd, dd, dd, dd, dd, dd, dd, dd, dd, dd, dd, dd, dd, dd, dd, dd, dd, dd, dd, dd, dd, dd, dd, dd, dd, dd, dd, dd, dd, dd, dd, dd, dd, dd, dd, dd, dd, dd, dd, dd, dd, dd, dd, dd, dd, dd, dd, dd, dd, dd, dd, dd, dd, dd, dd, dd, dd, dd, dd, dd, dd, dd, dd, dd, dd, dd, dd, dd, dd, dd, dd, dd, dd, dd, dd, dd, dd, dd, dd, dd, dd, dd, dd, dd, dd, dd, dd, dd, dd, dd, dd, dd, dd, dd, dd, dd, dd, dd, dd, dd, dd, dd, dd, dd, dd], [.box [.d (.v (.int .i64 v_s1.fKind)), .d (.v (.int .i64 v_s1.fMode)), .d (.v (.int .i64 v_s1.fUser)), .d (.v (.int .i64 v_s1.fGroup)), .d (.v (.int .i64 v_s1.fSize)), .d (.v (.int .i64 v_s1.fLinks))], .box [.d (.v (.int .i64 v_c2.fUser)), .d (.v (.int .i64 v_c2.fGroup)), .d (.sl (v_c2.fMore.map (eI .i64))), .d (.v (.int .i64 v_c2.fCaps)), .d (.v (.int .i64 v_c2.fLevel)), .d (.v (.int .i64 v_c2.fKind))], .box [.d (.v (.int .i64 v_r138.1.fKind)), .d (.v (.int .i64 v_r138.1.fMode)), .d (.v (.int .i64 v_r138.1.fUser)), .d (.v (.int .i64 v_r138.1.fGroup)), .d (.v (.int .i64 v_r138.1.fSize)), .d (.v (.int .i64 v_r138.1.fLinks))], .box [.d (.v (.int .i64 v_r164.1.fKind)), .d (.v (.int .i64 v_r164.1.fMode)), .d (.v (.int .i64 v_r164.1.fUser)), .d (.v (.int .i64 v_r164.1.fGroup)), .d (.v (.int .i64 v_r164.1.fSize)), .d (.v (.int .i64 v_r164.1.fLinks))], .box [.d (.v (.int .i64 v_s1.fKind)), .d (.v (.int .i64 v_n4)), .d (.v (.int .i64 v_s1.fUser)), .d (.v (.int .i64 v_s1.fGroup)), .d (.v (.int .i64 v_s1.fSize)), .d (.v (.int .i64 v_s1.fLinks))], .box [.d (.v (.int .i64 v_s1.fKind)), .d (.v (.int .i64 v_s1.fMode)), .d (.v (.int .i64 v_n4)), .d (.v (.int .i64 v_m5)), .d (.v (.int .i64 v_s1.fSize)), .d (.v (.int .i64 v_s1.fLinks))]]⟩
def G_ringlaw5_ModeSays_C8_hd (v_n4 : Int) (v_m5 : Int) (v_r138 : (S_api_Stat × Int)) (v_r164 : (S_api_Stat × Int)) (v_c2 : S_api_Cred) (v_s1 : S_api_Stat)  : PS := ⟨[dd, dd, dd, .d (.v (.int .i64 v_n4)), .d (.v (.int .i64 v_m5)), .ref 0 0, .ref 1 0, dd, dd, dd, dd, dd, dd, .ref 2 0, .d (.v (.int .i64 v_r138.2)), .ref 3 0, .d (.v (.int .i64 v_r164.2)), dd, .ref 4 0, .ref 5 0, .d (.v (.bool ((remI (quoI .i64 v_c2.fCaps 4) 2) == 1))), .d (.v (.int .i64 0)), .d (.v (.int .i64 0)), dd, dd, dd, dd, dd, dd, dd, dd, dd, dd, dd, dd, dd, dd, dd, dd, dd, dd, dd, dd, dd, dd, dd, dd, dd, dd, dd, dd, dd, dd, dd, dd, dd, dd, dd, dd, dd, dd, dd, dd, dd, dd, dd, dd, dd, dd, dd, dd, dd, dd, dd, dd, dd, dd, dd, dd, dd, dd, dd, dd, dd, dd, dd, dd, dd, dd, dd, dd, dd, dd, dd, dd, dd, dd, dd, dd, dd, dd, dd, dd, dd, dd, dd, dd, dd, dd, dd, dd, dd, dd, dd, dd, dd, dd, dd, dd, dd, dd, dd, dd, dd, dd, dd, .d (.v (.bool (decide (v_n4 > 511)))), dd, dd, dd, dd, dd, dd, dd, dd, dd, dd, dd, dd, dd, dd, dd, dd, dd, dd, dd, dd, dd, dd, dd, dd, dd, dd, dd, dd, dd, dd, dd, dd, dd, dd, dd, dd, dd, dd, dd, dd, dd, dd, dd, dd, dd, dd, dd, dd, dd, dd, dd, dd, dd, dd, dd, dd, dd, dd, dd, dd, dd, dd, dd, dd, dd, dd, dd, dd, dd, dd, dd], [.box [.d (.v (.int .i64 v_s1.fKind)), .d (.v (.int .i64 v_s1.fMode)), .d (.v (.int .i64 v_s1.fUser)), .d (.v (.int .i64 v_s1.fGroup)), .d (.v (.int .i64 v_s1.fSize)), .d (.v (.int .i64 v_s1.fLinks))], .box [.d (.v (.int .i64 v_c2.fUser)), .d (.v (.int .i64 v_c2.fGroup)), .d (.sl (v_c2.fMore.map (eI .i64))), .d (.v (.int .i64 v_c2.fCaps)), .d (.v (.int .i64 v_c2.fLevel)), .d (.v (.int .i64 v_c2.fKind))], .box [.d (.v (.int .i64 v_r138.1.fKind)), .d (.v (.int .i64 v_r138.1.fMode)), .d (.v (.int .i64 v_r138.1.fUser)), .d (.v (.int .i64 v_r138.1.fGroup)), .d (.v (.int .i64 v_r138.1.fSize)), .d (.v (.int .i64 v_r138.1.fLinks))], .box [.d (.v (.int .i64 v_r164.1.fKind)), .d (.v (.int .i64 v_r164.1.fMode)), .d (.v (.int .i64 v_r164.1.fUser)), .d (.v (.int .i64 v_r164.1.fGroup)), .d (.v (.int .i64 v_r164.1.fSize)), .d (.v (.int .i64 v_r164.1.fLinks))], .box [.d (.v (.int .i64 v_s1.fKind)), .d (.v (.int .i64 v_n4)), .d (.v (.int .i64 v_s1.fUser)), .d (.v (.int .i64 v_s1.fGroup)), .d (.v (.int .i64 v_s1.fSize)), .d (.v (.int .i64 v_s1.fLinks))], .box [.d (.v (.int .i64 v_s1.fKind)), .d (.v (.int .i64 v_s1.fMode)), .d (.v (.int .i64 v_n4)), .d (.v (.int .i64 v_m5)), .d (.v (.int .i64 v_s1.fSize)), .d (.v (.int .i64 v_s1.fLinks))]]⟩
def G_ringlaw5_ModeSays_C8 (n : Nat) (v_n4 : Int) (v_m5 : Int) (v_r138 : (S_api_Stat × Int)) (v_r164 : (S_api_Stat × Int)) (v_c2 : S_api_Cred) (v_s1 : S_api_Stat) : Option G_ringlaw5_ModeSays_C8_R :=
  if v_n4 > 511 then
   some (.x0 1)
  else
   if (remI (quoI .i64 v_c2.fCaps 4) 2) = 1 then
    some (.x0 0)
   else
    if v_c2.fUser = v_s1.fUser then
     some (.x0 0)
    else
     some (.x0 7)
theorem G_ringlaw5_ModeSays_C8_ok {Fi : Ex → PS → Prop} (hF : KC 198 Fi) (ks : List Fr) (n : Nat) (v_n4 : Int) (v_m5 : Int) (v_r138 : (S_api_Stat × Int)) (v_r164 : (S_api_Stat × Int)) (v_c2 : S_api_Cred) (v_s1 : S_api_Stat)  (o : G_ringlaw5_ModeSays_C8_R) (h : G_ringlaw5_ModeSays_C8 n v_n4 v_m5 v_r138 v_r164 v_c2 v_s1 = some o) (q : RunE Try.prog 198 Fi ks (G_ringlaw5_ModeSays_C8_ex o) (G_ringlaw5_ModeSays_C8_st v_n4 v_m5 v_r138 v_r164 v_c2 v_s1 o)) : RunE Try.prog 198 Fi (.s (cR (cL (cR (cR (cR (cR (cR (cR (cR (cR (cR (cR (cR (cR (cR (cR (bodyOf Try.f4))))))))))))))))) :: ks) .normal (G_ringlaw5_ModeSays_C8_hd v_n4 v_m5 v_r138 v_r164 v_c2 v_s1) := by
  unfold G_ringlaw5_ModeSays_C8 at h
  by_cases h328 : v_n4 > 511
  · rw [if_pos h328] at h
    cases h
    exact pkk_sound TTok mix hF 2 (hs := [.t true]) (ts := []) (s := [0, 1, 2, 3, 4, 5]) (l := [3, 4, 5, 6, 13, 14, 15, 16, 18, 19, 20, 21, 22]) (by kernel_rfl) (by kernel_rfl) (.cons (dt h328) .nil) q
  · rw [if_neg h328] at h
    by_cases h330 : (remI (quoI .i64 v_c2.fCaps 4) 2) = 1
    · rw [if_pos h330] at h
      cases h
      exact pkk_sound TTok mix hF 5 (hs := [.t false, .t false, .c, .c, .c, .c, .c]) (ts := []) (s := [0, 1, 2, 3, 4, 5]) (l := [3, 4, 5, 6, 13, 14, 15, 16, 18, 19, 20, 21, 22]) (by kernel_rfl) (by kernel_rfl) (.cons (df h328) (.cons (bnf (bt h330)) .nil)) q
    · rw [if_neg h330] at h
      by_cases h331 : v_c2.fUser = v_s1.fUser
      · rw [if_pos h331] at h
        cases h
        exact pkk_sound TTok mix hF 5 (hs := [.t false, .t true, .c, .c, .c, .c, .c, .c, .t false]) (ts := []) (s := [0, 1, 2, 3, 4, 5]) (l := [3, 4, 5, 6, 13, 14, 15, 16, 18, 19, 20, 21, 22]) (by kernel_rfl) (by kernel_rfl) (.cons (df h328) (.cons (bnt (bf h330)) (.cons (nf h331) .nil))) q
      · rw [if_neg h331] at h
        cases h
        exact pkk_sound TTok mix hF 5 (hs := [.t false, .t true, .c, .c, .c, .c, .c, .c, .t true]) (ts := []) (s := [0, 1, 2, 3, 4, 5]) (l := [3, 4, 5, 6, 13, 14, 15, 16, 18, 19, 20, 21, 22]) (by kernel_rfl) (by kernel_rfl) (.cons (df h328) (.cons (bnt (bf h330)) (.cons (nt h331) .nil))) q
inductive G_ringlaw5_ModeSays_C9_R where
  | x0 (v_x268 : Bool)
def G_ringlaw5_ModeSays_C9_ex : G_ringlaw5_ModeSays_C9_R → Ex
  | .x0 _ => .normal
def G_ringlaw5_ModeSays_C9_st (v_n4 : Int) (v_m5 : Int) (v_r138 : (S_api_Stat × Int)) (v_r164 : (S_api_Stat × Int)) (v_c2 : S_api_Cred) (v_z267 : Int) (v_s1 : S_api_Stat) : G_ringlaw5_ModeSays_C9_R → PS
  | .x0 v_x268 => ⟨[dd, dd, dd, .d (.v (.int .i64 v_n4)), .d (.v (.int .i64 v_m5)), .ref 0 0, .ref 1 0, dd, dd, dd, dd, dd, dd, .ref 2 0, .d (.v (.int .i64 v_r138.2)), .ref 3 0, .d (.v (.int .i64 v_r164.2)), dd, .ref 4 0, .ref 5 0, .d (.v (.bool ((remI (quoI .i64 v_c2.fCaps 4) 2) == 1))), .d (.v (.int .i64 v_z267)), .d (.v (.int .i64 0)), dd, dd, dd, dd, dd, dd, dd, dd, dd, dd, dd, dd, dd, dd, dd, dd, dd, dd, dd, dd, dd, dd, dd, dd, dd, dd, dd, dd, dd, dd, dd, dd, dd, dd, dd, dd, dd, dd, dd, dd, dd, dd, dd, dd, dd, dd, dd, dd, dd, dd, dd, dd, dd, dd, dd, dd, dd, dd, dd, dd, dd, dd, dd, dd, dd, dd, dd, dd, dd, dd, dd, dd, dd, dd, dd, dd, dd, dd, dd, dd, dd, dd, dd, dd, dd, dd, dd, dd, dd, dd, dd, dd, dd, dd, dd, dd, dd, dd, dd, dd, dd, dd, dd, dd, dd, dd, dd, dd, dd, dd, dd, dd, dd, dd, dd, dd, dd, dd, dd, dd, dd, dd, .d (.v (.bool v_x268)), dd, dd, dd, dd, dd, dd, dd, dd, dd, dd, dd, dd, dd, dd, dd, dd, dd, dd, dd, dd, dd, dd, dd, dd, dd, dd, dd, dd, dd, dd, dd, dd, dd, dd, dd, dd, dd, dd, dd, dd, dd, dd, dd, dd, dd, dd, dd, dd, dd, dd, dd, dd], [.box [.d (.v (.int .i64 v_s1.fKind)), .d (.v (.int .i64 v_s1.fMode)), .d (.v (.int .i64 v_s1.fUser)), .d (.v (.int .i64 v_s1.fGroup)), .d (.v (.int .i64 v_s1.fSize)), .d (.v (.int .i64 v_s1.fLinks))], .box [.d (.v (.int .i64 v_c2.fUser)), .d (.v (.int .i64 v_c2.fGroup)), .d (.sl (v_c2.fMore.map (eI .i64))), .d (.v (.int .i64 v_c2.fCaps)), .d (.v (.int .i64 v_c2.fLevel)), .d (.v (.int .i64 v_c2.fKind))], .box [.d (.v (.int .i64 v_r138.1.fKind)), .d (.v (.int .i64 v_r138.1.fMode)), .d (.v (.int .i64 v_r138.1.fUser)), .d (.v (.int .i64 v_r138.1.fGroup)), .d (.v (.int .i64 v_r138.1.fSize)), .d (.v (.int .i64 v_r138.1.fLinks))], .box [.d (.v (.int .i64 v_r164.1.fKind)), .d (.v (.int .i64 v_r164.1.fMode)), .d (.v (.int .i64 v_r164.1.fUser)), .d (.v (.int .i64 v_r164.1.fGroup)), .d (.v (.int .i64 v_r164.1.fSize)), .d (.v (.int .i64 v_r164.1.fLinks))], .box [.d (.v (.int .i64 v_s1.fKind)), .d (.v (.int .i64 v_n4)), .d (.v (.int .i64 v_s1.fUser)), .d (.v (.int .i64 v_s1.fGroup)), .d (.v (.int .i64 v_s1.fSize)), .d (.v (.int .i64 v_s1.fLinks))], .box [.d (.v (.int .i64 v_s1.fKind)), .d (.v (.int .i64 v_s1.fMode)), .d (.v (.int .i64 v_n4)), .d (.v (.int .i64 v_m5)), .d (.v (.int .i64 v_s1.fSize)), .d (.v (.int .i64 v_s1.fLinks))]]⟩
def G_ringlaw5_ModeSays_C9_hd (v_n4 : Int) (v_m5 : Int) (v_r138 : (S_api_Stat × Int)) (v_r164 : (S_api_Stat × Int)) (v_c2 : S_api_Cred) (v_z267 : Int) (v_s1 : S_api_Stat)  : PS := ⟨[dd, dd, dd, .d (.v (.int .i64 v_n4)), .d (.v (.int .i64 v_m5)), .ref 0 0, .ref 1 0, dd, dd, dd, dd, dd, dd, .ref 2 0, .d (.v (.int .i64 v_r138.2)), .ref 3 0, .d (.v (.int .i64 v_r164.2)), dd, .ref 4 0, .ref 5 0, .d (.v (.bool ((remI (quoI .i64 v_c2.fCaps 4) 2) == 1))), .d (.v (.int .i64 v_z267)), .d (.v (.int .i64 0)), dd, dd, dd, dd, dd, dd, dd, dd, dd, dd, dd, dd, dd, dd, dd, dd, dd, dd, dd, dd, dd, dd, dd, dd, dd, dd, dd, dd, dd, dd, dd, dd, dd, dd, dd, dd, dd, dd, dd, dd, dd, dd, dd, dd, dd, dd, dd, dd, dd, dd, dd, dd, dd, dd, dd, dd, dd, dd, dd, dd, dd, dd, dd, dd, dd, dd, dd, dd, dd, dd, dd, dd, dd, dd, dd, dd, dd, dd, dd, dd, dd, dd, dd, dd, dd, dd, dd, dd, dd, dd, dd, dd, dd, dd, dd, dd, dd, dd, dd, dd, dd, dd, dd, dd, dd, dd, dd, dd, dd, dd, dd, dd, dd, dd, dd, dd, dd, dd, dd, dd, dd, dd, dd, dd, dd, dd, dd, dd, dd, dd, dd, dd, dd, dd, dd, dd, dd, dd, dd, dd, dd, dd, dd, dd, dd, dd, dd, dd, dd, dd, dd, dd, dd, dd, dd, dd, dd, dd, dd, dd, dd, dd, dd, dd, dd, dd, dd, dd, dd, dd, dd, dd, dd, dd, dd], [.box [.d (.v (.int .i64 v_s1.fKind)), .d (.v (.int .i64 v_s1.fMode)), .d (.v (.int .i64 v_s1.fUser)), .d (.v (.int .i64 v_s1.fGroup)), .d (.v (.int .i64 v_s1.fSize)), .d (.v (.int .i64 v_s1.fLinks))], .box [.d (.v (.int .i64 v_c2.fUser)), .d (.v (.int .i64 v_c2.fGroup)), .d (.sl (v_c2.fMore.map (eI .i64))), .d (.v (.int .i64 v_c2.fCaps)), .d (.v (.int .i64 v_c2.fLevel)), .d (.v (.int .i64 v_c2.fKind))], .box [.d (.v (.int .i64 v_r138.1.fKind)), .d (.v (.int .i64 v_r138.1.fMode)), .d (.v (.int .i64 v_r138.1.fUser)), .d (.v (.int .i64 v_r138.1.fGroup)), .d (.v (.int .i64 v_r138.1.fSize)), .d (.v (.int .i64 v_r138.1.fLinks))], .box [.d (.v (.int .i64 v_r164.1.fKind)), .d (.v (.int .i64 v_r164.1.fMode)), .d (.v (.int .i64 v_r164.1.fUser)), .d (.v (.int .i64 v_r164.1.fGroup)), .d (.v (.int .i64 v_r164.1.fSize)), .d (.v (.int .i64 v_r164.1.fLinks))], .box [.d (.v (.int .i64 v_s1.fKind)), .d (.v (.int .i64 v_n4)), .d (.v (.int .i64 v_s1.fUser)), .d (.v (.int .i64 v_s1.fGroup)), .d (.v (.int .i64 v_s1.fSize)), .d (.v (.int .i64 v_s1.fLinks))], .box [.d (.v (.int .i64 v_s1.fKind)), .d (.v (.int .i64 v_s1.fMode)), .d (.v (.int .i64 v_n4)), .d (.v (.int .i64 v_m5)), .d (.v (.int .i64 v_s1.fSize)), .d (.v (.int .i64 v_s1.fLinks))]]⟩
def G_ringlaw5_ModeSays_C9 (n : Nat) (v_n4 : Int) (v_m5 : Int) (v_r138 : (S_api_Stat × Int)) (v_r164 : (S_api_Stat × Int)) (v_c2 : S_api_Cred) (v_z267 : Int) (v_s1 : S_api_Stat) : Option G_ringlaw5_ModeSays_C9_R :=
  if (minI v_n4 v_m5) < 0 then
   some (.x0 true)
  else
   some (.x0 (decide ((maxI v_n4 v_m5) > 99)))
theorem G_ringlaw5_ModeSays_C9_ok {Fi : Ex → PS → Prop} (hF : KC 198 Fi) (ks : List Fr) (n : Nat) (v_n4 : Int) (v_m5 : Int) (v_r138 : (S_api_Stat × Int)) (v_r164 : (S_api_Stat × Int)) (v_c2 : S_api_Cred) (v_z267 : Int) (v_s1 : S_api_Stat)  (o : G_ringlaw5_ModeSays_C9_R) (h : G_ringlaw5_ModeSays_C9 n v_n4 v_m5 v_r138 v_r164 v_c2 v_z267 v_s1 = some o) (q : RunE Try.prog 198 Fi ks (G_ringlaw5_ModeSays_C9_ex o) (G_ringlaw5_ModeSays_C9_st v_n4 v_m5 v_r138 v_r164 v_c2 v_z267 v_s1 o)) : RunE Try.prog 198 Fi (.s (cL (cL (cR (cR (cR (cR (cR (cR (cR (cR (cR (cR (cR (cR (cR (cR (cR (bodyOf Try.f4)))))))))))))))))) :: ks) .normal (G_ringlaw5_ModeSays_C9_hd v_n4 v_m5 v_r138 v_r164 v_c2 v_z267 v_s1) := by
  unfold G_ringlaw5_ModeSays_C9 at h
  by_cases h334 : (minI v_n4 v_m5) < 0
  · rw [if_pos h334] at h
    cases h
    exact pkk_sound TTok mix hF 1 (hs := [.t true, .c, .c, .c]) (ts := []) (s := [0, 1, 2, 3, 4, 5]) (l := [3, 4, 5, 6, 13, 14, 15, 16, 18, 19, 20, 21, 22, 145]) (by kernel_rfl) (by kernel_rfl) (.cons (dt h334) .nil) q
  · rw [if_neg h334] at h
    cases h
    exact pkk_sound TTok mix hF 1 (hs := [.t false, .c, .c, .c]) (ts := []) (s := [0, 1, 2, 3, 4, 5]) (l := [3, 4, 5, 6, 13, 14, 15, 16, 18, 19, 20, 21, 22, 145]) (by kernel_rfl) (by kernel_rfl) (.cons (df h334) .nil) q
inductive G_ringlaw5_ModeSays_C10_R where
  | x0 (v_x286 : Bool)
def G_ringlaw5_ModeSays_C10_ex : G_ringlaw5_ModeSays_C10_R → Ex
  | .x0 _ => .normal
def G_ringlaw5_ModeSays_C10_st (v_n4 : Int) (v_m5 : Int) (v_r138 : (S_api_Stat × Int)) (v_r164 : (S_api_Stat × Int)) (v_c2 : S_api_Cred) (v_z267 : Int) (v_s1 : S_api_Stat) : G_ringlaw5_ModeSays_C10_R → PS
  | .x0 v_x286 => ⟨[dd, dd, dd, dd, dd, dd, dd, dd, dd, dd, dd, dd, dd, .ref 0 0, .d (.v (.int .i64 v_r138.2)), .ref 1 0, .d (.v (.int .i64 v_r164.2)), dd, .ref 2 0, .ref 3 0, dd, .d (.v (.int .i64 v_z267)), .d (.v (.int .i64 0)), dd, dd, dd, dd, dd, dd, dd, dd, dd, dd, dd, dd, dd, dd, dd, dd, dd, dd, dd, dd, dd, dd, dd, dd, dd, dd, dd, dd, dd, dd, dd, dd, dd, dd, dd, dd, dd, dd, dd, dd, dd, dd, dd, dd, dd, dd, dd, dd, dd, dd, dd, dd, dd, dd, dd, dd, dd, dd, dd, dd, dd, dd, dd, dd, dd, dd, dd, dd, dd, dd, dd, dd, dd, dd, dd, dd, dd, dd, dd, dd, dd, dd, dd, dd, dd, dd, dd, dd, dd, dd, dd, dd, dd, dd, dd, dd, dd, dd, dd, dd, dd, dd, dd, dd, dd, dd, dd, dd, dd, dd, dd, dd, dd, dd, dd, dd, dd, dd, dd, dd, dd, dd, dd, dd, dd, dd, dd, dd, dd, dd, dd, dd, dd, dd, dd, dd, dd, dd, dd, dd, dd, dd, dd, dd, dd, dd, dd, dd, dd, dd, .d (.v (.bool v_x286)), dd, dd, dd, dd, dd, dd, dd, dd, dd, dd, dd, dd, dd, dd, dd, dd, dd, dd, dd, dd, dd, dd, dd, dd], [.box [.d (.v (.int .i64 v_r138.1.fKind)), .d (.v (.int .i64 v_r138.1.fMode)), .d (.v (.int .i64 v_r138.1.fUser)), .d (.v (.int .i64 v_r138.1.fGroup)), .d (.v (.int .i64 v_r138.1.fSize)), .d (.v (.int .i64 v_r138.1.fLinks))], .box [.d (.v (.int .i64 v_r164.1.fKind)), .d (.v (.int .i64 v_r164.1.fMode)), .d (.v (.int .i64 v_r164.1.fUser)), .d (.v (.int .i64 v_r164.1.fGroup)), .d (.v (.int .i64 v_r164.1.fSize)), .d (.v (.int .i64 v_r164.1.fLinks))], .box [.d (.v (.int .i64 v_s1.fKind)), .d (.v (.int .i64 v_n4)), .d (.v (.int .i64 v_s1.fUser)), .d (.v (.int .i64 v_s1.fGroup)), .d (.v (.int .i64 v_s1.fSize)), .d (.v (.int .i64 v_s1.fLinks))], .box [.d (.v (.int .i64 v_s1.fKind)), .d (.v (.int .i64 v_s1.fMode)), .d (.v (.int .i64 v_n4)), .d (.v (.int .i64 v_m5)), .d (.v (.int .i64 v_s1.fSize)), .d (.v (.int .i64 v_s1.fLinks))]]⟩
def G_ringlaw5_ModeSays_C10_hd (v_n4 : Int) (v_m5 : Int) (v_r138 : (S_api_Stat × Int)) (v_r164 : (S_api_Stat × Int)) (v_c2 : S_api_Cred) (v_z267 : Int) (v_s1 : S_api_Stat)  : PS := ⟨[dd, dd, dd, .d (.v (.int .i64 v_n4)), .d (.v (.int .i64 v_m5)), .ref 0 0, .ref 1 0, dd, dd, dd, dd, dd, dd, .ref 2 0, .d (.v (.int .i64 v_r138.2)), .ref 3 0, .d (.v (.int .i64 v_r164.2)), dd, .ref 4 0, .ref 5 0, .d (.v (.bool ((remI (quoI .i64 v_c2.fCaps 4) 2) == 1))), .d (.v (.int .i64 v_z267)), .d (.v (.int .i64 0)), dd, dd, dd, dd, dd, dd, dd, dd, dd, dd, dd, dd, dd, dd, dd, dd, dd, dd, dd, dd, dd, dd, dd, dd, dd, dd, dd, dd, dd, dd, dd, dd, dd, dd, dd, dd, dd, dd, dd, dd, dd, dd, dd, dd, dd, dd, dd, dd, dd, dd, dd, dd, dd, dd, dd, dd, dd, dd, dd, dd, dd, dd, dd, dd, dd, dd, dd, dd, dd, dd, dd, dd, dd, dd, dd, dd, dd, dd, dd, dd, dd, dd, dd, dd, dd, dd, dd, dd, dd, dd, dd, dd, dd, dd, dd, dd, dd, dd, dd, dd, dd, dd, dd, dd, dd, dd, dd, dd, dd, dd, dd, dd, dd, dd, dd, dd, dd, dd, dd, dd, dd, dd, dd, dd, dd, dd, dd, dd, dd, dd, dd, dd, dd, dd, dd, dd, dd, dd, dd, dd, dd, dd, dd, dd, dd, dd, dd, dd, dd, dd, dd, dd, dd, dd, dd, dd, dd, dd, dd, dd, dd, dd, dd, dd, dd, dd, dd, dd, dd, dd, dd, dd, dd, dd, dd], [.box [.d (.v (.int .i64 v_s1.fKind)), .d (.v (.int .i64 v_s1.fMode)), .d (.v (.int .i64 v_s1.fUser)), .d (.v (.int .i64 v_s1.fGroup)), .d (.v (.int .i64 v_s1.fSize)), .d (.v (.int .i64 v_s1.fLinks))], .box [.d (.v (.int .i64 v_c2.fUser)), .d (.v (.int .i64 v_c2.fGroup)), .d (.sl (v_c2.fMore.map (eI .i64))), .d (.v (.int .i64 v_c2.fCaps)), .d (.v (.int .i64 v_c2.fLevel)), .d (.v (.int .i64 v_c2.fKind))], .box [.d (.v (.int .i64 v_r138.1.fKind)), .d (.v (.int .i64 v_r138.1.fMode)), .d (.v (.int .i64 v_r138.1.fUser)), .d (.v (.int .i64 v_r138.1.fGroup)), .d (.v (.int .i64 v_r138.1.fSize)), .d (.v (.int .i64 v_r138.1.fLinks))], .box [.d (.v (.int .i64 v_r164.1.fKind)), .d (.v (.int .i64 v_r164.1.fMode)), .d (.v (.int .i64 v_r164.1.fUser)), .d (.v (.int .i64 v_r164.1.fGroup)), .d (.v (.int .i64 v_r164.1.fSize)), .d (.v (.int .i64 v_r164.1.fLinks))], .box [.d (.v (.int .i64 v_s1.fKind)), .d (.v (.int .i64 v_n4)), .d (.v (.int .i64 v_s1.fUser)), .d (.v (.int .i64 v_s1.fGroup)), .d (.v (.int .i64 v_s1.fSize)), .d (.v (.int .i64 v_s1.fLinks))], .box [.d (.v (.int .i64 v_s1.fKind)), .d (.v (.int .i64 v_s1.fMode)), .d (.v (.int .i64 v_n4)), .d (.v (.int .i64 v_m5)), .d (.v (.int .i64 v_s1.fSize)), .d (.v (.int .i64 v_s1.fLinks))]]⟩
def G_ringlaw5_ModeSays_C10 (n : Nat) (v_n4 : Int) (v_m5 : Int) (v_r138 : (S_api_Stat × Int)) (v_r164 : (S_api_Stat × Int)) (v_c2 : S_api_Cred) (v_z267 : Int) (v_s1 : S_api_Stat) : Option G_ringlaw5_ModeSays_C10_R :=
  if (remI (quoI .i64 v_c2.fCaps 4) 2) = 1 then
   some (.x0 false)
  else
   if v_c2.fUser = v_s1.fUser then
    if v_n4 = v_s1.fUser then
     if v_m5 = v_s1.fGroup then
      some (.x0 false)
     else
      (G_ringref5_Groups n v_c2).bind fun (v_r288 : ((List Int))) =>
      (G_slices_Contains_int_int n v_r288 v_m5).bind fun (v_r289 : (Bool)) =>
      some (.x0 (!v_r289))
    else
     some (.x0 true)
   else
    some (.x0 true)
theorem G_ringlaw5_ModeSays_C10_ok {Fi : Ex → PS → Prop} (hF : KC 198 Fi) (ks : List Fr) (n : Nat) (v_n4 : Int) (v_m5 : Int) (v_r138 : (S_api_Stat × Int)) (v_r164 : (S_api_Stat × Int)) (v_c2 : S_api_Cred) (v_z267 : Int) (v_s1 : S_api_Stat)  (o : G_ringlaw5_ModeSays_C10_R) (h : G_ringlaw5_ModeSays_C10 n v_n4 v_m5 v_r138 v_r164 v_c2 v_z267 v_s1 = some o) (q : RunE Try.prog 198 Fi ks (G_ringlaw5_ModeSays_C10_ex o) (G_ringlaw5_ModeSays_C10_st v_n4 v_m5 v_r138 v_r164 v_c2 v_z267 v_s1 o)) : RunE Try.prog 198 Fi (.s (cL (cF (cR (cL (cR (cR (cR (cR (cR (cR (cR (cR (cR (cR (cR (cR (cR (cR (cR (bodyOf Try.f4)))))))))))))))))))) :: ks) .normal (G_ringlaw5_ModeSays_C10_hd v_n4 v_m5 v_r138 v_r164 v_c2 v_z267 v_s1) := by
  unfold G_ringlaw5_ModeSays_C10 at h
  by_cases h358 : (remI (quoI .i64 v_c2.fCaps 4) 2) = 1
  · rw [if_pos h358] at h
    cases h
    exact pkk_sound TTok mix hF 1 (hs := [.t false, .c, .c, .c, .c, .c, .c, .c, .c]) (ts := []) (s := [2, 3, 4, 5]) (l := [13, 14, 15, 16, 18, 19, 21, 22, 173]) (by kernel_rfl) (by kernel_rfl) (.cons (bnf (bt h358)) .nil) q
  · rw [if_neg h358] at h
    by_cases h359 : v_c2.fUser = v_s1.fUser
    · rw [if_pos h359] at h
      by_cases h360 : v_n4 = v_s1.fUser
      · rw [if_pos h360] at h
        by_cases h361 : v_m5 = v_s1.fGroup
        · rw [if_pos h361] at h
          cases h
          exact pkk_sound TTok mix hF 1 (hs := [.t true, .c, .c, .c, .c, .c, .c, .c, .t false, .c, .c, .c, .c, .c, .c, .t false, .c, .c, .c, .c, .c, .t false, .c, .c, .c, .c, .c, .c]) (ts := []) (s := [2, 3, 4, 5]) (l := [13, 14, 15, 16, 18, 19, 21, 22, 173]) (by kernel_rfl) (by kernel_rfl) (.cons (bnt (bf h358)) (.cons (nf h359) (.cons (nf h360) (.cons (nf h361) .nil)))) q
        · rw [if_neg h361] at h
          obtain ⟨v_r288, h362, h⟩ := bind_some h
          obtain ⟨v_r289, h363, h⟩ := bind_some h
          cases h
          exact pkk_sound TTok mix hF 1 (hs := [.t true, .c, .c, .c, .c, .c, .c, .c, .t false, .c, .c, .c, .c, .c, .c, .t false, .c, .c, .c, .c, .c, .t true, .c, .c, .r ((eL (eI .i64)) v_r288), .c, .c, .r (eB v_r289), .c, .c, .c]) (ts := []) (s := [2, 3, 4, 5]) (l := [13, 14, 15, 16, 18, 19, 21, 22, 173]) (by kernel_rfl) (by kernel_rfl) (.cons (bnt (bf h358)) (.cons (nf h359) (.cons (nf h360) (.cons (nt h361) (.cons (G_ringref5_Groups_ok n v_c2 _ h362) (.cons (G_slices_Contains_int_int_ok n v_r288 v_m5 _ h363) .nil)))))) q
      · rw [if_neg h360] at h
        cases h
        exact pkk_sound TTok mix hF 1 (hs := [.t true, .c, .c, .c, .c, .c, .c, .c, .t false, .c, .c, .c, .c, .c, .c, .t true, .c, .c, .c, .c, .c, .c]) (ts := []) (s := [2, 3, 4, 5]) (l := [13, 14, 15, 16, 18, 19, 21, 22, 173]) (by kernel_rfl) (by kernel_rfl) (.cons (bnt (bf h358)) (.cons (nf h359) (.cons (nt h360) .nil))) q
    · rw [if_neg h359] at h
      cases h
      exact pkk_sound TTok mix hF 1 (hs := [.t true, .c, .c, .c, .c, .c, .c, .c, .t true, .c, .c, .c, .c, .c, .c, .c, .c, .c, .c, .c, .c]) (ts := []) (s := [2, 3, 4, 5]) (l := [13, 14, 15, 16, 18, 19, 21, 22, 173]) (by kernel_rfl) (by kernel_rfl) (.cons (bnt (bf h358)) (.cons (nt h359) .nil)) q
inductive G_ringlaw5_ModeSays_C11_R where
  | x0 (v_wantO283 : Int)
def G_ringlaw5_ModeSays_C11_ex : G_ringlaw5_ModeSays_C11_R → Ex
  | .x0 _ => .normal
def G_ringlaw5_ModeSays_C11_st (v_n4 : Int) (v_m5 : Int) (v_r138 : (S_api_Stat × Int)) (v_r164 : (S_api_Stat × Int)) (v_c2 : S_api_Cred) (v_z267 : Int) (v_z271 : Bool) (v_s1 : S_api_Stat) : G_ringlaw5_ModeSays_C11_R → PS
  | .x0 v_wantO283 => ⟨[dd, dd, dd, dd, dd, dd, dd, dd, dd, dd, dd, dd, dd, .ref 0 0, .d (.v (.int .i64 v_r138.2)), .ref 1 0, .d (.v (.int .i64 v_r164.2)), dd, .ref 2 0, .ref 3 0, dd, .d (.v (.int .i64 v_z267)), .d (.v (.int .i64 v_wantO283)), dd, dd, dd, dd, dd, dd, dd, dd, dd, dd, dd, dd, dd, dd, dd, dd, dd, dd, dd, dd, dd, dd, dd, dd, dd, dd, dd, dd, dd, dd, dd, dd, dd, dd, dd, dd, dd, dd, dd, dd, dd, dd, dd, dd, dd, dd, dd, dd, dd, dd, dd, dd, dd, dd, dd, dd, dd, dd, dd, dd, dd, dd, dd, dd, dd, dd, dd, dd, dd, dd, dd, dd, dd, dd, dd, dd, dd, dd, dd, dd, dd, dd, dd, dd, dd, dd, dd, dd, dd, dd, dd, dd, dd, dd, dd, dd, dd, dd, dd, dd, dd, dd, dd, dd, dd, dd, dd, dd, dd, dd, dd, dd, dd, dd, dd, dd, dd, dd, dd, dd, dd, dd, dd, dd, dd, dd, dd, dd, dd, dd, dd, dd, dd, dd, dd, dd, dd, dd, dd, dd, dd, dd, dd, dd, dd, dd, dd, dd, dd, dd, dd, dd, dd, dd, dd, dd, dd, dd, dd, dd, dd, dd, dd, dd, dd, dd, dd, dd, dd, dd, dd, dd, dd, dd, dd], [.box [.d (.v (.int .i64 v_r138.1.fKind)), .d (.v (.int .i64 v_r138.1.fMode)), .d (.v (.int .i64 v_r138.1.fUser)), .d (.v (.int .i64 v_r138.1.fGroup)), .d (.v (.int .i64 v_r138.1.fSize)), .d (.v (.int .i64 v_r138.1.fLinks))], .box [.d (.v (.int .i64 v_r164.1.fKind)), .d (.v (.int .i64 v_r164.1.fMode)), .d (.v (.int .i64 v_r164.1.fUser)), .d (.v (.int .i64 v_r164.1.fGroup)), .d (.v (.int .i64 v_r164.1.fSize)), .d (.v (.int .i64 v_r164.1.fLinks))], .box [.d (.v (.int .i64 v_s1.fKind)), .d (.v (.int .i64 v_n4)), .d (.v (.int .i64 v_s1.fUser)), .d (.v (.int .i64 v_s1.fGroup)), .d (.v (.int .i64 v_s1.fSize)), .d (.v (.int .i64 v_s1.fLinks))], .box [.d (.v (.int .i64 v_s1.fKind)), .d (.v (.int .i64 v_s1.fMode)), .d (.v (.int .i64 v_n4)), .d (.v (.int .i64 v_m5)), .d (.v (.int .i64 v_s1.fSize)), .d (.v (.int .i64 v_s1.fLinks))]]⟩
def G_ringlaw5_ModeSays_C11_hd (v_n4 : Int) (v_m5 : Int) (v_r138 : (S_api_Stat × Int)) (v_r164 : (S_api_Stat × Int)) (v_c2 : S_api_Cred) (v_z267 : Int) (v_z271 : Bool) (v_s1 : S_api_Stat)  : PS := ⟨[dd, dd, dd, .d (.v (.int .i64 v_n4)), .d (.v (.int .i64 v_m5)), .ref 0 0, .ref 1 0, dd, dd, dd, dd, dd, dd, .ref 2 0, .d (.v (.int .i64 v_r138.2)), .ref 3 0, .d (.v (.int .i64 v_r164.2)), dd, .ref 4 0, .ref 5 0, .d (.v (.bool ((remI (quoI .i64 v_c2.fCaps 4) 2) == 1))), .d (.v (.int .i64 v_z267)), .d (.v (.int .i64 0)), dd, dd, dd, dd, dd, dd, dd, dd, dd, dd, dd, dd, dd, dd, dd, dd, dd, dd, dd, dd, dd, dd, dd, dd, dd, dd, dd, dd, dd, dd, dd, dd, dd, dd, dd, dd, dd, dd, dd, dd, dd, dd, dd, dd, dd, dd, dd, dd, dd, dd, dd, dd, dd, dd, dd, dd, dd, dd, dd, dd, dd, dd, dd, dd, dd, dd, dd, dd, dd, dd, dd, dd, dd, dd, dd, dd, dd, dd, dd, dd, dd, dd, dd, dd, dd, dd, dd, dd, dd, dd, dd, dd, dd, dd, dd, dd, dd, dd, dd, dd, dd, dd, dd, dd, dd, dd, dd, dd, dd, dd, dd, dd, dd, dd, dd, dd, dd, dd, dd, dd, dd, dd, .d (.v (.bool v_z271)), dd, dd, dd, dd, dd, dd, dd, dd, dd, dd, dd, dd, dd, dd, dd, dd, dd, dd, dd, dd, dd, dd, dd, dd, dd, dd, dd, dd, dd, dd, dd, dd, dd, dd, dd, dd, dd, dd, dd, dd, dd, dd, dd, dd, dd, dd, dd, dd, dd, dd, dd, dd], [.box [.d (.v (.int .i64 v_s1.fKind)), .d (.v (.int .i64 v_s1.fMode)), .d (.v (.int .i64 v_s1.fUser)), .d (.v (.int .i64 v_s1.fGroup)), .d (.v (.int .i64 v_s1.fSize)), .d (.v (.int .i64 v_s1.fLinks))], .box [.d (.v (.int .i64 v_c2.fUser)), .d (.v (.int .i64 v_c2.fGroup)), .d (.sl (v_c2.fMore.map (eI .i64))), .d (.v (.int .i64 v_c2.fCaps)), .d (.v (.int .i64 v_c2.fLevel)), .d (.v (.int .i64 v_c2.fKind))], .box [.d (.v (.int .i64 v_r138.1.fKind)), .d (.v (.int .i64 v_r138.1.fMode)), .d (.v (.int .i64 v_r138.1.fUser)), .d (.v (.int .i64 v_r138.1.fGroup)), .d (.v (.int .i64 v_r138.1.fSize)), .d (.v (.int .i64 v_r138.1.fLinks))], .box [.d (.v (.int .i64 v_r164.1.fKind)), .d (.v (.int .i64 v_r164.1.fMode)), .d (.v (.int .i64 v_r164.1.fUser)), .d (.v (.int .i64 v_r164.1.fGroup)), .d (.v (.int .i64 v_r164.1.fSize)), .d (.v (.int .i64 v_r164.1.fLinks))], .box [.d (.v (.int .i64 v_s1.fKind)), .d (.v (.int .i64 v_n4)), .d (.v (.int .i64 v_s1.fUser)), .d (.v (.int .i64 v_s1.fGroup)), .d (.v (.int .i64 v_s1.fSize)), .d (.v (.int .i64 v_s1.fLinks))], .box [.d (.v (.int .i64 v_s1.fKind)), .d (.v (.int .i64 v_s1.fMode)), .d (.v (.int .i64 v_n4)), .d (.v (.int .i64 v_m5)), .d (.v (.int .i64 v_s1.fSize)), .d (.v (.int .i64 v_s1.fLinks))]]⟩
def G_ringlaw5_ModeSays_C11 (n : Nat) (v_n4 : Int) (v_m5 : Int) (v_r138 : (S_api_Stat × Int)) (v_r164 : (S_api_Stat × Int)) (v_c2 : S_api_Cred) (v_z267 : Int) (v_z271 : Bool) (v_s1 : S_api_Stat) : Option G_ringlaw5_ModeSays_C11_R :=
  if v_z271 = true then
   some (.x0 1)
  else
   (G_ringlaw5_ModeSays_C10 n v_n4 v_m5 v_r138 v_r164 v_c2 v_z267 v_s1).bind fun v_o293 => match v_o293 with
   | .x0 v_z294 =>
     if v_z294 = true then
      some (.x0 7)
     else
      some (.x0 0)
theorem G_ringlaw5_ModeSays_C11_ok {Fi : Ex → PS → Prop} (hF : KC 198 Fi) (ks : List Fr) (n : Nat) (v_n4 : Int) (v_m5 : Int) (v_r138 : (S_api_Stat × Int)) (v_r164 : (S_api_Stat × Int)) (v_c2 : S_api_Cred) (v_z267 : Int) (v_z271 : Bool) (v_s1 : S_api_Stat)  (o : G_ringlaw5_ModeSays_C11_R) (h : G_ringlaw5_ModeSays_C11 n v_n4 v_m5 v_r138 v_r164 v_c2 v_z267 v_z271 v_s1 = some o) (q : RunE Try.prog 198 Fi ks (G_ringlaw5_ModeSays_C11_ex o) (G_ringlaw5_ModeSays_C11_st v_n4 v_m5 v_r138 v_r164 v_c2 v_z267 v_z271 v_s1 o)) : RunE Try.prog 198 Fi (.s (cR (cL (cR (cR (cR (cR (cR (cR (cR (cR (cR (cR (cR (cR (cR (cR (cR (bodyOf Try.f4)))))))))))))))))) :: ks) .normal (G_ringlaw5_ModeSays_C11_hd v_n4 v_m5 v_r138 v_r164 v_c2 v_z267 v_z271 v_s1) := by
  unfold G_ringlaw5_ModeSays_C11 at h
  by_cases h351 : v_z271 = true
  · rw [if_pos h351] at h
    cases h
    exact pkk_sound TTok mix hF 2 (hs := [.t true]) (ts := []) (s := [2, 3, 4, 5]) (l := [13, 14, 15, 16, 18, 19, 21, 22]) (by kernel_rfl) (by kernel_rfl) (.cons h351 .nil) q
  · rw [if_neg h351] at h
    obtain ⟨v_o293, h364, h⟩ := bind_some h
    refine pkk_sound TTok mix hF 2 (hs := [.t false]) (ts := []) (s := [0, 1, 2, 3, 4, 5]) (l := [3, 4, 5, 6, 13, 14, 15, 16, 18, 19, 20, 21, 22]) (by kernel_rfl) (by kernel_rfl) (.cons (vf h351) .nil) (G_ringlaw5_ModeSays_C10_ok hF (.s (cR (cF (cR (cL (cR (cR (cR (cR (cR (cR (cR (cR (cR (cR (cR (cR (cR (cR (cR (bodyOf Try.f4)))))))))))))))))))) :: ks) n v_n4 v_m5 v_r138 v_r164 v_c2 v_z267 v_s1 _ h364 ?_)
    cases v_o293 with
    | x0 v_z294 =>
      dsimp only at h
      by_cases h365 : v_z294 = true
      · rw [if_pos h365] at h
        cases h
        exact pkk_sound TTok mix hF 2 (hs := [.t true]) (ts := []) (s := [0, 1, 2, 3]) (l := [13, 14, 15, 16, 18, 19, 21, 22]) (by kernel_rfl) (by kernel_rfl) (.cons h365 .nil) q
      · rw [if_neg h365] at h
        cases h
        exact pkk_sound TTok mix hF 2 (hs := [.t false]) (ts := []) (s := [0, 1, 2, 3]) (l := [13, 14, 15, 16, 18, 19, 21, 22]) (by kernel_rfl) (by kernel_rfl) (.cons (vf h365) .nil) q
inductive G_ringlaw5_ModeSays_C12_R where
  | x0 (v_x299 : Bool)
def G_ringlaw5_ModeSays_C12_ex : G_ringlaw5_ModeSays_C12_R → Ex
  | .x0 _ => .normal
def G_ringlaw5_ModeSays_C12_st (v_r138 : (S_api_Stat × Int)) (v_r164 : (S_api_Stat × Int)) (v_z267 : Int) (v_z298 : Int) : G_ringlaw5_ModeSays_C12_R → PS
  | .x0 v_x299 => ⟨[dd, dd, dd, dd, dd, dd, dd, dd, dd, dd, .d (.v (.bool v_x299)), dd, dd, dd, dd, dd, dd, dd, dd, dd, dd, dd, dd, dd, dd, dd, dd, dd, dd, dd, dd, dd, dd, dd, dd, dd, dd, dd, dd, dd, dd, dd, dd, dd, dd, dd, dd, dd, dd, dd, dd, dd, dd, dd, dd, dd, dd, dd, dd, dd, dd, dd, dd, dd, dd, dd, dd, dd, dd, dd, dd, dd, dd, dd, dd, dd, dd, dd, dd, dd, dd, dd, dd, dd, dd, dd, dd, dd, dd, dd, dd, dd, dd, dd, dd, dd, dd, dd, dd, dd, dd, dd, dd, dd, dd, dd, dd, dd, dd, dd, dd, dd, dd, dd, dd, dd, dd, dd, dd, dd, dd, dd, dd, dd, dd, dd, dd, dd, dd, dd, dd, dd, dd, dd, dd, dd, dd, dd, dd, dd, dd, dd, dd, dd, dd, dd, dd, dd, dd, dd, dd, dd, dd, dd, dd, dd, dd, dd, dd, dd, dd, dd, dd, dd, dd, dd, dd, dd, dd, dd, dd, dd, dd, dd, dd, dd, dd, dd, dd, dd, dd, dd, dd, dd, dd, dd, dd, dd, dd, dd, dd, dd, dd, dd, dd, dd, dd, dd], []⟩
def G_ringlaw5_ModeSays_C12_hd (v_r138 : (S_api_Stat × Int)) (v_r164 : (S_api_Stat × Int)) (v_z267 : Int) (v_z298 : Int)  : PS := ⟨[dd, dd, dd, dd, dd, dd, dd, dd, dd, dd, dd, dd, dd, .ref 0 0, .d (.v (.int .i64 v_r138.2)), .ref 1 0, .d (.v (.int .i64 v_r164.2)), dd, .ref 2 0, .ref 3 0, dd, .d (.v (.int .i64 v_z267)), .d (.v (.int .i64 v_z298)), dd, dd, dd, dd, dd, dd, dd, dd, dd, dd, dd, dd, dd, dd, dd, dd, dd, dd, dd, dd, dd, dd, dd, dd, dd, dd, dd, dd, dd, dd, dd, dd, dd, dd, dd, dd, dd, dd, dd, dd, dd, dd, dd, dd, dd, dd, dd, dd, dd, dd, dd, dd, dd, dd, dd, dd, dd, dd, dd, dd, dd, dd, dd, dd, dd, dd, dd, dd, dd, dd, dd, dd, dd, dd, dd, dd, dd, dd, dd, dd, dd, dd, dd, dd, dd, dd, dd, dd, dd, dd, dd, dd, dd, dd, dd, dd, dd, dd, dd, dd, dd, dd, dd, dd, dd, dd, dd, dd, dd, dd, dd, dd, dd, dd, dd, dd, dd, dd, dd, dd, dd, dd, dd, dd, dd, dd, dd, dd, dd, dd, dd, dd, dd, dd, dd, dd, dd, dd, dd, dd, dd, dd, dd, dd, dd, dd, dd, dd, dd, dd, dd, dd, dd, dd, dd, dd, dd, dd, dd, dd, dd, dd, dd, dd, dd, dd, dd, dd, dd, dd, dd, dd, dd, dd, dd], [.box [.d (.v (.int .i64 v_r138.1.fKind)), .d (.v (.int .i64 v_r138.1.fMode)), .d (.v (.int .i64 v_r138.1.fUser)), .d (.v (.int .i64 v_r138.1.fGroup)), .d (.v (.int .i64 v_r138.1.fSize)), .d (.v (.int .i64 v_r138.1.fLinks))], .box [.d (.v (.int .i64 v_r164.1.fKind)), .d (.v (.int .i64 v_r164.1.fMode)), .d (.v (.int .i64 v_r164.1.fUser)), .d (.v (.int .i64 v_r164.1.fGroup)), .d (.v (.int .i64 v_r164.1.fSize)), .d (.v (.int .i64 v_r164.1.fLinks))], .box [.d (.v (.int .i64 0)), .d (.v (.int .i64 0)), .d (.v (.int .i64 0)), .d (.v (.int .i64 0)), .d (.v (.int .i64 0)), .d (.v (.int .i64 0))], .box [.d (.v (.int .i64 0)), .d (.v (.int .i64 0)), .d (.v (.int .i64 0)), .d (.v (.int .i64 0)), .d (.v (.int .i64 0)), .d (.v (.int .i64 0))]]⟩
def G_ringlaw5_ModeSays_C12 (n : Nat) (v_r138 : (S_api_Stat × Int)) (v_r164 : (S_api_Stat × Int)) (v_z267 : Int) (v_z298 : Int) : Option G_ringlaw5_ModeSays_C12_R :=
  if v_r138.2 = v_z267 then
   if (eqRes .eql (eqS_api_Stat v_r138.1 (S_api_Stat.mk 0 0 0 0 0 0))) = true then
    if v_r164.2 = v_z298 then
     some (.x0 (eqRes .eql (eqS_api_Stat v_r164.1 (S_api_Stat.mk 0 0 0 0 0 0))))
    else
     some (.x0 false)
   else
    some (.x0 false)
  else
   some (.x0 false)
theorem G_ringlaw5_ModeSays_C12_ok {Fi : Ex → PS → Prop} (hF : KC 198 Fi) (ks : List Fr) (n : Nat) (v_r138 : (S_api_Stat × Int)) (v_r164 : (S_api_Stat × Int)) (v_z267 : Int) (v_z298 : Int)  (o : G_ringlaw5_ModeSays_C12_R) (h : G_ringlaw5_ModeSays_C12 n v_r138 v_r164 v_z267 v_z298 = some o) (q : RunE Try.prog 198 Fi ks (G_ringlaw5_ModeSays_C12_ex o) (G_ringlaw5_ModeSays_C12_st v_r138 v_r164 v_z267 v_z298 o)) : RunE Try.prog 198 Fi (.s (cL (cR (cR (cR (cR (cR (cR (cR (cR (cR (cR (cR (cR (cR (cR (cR (cR (cR (cR (bodyOf Try.f4)))))))))))))))))))) :: ks) .normal (G_ringlaw5_ModeSays_C12_hd v_r138 v_r164 v_z267 v_z298) := by
  unfold G_ringlaw5_ModeSays_C12 at h
  by_cases h372 : v_r138.2 = v_z267
  · rw [if_pos h372] at h
    by_cases h373 : (eqRes .eql (eqS_api_Stat v_r138.1 (S_api_Stat.mk 0 0 0 0 0 0))) = true
    · rw [if_pos h373] at h
      by_cases h374 : v_r164.2 = v_z298
      · rw [if_pos h374] at h
        cases h
        exact pkk_sound TTok mix hF 1 (hs := [.t true, .c, .c, .c, .c, .q (eqS_api_Stat v_r138.1 (S_api_Stat.mk 0 0 0 0 0 0)), .t true, .c, .c, .t true, .c, .c, .c, .c, .q (eqS_api_Stat v_r164.1 (S_api_Stat.mk 0 0 0 0 0 0))]) (ts := []) (s := []) (l := [10]) (by kernel_rfl) (by kernel_rfl) (.cons (bt h372) (.cons (eqS_api_Stat_ok v_r138.1 (S_api_Stat.mk 0 0 0 0 0 0)) (.cons h373 (.cons (bt h374) (.cons (eqS_api_Stat_ok v_r164.1 (S_api_Stat.mk 0 0 0 0 0 0)) .nil))))) q
      · rw [if_neg h374] at h
        cases h
        exact pkk_sound TTok mix hF 1 (hs := [.t true, .c, .c, .c, .c, .q (eqS_api_Stat v_r138.1 (S_api_Stat.mk 0 0 0 0 0 0)), .t true, .c, .c, .t false, .c, .c]) (ts := []) (s := []) (l := [10]) (by kernel_rfl) (by kernel_rfl) (.cons (bt h372) (.cons (eqS_api_Stat_ok v_r138.1 (S_api_Stat.mk 0 0 0 0 0 0)) (.cons h373 (.cons (bf h374) .nil)))) q
    · rw [if_neg h373] at h
      cases h
      exact pkk_sound TTok mix hF 1 (hs := [.t true, .c, .c, .c, .c, .q (eqS_api_Stat v_r138.1 (S_api_Stat.mk 0 0 0 0 0 0)), .t false, .c, .c, .c, .c, .c]) (ts := []) (s := []) (l := [10]) (by kernel_rfl) (by kernel_rfl) (.cons (bt h372) (.cons (eqS_api_Stat_ok v_r138.1 (S_api_Stat.mk 0 0 0 0 0 0)) (.cons (vf h373) .nil))) q
  · rw [if_neg h372] at h
    cases h
    exact pkk_sound TTok mix hF 1 (hs := [.t false, .c, .c, .c, .c, .c, .c, .c, .c]) (ts := []) (s := []) (l := [10]) (by kernel_rfl) (by kernel_rfl) (.cons (bf h372) .nil) q
inductive G_ringlaw5_ModeSays_C13_R where
  | x0 (v_x305 : Bool)
def G_ringlaw5_ModeSays_C13_ex : G_ringlaw5_ModeSays_C13_R → Ex
  | .x0 _ => .normal
def G_ringlaw5_ModeSays_C13_st (v_r138 : (S_api_Stat × Int)) (v_r164 : (S_api_Stat × Int)) (v_z267 : Int) (v_z298 : Int) (v_s1 : S_api_Stat) (v_n4 : Int) (v_m5 : Int) : G_ringlaw5_ModeSays_C13_R → PS
  | .x0 v_x305 => ⟨[dd, dd, dd, dd, dd, dd, dd, dd, dd, dd, .d (.v (.bool v_x305)), dd, dd, dd, dd, dd, dd, dd, dd, dd, dd, dd, dd, dd, dd, dd, dd, dd, dd, dd, dd, dd, dd, dd, dd, dd, dd, dd, dd, dd, dd, dd, dd, dd, dd, dd, dd, dd, dd, dd, dd, dd, dd, dd, dd, dd, dd, dd, dd, dd, dd, dd, dd, dd, dd, dd, dd, dd, dd, dd, dd, dd, dd, dd, dd, dd, dd, dd, dd, dd, dd, dd, dd, dd, dd, dd, dd, dd, dd, dd, dd, dd, dd, dd, dd, dd, dd, dd, dd, dd, dd, dd, dd, dd, dd, dd, dd, dd, dd, dd, dd, dd, dd, dd, dd, dd, dd, dd, dd, dd, dd, dd, dd, dd, dd, dd, dd, dd, dd, dd, dd, dd, dd, dd, dd, dd, dd, dd, dd, dd, dd, dd, dd, dd, dd, dd, dd, dd, dd, dd, dd, dd, dd, dd, dd, dd, dd, dd, dd, dd, dd, dd, dd, dd, dd, dd, dd, dd, dd, dd, dd, dd, dd, dd, dd, dd, dd, dd, dd, dd, dd, dd, dd, dd, dd, dd, dd, dd, dd, dd, dd, dd, dd, dd, dd, dd, dd, dd], []⟩
def G_ringlaw5_ModeSays_C13_hd (v_r138 : (S_api_Stat × Int)) (v_r164 : (S_api_Stat × Int)) (v_z267 : Int) (v_z298 : Int) (v_s1 : S_api_Stat) (v_n4 : Int) (v_m5 : Int)  : PS := ⟨[dd, dd, dd, dd, dd, dd, dd, dd, dd, dd, dd, dd, dd, .ref 0 0, .d (.v (.int .i64 v_r138.2)), .ref 1 0, .d (.v (.int .i64 v_r164.2)), dd, .ref 2 0, .ref 3 0, dd, .d (.v (.int .i64 v_z267)), .d (.v (.int .i64 v_z298)), dd, dd, dd, dd, dd, dd, dd, dd, dd, dd, dd, dd, dd, dd, dd, dd, dd, dd, dd, dd, dd, dd, dd, dd, dd, dd, dd, dd, dd, dd, dd, dd, dd, dd, dd, dd, dd, dd, dd, dd, dd, dd, dd, dd, dd, dd, dd, dd, dd, dd, dd, dd, dd, dd, dd, dd, dd, dd, dd, dd, dd, dd, dd, dd, dd, dd, dd, dd, dd, dd, dd, dd, dd, dd, dd, dd, dd, dd, dd, dd, dd, dd, dd, dd, dd, dd, dd, dd, dd, dd, dd, dd, dd, dd, dd, dd, dd, dd, dd, dd, dd, dd, dd, dd, dd, dd, dd, dd, dd, dd, dd, dd, dd, dd, dd, dd, dd, dd, dd, dd, dd, dd, dd, dd, dd, dd, dd, dd, dd, dd, dd, dd, dd, dd, dd, dd, dd, dd, dd, dd, dd, dd, dd, dd, dd, dd, dd, dd, dd, dd, dd, dd, dd, dd, dd, dd, dd, dd, dd, dd, dd, dd, dd, dd, dd, dd, dd, dd, dd, dd, dd, dd, dd, dd, dd], [.box [.d (.v (.int .i64 v_r138.1.fKind)), .d (.v (.int .i64 v_r138.1.fMode)), .d (.v (.int .i64 v_r138.1.fUser)), .d (.v (.int .i64 v_r138.1.fGroup)), .d (.v (.int .i64 v_r138.1.fSize)), .d (.v (.int .i64 v_r138.1.fLinks))], .box [.d (.v (.int .i64 v_r164.1.fKind)), .d (.v (.int .i64 v_r164.1.fMode)), .d (.v (.int .i64 v_r164.1.fUser)), .d (.v (.int .i64 v_r164.1.fGroup)), .d (.v (.int .i64 v_r164.1.fSize)), .d (.v (.int .i64 v_r164.1.fLinks))], .box [.d (.v (.int .i64 0)), .d (.v (.int .i64 0)), .d (.v (.int .i64 0)), .d (.v (.int .i64 0)), .d (.v (.int .i64 0)), .d (.v (.int .i64 0))], .box [.d (.v (.int .i64 v_s1.fKind)), .d (.v (.int .i64 v_s1.fMode)), .d (.v (.int .i64 v_n4)), .d (.v (.int .i64 v_m5)), .d (.v (.int .i64 v_s1.fSize)), .d (.v (.int .i64 v_s1.fLinks))]]⟩
def G_ringlaw5_ModeSays_C13 (n : Nat) (v_r138 : (S_api_Stat × Int)) (v_r164 : (S_api_Stat × Int)) (v_z267 : Int) (v_z298 : Int) (v_s1 : S_api_Stat) (v_n4 : Int) (v_m5 : Int) : Option G_ringlaw5_ModeSays_C13_R :=
  if v_r138.2 = v_z267 then
   if (eqRes .eql (eqS_api_Stat v_r138.1 (S_api_Stat.mk 0 0 0 0 0 0))) = true then
    if v_r164.2 = v_z298 then
     some (.x0 (eqRes .eql (eqS_api_Stat v_r164.1 (S_api_Stat.mk v_s1.fKind v_s1.fMode v_n4 v_m5 v_s1.fSize v_s1.fLinks))))
    else
     some (.x0 false)
   else
    some (.x0 false)
  else
   some (.x0 false)
theorem G_ringlaw5_ModeSays_C13_ok {Fi : Ex → PS → Prop} (hF : KC 198 Fi) (ks : List Fr) (n : Nat) (v_r138 : (S_api_Stat × Int)) (v_r164 : (S_api_Stat × Int)) (v_z267 : Int) (v_z298 : Int) (v_s1 : S_api_Stat) (v_n4 : Int) (v_m5 : Int)  (o : G_ringlaw5_ModeSays_C13_R) (h : G_ringlaw5_ModeSays_C13 n v_r138 v_r164 v_z267 v_z298 v_s1 v_n4 v_m5 = some o) (q : RunE Try.prog 198 Fi ks (G_ringlaw5_ModeSays_C13_ex o) (G_ringlaw5_ModeSays_C13_st v_r138 v_r164 v_z267 v_z298 v_s1 v_n4 v_m5 o)) : RunE Try.prog 198 Fi (.s (cL (cR (cR (cR (cR (cR (cR (cR (cR (cR (cR (cR (cR (cR (cR (cR (cR (cR (cR (bodyOf Try.f4)))))))))))))))))))) :: ks) .normal (G_ringlaw5_ModeSays_C13_hd v_r138 v_r164 v_z267 v_z298 v_s1 v_n4 v_m5) := by
  unfold G_ringlaw5_ModeSays_C13 at h
  by_cases h379 : v_r138.2 = v_z267
  · rw [if_pos h379] at h
    by_cases h380 : (eqRes .eql (eqS_api_Stat v_r138.1 (S_api_Stat.mk 0 0 0 0 0 0))) = true
    · rw [if_pos h380] at h
      by_cases h381 : v_r164.2 = v_z298
      · rw [if_pos h381] at h
        cases h
        exact pkk_sound TTok mix hF 1 (hs := [.t true, .c, .c, .c, .c, .q (eqS_api_Stat v_r138.1 (S_api_Stat.mk 0 0 0 0 0 0)), .t true, .c, .c, .t true, .c, .c, .c, .c, .q (eqS_api_Stat v_r164.1 (S_api_Stat.mk v_s1.fKind v_s1.fMode v_n4 v_m5 v_s1.fSize v_s1.fLinks))]) (ts := []) (s := []) (l := [10]) (by kernel_rfl) (by kernel_rfl) (.cons (bt h379) (.cons (eqS_api_Stat_ok v_r138.1 (S_api_Stat.mk 0 0 0 0 0 0)) (.cons h380 (.cons (bt h381) (.cons (eqS_api_Stat_ok v_r164.1 (S_api_Stat.mk v_s1.fKind v_s1.fMode v_n4 v_m5 v_s1.fSize v_s1.fLinks)) .nil))))) q
      · rw [if_neg h381] at h
        cases h
        exact pkk_sound TTok mix hF 1 (hs := [.t true, .c, .c, .c, .c, .q (eqS_api_Stat v_r138.1 (S_api_Stat.mk 0 0 0 0 0 0)), .t true, .c, .c, .t false, .c, .c]) (ts := []) (s := []) (l := [10]) (by kernel_rfl) (by kernel_rfl) (.cons (bt h379) (.cons (eqS_api_Stat_ok v_r138.1 (S_api_Stat.mk 0 0 0 0 0 0)) (.cons h380 (.cons (bf h381) .nil)))) q
    · rw [if_neg h380] at h
      cases h
      exact pkk_sound TTok mix hF 1 (hs := [.t true, .c, .c, .c, .c, .q (eqS_api_Stat v_r138.1 (S_api_Stat.mk 0 0 0 0 0 0)), .t false, .c, .c, .c, .c, .c]) (ts := []) (s := []) (l := [10]) (by kernel_rfl) (by kernel_rfl) (.cons (bt h379) (.cons (eqS_api_Stat_ok v_r138.1 (S_api_Stat.mk 0 0 0 0 0 0)) (.cons (vf h380) .nil))) q
  · rw [if_neg h379] at h
    cases h
    exact pkk_sound TTok mix hF 1 (hs := [.t false, .c, .c, .c, .c, .c, .c, .c, .c]) (ts := []) (s := []) (l := [10]) (by kernel_rfl) (by kernel_rfl) (.cons (bf h379) .nil) q
inductive G_ringlaw5_ModeSays_C14_R where
  | x0 (v_x311 : Bool)
def G_ringlaw5_ModeSays_C14_ex : G_ringlaw5_ModeSays_C14_R → Ex
  | .x0 _ => .normal
def G_ringlaw5_ModeSays_C14_st (v_r138 : (S_api_Stat × Int)) (v_r164 : (S_api_Stat × Int)) (v_z267 : Int) (v_z298 : Int) (v_s1 : S_api_Stat) (v_n4 : Int) : G_ringlaw5_ModeSays_C14_R → PS
  | .x0 v_x311 => ⟨[dd, dd, dd, dd, dd, dd, dd, dd, dd, dd, .d (.v (.bool v_x311)), dd, dd, dd, dd, dd, dd, dd, dd, dd, dd, dd, dd, dd, dd, dd, dd, dd, dd, dd, dd, dd, dd, dd, dd, dd, dd, dd, dd, dd, dd, dd, dd, dd, dd, dd, dd, dd, dd, dd, dd, dd, dd, dd, dd, dd, dd, dd, dd, dd, dd, dd, dd, dd, dd, dd, dd, dd, dd, dd, dd, dd, dd, dd, dd, dd, dd, dd, dd, dd, dd, dd, dd, dd, dd, dd, dd, dd, dd, dd, dd, dd, dd, dd, dd, dd, dd, dd, dd, dd, dd, dd, dd, dd, dd, dd, dd, dd, dd, dd, dd, dd, dd, dd, dd, dd, dd, dd, dd, dd, dd, dd, dd, dd, dd, dd, dd, dd, dd, dd, dd, dd, dd, dd, dd, dd, dd, dd, dd, dd, dd, dd, dd, dd, dd, dd, dd, dd, dd, dd, dd, dd, dd, dd, dd, dd, dd, dd, dd, dd, dd, dd, dd, dd, dd, dd, dd, dd, dd, dd, dd, dd, dd, dd, dd, dd, dd, dd, dd, dd, dd, dd, dd, dd, dd, dd, dd, dd, dd, dd, dd, dd, dd, dd, dd, dd, dd, dd], []⟩
def G_ringlaw5_ModeSays_C14_hd (v_r138 : (S_api_Stat × Int)) (v_r164 : (S_api_Stat × Int)) (v_z267 : Int) (v_z298 : Int) (v_s1 : S_api_Stat) (v_n4 : Int)  : PS := ⟨[dd, dd, dd, dd, dd, dd, dd, dd, dd, dd, dd, dd, dd, .ref 0 0, .d (.v (.int .i64 v_r138.2)), .ref 1 0, .d (.v (.int .i64 v_r164.2)), dd, .ref 2 0, .ref 3 0, dd, .d (.v (.int .i64 v_z267)), .d (.v (.int .i64 v_z298)), dd, dd, dd, dd, dd, dd, dd, dd, dd, dd, dd, dd, dd, dd, dd, dd, dd, dd, dd, dd, dd, dd, dd, dd, dd, dd, dd, dd, dd, dd, dd, dd, dd, dd, dd, dd, dd, dd, dd, dd, dd, dd, dd, dd, dd, dd, dd, dd, dd, dd, dd, dd, dd, dd, dd, dd, dd, dd, dd, dd, dd, dd, dd, dd, dd, dd, dd, dd, dd, dd, dd, dd, dd, dd, dd, dd, dd, dd, dd, dd, dd, dd, dd, dd, dd, dd, dd, dd, dd, dd, dd, dd, dd, dd, dd, dd, dd, dd, dd, dd, dd, dd, dd, dd, dd, dd, dd, dd, dd, dd, dd, dd, dd, dd, dd, dd, dd, dd, dd, dd, dd, dd, dd, dd, dd, dd, dd, dd, dd, dd, dd, dd, dd, dd, dd, dd, dd, dd, dd, dd, dd, dd, dd, dd, dd, dd, dd, dd, dd, dd, dd, dd, dd, dd, dd, dd, dd, dd, dd, dd, dd, dd, dd, dd, dd, dd, dd, dd, dd, dd, dd, dd, dd, dd, dd], [.box [.d (.v (.int .i64 v_r138.1.fKind)), .d (.v (.int .i64 v_r138.1.fMode)), .d (.v (.int .i64 v_r138.1.fUser)), .d (.v (.int .i64 v_r138.1.fGroup)), .d (.v (.int .i64 v_r138.1.fSize)), .d (.v (.int .i64 v_r138.1.fLinks))], .box [.d (.v (.int .i64 v_r164.1.fKind)), .d (.v (.int .i64 v_r164.1.fMode)), .d (.v (.int .i64 v_r164.1.fUser)), .d (.v (.int .i64 v_r164.1.fGroup)), .d (.v (.int .i64 v_r164.1.fSize)), .d (.v (.int .i64 v_r164.1.fLinks))], .box [.d (.v (.int .i64 v_s1.fKind)), .d (.v (.int .i64 v_n4)), .d (.v (.int .i64 v_s1.fUser)), .d (.v (.int .i64 v_s1.fGroup)), .d (.v (.int .i64 v_s1.fSize)), .d (.v (.int .i64 v_s1.fLinks))], .box [.d (.v (.int .i64 0)), .d (.v (.int .i64 0)), .d (.v (.int .i64 0)), .d (.v (.int .i64 0)), .d (.v (.int .i64 0)), .d (.v (.int .i64 0))]]⟩
def G_ringlaw5_ModeSays_C14 (n : Nat) (v_r138 : (S_api_Stat × Int)) (v_r164 : (S_api_Stat × Int)) (v_z267 : Int) (v_z298 : Int) (v_s1 : S_api_Stat) (v_n4 : Int) : Option G_ringlaw5_ModeSays_C14_R :=
  if v_r138.2 = v_z267 then
   if (eqRes .eql (eqS_api_Stat v_r138.1 (S_api_Stat.mk v_s1.fKind v_n4 v_s1.fUser v_s1.fGroup v_s1.fSize v_s1.fLinks))) = true then
    if v_r164.2 = v_z298 then
     some (.x0 (eqRes .eql (eqS_api_Stat v_r164.1 (S_api_Stat.mk 0 0 0 0 0 0))))
    else
     some (.x0 false)
   else
    some (.x0 false)
  else
   some (.x0 false)
theorem G_ringlaw5_ModeSays_C14_ok {Fi : Ex → PS → Prop} (hF : KC 198 Fi) (ks : List Fr) (n : Nat) (v_r138 : (S_api_Stat × Int)) (v_r164 : (S_api_Stat × Int)) (v_z267 : Int) (v_z298 : Int) (v_s1 : S_api_Stat) (v_n4 : Int)  (o : G_ringlaw5_ModeSays_C14_R) (h : G_ringlaw5_ModeSays_C14 n v_r138 v_r164 v_z267 v_z298 v_s1 v_n4 = some o) (q : RunE Try.prog 198 Fi ks (G_ringlaw5_ModeSays_C14_ex o) (G_ringlaw5_ModeSays_C14_st v_r138 v_r164 v_z267 v_z298 v_s1 v_n4 o)) : RunE Try.prog 198 Fi (.s (cL (cR (cR (cR (cR (cR (cR (cR (cR (cR (cR (cR (cR (cR (cR (cR (cR (cR (cR (bodyOf Try.f4)))))))))))))))))))) :: ks) .normal (G_ringlaw5_ModeSays_C14_hd v_r138 v_r164 v_z267 v_z298 v_s1 v_n4) := by
  unfold G_ringlaw5_ModeSays_C14 at h
  by_cases h387 : v_r138.2 = v_z267
  · rw [if_pos h387] at h
    by_cases h388 : (eqRes .eql (eqS_api_Stat v_r138.1 (S_api_Stat.mk v_s1.fKind v_n4 v_s1.fUser v_s1.fGroup v_s1.fSize v_s1.fLinks))) = true
    · rw [if_pos h388] at h
      by_cases h389 : v_r164.2 = v_z298
      · rw [if_pos h389] at h
        cases h
        exact pkk_sound TTok mix hF 1 (hs := [.t true, .c, .c, .c, .c, .q (eqS_api_Stat v_r138.1 (S_api_Stat.mk v_s1.fKind v_n4 v_s1.fUser v_s1.fGroup v_s1.fSize v_s1.fLinks)), .t true, .c, .c, .t true, .c, .c, .c, .c, .q (eqS_api_Stat v_r164.1 (S_api_Stat.mk 0 0 0 0 0 0))]) (ts := []) (s := []) (l := [10]) (by kernel_rfl) (by kernel_rfl) (.cons (bt h387) (.cons (eqS_api_Stat_ok v_r138.1 (S_api_Stat.mk v_s1.fKind v_n4 v_s1.fUser v_s1.fGroup v_s1.fSize v_s1.fLinks)) (.cons h388 (.cons (bt h389) (.cons (eqS_api_Stat_ok v_r164.1 (S_api_Stat.mk 0 0 0 0 0 0)) .nil))))) q
      · rw [if_neg h389] at h
        cases h
        exact pkk_sound TTok mix hF 1 (hs := [.t true, .c, .c, .c, .c, .q (eqS_api_Stat v_r138.1 (S_api_Stat.mk v_s1.fKind v_n4 v_s1.fUser v_s1.fGroup v_s1.fSize v_s1.fLinks)), .t true, .c, .c, .t false, .c, .c]) (ts := []) (s := []) (l := [10]) (by kernel_rfl) (by kernel_rfl) (.cons (bt h387) (.cons (eqS_api_Stat_ok v_r138.1 (S_api_Stat.mk v_s1.fKind v_n4 v_s1.fUser v_s1.fGroup v_s1.fSize v_s1.fLinks)) (.cons h388 (.cons (bf h389) .nil)))) q
    · rw [if_neg h388] at h
      cases h
      exact pkk_sound TTok mix hF 1 (hs := [.t true, .c, .c, .c, .c, .q (eqS_api_Stat v_r138.1 (S_api_Stat.mk v_s1.fKind v_n4 v_s1.fUser v_s1.fGroup v_s1.fSize v_s1.fLinks)), .t false, .c, .c, .c, .c, .c]) (ts := []) (s := []) (l := [10]) (by kernel_rfl) (by kernel_rfl) (.cons (bt h387) (.cons (eqS_api_Stat_ok v_r138.1 (S_api_Stat.mk v_s1.fKind v_n4 v_s1.fUser v_s1.fGroup v_s1.fSize v_s1.fLinks)) (.cons (vf h388) .nil))) q
  · rw [if_neg h387] at h
    cases h
    exact pkk_sound TTok mix hF 1 (hs := [.t false, .c, .c, .c, .c, .c, .c, .c, .c]) (ts := []) (s := []) (l := [10]) (by kernel_rfl) (by kernel_rfl) (.cons (bf h387) .nil) q
inductive G_ringlaw5_ModeSays_C15_R where
  | x0 (v_x317 : Bool)
def G_ringlaw5_ModeSays_C15_ex : G_ringlaw5_ModeSays_C15_R → Ex
  | .x0 _ => .normal
def G_ringlaw5_ModeSays_C15_st (v_r138 : (S_api_Stat × Int)) (v_r164 : (S_api_Stat × Int)) (v_z267 : Int) (v_z298 : Int) (v_s1 : S_api_Stat) (v_n4 : Int) (v_m5 : Int) : G_ringlaw5_ModeSays_C15_R → PS
  | .x0 v_x317 => ⟨[dd, dd, dd, dd, dd, dd, dd, dd, dd, dd, .d (.v (.bool v_x317)), dd, dd, dd, dd, dd, dd, dd, dd, dd, dd, dd, dd, dd, dd, dd, dd, dd, dd, dd, dd, dd, dd, dd, dd, dd, dd, dd, dd, dd, dd, dd, dd, dd, dd, dd, dd, dd, dd, dd, dd, dd, dd, dd, dd, dd, dd, dd, dd, dd, dd, dd, dd, dd, dd, dd, dd, dd, dd, dd, dd, dd, dd, dd, dd, dd, dd, dd, dd, dd, dd, dd, dd, dd, dd, dd, dd, dd, dd, dd, dd, dd, dd, dd, dd, dd, dd, dd, dd, dd, dd, dd, dd, dd, dd, dd, dd, dd, dd, dd, dd, dd, dd, dd, dd, dd, dd, dd, dd, dd, dd, dd, dd, dd, dd, dd, dd, dd, dd, dd, dd, dd, dd, dd, dd, dd, dd, dd, dd, dd, dd, dd, dd, dd, dd, dd, dd, dd, dd, dd, dd, dd, dd, dd, dd, dd, dd, dd, dd, dd, dd, dd, dd, dd, dd, dd, dd, dd, dd, dd, dd, dd, dd, dd, dd, dd, dd, dd, dd, dd, dd, dd, dd, dd, dd, dd, dd, dd, dd, dd, dd, dd, dd, dd, dd, dd, dd, dd], []⟩
def G_ringlaw5_ModeSays_C15_hd (v_r138 : (S_api_Stat × Int)) (v_r164 : (S_api_Stat × Int)) (v_z267 : Int) (v_z298 : Int) (v_s1 : S_api_Stat) (v_n4 : Int) (v_m5 : Int)  : PS := ⟨[dd, dd, dd, dd, dd, dd, dd, dd, dd, dd, dd, dd, dd, .ref 0 0, .d (.v (.int .i64 v_r138.2)), .ref 1 0, .d (.v (.int .i64 v_r164.2)), dd, .ref 2 0, .ref 3 0, dd, .d (.v (.int .i64 v_z267)), .d (.v (.int .i64 v_z298)), dd, dd, dd, dd, dd, dd, dd, dd, dd, dd, dd, dd, dd, dd, dd, dd, dd, dd, dd, dd, dd, dd, dd, dd, dd, dd, dd, dd, dd, dd, dd, dd, dd, dd, dd, dd, dd, dd, dd, dd, dd, dd, dd, dd, dd, dd, dd, dd, dd, dd, dd, dd, dd, dd, dd, dd, dd, dd, dd, dd, dd, dd, dd, dd, dd, dd, dd, dd, dd, dd, dd, dd, dd, dd, dd, dd, dd, dd, dd, dd, dd, dd, dd, dd, dd, dd, dd, dd, dd, dd, dd, dd, dd, dd, dd, dd, dd, dd, dd, dd, dd, dd, dd, dd, dd, dd, dd, dd, dd, dd, dd, dd, dd, dd, dd, dd, dd, dd, dd, dd, dd, dd, dd, dd, dd, dd, dd, dd, dd, dd, dd, dd, dd, dd, dd, dd, dd, dd, dd, dd, dd, dd, dd, dd, dd, dd, dd, dd, dd, dd, dd, dd, dd, dd, dd, dd, dd, dd, dd, dd, dd, dd, dd, dd, dd, dd, dd, dd, dd, dd, dd, dd, dd, dd, dd], [.box [.d (.v (.int .i64 v_r138.1.fKind)), .d (.v (.int .i64 v_r138.1.fMode)), .d (.v (.int .i64 v_r138.1.fUser)), .d (.v (.int .i64 v_r138.1.fGroup)), .d (.v (.int .i64 v_r138.1.fSize)), .d (.v (.int .i64 v_r138.1.fLinks))], .box [.d (.v (.int .i64 v_r164.1.fKind)), .d (.v (.int .i64 v_r164.1.fMode)), .d (.v (.int .i64 v_r164.1.fUser)), .d (.v (.int .i64 v_r164.1.fGroup)), .d (.v (.int .i64 v_r164.1.fSize)), .d (.v (.int .i64 v_r164.1.fLinks))], .box [.d (.v (.int .i64 v_s1.fKind)), .d (.v (.int .i64 v_n4)), .d (.v (.int .i64 v_s1.fUser)), .d (.v (.int .i64 v_s1.fGroup)), .d (.v (.int .i64 v_s1.fSize)), .d (.v (.int .i64 v_s1.fLinks))], .box [.d (.v (.int .i64 v_s1.fKind)), .d (.v (.int .i64 v_s1.fMode)), .d (.v (.int .i64 v_n4)), .d (.v (.int .i64 v_m5)), .d (.v (.int .i64 v_s1.fSize)), .d (.v (.int .i64 v_s1.fLinks))]]⟩
def G_ringlaw5_ModeSays_C15 (n : Nat) (v_r138 : (S_api_Stat × Int)) (v_r164 : (S_api_Stat × Int)) (v_z267 : Int) (v_z298 : Int) (v_s1 : S_api_Stat) (v_n4 : Int) (v_m5 : Int) : Option G_ringlaw5_ModeSays_C15_R :=
  if v_r138.2 = v_z267 then
   if (eqRes .eql (eqS_api_Stat v_r138.1 (S_api_Stat.mk v_s1.fKind v_n4 v_s1.fUser v_s1.fGroup v_s1.fSize v_s1.fLinks))) = true then
    if v_r164.2 = v_z298 then
     some (.x0 (eqRes .eql (eqS_api_Stat v_r164.1 (S_api_Stat.mk v_s1.fKind v_s1.fMode v_n4 v_m5 v_s1.fSize v_s1.fLinks))))
    else
     some (.x0 false)
   else
    some (.x0 false)
  else
   some (.x0 false)
theorem G_ringlaw5_ModeSays_C15_ok {Fi : Ex → PS → Prop} (hF : KC 198 Fi) (ks : List Fr) (n : Nat) (v_r138 : (S_api_Stat × Int)) (v_r164 : (S_api_Stat × Int)) (v_z267 : Int) (v_z298 : Int) (v_s1 : S_api_Stat) (v_n4 : Int) (v_m5 : Int)  (o : G_ringlaw5_ModeSays_C15_R) (h : G_ringlaw5_ModeSays_C15 n v_r138 v_r164 v_z267 v_z298 v_s1 v_n4 v_m5 = some o) (q : RunE Try.prog 198 Fi ks (G_ringlaw5_ModeSays_C15_ex o) (G_ringlaw5_ModeSays_C15_st v_r138 v_r164 v_z267 v_z298 v_s1 v_n4 v_m5 o)) : RunE Try.prog 198 Fi (.s (cL (cR (cR (cR (cR (cR (cR (cR (cR (cR (cR (cR (cR (cR (cR (cR (cR (cR (cR (bodyOf Try.f4)))))))))))))))))))) :: ks) .normal (G_ringlaw5_ModeSays_C15_hd v_r138 v_r164 v_z267 v_z298 v_s1 v_n4 v_m5) := by
  unfold G_ringlaw5_ModeSays_C15 at h
  by_cases h394 : v_r138.2 = v_z267
  · rw [if_pos h394] at h
    by_cases h395 : (eqRes .eql (eqS_api_Stat v_r138.1 (S_api_Stat.mk v_s1.fKind v_n4 v_s1.fUser v_s1.fGroup v_s1.fSize v_s1.fLinks))) = true
    · rw [if_pos h395] at h
      by_cases h396 : v_r164.2 = v_z298
      · rw [if_pos h396] at h
        cases h
        exact pkk_sound TTok mix hF 1 (hs := [.t true, .c, .c, .c, .c, .q (eqS_api_Stat v_r138.1 (S_api_Stat.mk v_s1.fKind v_n4 v_s1.fUser v_s1.fGroup v_s1.fSize v_s1.fLinks)), .t true, .c, .c, .t true, .c, .c, .c, .c, .q (eqS_api_Stat v_r164.1 (S_api_Stat.mk v_s1.fKind v_s1.fMode v_n4 v_m5 v_s1.fSize v_s1.fLinks))]) (ts := []) (s := []) (l := [10]) (by kernel_rfl) (by kernel_rfl) (.cons (bt h394) (.cons (eqS_api_Stat_ok v_r138.1 (S_api_Stat.mk v_s1.fKind v_n4 v_s1.fUser v_s1.fGroup v_s1.fSize v_s1.fLinks)) (.cons h395 (.cons (bt h396) (.cons (eqS_api_Stat_ok v_r164.1 (S_api_Stat.mk v_s1.fKind v_s1.fMode v_n4 v_m5 v_s1.fSize v_s1.fLinks)) .nil))))) q
      · rw [if_neg h396] at h
        cases h
        exact pkk_sound TTok mix hF 1 (hs := [.t true, .c, .c, .c, .c, .q (eqS_api_Stat v_r138.1 (S_api_Stat.mk v_s1.fKind v_n4 v_s1.fUser v_s1.fGroup v_s1.fSize v_s1.fLinks)), .t true, .c, .c, .t false, .c, .c]) (ts := []) (s := []) (l := [10]) (by kernel_rfl) (by kernel_rfl) (.cons (bt h394) (.cons (eqS_api_Stat_ok v_r138.1 (S_api_Stat.mk v_s1.fKind v_n4 v_s1.fUser v_s1.fGroup v_s1.fSize v_s1.fLinks)) (.cons h395 (.cons (bf h396) .nil)))) q
    · rw [if_neg h395] at h
      cases h
      exact pkk_sound TTok mix hF 1 (hs := [.t true, .c, .c, .c, .c, .q (eqS_api_Stat v_r138.1 (S_api_Stat.mk v_s1.fKind v_n4 v_s1.fUser v_s1.fGroup v_s1.fSize v_s1.fLinks)), .t false, .c, .c, .c, .c, .c]) (ts := []) (s := []) (l := [10]) (by kernel_rfl) (by kernel_rfl) (.cons (bt h394) (.cons (eqS_api_Stat_ok v_r138.1 (S_api_Stat.mk v_s1.fKind v_n4 v_s1.fUser v_s1.fGroup v_s1.fSize v_s1.fLinks)) (.cons (vf h395) .nil))) q
  · rw [if_neg h394] at h
    cases h
    exact pkk_sound TTok mix hF 1 (hs := [.t false, .c, .c, .c, .c, .c, .c, .c, .c]) (ts := []) (s := []) (l := [10]) (by kernel_rfl) (by kernel_rfl) (.cons (bf h394) .nil) q
inductive G_ringlaw5_ModeSays_C16_R where
  | x0 (v_x354 : Bool)
  | x1 
def G_ringlaw5_ModeSays_C16_ex : G_ringlaw5_ModeSays_C16_R → Ex
  | .x0 _ => .ret
  | .x1  => .normal
def G_ringlaw5_ModeSays_C16_st (v_want3 : Int) (v_n4 : Int) (v_m5 : Int) (v_r133 : (Bool × Int)) (v_r138 : (S_api_Stat × Int)) (v_r164 : (S_api_Stat × Int)) (v_s1 : S_api_Stat) (v_c2 : S_api_Cred) : G_ringlaw5_ModeSays_C16_R → PS
  | .x0 v_x354 => ⟨[dd, dd, dd, dd, dd, dd, dd, dd, dd, dd, .d (.v (.bool v_x354)), dd, dd, dd, dd, dd, dd, dd, dd, dd, dd, dd, dd, dd, dd, dd, dd, dd, dd, dd, dd, dd, dd, dd, dd, dd, dd, dd, dd, dd, dd, dd, dd, dd, dd, dd, dd, dd, dd, dd, dd, dd, dd, dd, dd, dd, dd, dd, dd, dd, dd, dd, dd, dd, dd, dd, dd, dd, dd, dd, dd, dd, dd, dd, dd, dd, dd, dd, dd, dd, dd, dd, dd, dd, dd, dd, dd, dd, dd, dd, dd, dd, dd, dd, dd, dd, dd, dd, dd, dd, dd, dd, dd, dd, dd, dd, dd, dd, dd, dd, dd, dd, dd, dd, dd, dd, dd, dd, dd, dd, dd, dd, dd, dd, dd, dd, dd, dd, dd, dd, dd, dd, dd, dd, dd, dd, dd, dd, dd, dd, dd, dd, dd, dd, dd, dd, dd, dd, dd, dd, dd, dd, dd, dd, dd, dd, dd, dd, dd, dd, dd, dd, dd, dd, dd, dd, dd, dd, dd, dd, dd, dd, dd, dd, dd, dd, dd, dd, dd, dd, dd, dd, dd, dd, dd, dd, dd, dd, dd, dd, dd, dd, dd, dd, dd, dd, dd, dd], []⟩
  | .x1  => ⟨[dd, dd, dd, .d (.v (.int .i64 v_n4)), .d (.v (.int .i64 v_m5)), .ref 0 0, .ref 1 0, dd, dd, dd, dd, dd, dd, .ref 2 0, .d (.v (.int .i64 v_r138.2)), .ref 3 0, .d (.v (.int .i64 v_r164.2)), dd, dd, dd, dd, dd, dd, dd, dd, dd, dd, dd, dd, dd, dd, dd, dd, dd, dd, dd, dd, dd, dd, dd, dd, dd, dd, dd, dd, dd, dd, dd, dd, dd, dd, dd, dd, dd, dd, dd, dd, dd, dd, dd, dd, dd, dd, dd, dd, dd, dd, dd, dd, dd, dd, dd, dd, dd, dd, dd, dd, dd, dd, dd, dd, dd, dd, dd, dd, dd, dd, dd, dd, dd, dd, dd, dd, dd, dd, dd, dd, dd, dd, dd, dd, dd, dd, dd, dd, dd, dd, dd, dd, dd, dd, dd, dd, dd, dd, dd, dd, dd, dd, dd, dd, dd, dd, dd, dd, dd, dd, dd, dd, dd, dd, dd, dd, dd, dd, dd, dd, dd, dd, dd, dd, dd, dd, dd, dd, dd, dd, dd, dd, dd, dd, dd, dd, dd, dd, dd, dd, dd, dd, dd, dd, dd, dd, dd, dd, dd, dd, dd, dd, dd, dd, dd, dd, dd, dd, dd, dd, dd, dd, dd, dd, dd, dd, dd, dd, dd, dd, dd, dd, dd, dd, dd, dd, dd, dd, dd, dd, dd], [.box [.d (.v (.int .i64 v_s1.fKind)), .d (.v (.int .i64 v_s1.fMode)), .d (.v (.int .i64 v_s1.fUser)), .d (.v (.int .i64 v_s1.fGroup)), .d (.v (.int .i64 v_s1.fSize)), .d (.v (.int .i64 v_s1.fLinks))], .box [.d (.v (.int .i64 v_c2.fUser)), .d (.v (.int .i64 v_c2.fGroup)), .d (.sl (v_c2.fMore.map (eI .i64))), .d (.v (.int .i64 v_c2.fCaps)), .d (.v (.int .i64 v_c2.fLevel)), .d (.v (.int .i64 v_c2.fKind))], .box [.d (.v (.int .i64 v_r138.1.fKind)), .d (.v (.int .i64 v_r138.1.fMode)), .d (.v (.int .i64 v_r138.1.fUser)), .d (.v (.int .i64 v_r138.1.fGroup)), .d (.v (.int .i64 v_r138.1.fSize)), .d (.v (.int .i64 v_r138.1.fLinks))], .box [.d (.v (.int .i64 v_r164.1.fKind)), .d (.v (.int .i64 v_r164.1.fMode)), .d (.v (.int .i64 v_r164.1.fUser)), .d (.v (.int .i64 v_r164.1.fGroup)), .d (.v (.int .i64 v_r164.1.fSize)), .d (.v (.int .i64 v_r164.1.fLinks))]]⟩
def G_ringlaw5_ModeSays_C16_hd (v_want3 : Int) (v_n4 : Int) (v_m5 : Int) (v_r133 : (Bool × Int)) (v_r138 : (S_api_Stat × Int)) (v_r164 : (S_api_Stat × Int)) (v_s1 : S_api_Stat) (v_c2 : S_api_Cred)  : PS := ⟨[dd, dd, .d (.v (.int .i64 v_want3)), .d (.v (.int .i64 v_n4)), .d (.v (.int .i64 v_m5)), .ref 0 0, .ref 1 0, dd, dd, dd, dd, .d (.v (.bool v_r133.1)), .d (.v (.int .i64 v_r133.2)), .ref 2 0, .d (.v (.int .i64 v_r138.2)), .ref 3 0, .d (.v (.int .i64 v_r164.2)), dd, dd, dd, dd, dd, dd, dd, dd, dd, dd, dd, dd, dd, dd, dd, dd, dd, dd, dd, dd, dd, dd, dd, dd, dd, dd, dd, dd, dd, dd, dd, dd, dd, dd, dd, dd, dd, dd, dd, dd, dd, dd, dd, dd, dd, dd, dd, dd, dd, dd, dd, dd, dd, dd, dd, dd, dd, dd, dd, dd, dd, dd, dd, dd, dd, dd, dd, dd, dd, dd, dd, dd, dd, dd, dd, .d (.v (.bool (decide (v_want3 > 7)))), dd, dd, dd, dd, dd, dd, dd, dd, dd, dd, dd, dd, dd, dd, dd, dd, dd, dd, dd, dd, dd, dd, dd, dd, dd, dd, dd, dd, dd, dd, dd, dd, dd, dd, dd, dd, dd, dd, dd, dd, dd, dd, dd, dd, dd, dd, dd, dd, dd, dd, dd, dd, dd, dd, dd, dd, dd, dd, dd, dd, dd, dd, dd, dd, dd, dd, dd, dd, dd, dd, dd, dd, dd, dd, dd, dd, dd, dd, dd, dd, dd, dd, dd, dd, dd, dd, dd, dd, dd, dd, dd, dd, dd, dd, dd, dd, dd, dd, dd, dd, dd, dd, dd, dd, dd], [.box [.d (.v (.int .i64 v_s1.fKind)), .d (.v (.int .i64 v_s1.fMode)), .d (.v (.int .i64 v_s1.fUser)), .d (.v (.int .i64 v_s1.fGroup)), .d (.v (.int .i64 v_s1.fSize)), .d (.v (.int .i64 v_s1.fLinks))], .box [.d (.v (.int .i64 v_c2.fUser)), .d (.v (.int .i64 v_c2.fGroup)), .d (.sl (v_c2.fMore.map (eI .i64))), .d (.v (.int .i64 v_c2.fCaps)), .d (.v (.int .i64 v_c2.fLevel)), .d (.v (.int .i64 v_c2.fKind))], .box [.d (.v (.int .i64 v_r138.1.fKind)), .d (.v (.int .i64 v_r138.1.fMode)), .d (.v (.int .i64 v_r138.1.fUser)), .d (.v (.int .i64 v_r138.1.fGroup)), .d (.v (.int .i64 v_r138.1.fSize)), .d (.v (.int .i64 v_r138.1.fLinks))], .box [.d (.v (.int .i64 v_r164.1.fKind)), .d (.v (.int .i64 v_r164.1.fMode)), .d (.v (.int .i64 v_r164.1.fUser)), .d (.v (.int .i64 v_r164.1.fGroup)), .d (.v (.int .i64 v_r164.1.fSize)), .d (.v (.int .i64 v_r164.1.fLinks))]]⟩
def G_ringlaw5_ModeSays_C16 (n : Nat) (v_want3 : Int) (v_n4 : Int) (v_m5 : Int) (v_r133 : (Bool × Int)) (v_r138 : (S_api_Stat × Int)) (v_r164 : (S_api_Stat × Int)) (v_s1 : S_api_Stat) (v_c2 : S_api_Cred) : Option G_ringlaw5_ModeSays_C16_R :=
  if v_want3 > 7 then
   if v_r133.2 = 1 then
    if v_r133.1 = true then
     some (.x0 false)
    else
     some (.x1 )
   else
    some (.x0 false)
  else
   if v_r133.2 = 0 then
    (G_ringref5_MayOf n v_s1 v_c2 v_want3).bind fun (v_r358 : (Bool)) =>
    if (eqRes .neq (v_r133.1 == v_r358)) = true then
     some (.x0 false)
    else
     some (.x1 )
   else
    some (.x0 false)
theorem G_ringlaw5_ModeSays_C16_ok {Fi : Ex → PS → Prop} (hF : KC 198 Fi) (ks : List Fr) (n : Nat) (v_want3 : Int) (v_n4 : Int) (v_m5 : Int) (v_r133 : (Bool × Int)) (v_r138 : (S_api_Stat × Int)) (v_r164 : (S_api_Stat × Int)) (v_s1 : S_api_Stat) (v_c2 : S_api_Cred)  (o : G_ringlaw5_ModeSays_C16_R) (h : G_ringlaw5_ModeSays_C16 n v_want3 v_n4 v_m5 v_r133 v_r138 v_r164 v_s1 v_c2 = some o) (q : RunE Try.prog 198 Fi ks (G_ringlaw5_ModeSays_C16_ex o) (G_ringlaw5_ModeSays_C16_st v_want3 v_n4 v_m5 v_r133 v_r138 v_r164 v_s1 v_c2 o)) : RunE Try.prog 198 Fi (.s (cR (cL (cR (cR (cR (cR (cR (cR (cR (cR (cR (bodyOf Try.f4)))))))))))) :: ks) .normal (G_ringlaw5_ModeSays_C16_hd v_want3 v_n4 v_m5 v_r133 v_r138 v_r164 v_s1 v_c2) := by
  unfold G_ringlaw5_ModeSays_C16 at h
  by_cases h460 : v_want3 > 7
  · rw [if_pos h460] at h
    by_cases h461 : v_r133.2 = 1
    · rw [if_pos h461] at h
      by_cases h462 : v_r133.1 = true
      · rw [if_pos h462] at h
        cases h
        exact pkk_sound TTok mix hF 7 (hs := [.t true, .t false, .t true]) (ts := []) (s := []) (l := [10]) (by kernel_rfl) (by kernel_rfl) (.cons (dt h460) (.cons (nf h461) (.cons h462 .nil))) q
      · rw [if_neg h462] at h
        cases h
        exact pkk_sound TTok mix hF 5 (hs := [.t true, .t false, .t false]) (ts := []) (s := [0, 1, 2, 3]) (l := [3, 4, 5, 6, 13, 14, 15, 16]) (by kernel_rfl) (by kernel_rfl) (.cons (dt h460) (.cons (nf h461) (.cons (vf h462) .nil))) q
    · rw [if_neg h461] at h
      cases h
      exact pkk_sound TTok mix hF 7 (hs := [.t true, .t true, .c]) (ts := []) (s := []) (l := [10]) (by kernel_rfl) (by kernel_rfl) (.cons (dt h460) (.cons (nt h461) .nil)) q
  · rw [if_neg h460] at h
    by_cases h465 : v_r133.2 = 0
    · rw [if_pos h465] at h
      obtain ⟨v_r358, h466, h⟩ := bind_some h
      by_cases h467 : (eqRes .neq (v_r133.1 == v_r358)) = true
      · rw [if_pos h467] at h
        cases h
        exact pkk_sound TTok mix hF 7 (hs := [.t false, .t false, .c, .c, .c, .c, .c, .c, .r (eB v_r358), .c, .t true]) (ts := []) (s := []) (l := [10]) (by kernel_rfl) (by kernel_rfl) (.cons (df h460) (.cons (nf h465) (.cons (G_ringref5_MayOf_ok n v_s1 v_c2 v_want3 _ h466) (.cons h467 .nil)))) q
      · rw [if_neg h467] at h
        cases h
        exact pkk_sound TTok mix hF 5 (hs := [.t false, .t false, .c, .c, .c, .c, .c, .c, .r (eB v_r358), .c, .t false]) (ts := []) (s := [0, 1, 2, 3]) (l := [3, 4, 5, 6, 13, 14, 15, 16]) (by kernel_rfl) (by kernel_rfl) (.cons (df h460) (.cons (nf h465) (.cons (G_ringref5_MayOf_ok n v_s1 v_c2 v_want3 _ h466) (.cons (vf h467) .nil)))) q
    · rw [if_neg h465] at h
      cases h
      exact pkk_sound TTok mix hF 7 (hs := [.t false, .t true, .c, .c, .c, .c, .c, .c]) (ts := []) (s := []) (l := [10]) (by kernel_rfl) (by kernel_rfl) (.cons (df h460) (.cons (nt h465) .nil)) q
inductive G_ringlaw5_ModeSays_C17_R where
  | x0 (v_x362 : Bool)
def G_ringlaw5_ModeSays_C17_ex : G_ringlaw5_ModeSays_C17_R → Ex
  | .x0 _ => .normal
def G_ringlaw5_ModeSays_C17_st (v_n4 : Int) (v_m5 : Int) (v_r138 : (S_api_Stat × Int)) (v_r164 : (S_api_Stat × Int)) (v_c2 : S_api_Cred) (v_s1 : S_api_Stat) : G_ringlaw5_ModeSays_C17_R → PS
  | .x0 v_x362 => ⟨[dd, dd, dd, .d (.v (.int .i64 v_n4)), .d (.v (.int .i64 v_m5)), .ref 0 0, .ref 1 0, dd, dd, dd, dd, dd, dd, .ref 2 0, .d (.v (.int .i64 v_r138.2)), .ref 3 0, .d (.v (.int .i64 v_r164.2)), dd, .ref 4 0, .ref 5 0, .d (.v (.bool ((remI (quoI .i64 v_c2.fCaps 4) 2) == 1))), .d (.v (.int .i64 1)), .d (.v (.int .i64 0)), dd, dd, dd, dd, dd, dd, dd, dd, dd, dd, dd, dd, dd, dd, dd, dd, dd, dd, dd, dd, dd, dd, dd, dd, dd, dd, dd, dd, dd, dd, dd, dd, dd, dd, dd, dd, dd, dd, dd, dd, dd, dd, dd, dd, dd, dd, dd, dd, dd, dd, dd, dd, dd, dd, dd, dd, dd, dd, dd, dd, dd, dd, dd, dd, dd, dd, dd, dd, dd, dd, dd, dd, dd, dd, dd, dd, dd, dd, dd, dd, dd, dd, dd, dd, dd, dd, dd, dd, dd, dd, dd, dd, dd, dd, dd, dd, dd, dd, dd, dd, dd, dd, dd, dd, dd, dd, dd, dd, dd, dd, dd, dd, dd, dd, dd, dd, dd, dd, dd, dd, dd, dd, .d (.v (.bool v_x362)), dd, dd, dd, dd, dd, dd, dd, dd, dd, dd, dd, dd, dd, dd, dd, dd, dd, dd, dd, dd, dd, dd, dd, dd, dd, dd, dd, dd, dd, dd, dd, dd, dd, dd, dd, dd, dd, dd, dd, dd, dd, dd, dd, dd, dd, dd, dd, dd, dd, dd, dd, dd], [.box [.d (.v (.int .i64 v_s1.fKind)), .d (.v (.int .i64 v_s1.fMode)), .d (.v (.int .i64 v_s1.fUser)), .d (.v (.int .i64 v_s1.fGroup)), .d (.v (.int .i64 v_s1.fSize)), .d (.v (.int .i64 v_s1.fLinks))], .box [.d (.v (.int .i64 v_c2.fUser)), .d (.v (.int .i64 v_c2.fGroup)), .d (.sl (v_c2.fMore.map (eI .i64))), .d (.v (.int .i64 v_c2.fCaps)), .d (.v (.int .i64 v_c2.fLevel)), .d (.v (.int .i64 v_c2.fKind))], .box [.d (.v (.int .i64 v_r138.1.fKind)), .d (.v (.int .i64 v_r138.1.fMode)), .d (.v (.int .i64 v_r138.1.fUser)), .d (.v (.int .i64 v_r138.1.fGroup)), .d (.v (.int .i64 v_r138.1.fSize)), .d (.v (.int .i64 v_r138.1.fLinks))], .box [.d (.v (.int .i64 v_r164.1.fKind)), .d (.v (.int .i64 v_r164.1.fMode)), .d (.v (.int .i64 v_r164.1.fUser)), .d (.v (.int .i64 v_r164.1.fGroup)), .d (.v (.int .i64 v_r164.1.fSize)), .d (.v (.int .i64 v_r164.1.fLinks))], .box [.d (.v (.int .i64 v_s1.fKind)), .d (.v (.int .i64 v_n4)), .d (.v (.int .i64 v_s1.fUser)), .d (.v (.int .i64 v_s1.fGroup)), .d (.v (.int .i64 v_s1.fSize)), .d (.v (.int .i64 v_s1.fLinks))], .box [.d (.v (.int .i64 v_s1.fKind)), .d (.v (.int .i64 v_s1.fMode)), .d (.v (.int .i64 v_n4)), .d (.v (.int .i64 v_m5)), .d (.v (.int .i64 v_s1.fSize)), .d (.v (.int .i64 v_s1.fLinks))]]⟩
def G_ringlaw5_ModeSays_C17_hd (v_n4 : Int) (v_m5 : Int) (v_r138 : (S_api_Stat × Int)) (v_r164 : (S_api_Stat × Int)) (v_c2 : S_api_Cred) (v_s1 : S_api_Stat)  : PS := ⟨[dd, dd, dd, .d (.v (.int .i64 v_n4)), .d (.v (.int .i64 v_m5)), .ref 0 0, .ref 1 0, dd, dd, dd, dd, dd, dd, .ref 2 0, .d (.v (.int .i64 v_r138.2)), .ref 3 0, .d (.v (.int .i64 v_r164.2)), dd, .ref 4 0, .ref 5 0, .d (.v (.bool ((remI (quoI .i64 v_c2.fCaps 4) 2) == 1))), .d (.v (.int .i64 1)), .d (.v (.int .i64 0)), dd, dd, dd, dd, dd, dd, dd, dd, dd, dd, dd, dd, dd, dd, dd, dd, dd, dd, dd, dd, dd, dd, dd, dd, dd, dd, dd, dd, dd, dd, dd, dd, dd, dd, dd, dd, dd, dd, dd, dd, dd, dd, dd, dd, dd, dd, dd, dd, dd, dd, dd, dd, dd, dd, dd, dd, dd, dd, dd, dd, dd, dd, dd, dd, dd, dd, dd, dd, dd, dd, dd, dd, dd, dd, dd, dd, dd, dd, dd, dd, dd, dd, dd, dd, dd, dd, dd, dd, dd, dd, dd, dd, dd, dd, dd, dd, dd, dd, dd, dd, dd, dd, dd, dd, dd, dd, dd, dd, dd, dd, dd, dd, dd, dd, dd, dd, dd, dd, dd, dd, dd, dd, dd, dd, dd, dd, dd, dd, dd, dd, dd, dd, dd, dd, dd, dd, dd, dd, dd, dd, dd, dd, dd, dd, dd, dd, dd, dd, dd, dd, dd, dd, dd, dd, dd, dd, dd, dd, dd, dd, dd, dd, dd, dd, dd, dd, dd, dd, dd, dd, dd, dd, dd, dd, dd], [.box [.d (.v (.int .i64 v_s1.fKind)), .d (.v (.int .i64 v_s1.fMode)), .d (.v (.int .i64 v_s1.fUser)), .d (.v (.int .i64 v_s1.fGroup)), .d (.v (.int .i64 v_s1.fSize)), .d (.v (.int .i64 v_s1.fLinks))], .box [.d (.v (.int .i64 v_c2.fUser)), .d (.v (.int .i64 v_c2.fGroup)), .d (.sl (v_c2.fMore.map (eI .i64))), .d (.v (.int .i64 v_c2.fCaps)), .d (.v (.int .i64 v_c2.fLevel)), .d (.v (.int .i64 v_c2.fKind))], .box [.d (.v (.int .i64 v_r138.1.fKind)), .d (.v (.int .i64 v_r138.1.fMode)), .d (.v (.int .i64 v_r138.1.fUser)), .d (.v (.int .i64 v_r138.1.fGroup)), .d (.v (.int .i64 v_r138.1.fSize)), .d (.v (.int .i64 v_r138.1.fLinks))], .box [.d (.v (.int .i64 v_r164.1.fKind)), .d (.v (.int .i64 v_r164.1.fMode)), .d (.v (.int .i64 v_r164.1.fUser)), .d (.v (.int .i64 v_r164.1.fGroup)), .d (.v (.int .i64 v_r164.1.fSize)), .d (.v (.int .i64 v_r164.1.fLinks))], .box [.d (.v (.int .i64 v_s1.fKind)), .d (.v (.int .i64 v_n4)), .d (.v (.int .i64 v_s1.fUser)), .d (.v (.int .i64 v_s1.fGroup)), .d (.v (.int .i64 v_s1.fSize)), .d (.v (.int .i64 v_s1.fLinks))], .box [.d (.v (.int .i64 v_s1.fKind)), .d (.v (.int .i64 v_s1.fMode)), .d (.v (.int .i64 v_n4)), .d (.v (.int .i64 v_m5)), .d (.v (.int .i64 v_s1.fSize)), .d (.v (.int .i64 v_s1.fLinks))]]⟩
def G_ringlaw5_ModeSays_C17 (n : Nat) (v_n4 : Int) (v_m5 : Int) (v_r138 : (S_api_Stat × Int)) (v_r164 : (S_api_Stat × Int)) (v_c2 : S_api_Cred) (v_s1 : S_api_Stat) : Option G_ringlaw5_ModeSays_C17_R :=
  if (minI v_n4 v_m5) < 0 then
   some (.x0 true)
  else
   some (.x0 (decide ((maxI v_n4 v_m5) > 99)))
theorem G_ringlaw5_ModeSays_C17_ok {Fi : Ex → PS → Prop} (hF : KC 198 Fi) (ks : List Fr) (n : Nat) (v_n4 : Int) (v_m5 : Int) (v_r138 : (S_api_Stat × Int)) (v_r164 : (S_api_Stat × Int)) (v_c2 : S_api_Cred) (v_s1 : S_api_Stat)  (o : G_ringlaw5_ModeSays_C17_R) (h : G_ringlaw5_ModeSays_C17 n v_n4 v_m5 v_r138 v_r164 v_c2 v_s1 = some o) (q : RunE Try.prog 198 Fi ks (G_ringlaw5_ModeSays_C17_ex o) (G_ringlaw5_ModeSays_C17_st v_n4 v_m5 v_r138 v_r164 v_c2 v_s1 o)) : RunE Try.prog 198 Fi (.s (cL (cL (cR (cR (cR (cR (cR (cR (cR (cR (cR (cR (cR (cR (cR (cR (cR (bodyOf Try.f4)))))))))))))))))) :: ks) .normal (G_ringlaw5_ModeSays_C17_hd v_n4 v_m5 v_r138 v_r164 v_c2 v_s1) := by
  unfold G_ringlaw5_ModeSays_C17 at h
  by_cases h473 : (minI v_n4 v_m5) < 0
  · rw [if_pos h473] at h
    cases h
    exact pkk_sound TTok mix hF 1 (hs := [.t true, .c, .c, .c]) (ts := []) (s := [0, 1, 2, 3, 4, 5]) (l := [3, 4, 5, 6, 13, 14, 15, 16, 18, 19, 20, 21, 22, 145]) (by kernel_rfl) (by kernel_rfl) (.cons (dt h473) .nil) q
  · rw [if_neg h473] at h
    cases h
    exact pkk_sound TTok mix hF 1 (hs := [.t false, .c, .c, .c]) (ts := []) (s := [0, 1, 2, 3, 4, 5]) (l := [3, 4, 5, 6, 13, 14, 15, 16, 18, 19, 20, 21, 22, 145]) (by kernel_rfl) (by kernel_rfl) (.cons (df h473) .nil) q
inductive G_ringlaw5_ModeSays_C18_R where
  | x0 (v_x380 : Bool)
def G_ringlaw5_ModeSays_C18_ex : G_ringlaw5_ModeSays_C18_R → Ex
  | .x0 _ => .normal
def G_ringlaw5_ModeSays_C18_st (v_n4 : Int) (v_m5 : Int) (v_r138 : (S_api_Stat × Int)) (v_r164 : (S_api_Stat × Int)) (v_c2 : S_api_Cred) (v_s1 : S_api_Stat) : G_ringlaw5_ModeSays_C18_R → PS
  | .x0 v_x380 => ⟨[dd, dd, dd, dd, dd, dd, dd, dd, dd, dd, dd, dd, dd, .ref 0 0, .d (.v (.int .i64 v_r138.2)), .ref 1 0, .d (.v (.int .i64 v_r164.2)), dd, .ref 2 0, .ref 3 0, dd, .d (.v (.int .i64 1)), .d (.v (.int .i64 0)), dd, dd, dd, dd, dd, dd, dd, dd, dd, dd, dd, dd, dd, dd, dd, dd, dd, dd, dd, dd, dd, dd, dd, dd, dd, dd, dd, dd, dd, dd, dd, dd, dd, dd, dd, dd, dd, dd, dd, dd, dd, dd, dd, dd, dd, dd, dd, dd, dd, dd, dd, dd, dd, dd, dd, dd, dd, dd, dd, dd, dd, dd, dd, dd, dd, dd, dd, dd, dd, dd, dd, dd, dd, dd, dd, dd, dd, dd, dd, dd, dd, dd, dd, dd, dd, dd, dd, dd, dd, dd, dd, dd, dd, dd, dd, dd, dd, dd, dd, dd, dd, dd, dd, dd, dd, dd, dd, dd, dd, dd, dd, dd, dd, dd, dd, dd, dd, dd, dd, dd, dd, dd, dd, dd, dd, dd, dd, dd, dd, dd, dd, dd, dd, dd, dd, dd, dd, dd, dd, dd, dd, dd, dd, dd, dd, dd, dd, dd, dd, dd, .d (.v (.bool v_x380)), dd, dd, dd, dd, dd, dd, dd, dd, dd, dd, dd, dd, dd, dd, dd, dd, dd, dd, dd, dd, dd, dd, dd, dd], [.box [.d (.v (.int .i64 v_r138.1.fKind)), .d (.v (.int .i64 v_r138.1.fMode)), .d (.v (.int .i64 v_r138.1.fUser)), .d (.v (.int .i64 v_r138.1.fGroup)), .d (.v (.int .i64 v_r138.1.fSize)), .d (.v (.int .i64 v_r138.1.fLinks))], .box [.d (.v (.int .i64 v_r164.1.fKind)), .d (.v (.int .i64 v_r164.1.fMode)), .d (.v (.int .i64 v_r164.1.fUser)), .d (.v (.int .i64 v_r164.1.fGroup)), .d (.v (.int .i64 v_r164.1.fSize)), .d (.v (.int .i64 v_r164.1.fLinks))], .box [.d (.v (.int .i64 v_s1.fKind)), .d (.v (.int .i64 v_n4)), .d (.v (.int .i64 v_s1.fUser)), .d (.v (.int .i64 v_s1.fGroup)), .d (.v (.int .i64 v_s1.fSize)), .d (.v (.int .i64 v_s1.fLinks))], .box [.d (.v (.int .i64 v_s1.fKind)), .d (.v (.int .i64 v_s1.fMode)), .d (.v (.int .i64 v_n4)), .d (.v (.int .i64 v_m5)), .d (.v (.int .i64 v_s1.fSize)), .d (.v (.int .i64 v_s1.fLinks))]]⟩
def G_ringlaw5_ModeSays_C18_hd (v_n4 : Int) (v_m5 : Int) (v_r138 : (S_api_Stat × Int)) (v_r164 : (S_api_Stat × Int)) (v_c2 : S_api_Cred) (v_s1 : S_api_Stat)  : PS := ⟨[dd, dd, dd, .d (.v (.int .i64 v_n4)), .d (.v (.int .i64 v_m5)), .ref 0 0, .ref 1 0, dd, dd, dd, dd, dd, dd, .ref 2 0, .d (.v (.int .i64 v_r138.2)), .ref 3 0, .d (.v (.int .i64 v_r164.2)), dd, .ref 4 0, .ref 5 0, .d (.v (.bool ((remI (quoI .i64 v_c2.fCaps 4) 2) == 1))), .d (.v (.int .i64 1)), .d (.v (.int .i64 0)), dd, dd, dd, dd, dd, dd, dd, dd, dd, dd, dd, dd, dd, dd, dd, dd, dd, dd, dd, dd, dd, dd, dd, dd, dd, dd, dd, dd, dd, dd, dd, dd, dd, dd, dd, dd, dd, dd, dd, dd, dd, dd, dd, dd, dd, dd, dd, dd, dd, dd, dd, dd, dd, dd, dd, dd, dd, dd, dd, dd, dd, dd, dd, dd, dd, dd, dd, dd, dd, dd, dd, dd, dd, dd, dd, dd, dd, dd, dd, dd, dd, dd, dd, dd, dd, dd, dd, dd, dd, dd, dd, dd, dd, dd, dd, dd, dd, dd, dd, dd, dd, dd, dd, dd, dd, dd, dd, dd, dd, dd, dd, dd, dd, dd, dd, dd, dd, dd, dd, dd, dd, dd, dd, dd, dd, dd, dd, dd, dd, dd, dd, dd, dd, dd, dd, dd, dd, dd, dd, dd, dd, dd, dd, dd, dd, dd, dd, dd, dd, dd, dd, dd, dd, dd, dd, dd, dd, dd, dd, dd, dd, dd, dd, dd, dd, dd, dd, dd, dd, dd, dd, dd, dd, dd, dd], [.box [.d (.v (.int .i64 v_s1.fKind)), .d (.v (.int .i64 v_s1.fMode)), .d (.v (.int .i64 v_s1.fUser)), .d (.v (.int .i64 v_s1.fGroup)), .d (.v (.int .i64 v_s1.fSize)), .d (.v (.int .i64 v_s1.fLinks))], .box [.d (.v (.int .i64 v_c2.fUser)), .d (.v (.int .i64 v_c2.fGroup)), .d (.sl (v_c2.fMore.map (eI .i64))), .d (.v (.int .i64 v_c2.fCaps)), .d (.v (.int .i64 v_c2.fLevel)), .d (.v (.int .i64 v_c2.fKind))], .box [.d (.v (.int .i64 v_r138.1.fKind)), .d (.v (.int .i64 v_r138.1.fMode)), .d (.v (.int .i64 v_r138.1.fUser)), .d (.v (.int .i64 v_r138.1.fGroup)), .d (.v (.int .i64 v_r138.1.fSize)), .d (.v (.int .i64 v_r138.1.fLinks))], .box [.d (.v (.int .i64 v_r164.1.fKind)), .d (.v (.int .i64 v_r164.1.fMode)), .d (.v (.int .i64 v_r164.1.fUser)), .d (.v (.int .i64 v_r164.1.fGroup)), .d (.v (.int .i64 v_r164.1.fSize)), .d (.v (.int .i64 v_r164.1.fLinks))], .box [.d (.v (.int .i64 v_s1.fKind)), .d (.v (.int .i64 v_n4)), .d (.v (.int .i64 v_s1.fUser)), .d (.v (.int .i64 v_s1.fGroup)), .d (.v (.int .i64 v_s1.fSize)), .d (.v (.int .i64 v_s1.fLinks))], .box [.d (.v (.int .i64 v_s1.fKind)), .d (.v (.int .i64 v_s1.fMode)), .d (.v (.int .i64 v_n4)), .d (.v (.int .i64 v_m5)), .d (.v (.int .i64 v_s1.fSize)), .d (.v (.int .i64 v_s1.fLinks))]]⟩
def G_ringlaw5_ModeSays_C18 (n : Nat) (v_n4 : Int) (v_m5 : Int) (v_r138 : (S_api_Stat × Int)) (v_r164 : (S_api_Stat × Int)) (v_c2 : S_api_Cred) (v_s1 : S_api_Stat) : Option G_ringlaw5_ModeSays_C18_R :=
  if (remI (quoI .i64 v_c2.fCaps 4) 2) = 1 then
   some (.x0 false)
  else
   if v_c2.fUser = v_s1.fUser then
    if v_n4 = v_s1.fUser then
     if v_m5 = v_s1.fGroup then
      some (.x0 false)
     else
      (G_ringref5_Groups n v_c2).bind fun (v_r382 : ((List Int))) =>
      (G_slices_Contains_int_int n v_r382 v_m5).bind fun (v_r383 : (Bool)) =>
      some (.x0 (!v_r383))
    else
     some (.x0 true)
   else
    some (.x0 true)
theorem G_ringlaw5_ModeSays_C18_ok {Fi : Ex → PS → Prop} (hF : KC 198 Fi) (ks : List Fr) (n : Nat) (v_n4 : Int) (v_m5 : Int) (v_r138 : (S_api_Stat × Int)) (v_r164 : (S_api_Stat × Int)) (v_c2 : S_api_Cred) (v_s1 : S_api_Stat)  (o : G_ringlaw5_ModeSays_C18_R) (h : G_ringlaw5_ModeSays_C18 n v_n4 v_m5 v_r138 v_r164 v_c2 v_s1 = some o) (q : RunE Try.prog 198 Fi ks (G_ringlaw5_ModeSays_C18_ex o) (G_ringlaw5_ModeSays_C18_st v_n4 v_m5 v_r138 v_r164 v_c2 v_s1 o)) : RunE Try.prog 198 Fi (.s (cL (cF (cR (cL (cR (cR (cR (cR (cR (cR (cR (cR (cR (cR (cR (cR (cR (cR (cR (bodyOf Try.f4)))))))))))))))))))) :: ks) .normal (G_ringlaw5_ModeSays_C18_hd v_n4 v_m5 v_r138 v_r164 v_c2 v_s1) := by
  unfold G_ringlaw5_ModeSays_C18 at h
  by_cases h497 : (remI (quoI .i64 v_c2.fCaps 4) 2) = 1
  · rw [if_pos h497] at h
    cases h
    exact pkk_sound TTok mix hF 1 (hs := [.t false, .c, .c, .c, .c, .c, .c, .c, .c]) (ts := []) (s := [2, 3, 4, 5]) (l := [13, 14, 15, 16, 18, 19, 21, 22, 173]) (by kernel_rfl) (by kernel_rfl) (.cons (bnf (bt h497)) .nil) q
  · rw [if_neg h497] at h
    by_cases h498 : v_c2.fUser = v_s1.fUser
    · rw [if_pos h498] at h
      by_cases h499 : v_n4 = v_s1.fUser
      · rw [if_pos h499] at h
        by_cases h500 : v_m5 = v_s1.fGroup
        · rw [if_pos h500] at h
          cases h
          exact pkk_sound TTok mix hF 1 (hs := [.t true, .c, .c, .c, .c, .c, .c, .c, .t false, .c, .c, .c, .c, .c, .c, .t false, .c, .c, .c, .c, .c, .t false, .c, .c, .c, .c, .c, .c]) (ts := []) (s := [2, 3, 4, 5]) (l := [13, 14, 15, 16, 18, 19, 21, 22, 173]) (by kernel_rfl) (by kernel_rfl) (.cons (bnt (bf h497)) (.cons (nf h498) (.cons (nf h499) (.cons (nf h500) .nil)))) q
        · rw [if_neg h500] at h
          obtain ⟨v_r382, h501, h⟩ := bind_some h
          obtain ⟨v_r383, h502, h⟩ := bind_some h
          cases h
          exact pkk_sound TTok mix hF 1 (hs := [.t true, .c, .c, .c, .c, .c, .c, .c, .t false, .c, .c, .c, .c, .c, .c, .t false, .c, .c, .c, .c, .c, .t true, .c, .c, .r ((eL (eI .i64)) v_r382), .c, .c, .r (eB v_r383), .c, .c, .c]) (ts := []) (s := [2, 3, 4, 5]) (l := [13, 14, 15, 16, 18, 19, 21, 22, 173]) (by kernel_rfl) (by kernel_rfl) (.cons (bnt (bf h497)) (.cons (nf h498) (.cons (nf h499) (.cons (nt h500) (.cons (G_ringref5_Groups_ok n v_c2 _ h501) (.cons (G_slices_Contains_int_int_ok n v_r382 v_m5 _ h502) .nil)))))) q
      · rw [if_neg h499] at h
        cases h
        exact pkk_sound TTok mix hF 1 (hs := [.t true, .c, .c, .c, .c, .c, .c, .c, .t false, .c, .c, .c, .c, .c, .c, .t true, .c, .c, .c, .c, .c, .c]) (ts := []) (s := [2, 3, 4, 5]) (l := [13, 14, 15, 16, 18, 19, 21, 22, 173]) (by kernel_rfl) (by kernel_rfl) (.cons (bnt (bf h497)) (.cons (nf h498) (.cons (nt h499) .nil))) q
    · rw [if_neg h498] at h
      cases h
      exact pkk_sound TTok mix hF 1 (hs := [.t true, .c, .c, .c, .c, .c, .c, .c, .t true, .c, .c, .c, .c, .c, .c, .c, .c, .c, .c, .c, .c]) (ts := []) (s := [2, 3, 4, 5]) (l := [13, 14, 15, 16, 18, 19, 21, 22, 173]) (by kernel_rfl) (by kernel_rfl) (.cons (bnt (bf h497)) (.cons (nt h498) .nil)) q
inductive G_ringlaw5_ModeSays_C19_R where
  | x0 (v_wantO377 : Int)
def G_ringlaw5_ModeSays_C19_ex : G_ringlaw5_ModeSays_C19_R → Ex
  | .x0 _ => .normal
def G_ringlaw5_ModeSays_C19_st (v_n4 : Int) (v_m5 : Int) (v_r138 : (S_api_Stat × Int)) (v_r164 : (S_api_Stat × Int)) (v_c2 : S_api_Cred) (v_z365 : Bool) (v_s1 : S_api_Stat) : G_ringlaw5_ModeSays_C19_R → PS
  | .x0 v_wantO377 => ⟨[dd, dd, dd, dd, dd, dd, dd, dd, dd, dd, dd, dd, dd, .ref 0 0, .d (.v (.int .i64 v_r138.2)), .ref 1 0, .d (.v (.int .i64 v_r164.2)), dd, .ref 2 0, .ref 3 0, dd, .d (.v (.int .i64 1)), .d (.v (.int .i64 v_wantO377)), dd, dd, dd, dd, dd, dd, dd, dd, dd, dd, dd, dd, dd, dd, dd, dd, dd, dd, dd, dd, dd, dd, dd, dd, dd, dd, dd, dd, dd, dd, dd, dd, dd, dd, dd, dd, dd, dd, dd, dd, dd, dd, dd, dd, dd, dd, dd, dd, dd, dd, dd, dd, dd, dd, dd, dd, dd, dd, dd, dd, dd, dd, dd, dd, dd, dd, dd, dd, dd, dd, dd, dd, dd, dd, dd, dd, dd, dd, dd, dd, dd, dd, dd, dd, dd, dd, dd, dd, dd, dd, dd, dd, dd, dd, dd, dd, dd, dd, dd, dd, dd, dd, dd, dd, dd, dd, dd, dd, dd, dd, dd, dd, dd, dd, dd, dd, dd, dd, dd, dd, dd, dd, dd, dd, dd, dd, dd, dd, dd, dd, dd, dd, dd, dd, dd, dd, dd, dd, dd, dd, dd, dd, dd, dd, dd, dd, dd, dd, dd, dd, dd, dd, dd, dd, dd, dd, dd, dd, dd, dd, dd, dd, dd, dd, dd, dd, dd, dd, dd, dd, dd, dd, dd, dd, dd], [.box [.d (.v (.int .i64 v_r138.1.fKind)), .d (.v (.int .i64 v_r138.1.fMode)), .d (.v (.int .i64 v_r138.1.fUser)), .d (.v (.int .i64 v_r138.1.fGroup)), .d (.v (.int .i64 v_r138.1.fSize)), .d (.v (.int .i64 v_r138.1.fLinks))], .box [.d (.v (.int .i64 v_r164.1.fKind)), .d (.v (.int .i64 v_r164.1.fMode)), .d (.v (.int .i64 v_r164.1.fUser)), .d (.v (.int .i64 v_r164.1.fGroup)), .d (.v (.int .i64 v_r164.1.fSize)), .d (.v (.int .i64 v_r164.1.fLinks))], .box [.d (.v (.int .i64 v_s1.fKind)), .d (.v (.int .i64 v_n4)), .d (.v (.int .i64 v_s1.fUser)), .d (.v (.int .i64 v_s1.fGroup)), .d (.v (.int .i64 v_s1.fSize)), .d (.v (.int .i64 v_s1.fLinks))], .box [.d (.v (.int .i64 v_s1.fKind)), .d (.v (.int .i64 v_s1.fMode)), .d (.v (.int .i64 v_n4)), .d (.v (.int .i64 v_m5)), .d (.v (.int .i64 v_s1.fSize)), .d (.v (.int .i64 v_s1.fLinks))]]⟩
def G_ringlaw5_ModeSays_C19_hd (v_n4 : Int) (v_m5 : Int) (v_r138 : (S_api_Stat × Int)) (v_r164 : (S_api_Stat × Int)) (v_c2 : S_api_Cred) (v_z365 : Bool) (v_s1 : S_api_Stat)  : PS := ⟨[dd, dd, dd, .d (.v (.int .i64 v_n4)), .d (.v (.int .i64 v_m5)), .ref 0 0, .ref 1 0, dd, dd, dd, dd, dd, dd, .ref 2 0, .d (.v (.int .i64 v_r138.2)), .ref 3 0, .d (.v (.int .i64 v_r164.2)), dd, .ref 4 0, .ref 5 0, .d (.v (.bool ((remI (quoI .i64 v_c2.fCaps 4) 2) == 1))), .d (.v (.int .i64 1)), .d (.v (.int .i64 0)), dd, dd, dd, dd, dd, dd, dd, dd, dd, dd, dd, dd, dd, dd, dd, dd, dd, dd, dd, dd, dd, dd, dd, dd, dd, dd, dd, dd, dd, dd, dd, dd, dd, dd, dd, dd, dd, dd, dd, dd, dd, dd, dd, dd, dd, dd, dd, dd, dd, dd, dd, dd, dd, dd, dd, dd, dd, dd, dd, dd, dd, dd, dd, dd, dd, dd, dd, dd, dd, dd, dd, dd, dd, dd, dd, dd, dd, dd, dd, dd, dd, dd, dd, dd, dd, dd, dd, dd, dd, dd, dd, dd, dd, dd, dd, dd, dd, dd, dd, dd, dd, dd, dd, dd, dd, dd, dd, dd, dd, dd, dd, dd, dd, dd, dd, dd, dd, dd, dd, dd, dd, dd, .d (.v (.bool v_z365)), dd, dd, dd, dd, dd, dd, dd, dd, dd, dd, dd, dd, dd, dd, dd, dd, dd, dd, dd, dd, dd, dd, dd, dd, dd, dd, dd, dd, dd, dd, dd, dd, dd, dd, dd, dd, dd, dd, dd, dd, dd, dd, dd, dd, dd, dd, dd, dd, dd, dd, dd, dd], [.box [.d (.v (.int .i64 v_s1.fKind)), .d (.v (.int .i64 v_s1.fMode)), .d (.v (.int .i64 v_s1.fUser)), .d (.v (.int .i64 v_s1.fGroup)), .d (.v (.int .i64 v_s1.fSize)), .d (.v (.int .i64 v_s1.fLinks))], .box [.d (.v (.int .i64 v_c2.fUser)), .d (.v (.int .i64 v_c2.fGroup)), .d (.sl (v_c2.fMore.map (eI .i64))), .d (.v (.int .i64 v_c2.fCaps)), .d (.v (.int .i64 v_c2.fLevel)), .d (.v (.int .i64 v_c2.fKind))], .box [.d (.v (.int .i64 v_r138.1.fKind)), .d (.v (.int .i64 v_r138.1.fMode)), .d (.v (.int .i64 v_r138.1.fUser)), .d (.v (.int .i64 v_r138.1.fGroup)), .d (.v (.int .i64 v_r138.1.fSize)), .d (.v (.int .i64 v_r138.1.fLinks))], .box [.d (.v (.int .i64 v_r164.1.fKind)), .d (.v (.int .i64 v_r164.1.fMode)), .d (.v (.int .i64 v_r164.1.fUser)), .d (.v (.int .i64 v_r164.1.fGroup)), .d (.v (.int .i64 v_r164.1.fSize)), .d (.v (.int .i64 v_r164.1.fLinks))], .box [.d (.v (.int .i64 v_s1.fKind)), .d (.v (.int .i64 v_n4)), .d (.v (.int .i64 v_s1.fUser)), .d (.v (.int .i64 v_s1.fGroup)), .d (.v (.int .i64 v_s1.fSize)), .d (.v (.int .i64 v_s1.fLinks))], .box [.d (.v (.int .i64 v_s1.fKind)), .d (.v (.int .i64 v_s1.fMode)), .d (.v (.int .i64 v_n4)), .d (.v (.int .i64 v_m5)), .d (.v (.int .i64 v_s1.fSize)), .d (.v (.int .i64 v_s1.fLinks))]]⟩
def G_ringlaw5_ModeSays_C19 (n : Nat) (v_n4 : Int) (v_m5 : Int) (v_r138 : (S_api_Stat × Int)) (v_r164 : (S_api_Stat × Int)) (v_c2 : S_api_Cred) (v_z365 : Bool) (v_s1 : S_api_Stat) : Option G_ringlaw5_ModeSays_C19_R :=
  if v_z365 = true then
   some (.x0 1)
  else
   (G_ringlaw5_ModeSays_C18 n v_n4 v_m5 v_r138 v_r164 v_c2 v_s1).bind fun v_o387 => match v_o387 with
   | .x0 v_z388 =>
     if v_z388 = true then
      some (.x0 7)
     else
      some (.x0 0)
theorem G_ringlaw5_ModeSays_C19_ok {Fi : Ex → PS → Prop} (hF : KC 198 Fi) (ks : List Fr) (n : Nat) (v_n4 : Int) (v_m5 : Int) (v_r138 : (S_api_Stat × Int)) (v_r164 : (S_api_Stat × Int)) (v_c2 : S_api_Cred) (v_z365 : Bool) (v_s1 : S_api_Stat)  (o : G_ringlaw5_ModeSays_C19_R) (h : G_ringlaw5_ModeSays_C19 n v_n4 v_m5 v_r138 v_r164 v_c2 v_z365 v_s1 = some o) (q : RunE Try.prog 198 Fi ks (G_ringlaw5_ModeSays_C19_ex o) (G_ringlaw5_ModeSays_C19_st v_n4 v_m5 v_r138 v_r164 v_c2 v_z365 v_s1 o)) : RunE Try.prog 198 Fi (.s (cR (cL (cR (cR (cR (cR (cR (cR (cR (cR (cR (cR (cR (cR (cR (cR (cR (bodyOf Try.f4)))))))))))))))))) :: ks) .normal (G_ringlaw5_ModeSays_C19_hd v_n4 v_m5 v_r138 v_r164 v_c2 v_z365 v_s1) := by
  unfold G_ringlaw5_ModeSays_C19 at h
  by_cases h490 : v_z365 = true
  · rw [if_pos h490] at h
    cases h
    exact pkk_sound TTok mix hF 2 (hs := [.t true]) (ts := []) (s := [2, 3, 4, 5]) (l := [13, 14, 15, 16, 18, 19, 21, 22]) (by kernel_rfl) (by kernel_rfl) (.cons h490 .nil) q
  · rw [if_neg h490] at h
    obtain ⟨v_o387, h503, h⟩ := bind_some h
    refine pkk_sound TTok mix hF 2 (hs := [.t false]) (ts := []) (s := [0, 1, 2, 3, 4, 5]) (l := [3, 4, 5, 6, 13, 14, 15, 16, 18, 19, 20, 21, 22]) (by kernel_rfl) (by kernel_rfl) (.cons (vf h490) .nil) (G_ringlaw5_ModeSays_C18_ok hF (.s (cR (cF (cR (cL (cR (cR (cR (cR (cR (cR (cR (cR (cR (cR (cR (cR (cR (cR (cR (bodyOf Try.f4)))))))))))))))))))) :: ks) n v_n4 v_m5 v_r138 v_r164 v_c2 v_s1 _ h503 ?_)
    cases v_o387 with
    | x0 v_z388 =>
      dsimp only at h
      by_cases h504 : v_z388 = true
      · rw [if_pos h504] at h
        cases h
        exact pkk_sound TTok mix hF 2 (hs := [.t true]) (ts := []) (s := [0, 1, 2, 3]) (l := [13, 14, 15, 16, 18, 19, 21, 22]) (by kernel_rfl) (by kernel_rfl) (.cons h504 .nil) q
      · rw [if_neg h504] at h
        cases h
        exact pkk_sound TTok mix hF 2 (hs := [.t false]) (ts := []) (s := [0, 1, 2, 3]) (l := [13, 14, 15, 16, 18, 19, 21, 22]) (by kernel_rfl) (by kernel_rfl) (.cons (vf h504) .nil) q
inductive G_ringlaw5_ModeSays_C20_R where
  | x0 (v_x393 : Bool)
def G_ringlaw5_ModeSays_C20_ex : G_ringlaw5_ModeSays_C20_R → Ex
  | .x0 _ => .normal
def G_ringlaw5_ModeSays_C20_st (v_r138 : (S_api_Stat × Int)) (v_r164 : (S_api_Stat × Int)) (v_z392 : Int) : G_ringlaw5_ModeSays_C20_R → PS
  | .x0 v_x393 => ⟨[dd, dd, dd, dd, dd, dd, dd, dd, dd, dd, .d (.v (.bool v_x393)), dd, dd, dd, dd, dd, dd, dd, dd, dd, dd, dd, dd, dd, dd, dd, dd, dd, dd, dd, dd, dd, dd, dd, dd, dd, dd, dd, dd, dd, dd, dd, dd, dd, dd, dd, dd, dd, dd, dd, dd, dd, dd, dd, dd, dd, dd, dd, dd, dd, dd, dd, dd, dd, dd, dd, dd, dd, dd, dd, dd, dd, dd, dd, dd, dd, dd, dd, dd, dd, dd, dd, dd, dd, dd, dd, dd, dd, dd, dd, dd, dd, dd, dd, dd, dd, dd, dd, dd, dd, dd, dd, dd, dd, dd, dd, dd, dd, dd, dd, dd, dd, dd, dd, dd, dd, dd, dd, dd, dd, dd, dd, dd, dd, dd, dd, dd, dd, dd, dd, dd, dd, dd, dd, dd, dd, dd, dd, dd, dd, dd, dd, dd, dd, dd, dd, dd, dd, dd, dd, dd, dd, dd, dd, dd, dd, dd, dd, dd, dd, dd, dd, dd, dd, dd, dd, dd, dd, dd, dd, dd, dd, dd, dd, dd, dd, dd, dd, dd, dd, dd, dd, dd, dd, dd, dd, dd, dd, dd, dd, dd, dd, dd, dd, dd, dd, dd, dd], []⟩
def G_ringlaw5_ModeSays_C20_hd (v_r138 : (S_api_Stat × Int)) (v_r164 : (S_api_Stat × Int)) (v_z392 : Int)  : PS := ⟨[dd, dd, dd, dd, dd, dd, dd, dd, dd, dd, dd, dd, dd, .ref 0 0, .d (.v (.int .i64 v_r138.2)), .ref 1 0, .d (.v (.int .i64 v_r164.2)), dd, .ref 2 0, .ref 3 0, dd, .d (.v (.int .i64 1)), .d (.v (.int .i64 v_z392)), dd, dd, dd, dd, dd, dd, dd, dd, dd, dd, dd, dd, dd, dd, dd, dd, dd, dd, dd, dd, dd, dd, dd, dd, dd, dd, dd, dd, dd, dd, dd, dd, dd, dd, dd, dd, dd, dd, dd, dd, dd, dd, dd, dd, dd, dd, dd, dd, dd, dd, dd, dd, dd, dd, dd, dd, dd, dd, dd, dd, dd, dd, dd, dd, dd, dd, dd, dd, dd, dd, dd, dd, dd, dd, dd, dd, dd, dd, dd, dd, dd, dd, dd, dd, dd, dd, dd, dd, dd, dd, dd, dd, dd, dd, dd, dd, dd, dd, dd, dd, dd, dd, dd, dd, dd, dd, dd, dd, dd, dd, dd, dd, dd, dd, dd, dd, dd, dd, dd, dd, dd, dd, dd, dd, dd, dd, dd, dd, dd, dd, dd, dd, dd, dd, dd, dd, dd, dd, dd, dd, dd, dd, dd, dd, dd, dd, dd, dd, dd, dd, dd, dd, dd, dd, dd, dd, dd, dd, dd, dd, dd, dd, dd, dd, dd, dd, dd, dd, dd, dd, dd, dd, dd, dd, dd], [.box [.d (.v (.int .i64 v_r138.1.fKind)), .d (.v (.int .i64 v_r138.1.fMode)), .d (.v (.int .i64 v_r138.1.fUser)), .d (.v (.int .i64 v_r138.1.fGroup)), .d (.v (.int .i64 v_r138.1.fSize)), .d (.v (.int .i64 v_r138.1.fLinks))], .box [.d (.v (.int .i64 v_r164.1.fKind)), .d (.v (.int .i64 v_r164.1.fMode)), .d (.v (.int .i64 v_r164.1.fUser)), .d (.v (.int .i64 v_r164.1.fGroup)), .d (.v (.int .i64 v_r164.1.fSize)), .d (.v (.int .i64 v_r164.1.fLinks))], .box [.d (.v (.int .i64 0)), .d (.v (.int .i64 0)), .d (.v (.int .i64 0)), .d (.v (.int .i64 0)), .d (.v (.int .i64 0)), .d (.v (.int .i64 0))], .box [.d (.v (.int .i64 0)), .d (.v (.int .i64 0)), .d (.v (.int .i64 0)), .d (.v (.int .i64 0)), .d (.v (.int .i64 0)), .d (.v (.int .i64 0))]]⟩

end Go.Proofs.Ytnmpnljjaoddhaa.pv
