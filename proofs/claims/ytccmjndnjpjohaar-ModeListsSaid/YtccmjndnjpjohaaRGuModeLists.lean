/- What the functions compute, as functions over plain data, with their contracts: written by gen.py. -/
import Derived.Test.YtccmjndnjpjohaaRProg
import Derived.Test.YtccmjndnjpjohaaRQr
set_option maxRecDepth 100000
set_option linter.all false
namespace Go.Proofs.YtccmjndnjpjohaaR.pv
open Go.RowKit
def TT : List TI := [
⟨1, 0, .oth, []⟩,
⟨1, 8, .oth, [.nf]⟩,
⟨1, 8, .int .i64, [.i .i64]⟩,
⟨1, 8, .int .i64, [.i .i64]⟩,
⟨1, 1, .bool, [.b]⟩,
⟨1, 1, .int .u8, [.i .u8]⟩,
⟨1, 1, .int .u8, [.i .u8]⟩,
⟨4, 24, .st [(0, 2), (1, 3), (2, 4), (3, 6)], [.i .i64, .i .i64, .b, .i .u8]⟩,
⟨4, 24, .st [(0, 2), (1, 3), (2, 4), (3, 6)], [.i .i64, .i .i64, .b, .i .u8]⟩,
⟨1, 16, .str, [.s]⟩,
⟨1, 16, .str, [.s]⟩,
⟨1, 16, .str, [.s]⟩,
⟨1, 8, .int .u64, [.i .u64]⟩,
⟨2, 24, .st [(0, 9), (1, 12)], [.s, .i .u64]⟩,
⟨2, 24, .st [(0, 9), (1, 12)], [.s, .i .u64]⟩,
⟨1, 8, .oth, [.np]⟩,
⟨1, 8, .oth, [.np]⟩,
⟨1, 8, .oth, [.np]⟩,
⟨1, 8, .st [(0, 17)], [.np]⟩,
⟨1, 8, .st [(0, 17)], [.np]⟩,
⟨1, 16, .oth, [.ni]⟩,
⟨1, 4, .int .i32, [.i .i32]⟩,
⟨4, 32, .st [(0, 3), (1, 3), (2, 3), (3, 3)], [.i .i64, .i .i64, .i .i64, .i .i64]⟩,
⟨4, 32, .st [(0, 3), (1, 3), (2, 3), (3, 3)], [.i .i64, .i .i64, .i .i64, .i .i64]⟩,
⟨1, 8, .int .i64, [.i .i64]⟩,
⟨1, 0, .oth, []⟩,
⟨1, 8, .oth, [.nf]⟩,
⟨1, 0, .oth, []⟩,
⟨1, 8, .oth, [.nf]⟩,
⟨1, 0, .oth, []⟩,
⟨1, 8, .oth, [.nf]⟩,
⟨1, 8, .oth, [.nf]⟩,
⟨1, 8, .oth, [.nf]⟩,
⟨4, 4, .st [(0, 4), (1, 4), (2, 4), (3, 4)], [.b, .b, .b, .b]⟩,
⟨4, 4, .st [(0, 4), (1, 4), (2, 4), (3, 4)], [.b, .b, .b, .b]⟩,
⟨32, 32, .arr 8 34, List.replicate 32 (.b)⟩,
⟨1, 8, .oth, [.nf]⟩,
⟨1, 8, .oth, [.nf]⟩,
⟨1, 24, .sl 34, [.sl]⟩,
⟨1, 8, .oth, [.nf]⟩,
⟨1, 8, .oth, [.nf]⟩,
⟨1, 8, .oth, [.nf]⟩,
⟨1, 24, .sl 3, [.sl]⟩,
⟨1, 8, .oth, [.nf]⟩,
⟨1, 8, .oth, [.nf]⟩,
⟨1, 8, .oth, [.nf]⟩,
⟨1, 8, .oth, [.nf]⟩,
⟨1, 8, .oth, [.nf]⟩,
⟨1, 24, .sl 64, [.sl]⟩,
⟨16, 16, .arr 16 5, List.replicate 16 (.i .u8)⟩,
⟨1, 0, .oth, []⟩,
⟨1, 8, .oth, [.nf]⟩,
⟨1, 0, .oth, []⟩,
⟨1, 8, .oth, [.nf]⟩,
⟨1, 0, .oth, []⟩,
⟨1, 8, .oth, [.nf]⟩,
⟨1, 0, .oth, []⟩,
⟨1, 8, .oth, [.nf]⟩,
⟨1, 0, .oth, []⟩,
⟨1, 8, .oth, [.nf]⟩,
⟨1, 8, .oth, [.nf]⟩,
⟨1, 8, .oth, [.nf]⟩,
⟨1, 8, .oth, [.nf]⟩,
⟨17, 24, .st [(0, 3), (1, 49)], List.replicate 1 (.i .i64) ++ List.replicate 16 (.i .u8)⟩,
⟨17, 24, .st [(0, 3), (1, 49)], List.replicate 1 (.i .i64) ++ List.replicate 16 (.i .u8)⟩,
⟨1, 8, .oth, [.nf]⟩,
⟨1, 8, .oth, [.nf]⟩,
⟨1, 24, .sl 79, [.sl]⟩,
⟨1, 24, .sl 70, [.sl]⟩,
⟨1, 24, .sl 71, [.sl]⟩,
⟨1, 24, .sl 73, [.sl]⟩,
⟨1, 24, .sl 74, [.sl]⟩,
⟨3, 24, .st [(0, 3), (1, 3), (2, 3)], [.i .i64, .i .i64, .i .i64]⟩,
⟨3, 24, .st [(0, 3), (1, 3), (2, 3)], [.i .i64, .i .i64, .i .i64]⟩,
⟨3, 24, .st [(0, 3), (1, 3), (2, 3)], [.i .i64, .i .i64, .i .i64]⟩,
⟨1, 0, .oth, []⟩,
⟨1, 8, .oth, [.nf]⟩,
⟨1, 8, .oth, [.nf]⟩,
⟨1, 8, .oth, [.nf]⟩,
⟨1, 4, .int .u32, [.i .u32]⟩,
⟨1, 8, .oth, [.nf]⟩,
⟨1, 24, .sl 91, [.sl]⟩,
⟨1, 0, .oth, []⟩,
⟨1, 8, .oth, [.nf]⟩,
⟨1, 8, .oth, [.nf]⟩,
⟨1, 0, .oth, []⟩,
⟨1, 8, .oth, [.nf]⟩,
⟨1, 0, .oth, []⟩,
⟨1, 8, .oth, [.nf]⟩,
⟨1, 8, .oth, [.nf]⟩,
⟨3, 24, .st [(0, 3), (1, 3), (2, 3)], [.i .i64, .i .i64, .i .i64]⟩,
⟨3, 24, .st [(0, 3), (1, 3), (2, 3)], [.i .i64, .i .i64, .i .i64]⟩,
⟨1, 8, .oth, [.nf]⟩,
⟨1, 8, .oth, [.nf]⟩,
⟨1, 8, .oth, [.nf]⟩,
⟨1, 8, .oth, [.nf]⟩,
⟨7, 32, .st [(0, 4), (1, 4), (2, 3), (3, 3), (4, 4), (5, 4), (6, 4)], [.b, .b, .i .i64, .i .i64, .b, .b, .b]⟩,
⟨7, 32, .st [(0, 4), (1, 4), (2, 3), (3, 3), (4, 4), (5, 4), (6, 4)], [.b, .b, .i .i64, .i .i64, .b, .b, .b]⟩,
⟨10, 56, .st [(0, 3), (1, 97), (8, 3), (9, 3)], [.i .i64, .b, .b, .i .i64, .i .i64, .b, .b, .b, .i .i64, .i .i64]⟩,
⟨10, 56, .st [(0, 3), (1, 97), (8, 3), (9, 3)], [.i .i64, .b, .b, .i .i64, .i .i64, .b, .b, .b, .i .i64, .i .i64]⟩,
⟨1, 8, .oth, [.nf]⟩,
⟨1, 0, .oth, []⟩,
⟨1, 8, .oth, [.nf]⟩,
⟨1, 0, .oth, []⟩,
⟨1, 8, .oth, [.nf]⟩,
⟨1, 8, .oth, [.nf]⟩,
⟨1, 8, .oth, [.nf]⟩,
⟨1, 8, .oth, [.nf]⟩,
⟨1, 8, .oth, [.nf]⟩,
⟨1, 8, .oth, [.nf]⟩,
⟨1, 8, .oth, [.nf]⟩,
⟨1, 8, .oth, [.nf]⟩,
⟨1, 8, .oth, [.nf]⟩,
⟨1, 8, .oth, [.nf]⟩,
⟨1, 8, .oth, [.nf]⟩,
⟨1, 8, .oth, [.nf]⟩,
⟨1, 24, .sl 122, [.sl]⟩,
⟨1, 0, .oth, []⟩,
⟨1, 8, .oth, [.nf]⟩,
⟨1, 8, .oth, [.nf]⟩,
⟨1, 24, .sl 123, [.sl]⟩,
⟨3, 24, .st [(0, 3), (1, 3), (2, 3)], [.i .i64, .i .i64, .i .i64]⟩,
⟨3, 24, .st [(0, 3), (1, 3), (2, 3)], [.i .i64, .i .i64, .i .i64]⟩,
⟨3, 24, .arr 3 3, [.i .i64, .i .i64, .i .i64]⟩,
⟨1, 8, .oth, [.nf]⟩,
⟨1, 8, .oth, [.nf]⟩,
⟨1, 8, .oth, [.nf]⟩,
⟨1, 8, .oth, [.nf]⟩,
⟨1, 8, .oth, [.nf]⟩,
⟨1, 8, .oth, [.nf]⟩,
⟨1, 8, .oth, [.nf]⟩,
⟨6, 48, .st [(0, 3), (1, 3), (2, 3), (3, 3), (4, 3), (5, 3)], [.i .i64, .i .i64, .i .i64, .i .i64, .i .i64, .i .i64]⟩,
⟨6, 48, .st [(0, 3), (1, 3), (2, 3), (3, 3), (4, 3), (5, 3)], [.i .i64, .i .i64, .i .i64, .i .i64, .i .i64, .i .i64]⟩,
⟨1, 24, .sl 140, [.sl]⟩,
⟨6, 64, .st [(0, 3), (1, 3), (2, 42), (3, 3), (4, 3), (5, 3)], [.i .i64, .i .i64, .sl, .i .i64, .i .i64, .i .i64]⟩,
⟨6, 64, .st [(0, 3), (1, 3), (2, 42), (3, 3), (4, 3), (5, 3)], [.i .i64, .i .i64, .sl, .i .i64, .i .i64, .i .i64]⟩,
⟨1, 0, .oth, []⟩,
⟨1, 8, .oth, [.nf]⟩,
⟨1, 8, .oth, [.nf]⟩,
⟨3, 24, .st [(0, 4), (1, 3), (2, 3)], [.b, .i .i64, .i .i64]⟩,
⟨3, 24, .st [(0, 4), (1, 3), (2, 3)], [.b, .i .i64, .i .i64]⟩,
⟨1, 8, .oth, [.nf]⟩,
⟨1, 8, .oth, [.nf]⟩,
⟨1, 8, .oth, [.nf]⟩,
⟨1, 24, .sl 4, [.sl]⟩,
⟨1, 8, .oth, [.nf]⟩,
⟨1, 8, .oth, [.nf]⟩,
⟨1, 0, .oth, []⟩,
⟨1, 8, .oth, [.nf]⟩,
⟨1, 8, .oth, [.nf]⟩,
⟨1, 8, .oth, [.nf]⟩,
⟨1, 8, .oth, [.nf]⟩,
⟨1, 8, .oth, [.nf]⟩,
⟨1, 8, .oth, [.nf]⟩,
⟨1, 8, .oth, [.nf]⟩,
⟨1, 8, .oth, [.nf]⟩,
⟨1, 8, .oth, [.nf]⟩,
⟨1, 8, .oth, [.nf]⟩,
⟨1, 8, .oth, [.nf]⟩,
⟨1, 8, .oth, [.nf]⟩,
⟨1, 8, .oth, [.nf]⟩,
⟨1, 8, .oth, [.nf]⟩,
⟨1, 8, .oth, [.np]⟩,
⟨1, 8, .oth, [.nf]⟩,
⟨1, 8, .oth, [.nf]⟩,
⟨1, 8, .oth, [.nf]⟩,
⟨1, 8, .oth, [.nf]⟩,
⟨1, 8, .oth, [.nf]⟩,
⟨1, 8, .oth, [.np]⟩,
⟨1, 8, .oth, [.nf]⟩,
⟨1, 8, .oth, [.nf]⟩,
⟨7, 7, .arr 7 4, [.b, .b, .b, .b, .b, .b, .b]⟩,
⟨1, 8, .oth, [.nf]⟩,
⟨1, 8, .oth, [.nf]⟩,
⟨4, 32, .arr 4 3, [.i .i64, .i .i64, .i .i64, .i .i64]⟩,
⟨1, 8, .oth, [.nf]⟩,
⟨1, 8, .oth, [.nf]⟩,
⟨1, 8, .oth, [.nf]⟩,
⟨1, 8, .oth, [.nf]⟩,
⟨1, 8, .oth, [.nf]⟩,
⟨1, 8, .oth, [.nf]⟩,
⟨1, 8, .oth, [.nf]⟩,
⟨1, 24, .sl 42, [.sl]⟩,
⟨1, 8, .oth, [.nf]⟩,
⟨1, 8, .oth, [.nf]⟩,
⟨1, 8, .oth, [.nf]⟩,
⟨1, 8, .oth, [.nf]⟩,
⟨1, 8, .oth, [.nm]⟩,
⟨1, 8, .oth, [.nf]⟩,
⟨1, 8, .int .u64, [.i .u64]⟩,
⟨1, 8, .oth, [.nf]⟩,
⟨4, 40, .st [(0, 17), (1, 17), (2, 17), (3, 9)], [.np, .np, .np, .s]⟩,
⟨4, 40, .st [(0, 17), (1, 17), (2, 17), (3, 9)], [.np, .np, .np, .s]⟩,
⟨0, 0, .arr 0 16, []⟩,
⟨0, 0, .st [(0, 193)], []⟩,
⟨0, 0, .st [(0, 193)], []⟩,
⟨1, 8, .oth, [.nf]⟩,
⟨1, 1, .int .u8, [.i .u8]⟩,
⟨1, 1, .int .u8, [.i .u8]⟩,
⟨1, 8, .oth, [.nf]⟩,
⟨1, 8, .oth, [.np]⟩,
⟨1, 4, .int .i32, [.i .i32]⟩,
⟨1, 4, .int .i32, [.i .i32]⟩,
⟨11, 48, .st [(0, 12), (1, 12), (2, 79), (3, 197), (4, 5), (5, 5), (6, 198), (7, 199), (8, 200), (9, 201), (10, 202)], [.i .u64, .i .u64, .i .u32, .i .u8, .i .u8, .i .u8, .i .u8, .nf, .np, .i .i32, .i .i32]⟩,
⟨11, 48, .st [(0, 12), (1, 12), (2, 79), (3, 197), (4, 5), (5, 5), (6, 198), (7, 199), (8, 200), (9, 201), (10, 202)], [.i .u64, .i .u64, .i .u32, .i .u8, .i .u8, .i .u8, .i .u8, .nf, .np, .i .i32, .i .i32]⟩,
⟨1, 8, .oth, [.np]⟩]
theorem TTok : TOk Try.prog TT := by unfold TOk; kernel_rfl
theorem mix : Try.prog.follows .mixedOrders = true := by kernel_rfl
structure S_api_Stat where
  fKind : Int
  fMode : Int
  fUser : Int
  fGroup : Int
  fSize : Int
  fLinks : Int
def eS_api_Stat (x : S_api_Stat) : PV := .agg [.v (.int .i64 x.fKind), .v (.int .i64 x.fMode), .v (.int .i64 x.fUser), .v (.int .i64 x.fGroup), .v (.int .i64 x.fSize), .v (.int .i64 x.fLinks)]
structure S_mode_Entry where
  fGroup : Bool
  fId : Int
  fMay : Int
def eS_mode_Entry (x : S_mode_Entry) : PV := .agg [.v (.bool x.fGroup), .v (.int .i64 x.fId), .v (.int .i64 x.fMay)]
structure S_api_Cred where
  fUser : Int
  fGroup : Int
  fMore : (List Int)
  fCaps : Int
  fLevel : Int
  fKind : Int
def eS_api_Cred (x : S_api_Cred) : PV := .agg [.v (.int .i64 x.fUser), .v (.int .i64 x.fGroup), .sl (x.fMore.map (eI .i64)), .v (.int .i64 x.fCaps), .v (.int .i64 x.fLevel), .v (.int .i64 x.fKind)]

inductive G_cred_Check_L1_R where
  | x0 (v_t13 : Int)
  | x1 
def G_cred_Check_L1_ex : G_cred_Check_L1_R → Ex
  | .x0 _ => .ret
  | .x1  => .exit 0
def G_cred_Check_L1_st (v_t8 : S_api_Cred) : G_cred_Check_L1_R → PS
  | .x0 v_t13 => ⟨[dd, dd, .d (.v (.int .i64 v_t13)), dd, dd, dd, dd, dd, dd, dd, dd, dd, dd, dd, dd, dd, dd, dd, dd, dd, dd, dd, dd, dd, dd, dd, dd, dd, dd, dd, dd, dd, dd, dd, dd, dd, dd, dd, dd, dd, dd, dd, dd, dd, dd, dd, dd, dd, dd, dd, dd, dd, dd, dd, dd, dd, dd, dd, dd, dd, dd, dd, dd, dd, dd, dd, dd, dd, dd, dd, dd, dd, dd, dd, dd, dd, dd, dd, dd, dd, dd, dd, dd], []⟩
  | .x1  => ⟨[dd, .ref 0 0, dd, dd, dd, dd, dd, dd, dd, dd, dd, dd, dd, dd, dd, dd, dd, dd, dd, dd, dd, dd, dd, dd, dd, dd, dd, dd, dd, dd, dd, dd, dd, dd, dd, dd, dd, dd, dd, dd, dd, dd, dd, dd, dd, dd, dd, dd, dd, dd, dd, dd, dd, dd, dd, dd, dd, dd, dd, dd, dd, dd, dd, dd, dd, dd, dd, dd, dd, dd, dd, dd, dd, dd, dd, dd, dd, dd, dd, dd, dd, dd, dd], [.box [.d (.v (.int .i64 v_t8.fUser)), .d (.v (.int .i64 v_t8.fGroup)), .d (.sl (v_t8.fMore.map (eI .i64))), .d (.v (.int .i64 v_t8.fCaps)), .d (.v (.int .i64 v_t8.fLevel)), .d (.v (.int .i64 v_t8.fKind))]]⟩
def G_cred_Check_L1_hd (v_t8 : S_api_Cred) (v_t9 : Int) (v_w10 : (List Int)) : PS := ⟨[dd, .ref 0 0, dd, dd, dd, dd, dd, dd, dd, dd, dd, .srf 1, .d (.v (.int .i64 (([v_t8.fUser, v_t8.fGroup]).length : Int))), .d (.v (.int .i64 v_t9)), dd, dd, dd, dd, dd, dd, dd, dd, dd, dd, dd, dd, dd, dd, dd, dd, dd, dd, dd, dd, dd, dd, dd, dd, dd, dd, dd, dd, dd, dd, dd, dd, dd, dd, dd, dd, dd, dd, dd, dd, dd, dd, dd, dd, dd, dd, dd, dd, dd, dd, dd, dd, dd, dd, dd, dd, dd, dd, dd, dd, dd, dd, dd, dd, dd, dd, dd, dd, dd], [.box [.d (.v (.int .i64 v_t8.fUser)), .d (.v (.int .i64 v_t8.fGroup)), .d (.sl (v_t8.fMore.map (eI .i64))), .d (.v (.int .i64 v_t8.fCaps)), .d (.v (.int .i64 v_t8.fLevel)), .d (.v (.int .i64 v_t8.fKind))], .row 3 1 (v_w10.map (eI .i64))]⟩
def G_cred_Check_L1 (n : Nat) (v_t8 : S_api_Cred) : Nat → Int → (List Int) → Option G_cred_Check_L1_R
  | 0, _, _ => none
  | k + 1, v_t9, v_w10 =>
    if v_t9 < (([v_t8.fUser, v_t8.fGroup]).length : Int) then
     if 0 ≤ v_t9 ∧ (v_t9).toNat < v_w10.length then
      (v_w10[(v_t9).toNat]?).bind fun (v_y12 : Int) =>
      if v_y12 < 0 then
       some (.x0 1)
      else
       if v_y12 > 99 then
        some (.x0 1)
       else
        G_cred_Check_L1 n v_t8 k (wi .i64 (v_t9 + 1)) v_w10
     else none
    else
     some (.x1 )
theorem G_cred_Check_L1_ok {Fi : Ex → PS → Prop} (hF : KC 83 Fi) (ks : List Fr) (n : Nat) (v_t8 : S_api_Cred)  : ∀ (k : Nat) (v_t9 : Int) (v_w10 : (List Int)) (o : G_cred_Check_L1_R), G_cred_Check_L1 n v_t8 k v_t9 v_w10 = some o → RunE Try.prog 83 Fi ks (G_cred_Check_L1_ex o) (G_cred_Check_L1_st v_t8 o) → RunE Try.prog 83 Fi (.l k (cP (cB (cR (cL (cR (bodyOf Try.f122)))))) :: ks) .normal (G_cred_Check_L1_hd v_t8 v_t9 v_w10)
  | 0, v_t9, v_w10, o, h, q => by rw [G_cred_Check_L1] at h; cases h
  | k + 1, v_t9, v_w10, o, h, q => by
    rw [G_cred_Check_L1] at h
    by_cases h1 : v_t9 < (([v_t8.fUser, v_t8.fGroup]).length : Int)
    · rw [if_pos h1] at h
      by_cases h6 : 0 ≤ v_t9 ∧ (v_t9).toNat < v_w10.length
      · rw [if_pos h6] at h
        obtain ⟨v_y12, h7, h⟩ := bind_some h
        by_cases h8 : v_y12 < 0
        · rw [if_pos h8] at h
          cases h
          exact pkk_sound TTok mix hF 19 (hs := [.t true, .y ((eI .i64) v_y12), .t true, .c, .c]) (ts := []) (s := []) (l := [2]) (by kernel_rfl) (by kernel_rfl) (.cons (dt h1) (.cons (idx_ob (f := (eI .i64)) h6) (.cons (get_ob (f := (eI .i64)) h7) (.cons (dt h8) .nil)))) q
        · rw [if_neg h8] at h
          by_cases h9 : v_y12 > 99
          · rw [if_pos h9] at h
            cases h
            exact pkk_sound TTok mix hF 19 (hs := [.t true, .y ((eI .i64) v_y12), .t false, .c, .t true]) (ts := []) (s := []) (l := [2]) (by kernel_rfl) (by kernel_rfl) (.cons (dt h1) (.cons (idx_ob (f := (eI .i64)) h6) (.cons (get_ob (f := (eI .i64)) h7) (.cons (df h8) (.cons (dt h9) .nil))))) q
          · rw [if_neg h9] at h
            exact pkk_sound TTok mix hF 16 (hs := [.t true, .y ((eI .i64) v_y12), .t false, .c, .t false]) (ts := []) (s := [0, 1]) (l := [1, 11, 12, 13]) (by kernel_rfl) (by kernel_rfl) (.cons (dt h1) (.cons (idx_ob (f := (eI .i64)) h6) (.cons (get_ob (f := (eI .i64)) h7) (.cons (df h8) (.cons (df h9) .nil))))) (G_cred_Check_L1_ok hF ks n v_t8 k (wi .i64 (v_t9 + 1)) v_w10 _ h q)
      · rw [if_neg h6] at h; cases h
    · rw [if_neg h1] at h
      cases h
      exact pkk_sound TTok mix hF 8 (hs := [.t false]) (ts := []) (s := [0]) (l := [1]) (by kernel_rfl) (by kernel_rfl) (.cons (df h1) .nil) q
inductive G_cred_Check_L2_R where
  | x0 (v_t22 : Int)
  | x1 
def G_cred_Check_L2_ex : G_cred_Check_L2_R → Ex
  | .x0 _ => .ret
  | .x1  => .exit 2
def G_cred_Check_L2_st (v_t8 : S_api_Cred) : G_cred_Check_L2_R → PS
  | .x0 v_t22 => ⟨[dd, dd, .d (.v (.int .i64 v_t22)), dd, dd, dd, dd, dd, dd, dd, dd, dd, dd, dd, dd, dd, dd, dd, dd, dd, dd, dd, dd, dd, dd, dd, dd, dd, dd, dd, dd, dd, dd, dd, dd, dd, dd, dd, dd, dd, dd, dd, dd, dd, dd, dd, dd, dd, dd, dd, dd, dd, dd, dd, dd, dd, dd, dd, dd, dd, dd, dd, dd, dd, dd, dd, dd, dd, dd, dd, dd, dd, dd, dd, dd, dd, dd, dd, dd, dd, dd, dd, dd], []⟩
  | .x1  => ⟨[dd, .ref 0 0, dd, dd, dd, dd, dd, dd, dd, dd, dd, dd, dd, dd, dd, dd, dd, dd, dd, dd, dd, dd, dd, dd, dd, dd, dd, dd, dd, dd, dd, dd, dd, dd, dd, dd, dd, dd, dd, dd, dd, dd, dd, dd, dd, dd, dd, dd, dd, dd, dd, dd, dd, dd, dd, dd, dd, dd, dd, dd, dd, dd, dd, dd, dd, dd, dd, dd, dd, dd, dd, dd, dd, dd, dd, dd, dd, dd, dd, dd, dd, dd, dd], [.box [.d (.v (.int .i64 v_t8.fUser)), .d (.v (.int .i64 v_t8.fGroup)), .d (.sl (v_t8.fMore.map (eI .i64))), .d (.v (.int .i64 v_t8.fCaps)), .d (.v (.int .i64 v_t8.fLevel)), .d (.v (.int .i64 v_t8.fKind))]]⟩
def G_cred_Check_L2_hd (v_t8 : S_api_Cred) (v_t17 : Int) : PS := ⟨[dd, .ref 0 0, dd, dd, dd, dd, dd, dd, dd, dd, dd, dd, dd, dd, dd, dd, dd, dd, dd, dd, dd, dd, dd, dd, dd, dd, dd, dd, dd, .d (.sl (v_t8.fMore.map (eI .i64))), .d (.v (.int .i64 (v_t8.fMore.length : Int))), .d (.v (.int .i64 v_t17)), dd, dd, dd, dd, dd, dd, dd, dd, dd, dd, dd, dd, dd, dd, dd, dd, dd, dd, dd, dd, dd, dd, dd, dd, dd, dd, dd, dd, dd, dd, dd, dd, dd, dd, dd, dd, dd, dd, dd, dd, dd, dd, dd, dd, dd, dd, dd, dd, dd, dd, dd], [.box [.d (.v (.int .i64 v_t8.fUser)), .d (.v (.int .i64 v_t8.fGroup)), .d (.sl (v_t8.fMore.map (eI .i64))), .d (.v (.int .i64 v_t8.fCaps)), .d (.v (.int .i64 v_t8.fLevel)), .d (.v (.int .i64 v_t8.fKind))]]⟩
def G_cred_Check_L2 (n : Nat) (v_t8 : S_api_Cred) : Nat → Int → Option G_cred_Check_L2_R
  | 0, _ => none
  | k + 1, v_t17 =>
    if v_t17 < (v_t8.fMore.length : Int) then
     (getI v_t8.fMore v_t17).bind fun (v_y21 : Int) =>
     if v_y21 < 0 then
      some (.x0 1)
     else
      if v_y21 > 99 then
       some (.x0 1)
      else
       if v_t17 > 0 then
        (getI v_t8.fMore (wi .i64 (v_t17 - 1))).bind fun (v_y25 : Int) =>
        if v_y21 ≤ v_y25 then
         some (.x0 3)
        else
         G_cred_Check_L2 n v_t8 k (wi .i64 (v_t17 + 1))
       else
        G_cred_Check_L2 n v_t8 k (wi .i64 (v_t17 + 1))
    else
     some (.x1 )
theorem G_cred_Check_L2_ok {Fi : Ex → PS → Prop} (hF : KC 83 Fi) (ks : List Fr) (n : Nat) (v_t8 : S_api_Cred)  : ∀ (k : Nat) (v_t17 : Int) (o : G_cred_Check_L2_R), G_cred_Check_L2 n v_t8 k v_t17 = some o → RunE Try.prog 83 Fi ks (G_cred_Check_L2_ex o) (G_cred_Check_L2_st v_t8 o) → RunE Try.prog 83 Fi (.l k (cP (cB (cR (cL (cR (cR (cR (bodyOf Try.f122)))))))) :: ks) .normal (G_cred_Check_L2_hd v_t8 v_t17)
  | 0, v_t17, o, h, q => by rw [G_cred_Check_L2] at h; cases h
  | k + 1, v_t17, o, h, q => by
    rw [G_cred_Check_L2] at h
    by_cases h12 : v_t17 < (v_t8.fMore.length : Int)
    · rw [if_pos h12] at h
      obtain ⟨v_y21, h21, h⟩ := bind_some h
      by_cases h22 : v_y21 < 0
      · rw [if_pos h22] at h
        cases h
        exact pkk_sound TTok mix hF 21 (hs := [.t true, .y ((eI .i64) v_y21), .c, .t true, .c, .c]) (ts := []) (s := []) (l := [2]) (by kernel_rfl) (by kernel_rfl) (.cons (dt h12) (.cons (getI_ob (f := (eI .i64)) h21) (.cons (dt h22) .nil))) q
      · rw [if_neg h22] at h
        by_cases h23 : v_y21 > 99
        · rw [if_pos h23] at h
          cases h
          exact pkk_sound TTok mix hF 21 (hs := [.t true, .y ((eI .i64) v_y21), .c, .t false, .c, .t true]) (ts := []) (s := []) (l := [2]) (by kernel_rfl) (by kernel_rfl) (.cons (dt h12) (.cons (getI_ob (f := (eI .i64)) h21) (.cons (df h22) (.cons (dt h23) .nil)))) q
        · rw [if_neg h23] at h
          by_cases h26 : v_t17 > 0
          · rw [if_pos h26] at h
            obtain ⟨v_y25, h27, h⟩ := bind_some h
            by_cases h28 : v_y21 ≤ v_y25
            · rw [if_pos h28] at h
              cases h
              exact pkk_sound TTok mix hF 24 (hs := [.t true, .y ((eI .i64) v_y21), .c, .t false, .c, .t false, .t true, .c, .c, .c, .c, .c, .c, .y ((eI .i64) v_y25), .c, .c, .c, .t true]) (ts := []) (s := []) (l := [2]) (by kernel_rfl) (by kernel_rfl) (.cons (dt h12) (.cons (getI_ob (f := (eI .i64)) h21) (.cons (df h22) (.cons (df h23) (.cons (dt h26) (.cons (getI_ob (f := (eI .i64)) h27) (.cons (dt h28) .nil))))))) q
            · rw [if_neg h28] at h
              exact pkk_sound TTok mix hF 21 (hs := [.t true, .y ((eI .i64) v_y21), .c, .t false, .c, .t false, .t true, .c, .c, .c, .c, .c, .c, .y ((eI .i64) v_y25), .c, .c, .c, .t false]) (ts := []) (s := [0]) (l := [1, 29, 30, 31]) (by kernel_rfl) (by kernel_rfl) (.cons (dt h12) (.cons (getI_ob (f := (eI .i64)) h21) (.cons (df h22) (.cons (df h23) (.cons (dt h26) (.cons (getI_ob (f := (eI .i64)) h27) (.cons (df h28) .nil))))))) (G_cred_Check_L2_ok hF ks n v_t8 k (wi .i64 (v_t17 + 1)) _ h q)
          · rw [if_neg h26] at h
            exact pkk_sound TTok mix hF 21 (hs := [.t true, .y ((eI .i64) v_y21), .c, .t false, .c, .t false, .t false, .c, .c, .c, .c, .c, .c, .c, .c]) (ts := []) (s := [0]) (l := [1, 29, 30, 31]) (by kernel_rfl) (by kernel_rfl) (.cons (dt h12) (.cons (getI_ob (f := (eI .i64)) h21) (.cons (df h22) (.cons (df h23) (.cons (df h26) .nil))))) (G_cred_Check_L2_ok hF ks n v_t8 k (wi .i64 (v_t17 + 1)) _ h q)
    · rw [if_neg h12] at h
      cases h
      exact pkk_sound TTok mix hF 8 (hs := [.t false]) (ts := []) (s := [0]) (l := [1]) (by kernel_rfl) (by kernel_rfl) (.cons (df h12) .nil) q
inductive G_cred_Check_C3_R where
  | x0 (v_t29 : Bool)
def G_cred_Check_C3_ex : G_cred_Check_C3_R → Ex
  | .x0 _ => .normal
def G_cred_Check_C3_st (v_t8 : S_api_Cred) : G_cred_Check_C3_R → PS
  | .x0 v_t29 => ⟨[dd, dd, dd, dd, dd, dd, dd, dd, dd, dd, dd, dd, dd, dd, dd, dd, dd, dd, dd, dd, dd, dd, dd, dd, dd, dd, dd, dd, dd, dd, dd, dd, dd, dd, dd, dd, dd, dd, dd, dd, dd, dd, dd, dd, dd, dd, dd, dd, dd, dd, dd, dd, dd, dd, dd, dd, dd, dd, dd, dd, dd, dd, dd, dd, dd, dd, dd, dd, dd, dd, dd, dd, dd, dd, dd, dd, dd, dd, dd, dd, dd, dd, .d (.v (.bool v_t29))], []⟩
def G_cred_Check_C3_hd (v_t8 : S_api_Cred)  : PS := ⟨[dd, .ref 0 0, dd, dd, dd, dd, dd, dd, dd, dd, dd, dd, dd, dd, dd, dd, dd, dd, dd, dd, dd, dd, dd, dd, dd, dd, dd, dd, dd, dd, dd, dd, dd, dd, dd, dd, dd, dd, dd, dd, dd, dd, dd, dd, dd, dd, dd, dd, dd, dd, dd, dd, dd, dd, dd, dd, dd, dd, dd, dd, dd, dd, dd, dd, dd, dd, dd, dd, dd, dd, dd, dd, dd, dd, dd, dd, dd, dd, dd, dd, dd, dd, dd], [.box [.d (.v (.int .i64 v_t8.fUser)), .d (.v (.int .i64 v_t8.fGroup)), .d (.sl (v_t8.fMore.map (eI .i64))), .d (.v (.int .i64 v_t8.fCaps)), .d (.v (.int .i64 v_t8.fLevel)), .d (.v (.int .i64 v_t8.fKind))]]⟩
def G_cred_Check_C3 (n : Nat) (v_t8 : S_api_Cred) : Option G_cred_Check_C3_R :=
  if v_t8.fCaps < 0 then
   some (.x0 true)
  else
   if v_t8.fCaps > 127 then
    some (.x0 true)
   else
    if v_t8.fLevel < 0 then
     some (.x0 true)
    else
     if v_t8.fLevel > 7 then
      some (.x0 true)
     else
      if v_t8.fKind < 0 then
       some (.x0 true)
      else
       some (.x0 (decide (v_t8.fKind > 255)))
theorem G_cred_Check_C3_ok {Fi : Ex → PS → Prop} (hF : KC 83 Fi) (ks : List Fr) (n : Nat) (v_t8 : S_api_Cred)  (o : G_cred_Check_C3_R) (h : G_cred_Check_C3 n v_t8 = some o) (q : RunE Try.prog 83 Fi ks (G_cred_Check_C3_ex o) (G_cred_Check_C3_st v_t8 o)) : RunE Try.prog 83 Fi (.s (cL (cL (cR (cR (cR (cR (bodyOf Try.f122))))))) :: ks) .normal (G_cred_Check_C3_hd v_t8) := by
  unfold G_cred_Check_C3 at h
  by_cases h35 : v_t8.fCaps < 0
  · rw [if_pos h35] at h
    cases h
    exact pkk_sound TTok mix hF 1 (hs := [.c, .t true, .c, .c, .c, .c, .c, .c, .c, .c, .c, .c, .c, .c, .c, .c]) (ts := []) (s := []) (l := [82]) (by kernel_rfl) (by kernel_rfl) (.cons (dt h35) .nil) q
  · rw [if_neg h35] at h
    by_cases h36 : v_t8.fCaps > 127
    · rw [if_pos h36] at h
      cases h
      exact pkk_sound TTok mix hF 1 (hs := [.c, .t false, .c, .c, .c, .t true, .c, .c, .c, .c, .c, .c, .c, .c, .c, .c, .c]) (ts := []) (s := []) (l := [82]) (by kernel_rfl) (by kernel_rfl) (.cons (df h35) (.cons (dt h36) .nil)) q
    · rw [if_neg h36] at h
      by_cases h37 : v_t8.fLevel < 0
      · rw [if_pos h37] at h
        cases h
        exact pkk_sound TTok mix hF 1 (hs := [.c, .t false, .c, .c, .c, .t false, .c, .c, .c, .t true, .c, .c, .c, .c, .c, .c, .c, .c]) (ts := []) (s := []) (l := [82]) (by kernel_rfl) (by kernel_rfl) (.cons (df h35) (.cons (df h36) (.cons (dt h37) .nil))) q
      · rw [if_neg h37] at h
        by_cases h38 : v_t8.fLevel > 7
        · rw [if_pos h38] at h
          cases h
          exact pkk_sound TTok mix hF 1 (hs := [.c, .t false, .c, .c, .c, .t false, .c, .c, .c, .t false, .c, .c, .c, .t true, .c, .c, .c, .c, .c]) (ts := []) (s := []) (l := [82]) (by kernel_rfl) (by kernel_rfl) (.cons (df h35) (.cons (df h36) (.cons (df h37) (.cons (dt h38) .nil)))) q
        · rw [if_neg h38] at h
          by_cases h39 : v_t8.fKind < 0
          · rw [if_pos h39] at h
            cases h
            exact pkk_sound TTok mix hF 1 (hs := [.c, .t false, .c, .c, .c, .t false, .c, .c, .c, .t false, .c, .c, .c, .t false, .c, .c, .c, .t true, .c, .c]) (ts := []) (s := []) (l := [82]) (by kernel_rfl) (by kernel_rfl) (.cons (df h35) (.cons (df h36) (.cons (df h37) (.cons (df h38) (.cons (dt h39) .nil))))) q
          · rw [if_neg h39] at h
            cases h
            exact pkk_sound TTok mix hF 1 (hs := [.c, .t false, .c, .c, .c, .t false, .c, .c, .c, .t false, .c, .c, .c, .t false, .c, .c, .c, .t false, .c, .c, .c]) (ts := []) (s := []) (l := [82]) (by kernel_rfl) (by kernel_rfl) (.cons (df h35) (.cons (df h36) (.cons (df h37) (.cons (df h38) (.cons (df h39) .nil))))) q
/- ringhall/cred.Check -/
def G_cred_Check (n : Nat) (v_t8 : S_api_Cred) : Option (Int) :=
  (G_cred_Check_L1 n v_t8 n 0 ([v_t8.fUser, v_t8.fGroup])).bind fun v_o15 => match v_o15 with
  | .x0 v_z16 =>
    some v_z16
  | .x1  =>
    if (v_t8.fMore.length : Int) > 4 then
     some 2
    else
     (G_cred_Check_L2 n v_t8 n 0).bind fun v_o27 => match v_o27 with
     | .x0 v_z28 =>
       some v_z28
     | .x1  =>
       (G_cred_Check_C3 n v_t8).bind fun v_o35 => match v_o35 with
       | .x0 v_z36 =>
         if v_z36 = true then
          some 1
         else
          some 0
theorem G_cred_Check_ok (n : Nat) (v_t8 : S_api_Cred) (r : Int) (h : G_cred_Check n v_t8 = some r) : Ret Try.prog 122 [eS_api_Cred v_t8] ((eI .i64) r) := by
  refine ret_run (n := 83) (fn := Try.f122) (c := bodyOf Try.f122) (by kernel_rfl) (by kernel_rfl) (by kernel_rfl) (by kernel_rfl) ?_
  have hF : KC 83 (FinR Try.prog Try.f122 ((eI .i64) r)) := FinR.kc' (by kernel_rfl)
  unfold G_cred_Check at h
  obtain ⟨v_o15, h10, h⟩ := bind_some h
  refine pkk_sound TTok mix hF 7 (hs := [.c, .c, .w ([v_t8.fUser, v_t8.fGroup].map (eI .i64)), .u (.d (.v (.int .i64 (([v_t8.fUser, v_t8.fGroup]).length : Int)))), .n n]) (ts := []) (s := [0, 6]) (l := [1, 11, 12, 13]) (by kernel_rfl) (by kernel_rfl) (.cons (Eq.refl ([v_t8.fUser, v_t8.fGroup].map (eI .i64))) (.cons (len_ob (f := (eI .i64)) (l := [v_t8.fUser, v_t8.fGroup])) .nil)) (G_cred_Check_L1_ok hF (.b 0 :: .s (cR (cR (bodyOf Try.f122))) :: []) n v_t8 n 0 ([v_t8.fUser, v_t8.fGroup]) _ h10 ?_)
  cases v_o15 with
  | x0 v_z16 =>
    dsimp only at h
    obtain rfl := Option.some.inj h
    exact pend_sound TTok mix 2 (hs := []) (by kernel_rfl) (by kernel_rfl) (by kernel_rfl) .nil
  | x1  =>
    dsimp only at h
    by_cases h11 : (v_t8.fMore.length : Int) > 4
    · rw [if_pos h11] at h
      obtain rfl := Option.some.inj h
      exact pend_sound TTok mix 9 (hs := [.c, .u (.d (.v (.int .i64 (v_t8.fMore.length : Int)))), .t true]) (by kernel_rfl) (by kernel_rfl) (by kernel_rfl) (.cons (len_ob (f := (eI .i64)) (l := v_t8.fMore)) (.cons (dt h11) .nil))
    · rw [if_neg h11] at h
      obtain ⟨v_o27, h29, h⟩ := bind_some h
      refine pkk_sound TTok mix hF 11 (hs := [.c, .u (.d (.v (.int .i64 (v_t8.fMore.length : Int)))), .t false, .c, .u (.d (.v (.int .i64 (v_t8.fMore.length : Int)))), .n n]) (ts := []) (s := [0]) (l := [1, 29, 30, 31]) (by kernel_rfl) (by kernel_rfl) (.cons (len_ob (f := (eI .i64)) (l := v_t8.fMore)) (.cons (df h11) (.cons (len_ob (f := (eI .i64)) (l := v_t8.fMore)) .nil))) (G_cred_Check_L2_ok hF (.b 2 :: .s (cR (cR (cR (cR (bodyOf Try.f122))))) :: []) n v_t8 n 0 _ h29 ?_)
      cases v_o27 with
      | x0 v_z28 =>
        dsimp only at h
        obtain rfl := Option.some.inj h
        exact pend_sound TTok mix 2 (hs := []) (by kernel_rfl) (by kernel_rfl) (by kernel_rfl) .nil
      | x1  =>
        dsimp only at h
        obtain ⟨v_o35, h40, h⟩ := bind_some h
        refine pkk_sound TTok mix hF 3 (hs := []) (ts := []) (s := [0]) (l := [1]) (by kernel_rfl) (by kernel_rfl) .nil (G_cred_Check_C3_ok hF (.s (cR (cL (cR (cR (cR (cR (bodyOf Try.f122))))))) :: .s (cR (cR (cR (cR (cR (bodyOf Try.f122)))))) :: []) n v_t8 _ h40 ?_)
        cases v_o35 with
        | x0 v_z36 =>
          dsimp only at h
          by_cases h41 : v_z36 = true
          · rw [if_pos h41] at h
            obtain rfl := Option.some.inj h
            exact pend_sound TTok mix 5 (hs := [.t true]) (by kernel_rfl) (by kernel_rfl) (by kernel_rfl) (.cons h41 .nil)
          · rw [if_neg h41] at h
            obtain rfl := Option.some.inj h
            exact pend_sound TTok mix 5 (hs := [.t false]) (by kernel_rfl) (by kernel_rfl) (by kernel_rfl) (.cons (vf h41) .nil)
inductive G_mode_Check_C1_R where
  | x0 (v_x39 : Bool)
def G_mode_Check_C1_ex : G_mode_Check_C1_R → Ex
  | .x0 _ => .normal
def G_mode_Check_C1_st (v_s38 : S_api_Stat) : G_mode_Check_C1_R → PS
  | .x0 v_x39 => ⟨[dd, dd, dd, dd, dd, dd, dd, dd, dd, dd, dd, dd, dd, dd, dd, dd, dd, dd, dd, dd, dd, dd, dd, dd, dd, dd, dd, dd, dd, dd, .d (.v (.bool v_x39))], []⟩
def G_mode_Check_C1_hd (v_s38 : S_api_Stat)  : PS := ⟨[dd, .ref 0 0, dd, dd, dd, dd, dd, dd, dd, dd, dd, dd, dd, dd, dd, dd, dd, dd, dd, dd, dd, dd, dd, dd, dd, dd, dd, dd, dd, dd, dd], [.box [.d (.v (.int .i64 v_s38.fKind)), .d (.v (.int .i64 v_s38.fMode)), .d (.v (.int .i64 v_s38.fUser)), .d (.v (.int .i64 v_s38.fGroup)), .d (.v (.int .i64 v_s38.fSize)), .d (.v (.int .i64 v_s38.fLinks))]]⟩
def G_mode_Check_C1 (n : Nat) (v_s38 : S_api_Stat) : Option G_mode_Check_C1_R :=
  if v_s38.fMode < 0 then
   some (.x0 true)
  else
   if v_s38.fMode > 511 then
    some (.x0 true)
   else
    if v_s38.fUser < 0 then
     some (.x0 true)
    else
     if v_s38.fUser > 99 then
      some (.x0 true)
     else
      if v_s38.fGroup < 0 then
       some (.x0 true)
      else
       some (.x0 (decide (v_s38.fGroup > 99)))
theorem G_mode_Check_C1_ok {Fi : Ex → PS → Prop} (hF : KC 31 Fi) (ks : List Fr) (n : Nat) (v_s38 : S_api_Stat)  (o : G_mode_Check_C1_R) (h : G_mode_Check_C1 n v_s38 = some o) (q : RunE Try.prog 31 Fi ks (G_mode_Check_C1_ex o) (G_mode_Check_C1_st v_s38 o)) : RunE Try.prog 31 Fi (.s (cL (cL (cR (bodyOf Try.f123)))) :: ks) .normal (G_mode_Check_C1_hd v_s38) := by
  unfold G_mode_Check_C1 at h
  by_cases h50 : v_s38.fMode < 0
  · rw [if_pos h50] at h
    cases h
    exact pkk_sound TTok mix hF 1 (hs := [.c, .t true, .c, .c, .c, .c, .c, .c, .c, .c, .c, .c, .c, .c, .c, .c]) (ts := []) (s := []) (l := [30]) (by kernel_rfl) (by kernel_rfl) (.cons (dt h50) .nil) q
  · rw [if_neg h50] at h
    by_cases h51 : v_s38.fMode > 511
    · rw [if_pos h51] at h
      cases h
      exact pkk_sound TTok mix hF 1 (hs := [.c, .t false, .c, .c, .c, .t true, .c, .c, .c, .c, .c, .c, .c, .c, .c, .c, .c]) (ts := []) (s := []) (l := [30]) (by kernel_rfl) (by kernel_rfl) (.cons (df h50) (.cons (dt h51) .nil)) q
    · rw [if_neg h51] at h
      by_cases h52 : v_s38.fUser < 0
      · rw [if_pos h52] at h
        cases h
        exact pkk_sound TTok mix hF 1 (hs := [.c, .t false, .c, .c, .c, .t false, .c, .c, .c, .t true, .c, .c, .c, .c, .c, .c, .c, .c]) (ts := []) (s := []) (l := [30]) (by kernel_rfl) (by kernel_rfl) (.cons (df h50) (.cons (df h51) (.cons (dt h52) .nil))) q
      · rw [if_neg h52] at h
        by_cases h53 : v_s38.fUser > 99
        · rw [if_pos h53] at h
          cases h
          exact pkk_sound TTok mix hF 1 (hs := [.c, .t false, .c, .c, .c, .t false, .c, .c, .c, .t false, .c, .c, .c, .t true, .c, .c, .c, .c, .c]) (ts := []) (s := []) (l := [30]) (by kernel_rfl) (by kernel_rfl) (.cons (df h50) (.cons (df h51) (.cons (df h52) (.cons (dt h53) .nil)))) q
        · rw [if_neg h53] at h
          by_cases h54 : v_s38.fGroup < 0
          · rw [if_pos h54] at h
            cases h
            exact pkk_sound TTok mix hF 1 (hs := [.c, .t false, .c, .c, .c, .t false, .c, .c, .c, .t false, .c, .c, .c, .t false, .c, .c, .c, .t true, .c, .c]) (ts := []) (s := []) (l := [30]) (by kernel_rfl) (by kernel_rfl) (.cons (df h50) (.cons (df h51) (.cons (df h52) (.cons (df h53) (.cons (dt h54) .nil))))) q
          · rw [if_neg h54] at h
            cases h
            exact pkk_sound TTok mix hF 1 (hs := [.c, .t false, .c, .c, .c, .t false, .c, .c, .c, .t false, .c, .c, .c, .t false, .c, .c, .c, .t false, .c, .c, .c]) (ts := []) (s := []) (l := [30]) (by kernel_rfl) (by kernel_rfl) (.cons (df h50) (.cons (df h51) (.cons (df h52) (.cons (df h53) (.cons (df h54) .nil))))) q
/- ringhall/mode.Check -/
def G_mode_Check (n : Nat) (v_s38 : S_api_Stat) : Option (Int) :=
  (G_mode_Check_C1 n v_s38).bind fun v_o45 => match v_o45 with
  | .x0 v_z46 =>
    if v_z46 = true then
     some 1
    else
     some 0
theorem G_mode_Check_ok (n : Nat) (v_s38 : S_api_Stat) (r : Int) (h : G_mode_Check n v_s38 = some r) : Ret Try.prog 123 [eS_api_Stat v_s38] ((eI .i64) r) := by
  refine ret_run (n := 31) (fn := Try.f123) (c := bodyOf Try.f123) (by kernel_rfl) (by kernel_rfl) (by kernel_rfl) (by kernel_rfl) ?_
  have hF : KC 31 (FinR Try.prog Try.f123 ((eI .i64) r)) := FinR.kc' (by kernel_rfl)
  unfold G_mode_Check at h
  obtain ⟨v_o45, h55, h⟩ := bind_some h
  refine pkk_sound TTok mix hF 4 (hs := []) (ts := []) (s := [0]) (l := [1]) (by kernel_rfl) (by kernel_rfl) .nil (G_mode_Check_C1_ok hF (.s (cR (cL (cR (bodyOf Try.f123)))) :: .s (cR (cR (bodyOf Try.f123))) :: []) n v_s38 _ h55 ?_)
  cases v_o45 with
  | x0 v_z46 =>
    dsimp only at h
    by_cases h56 : v_z46 = true
    · rw [if_pos h56] at h
      obtain rfl := Option.some.inj h
      exact pend_sound TTok mix 5 (hs := [.t true]) (by kernel_rfl) (by kernel_rfl) (by kernel_rfl) (.cons h56 .nil)
    · rw [if_neg h56] at h
      obtain rfl := Option.some.inj h
      exact pend_sound TTok mix 5 (hs := [.t false]) (by kernel_rfl) (by kernel_rfl) (by kernel_rfl) (.cons (vf h56) .nil)
/- ringhall/mode.wanted -/
def G_mode_wanted (n : Nat) (v_want48 : Int) : Option (Int) :=
  some (bits .or .i64 (bits .or .i64 (shlI .i64 (bits .and .i64 v_want48 1) 2) (bits .and .i64 v_want48 2)) (shrI .i64 (bits .and .i64 v_want48 4) 2))
theorem G_mode_wanted_ok (n : Nat) (v_want48 : Int) (r : Int) (h : G_mode_wanted n v_want48 = some r) : Ret Try.prog 124 [(eI .i64) v_want48] ((eI .i64) r) := by
  refine ret_run (n := 13) (fn := Try.f124) (c := bodyOf Try.f124) (by kernel_rfl) (by kernel_rfl) (by kernel_rfl) (by kernel_rfl) ?_
  have hF : KC 13 (FinR Try.prog Try.f124 ((eI .i64) r)) := FinR.kc' (by kernel_rfl)
  unfold G_mode_wanted at h
  obtain rfl := Option.some.inj h
  exact pend_sound TTok mix 5 (hs := []) (by kernel_rfl) (by kernel_rfl) (by kernel_rfl) (.cons (show (0 : Int) ≤ 2 by decide) (.cons (show (0 : Int) ≤ 2 by decide) .nil))
inductive G_slices_Index_int_int_L1_R where
  | x0 (v_x62 : Int)
  | x1 
def G_slices_Index_int_int_L1_ex : G_slices_Index_int_int_L1_R → Ex
  | .x0 _ => .ret
  | .x1  => .exit 0
def G_slices_Index_int_int_L1_st (v_s57 : (List Int)) (v_v58 : Int) : G_slices_Index_int_int_L1_R → PS
  | .x0 v_x62 => ⟨[dd, dd, dd, dd, .d (.v (.int .i64 v_x62)), dd, dd, dd, dd, dd, dd, dd, dd, dd, dd, dd, dd, dd, dd], []⟩
  | .x1  => ⟨[dd, dd, dd, dd, dd, dd, dd, dd, dd, dd, dd, dd, dd, dd, dd, dd, dd, dd, dd], []⟩
def G_slices_Index_int_int_L1_hd (v_s57 : (List Int)) (v_v58 : Int) (v_x59 : Int) : PS := ⟨[.d (.sl (v_s57.map (eI .i64))), .d (.v (.int .i64 v_v58)), dd, dd, dd, dd, dd, .d (.v (.int .i64 (v_s57.length : Int))), .d (.v (.int .i64 v_x59)), dd, dd, dd, dd, dd, dd, dd, dd, dd, dd], []⟩
def G_slices_Index_int_int_L1 (n : Nat) (v_s57 : (List Int)) (v_v58 : Int) : Nat → Int → Option G_slices_Index_int_int_L1_R
  | 0, _ => none
  | k + 1, v_x59 =>
    if v_x59 < (v_s57.length : Int) then
     (getI v_s57 v_x59).bind fun (v_y61 : Int) =>
     if v_v58 = v_y61 then
      some (.x0 v_x59)
     else
      G_slices_Index_int_int_L1 n v_s57 v_v58 k (wi .i64 (v_x59 + 1))
    else
     some (.x1 )
theorem G_slices_Index_int_int_L1_ok {Fi : Ex → PS → Prop} (hF : KC 19 Fi) (ks : List Fr) (n : Nat) (v_s57 : (List Int)) (v_v58 : Int)  : ∀ (k : Nat) (v_x59 : Int) (o : G_slices_Index_int_int_L1_R), G_slices_Index_int_int_L1 n v_s57 v_v58 k v_x59 = some o → RunE Try.prog 19 Fi ks (G_slices_Index_int_int_L1_ex o) (G_slices_Index_int_int_L1_st v_s57 v_v58 o) → RunE Try.prog 19 Fi (.l k (cP (cB (cR (cL (cR (bodyOf Try.f126)))))) :: ks) .normal (G_slices_Index_int_int_L1_hd v_s57 v_v58 v_x59)
  | 0, v_x59, o, h, q => by rw [G_slices_Index_int_int_L1] at h; cases h
  | k + 1, v_x59, o, h, q => by
    rw [G_slices_Index_int_int_L1] at h
    by_cases h73 : v_x59 < (v_s57.length : Int)
    · rw [if_pos h73] at h
      obtain ⟨v_y61, h76, h⟩ := bind_some h
      by_cases h77 : v_v58 = v_y61
      · rw [if_pos h77] at h
        cases h
        exact pkk_sound TTok mix hF 19 (hs := [.t true, .y ((eI .i64) v_y61), .c, .t true]) (ts := []) (s := []) (l := [4]) (by kernel_rfl) (by kernel_rfl) (.cons (dt h73) (.cons (getI_ob (f := (eI .i64)) h76) (.cons (bt h77) .nil))) q
      · rw [if_neg h77] at h
        exact pkk_sound TTok mix hF 16 (hs := [.t true, .y ((eI .i64) v_y61), .c, .t false]) (ts := []) (s := []) (l := [0, 1, 7, 8]) (by kernel_rfl) (by kernel_rfl) (.cons (dt h73) (.cons (getI_ob (f := (eI .i64)) h76) (.cons (bf h77) .nil))) (G_slices_Index_int_int_L1_ok hF ks n v_s57 v_v58 k (wi .i64 (v_x59 + 1)) _ h q)
    · rw [if_neg h73] at h
      cases h
      exact pkk_sound TTok mix hF 8 (hs := [.t false]) (ts := []) (s := []) (l := []) (by kernel_rfl) (by kernel_rfl) (.cons (df h73) .nil) q
/- slices.Index[[]int,int] -/
def G_slices_Index_int_int (n : Nat) (v_s57 : (List Int)) (v_v58 : Int) : Option (Int) :=
  (G_slices_Index_int_int_L1 n v_s57 v_v58 n 0).bind fun v_o63 => match v_o63 with
  | .x0 v_z64 =>
    some v_z64
  | .x1  =>
    some (-1)
theorem G_slices_Index_int_int_ok (n : Nat) (v_s57 : (List Int)) (v_v58 : Int) (r : Int) (h : G_slices_Index_int_int n v_s57 v_v58 = some r) : Ret Try.prog 126 [(eL (eI .i64)) v_s57, (eI .i64) v_v58] ((eI .i64) r) := by
  refine ret_run (n := 19) (fn := Try.f126) (c := bodyOf Try.f126) (by kernel_rfl) (by kernel_rfl) (by kernel_rfl) (by kernel_rfl) ?_
  have hF : KC 19 (FinR Try.prog Try.f126 ((eI .i64) r)) := FinR.kc' (by kernel_rfl)
  unfold G_slices_Index_int_int at h
  obtain ⟨v_o63, h78, h⟩ := bind_some h
  refine pkk_sound TTok mix hF 7 (hs := [.u (.d (.v (.int .i64 (v_s57.length : Int)))), .n n]) (ts := []) (s := []) (l := [0, 1, 7, 8]) (by kernel_rfl) (by kernel_rfl) (.cons (len_ob (f := (eI .i64)) (l := v_s57)) .nil) (G_slices_Index_int_int_L1_ok hF (.b 0 :: .s (cR (cR (bodyOf Try.f126))) :: []) n v_s57 v_v58 n 0 _ h78 ?_)
  cases v_o63 with
  | x0 v_z64 =>
    dsimp only at h
    obtain rfl := Option.some.inj h
    exact pend_sound TTok mix 2 (hs := []) (by kernel_rfl) (by kernel_rfl) (by kernel_rfl) .nil
  | x1  =>
    dsimp only at h
    obtain rfl := Option.some.inj h
    exact pend_sound TTok mix 4 (hs := []) (by kernel_rfl) (by kernel_rfl) (by kernel_rfl) .nil
/- slices.Contains[[]int,int] -/
def G_slices_Contains_int_int (n : Nat) (v_s55 : (List Int)) (v_v56 : Int) : Option (Bool) :=
  (G_slices_Index_int_int n v_s55 v_v56).bind fun (v_r65 : (Int)) =>
  some (decide (v_r65 ≥ 0))
theorem G_slices_Contains_int_int_ok (n : Nat) (v_s55 : (List Int)) (v_v56 : Int) (r : Bool) (h : G_slices_Contains_int_int n v_s55 v_v56 = some r) : Ret Try.prog 80 [(eL (eI .i64)) v_s55, (eI .i64) v_v56] (eB r) := by
  refine ret_run (n := 9) (fn := Try.f80) (c := bodyOf Try.f80) (by kernel_rfl) (by kernel_rfl) (by kernel_rfl) (by kernel_rfl) ?_
  have hF : KC 9 (FinR Try.prog Try.f80 (eB r)) := FinR.kc' (by kernel_rfl)
  unfold G_slices_Contains_int_int at h
  obtain ⟨v_r65, h79, h⟩ := bind_some h
  obtain rfl := Option.some.inj h
  exact pend_sound TTok mix 5 (hs := [.r ((eI .i64) v_r65)]) (by kernel_rfl) (by kernel_rfl) (by kernel_rfl) (.cons (G_slices_Index_int_int_ok n v_s55 v_v56 _ h79) .nil)
/- ringhall/cred.In -/
def G_cred_In (n : Nat) (v_c52 : S_api_Cred) (v_group53 : Int) : Option (Bool × Int) :=
  (G_cred_Check n v_c52).bind fun (v_r54 : (Int)) =>
  if v_r54 = 0 then
   if v_group53 = v_c52.fGroup then
    some (true, 0)
   else
    (G_slices_Contains_int_int n v_c52.fMore v_group53).bind fun (v_r67 : (Bool)) =>
    some (v_r67, 0)
  else
   some (false, v_r54)
theorem G_cred_In_ok (n : Nat) (v_c52 : S_api_Cred) (v_group53 : Int) (r : Bool × Int) (h : G_cred_In n v_c52 v_group53 = some r) : Ret Try.prog 119 [eS_api_Cred v_c52, (eI .i64) v_group53] (.tup [eB r.1, (eI .i64) r.2]) := by
  refine ret_run (n := 22) (fn := Try.f119) (c := bodyOf Try.f119) (by kernel_rfl) (by kernel_rfl) (by kernel_rfl) (by kernel_rfl) ?_
  have hF : KC 22 (FinR Try.prog Try.f119 (.tup [eB r.1, (eI .i64) r.2])) := FinR.kc' (by kernel_rfl)
  unfold G_cred_In at h
  obtain ⟨v_r54, h69, h⟩ := bind_some h
  by_cases h71 : v_r54 = 0
  · rw [if_pos h71] at h
    by_cases h81 : v_group53 = v_c52.fGroup
    · rw [if_pos h81] at h
      obtain rfl := Option.some.inj h
      exact pend_sound TTok mix 12 (hs := [.c, .r ((eI .i64) v_r54), .t false, .c, .t true, .c, .c, .c]) (by kernel_rfl) (by kernel_rfl) (by kernel_rfl) (.cons (G_cred_Check_ok n v_c52 _ h69) (.cons (nf h71) (.cons (bt h81) .nil)))
    · rw [if_neg h81] at h
      obtain ⟨v_r67, h82, h⟩ := bind_some h
      obtain rfl := Option.some.inj h
      exact pend_sound TTok mix 12 (hs := [.c, .r ((eI .i64) v_r54), .t false, .c, .t false, .c, .c, .c, .c, .r (eB v_r67)]) (by kernel_rfl) (by kernel_rfl) (by kernel_rfl) (.cons (G_cred_Check_ok n v_c52 _ h69) (.cons (nf h71) (.cons (bf h81) (.cons (G_slices_Contains_int_int_ok n v_c52.fMore v_group53 _ h82) .nil))))
  · rw [if_neg h71] at h
    obtain rfl := Option.some.inj h
    exact pend_sound TTok mix 12 (hs := [.c, .r ((eI .i64) v_r54), .t true]) (by kernel_rfl) (by kernel_rfl) (by kernel_rfl) (.cons (G_cred_Check_ok n v_c52 _ h69) (.cons (nt h71) .nil))
/- ringhall/mode.bits -/
def G_mode_bits (n : Nat) (v_s50 : S_api_Stat) (v_c51 : S_api_Cred) : Option (Int) :=
  if v_c51.fUser = v_s50.fUser then
   some (shrI .i64 v_s50.fMode 6)
  else
   (G_cred_In n v_c51 v_s50.fGroup).bind fun (v_r68 : (Bool × Int)) =>
   if v_r68.1 = true then
    some (bits .and .i64 (shrI .i64 v_s50.fMode 3) 7)
   else
    some (bits .and .i64 v_s50.fMode 7)
theorem G_mode_bits_ok (n : Nat) (v_s50 : S_api_Stat) (v_c51 : S_api_Cred) (r : Int) (h : G_mode_bits n v_s50 v_c51 = some r) : Ret Try.prog 125 [eS_api_Stat v_s50, eS_api_Cred v_c51] ((eI .i64) r) := by
  refine ret_run (n := 30) (fn := Try.f125) (c := bodyOf Try.f125) (by kernel_rfl) (by kernel_rfl) (by kernel_rfl) (by kernel_rfl) ?_
  have hF : KC 30 (FinR Try.prog Try.f125 ((eI .i64) r)) := FinR.kc' (by kernel_rfl)
  unfold G_mode_bits at h
  by_cases h67 : v_c51.fUser = v_s50.fUser
  · rw [if_pos h67] at h
    obtain rfl := Option.some.inj h
    exact pend_sound TTok mix 10 (hs := [.c, .c, .t true, .c]) (by kernel_rfl) (by kernel_rfl) (by kernel_rfl) (.cons (bt h67) (.cons (show (0 : Int) ≤ 6 by decide) .nil))
  · rw [if_neg h67] at h
    obtain ⟨v_r68, h83, h⟩ := bind_some h
    by_cases h86 : v_r68.1 = true
    · rw [if_pos h86] at h
      obtain rfl := Option.some.inj h
      exact pend_sound TTok mix 17 (hs := [.c, .c, .t false, .c, .c, .r (.tup [eB v_r68.1, (eI .i64) v_r68.2]), .t true, .c]) (by kernel_rfl) (by kernel_rfl) (by kernel_rfl) (.cons (bf h67) (.cons (G_cred_In_ok n v_c51 v_s50.fGroup _ h83) (.cons h86 (.cons (show (0 : Int) ≤ 3 by decide) .nil))))
    · rw [if_neg h86] at h
      obtain rfl := Option.some.inj h
      exact pend_sound TTok mix 17 (hs := [.c, .c, .t false, .c, .c, .r (.tup [eB v_r68.1, (eI .i64) v_r68.2]), .t false, .c]) (by kernel_rfl) (by kernel_rfl) (by kernel_rfl) (.cons (bf h67) (.cons (G_cred_In_ok n v_c51 v_s50.fGroup _ h83) (.cons (vf h86) .nil)))
inductive G_mode_over_C1_R where
  | x0 (v_out72 : Int)
def G_mode_over_C1_ex : G_mode_over_C1_R → Ex
  | .x0 _ => .normal
def G_mode_over_C1_st (v_c71 : S_api_Cred) (v_s70 : S_api_Stat) : G_mode_over_C1_R → PS
  | .x0 v_out72 => ⟨[dd, dd, dd, .ref 0 0, dd, .d (.v (.int .i64 v_out72)), dd, dd, dd, dd, dd, dd, dd, dd, dd, dd, dd, dd, dd, dd, dd, dd, dd, dd], [.box [.d (.v (.int .i64 v_c71.fUser)), .d (.v (.int .i64 v_c71.fGroup)), .d (.sl (v_c71.fMore.map (eI .i64))), .d (.v (.int .i64 v_c71.fCaps)), .d (.v (.int .i64 v_c71.fLevel)), .d (.v (.int .i64 v_c71.fKind))]]⟩
def G_mode_over_C1_hd (v_c71 : S_api_Cred) (v_s70 : S_api_Stat)  : PS := ⟨[dd, dd, .ref 0 0, .ref 1 0, dd, .d (.v (.int .i64 0)), dd, dd, dd, .d (.v (.bool ((bits .and .i64 v_c71.fCaps 1) != 0))), dd, dd, dd, dd, dd, dd, dd, dd, dd, dd, dd, dd, dd, dd], [.box [.d (.v (.int .i64 v_s70.fKind)), .d (.v (.int .i64 v_s70.fMode)), .d (.v (.int .i64 v_s70.fUser)), .d (.v (.int .i64 v_s70.fGroup)), .d (.v (.int .i64 v_s70.fSize)), .d (.v (.int .i64 v_s70.fLinks))], .box [.d (.v (.int .i64 v_c71.fUser)), .d (.v (.int .i64 v_c71.fGroup)), .d (.sl (v_c71.fMore.map (eI .i64))), .d (.v (.int .i64 v_c71.fCaps)), .d (.v (.int .i64 v_c71.fLevel)), .d (.v (.int .i64 v_c71.fKind))]]⟩
def G_mode_over_C1 (n : Nat) (v_c71 : S_api_Cred) (v_s70 : S_api_Stat) : Option G_mode_over_C1_R :=
  if (bits .and .i64 v_c71.fCaps 1) = 0 then
   some (.x0 0)
  else
   if v_s70.fKind = 2 then
    some (.x0 (bits .or .i64 (bits .or .i64 0 4) 1))
   else
    some (.x0 (bits .or .i64 0 4))
theorem G_mode_over_C1_ok {Fi : Ex → PS → Prop} (hF : KC 24 Fi) (ks : List Fr) (n : Nat) (v_c71 : S_api_Cred) (v_s70 : S_api_Stat)  (o : G_mode_over_C1_R) (h : G_mode_over_C1 n v_c71 v_s70 = some o) (q : RunE Try.prog 24 Fi ks (G_mode_over_C1_ex o) (G_mode_over_C1_st v_c71 v_s70 o)) : RunE Try.prog 24 Fi (.s (cR (cL (cR (cR (bodyOf Try.f121))))) :: ks) .normal (G_mode_over_C1_hd v_c71 v_s70) := by
  unfold G_mode_over_C1 at h
  by_cases h91 : (bits .and .i64 v_c71.fCaps 1) = 0
  · rw [if_pos h91] at h
    cases h
    exact pkk_sound TTok mix hF 2 (hs := [.t false]) (ts := []) (s := [1]) (l := [3, 5]) (by kernel_rfl) (by kernel_rfl) (.cons (nf h91) .nil) q
  · rw [if_neg h91] at h
    by_cases h92 : v_s70.fKind = 2
    · rw [if_pos h92] at h
      cases h
      exact pkk_sound TTok mix hF 7 (hs := [.t true, .c, .t true]) (ts := []) (s := [1]) (l := [3, 5]) (by kernel_rfl) (by kernel_rfl) (.cons (nt h91) (.cons (bt h92) .nil)) q
    · rw [if_neg h92] at h
      cases h
      exact pkk_sound TTok mix hF 7 (hs := [.t true, .c, .t false]) (ts := []) (s := [1]) (l := [3, 5]) (by kernel_rfl) (by kernel_rfl) (.cons (nt h91) (.cons (bf h92) .nil)) q
/- ringhall/mode.over -/
def G_mode_over (n : Nat) (v_s70 : S_api_Stat) (v_c71 : S_api_Cred) : Option (Int) :=
  (G_mode_over_C1 n v_c71 v_s70).bind fun v_o75 => match v_o75 with
  | .x0 v_z76 =>
    if (bits .and .i64 v_c71.fCaps 2) = 0 then
     some v_z76
    else
     some (bits .or .i64 v_z76 2)
theorem G_mode_over_ok (n : Nat) (v_s70 : S_api_Stat) (v_c71 : S_api_Cred) (r : Int) (h : G_mode_over n v_s70 v_c71 = some r) : Ret Try.prog 121 [eS_api_Stat v_s70, eS_api_Cred v_c71] ((eI .i64) r) := by
  refine ret_run (n := 24) (fn := Try.f121) (c := bodyOf Try.f121) (by kernel_rfl) (by kernel_rfl) (by kernel_rfl) (by kernel_rfl) ?_
  have hF : KC 24 (FinR Try.prog Try.f121 ((eI .i64) r)) := FinR.kc' (by kernel_rfl)
  unfold G_mode_over at h
  obtain ⟨v_o75, h93, h⟩ := bind_some h
  refine pkk_sound TTok mix hF 7 (hs := [.c]) (ts := []) (s := [0, 1]) (l := [2, 3, 5, 9]) (by kernel_rfl) (by kernel_rfl) .nil (G_mode_over_C1_ok hF (.s (cR (cR (cR (bodyOf Try.f121)))) :: []) n v_c71 v_s70 _ h93 ?_)
  cases v_o75 with
  | x0 v_z76 =>
    dsimp only at h
    by_cases h95 : (bits .and .i64 v_c71.fCaps 2) = 0
    · rw [if_pos h95] at h
      obtain rfl := Option.some.inj h
      exact pend_sound TTok mix 8 (hs := [.c, .t false]) (by kernel_rfl) (by kernel_rfl) (by kernel_rfl) (.cons (nf h95) .nil)
    · rw [if_neg h95] at h
      obtain rfl := Option.some.inj h
      exact pend_sound TTok mix 8 (hs := [.c, .t true]) (by kernel_rfl) (by kernel_rfl) (by kernel_rfl) (.cons (nt h95) .nil)
/- ringhall/mode.May -/
def G_mode_May (n : Nat) (v_s5 : S_api_Stat) (v_c6 : S_api_Cred) (v_want7 : Int) : Option (Bool × Int) :=
  (G_cred_Check n v_c6).bind fun (v_r37 : (Int)) =>
  if v_r37 = 0 then
   (G_mode_Check n v_s5).bind fun (v_r47 : (Int)) =>
   if v_r47 = 0 then
    if v_want7 < 0 then
     some (false, 1)
    else
     if v_want7 > 7 then
      some (false, 1)
     else
      (G_mode_wanted n v_want7).bind fun (v_r49 : (Int)) =>
      (G_mode_bits n v_s5 v_c6).bind fun (v_r69 : (Int)) =>
      (G_mode_over n v_s5 v_c6).bind fun (v_r77 : (Int)) =>
      some (((bits .andNot .i64 v_r49 (bits .or .i64 v_r69 v_r77)) == 0), 0)
   else
    some (false, v_r47)
  else
   some (false, v_r37)
theorem G_mode_May_ok (n : Nat) (v_s5 : S_api_Stat) (v_c6 : S_api_Cred) (v_want7 : Int) (r : Bool × Int) (h : G_mode_May n v_s5 v_c6 v_want7 = some r) : Ret Try.prog 79 [eS_api_Stat v_s5, eS_api_Cred v_c6, (eI .i64) v_want7] (.tup [eB r.1, (eI .i64) r.2]) := by
  refine ret_run (n := 37) (fn := Try.f79) (c := bodyOf Try.f79) (by kernel_rfl) (by kernel_rfl) (by kernel_rfl) (by kernel_rfl) ?_
  have hF : KC 37 (FinR Try.prog Try.f79 (.tup [eB r.1, (eI .i64) r.2])) := FinR.kc' (by kernel_rfl)
  unfold G_mode_May at h
  obtain ⟨v_r37, h42, h⟩ := bind_some h
  by_cases h44 : v_r37 = 0
  · rw [if_pos h44] at h
    obtain ⟨v_r47, h57, h⟩ := bind_some h
    by_cases h59 : v_r47 = 0
    · rw [if_pos h59] at h
      by_cases h60 : v_want7 < 0
      · rw [if_pos h60] at h
        obtain rfl := Option.some.inj h
        exact pend_sound TTok mix 24 (hs := [.c, .r ((eI .i64) v_r37), .t false, .c, .r ((eI .i64) v_r47), .t false, .t true, .c, .c]) (by kernel_rfl) (by kernel_rfl) (by kernel_rfl) (.cons (G_cred_Check_ok n v_c6 _ h42) (.cons (nf h44) (.cons (G_mode_Check_ok n v_s5 _ h57) (.cons (nf h59) (.cons (dt h60) .nil)))))
      · rw [if_neg h60] at h
        by_cases h61 : v_want7 > 7
        · rw [if_pos h61] at h
          obtain rfl := Option.some.inj h
          exact pend_sound TTok mix 24 (hs := [.c, .r ((eI .i64) v_r37), .t false, .c, .r ((eI .i64) v_r47), .t false, .t false, .c, .t true]) (by kernel_rfl) (by kernel_rfl) (by kernel_rfl) (.cons (G_cred_Check_ok n v_c6 _ h42) (.cons (nf h44) (.cons (G_mode_Check_ok n v_s5 _ h57) (.cons (nf h59) (.cons (df h60) (.cons (dt h61) .nil))))))
        · rw [if_neg h61] at h
          obtain ⟨v_r49, h64, h⟩ := bind_some h
          obtain ⟨v_r69, h88, h⟩ := bind_some h
          obtain ⟨v_r77, h96, h⟩ := bind_some h
          obtain rfl := Option.some.inj h
          exact pend_sound TTok mix 24 (hs := [.c, .r ((eI .i64) v_r37), .t false, .c, .r ((eI .i64) v_r47), .t false, .t false, .c, .t false, .r ((eI .i64) v_r49), .c, .c, .r ((eI .i64) v_r69), .c, .c, .r ((eI .i64) v_r77)]) (by kernel_rfl) (by kernel_rfl) (by kernel_rfl) (.cons (G_cred_Check_ok n v_c6 _ h42) (.cons (nf h44) (.cons (G_mode_Check_ok n v_s5 _ h57) (.cons (nf h59) (.cons (df h60) (.cons (df h61) (.cons (G_mode_wanted_ok n v_want7 _ h64) (.cons (G_mode_bits_ok n v_s5 v_c6 _ h88) (.cons (G_mode_over_ok n v_s5 v_c6 _ h96) .nil)))))))))
    · rw [if_neg h59] at h
      obtain rfl := Option.some.inj h
      exact pend_sound TTok mix 19 (hs := [.c, .r ((eI .i64) v_r37), .t false, .c, .r ((eI .i64) v_r47), .t true]) (by kernel_rfl) (by kernel_rfl) (by kernel_rfl) (.cons (G_cred_Check_ok n v_c6 _ h42) (.cons (nf h44) (.cons (G_mode_Check_ok n v_s5 _ h57) (.cons (nt h59) .nil))))
  · rw [if_neg h44] at h
    obtain rfl := Option.some.inj h
    exact pend_sound TTok mix 12 (hs := [.c, .r ((eI .i64) v_r37), .t true]) (by kernel_rfl) (by kernel_rfl) (by kernel_rfl) (.cons (G_cred_Check_ok n v_c6 _ h42) (.cons (nt h44) .nil))
/- ringhall/mode.rights -/
def G_mode_rights (n : Nat) (v_b99 : Int) : Option (Int) :=
  some (bits .or .i64 (bits .or .i64 (bits .and .i64 (shrI .i64 v_b99 2) 1) (bits .and .i64 v_b99 2)) (shlI .i64 (bits .and .i64 v_b99 1) 2))
theorem G_mode_rights_ok (n : Nat) (v_b99 : Int) (r : Int) (h : G_mode_rights n v_b99 = some r) : Ret Try.prog 120 [(eI .i64) v_b99] ((eI .i64) r) := by
  refine ret_run (n := 13) (fn := Try.f120) (c := bodyOf Try.f120) (by kernel_rfl) (by kernel_rfl) (by kernel_rfl) (by kernel_rfl) ?_
  have hF : KC 13 (FinR Try.prog Try.f120 ((eI .i64) r)) := FinR.kc' (by kernel_rfl)
  unfold G_mode_rights at h
  obtain rfl := Option.some.inj h
  exact pend_sound TTok mix 5 (hs := []) (by kernel_rfl) (by kernel_rfl) (by kernel_rfl) (.cons (show (0 : Int) ≤ 2 by decide) (.cons (show (0 : Int) ≤ 2 by decide) .nil))
inductive G_mode_Listed_L1_R where
  | x0 (v_t87 : Bool) (v_t88 : Int)
  | x1 
def G_mode_Listed_L1_ex : G_mode_Listed_L1_R → Ex
  | .x0 _ _ => .ret
  | .x1  => .exit 0
def G_mode_Listed_L1_st (v_t80 : (List S_mode_Entry)) (v_t82 : Int) (v_r83 : (Bool × Int)) (v_t79 : S_api_Stat) (v_t81 : S_api_Cred) : G_mode_Listed_L1_R → PS
  | .x0 v_t87 v_t88 => ⟨[dd, dd, dd, dd, dd, dd, dd, dd, .d (.v (.bool v_t87)), .d (.v (.int .i64 v_t88)), dd, dd, dd, dd, dd, dd, dd, dd, dd, dd, dd, dd, dd, dd, dd, dd, dd, dd, dd, dd, dd, dd, dd, dd, dd, dd, dd, dd, dd, dd, dd, dd, dd, dd, dd, dd, dd, dd, dd, dd, dd, dd, dd, dd, dd, dd, dd, dd, dd, dd, dd, dd, dd, dd, dd, dd, dd, dd, dd, dd, dd, dd, dd, dd, dd, dd, dd, dd], []⟩
  | .x1  => ⟨[dd, .d (.sl (v_t80.map eS_mode_Entry)), dd, .d (.v (.int .i64 v_t82)), .ref 0 0, dd, .ref 1 0, dd, dd, dd, .d (.v (.bool v_r83.1)), dd, dd, dd, dd, dd, dd, dd, dd, dd, dd, dd, dd, dd, dd, dd, dd, dd, dd, dd, dd, dd, dd, dd, dd, dd, dd, dd, dd, dd, dd, dd, dd, dd, dd, dd, dd, dd, dd, dd, dd, dd, dd, dd, dd, dd, dd, dd, dd, dd, dd, dd, dd, dd, dd, dd, dd, dd, dd, dd, dd, dd, dd, dd, dd, dd, dd, dd], [.box [.d (.v (.int .i64 v_t79.fKind)), .d (.v (.int .i64 v_t79.fMode)), .d (.v (.int .i64 v_t79.fUser)), .d (.v (.int .i64 v_t79.fGroup)), .d (.v (.int .i64 v_t79.fSize)), .d (.v (.int .i64 v_t79.fLinks))], .box [.d (.v (.int .i64 v_t81.fUser)), .d (.v (.int .i64 v_t81.fGroup)), .d (.sl (v_t81.fMore.map (eI .i64))), .d (.v (.int .i64 v_t81.fCaps)), .d (.v (.int .i64 v_t81.fLevel)), .d (.v (.int .i64 v_t81.fKind))]]⟩
def G_mode_Listed_L1_hd (v_t80 : (List S_mode_Entry)) (v_t82 : Int) (v_r83 : (Bool × Int)) (v_t79 : S_api_Stat) (v_t81 : S_api_Cred) (v_t84 : Int) : PS := ⟨[dd, .d (.sl (v_t80.map eS_mode_Entry)), dd, .d (.v (.int .i64 v_t82)), .ref 0 0, dd, .ref 1 0, dd, dd, dd, .d (.v (.bool v_r83.1)), dd, dd, dd, dd, dd, dd, dd, dd, dd, dd, dd, dd, dd, dd, dd, dd, dd, dd, dd, .d (.sl (v_t80.map eS_mode_Entry)), .d (.v (.int .i64 (v_t80.length : Int))), .d (.v (.int .i64 v_t84)), dd, dd, dd, dd, dd, dd, dd, dd, dd, dd, dd, dd, dd, dd, dd, dd, dd, dd, dd, dd, dd, dd, dd, dd, dd, dd, dd, dd, dd, dd, dd, dd, dd, dd, dd, dd, dd, dd, dd, dd, dd, dd, dd, dd, dd], [.box [.d (.v (.int .i64 v_t79.fKind)), .d (.v (.int .i64 v_t79.fMode)), .d (.v (.int .i64 v_t79.fUser)), .d (.v (.int .i64 v_t79.fGroup)), .d (.v (.int .i64 v_t79.fSize)), .d (.v (.int .i64 v_t79.fLinks))], .box [.d (.v (.int .i64 v_t81.fUser)), .d (.v (.int .i64 v_t81.fGroup)), .d (.sl (v_t81.fMore.map (eI .i64))), .d (.v (.int .i64 v_t81.fCaps)), .d (.v (.int .i64 v_t81.fLevel)), .d (.v (.int .i64 v_t81.fKind))]]⟩
def G_mode_Listed_L1 (n : Nat) (v_t80 : (List S_mode_Entry)) (v_t82 : Int) (v_r83 : (Bool × Int)) (v_t79 : S_api_Stat) (v_t81 : S_api_Cred) : Nat → Int → Option G_mode_Listed_L1_R
  | 0, _ => none
  | k + 1, v_t84 =>
    if v_t84 < (v_t80.length : Int) then
     (getI v_t80 v_t84).bind fun (v_y86 : S_mode_Entry) =>
     if v_y86.fMay < 0 then
      some (.x0 false 1)
     else
      if v_y86.fMay > 7 then
       some (.x0 false 1)
      else
       G_mode_Listed_L1 n v_t80 v_t82 v_r83 v_t79 v_t81 k (wi .i64 (v_t84 + 1))
    else
     some (.x1 )
theorem G_mode_Listed_L1_ok {Fi : Ex → PS → Prop} (hF : KC 78 Fi) (ks : List Fr) (n : Nat) (v_t80 : (List S_mode_Entry)) (v_t82 : Int) (v_r83 : (Bool × Int)) (v_t79 : S_api_Stat) (v_t81 : S_api_Cred)  : ∀ (k : Nat) (v_t84 : Int) (o : G_mode_Listed_L1_R), G_mode_Listed_L1 n v_t80 v_t82 v_r83 v_t79 v_t81 k v_t84 = some o → RunE Try.prog 78 Fi ks (G_mode_Listed_L1_ex o) (G_mode_Listed_L1_st v_t80 v_t82 v_r83 v_t79 v_t81 o) → RunE Try.prog 78 Fi (.l k (cP (cB (cR (cL (cR (cR (cR (cR (bodyOf Try.f78))))))))) :: ks) .normal (G_mode_Listed_L1_hd v_t80 v_t82 v_r83 v_t79 v_t81 v_t84)
  | 0, v_t84, o, h, q => by rw [G_mode_Listed_L1] at h; cases h
  | k + 1, v_t84, o, h, q => by
    rw [G_mode_Listed_L1] at h
    by_cases h102 : v_t84 < (v_t80.length : Int)
    · rw [if_pos h102] at h
      obtain ⟨v_y86, h106, h⟩ := bind_some h
      by_cases h107 : v_y86.fMay < 0
      · rw [if_pos h107] at h
        cases h
        exact pkk_sound TTok mix hF 19 (hs := [.t true, .y (eS_mode_Entry v_y86), .c, .c, .t true, .c, .c, .c]) (ts := []) (s := []) (l := [8, 9]) (by kernel_rfl) (by kernel_rfl) (.cons (dt h102) (.cons (getI_ob (f := eS_mode_Entry) h106) (.cons (show 0 + 3 ≤ 3 by decide) (.cons (dt h107) .nil)))) q
      · rw [if_neg h107] at h
        by_cases h108 : v_y86.fMay > 7
        · rw [if_pos h108] at h
          cases h
          exact pkk_sound TTok mix hF 19 (hs := [.t true, .y (eS_mode_Entry v_y86), .c, .c, .t false, .c, .c, .c, .t true]) (ts := []) (s := []) (l := [8, 9]) (by kernel_rfl) (by kernel_rfl) (.cons (dt h102) (.cons (getI_ob (f := eS_mode_Entry) h106) (.cons (show 0 + 3 ≤ 3 by decide) (.cons (df h107) (.cons (dt h108) .nil))))) q
        · rw [if_neg h108] at h
          exact pkk_sound TTok mix hF 16 (hs := [.t true, .y (eS_mode_Entry v_y86), .c, .c, .t false, .c, .c, .c, .t false]) (ts := []) (s := [0, 1]) (l := [1, 3, 4, 6, 10, 30, 31, 32]) (by kernel_rfl) (by kernel_rfl) (.cons (dt h102) (.cons (getI_ob (f := eS_mode_Entry) h106) (.cons (show 0 + 3 ≤ 3 by decide) (.cons (df h107) (.cons (df h108) .nil))))) (G_mode_Listed_L1_ok hF ks n v_t80 v_t82 v_r83 v_t79 v_t81 k (wi .i64 (v_t84 + 1)) _ h q)
    · rw [if_neg h102] at h
      cases h
      exact pkk_sound TTok mix hF 8 (hs := [.t false]) (ts := []) (s := [0, 1]) (l := [1, 3, 4, 6, 10]) (by kernel_rfl) (by kernel_rfl) (.cons (df h102) .nil) q
inductive G_mode_Listed_L2_R where
  | x0 (v_t114 : Bool) (v_t115 : Int)
  | x1 
def G_mode_Listed_L2_ex : G_mode_Listed_L2_R → Ex
  | .x0 _ _ => .ret
  | .x1  => .exit 2
def G_mode_Listed_L2_st (v_t82 : Int) (v_r83 : (Bool × Int)) (v_t80 : (List S_mode_Entry)) (v_t79 : S_api_Stat) (v_t81 : S_api_Cred) : G_mode_Listed_L2_R → PS
  | .x0 v_t114 v_t115 => ⟨[dd, dd, dd, dd, dd, dd, dd, dd, .d (.v (.bool v_t114)), .d (.v (.int .i64 v_t115)), dd, dd, dd, dd, dd, dd, dd, dd, dd, dd, dd, dd, dd, dd, dd, dd, dd, dd, dd, dd, dd, dd, dd, dd, dd, dd, dd, dd, dd, dd, dd, dd, dd, dd, dd, dd, dd, dd, dd, dd, dd, dd, dd, dd, dd, dd, dd, dd, dd, dd, dd, dd, dd, dd, dd, dd, dd, dd, dd, dd, dd, dd, dd, dd, dd, dd, dd, dd], []⟩
  | .x1  => ⟨[dd, dd, dd, dd, dd, dd, dd, dd, dd, dd, .d (.v (.bool v_r83.1)), dd, dd, dd, dd, dd, dd, dd, dd, dd, dd, dd, dd, dd, dd, dd, dd, dd, dd, dd, dd, dd, dd, dd, dd, dd, dd, dd, dd, dd, dd, dd, dd, dd, dd, dd, dd, dd, dd, dd, dd, dd, dd, dd, dd, dd, dd, dd, dd, dd, dd, dd, dd, dd, dd, dd, dd, dd, dd, dd, dd, dd, dd, dd, dd, dd, dd, dd], []⟩
def G_mode_Listed_L2_hd (v_t82 : Int) (v_r83 : (Bool × Int)) (v_t80 : (List S_mode_Entry)) (v_t79 : S_api_Stat) (v_t81 : S_api_Cred) (v_t94 : Int) : PS := ⟨[dd, dd, dd, .d (.v (.int .i64 v_t82)), .ref 0 0, dd, .ref 1 0, dd, dd, dd, .d (.v (.bool v_r83.1)), dd, dd, dd, dd, dd, dd, dd, dd, dd, dd, dd, dd, dd, dd, dd, dd, dd, dd, dd, dd, dd, dd, dd, dd, dd, dd, dd, dd, dd, dd, dd, dd, dd, dd, .d (.sl (v_t80.map eS_mode_Entry)), .d (.v (.int .i64 (v_t80.length : Int))), .d (.v (.int .i64 v_t94)), dd, dd, dd, dd, dd, dd, dd, dd, dd, dd, dd, dd, dd, dd, dd, dd, dd, dd, dd, dd, dd, dd, dd, dd, dd, dd, dd, dd, dd, dd], [.box [.d (.v (.int .i64 v_t79.fKind)), .d (.v (.int .i64 v_t79.fMode)), .d (.v (.int .i64 v_t79.fUser)), .d (.v (.int .i64 v_t79.fGroup)), .d (.v (.int .i64 v_t79.fSize)), .d (.v (.int .i64 v_t79.fLinks))], .box [.d (.v (.int .i64 v_t81.fUser)), .d (.v (.int .i64 v_t81.fGroup)), .d (.sl (v_t81.fMore.map (eI .i64))), .d (.v (.int .i64 v_t81.fCaps)), .d (.v (.int .i64 v_t81.fLevel)), .d (.v (.int .i64 v_t81.fKind))]]⟩
def G_mode_Listed_L2 (n : Nat) (v_t82 : Int) (v_r83 : (Bool × Int)) (v_t80 : (List S_mode_Entry)) (v_t79 : S_api_Stat) (v_t81 : S_api_Cred) : Nat → Int → Option G_mode_Listed_L2_R
  | 0, _ => none
  | k + 1, v_t94 =>
    if v_t94 < (v_t80.length : Int) then
     (getI v_t80 v_t94).bind fun (v_y107 : S_mode_Entry) =>
     if v_y107.fGroup = true then
      (G_cred_In n v_t81 v_y107.fId).bind fun (v_r109 : (Bool × Int)) =>
      if v_r109.1 = true then
       (G_mode_over n v_t79 v_t81).bind fun (v_r112 : (Int)) =>
       (G_mode_rights n v_r112).bind fun (v_r113 : (Int)) =>
       some (.x0 ((bits .andNot .i64 (bits .andNot .i64 v_t82 v_y107.fMay) v_r113) == 0) 0)
      else
       G_mode_Listed_L2 n v_t82 v_r83 v_t80 v_t79 v_t81 k (wi .i64 (v_t94 + 1))
     else
      if v_y107.fId = v_t81.fUser then
       (G_mode_over n v_t79 v_t81).bind fun (v_r118 : (Int)) =>
       (G_mode_rights n v_r118).bind fun (v_r119 : (Int)) =>
       some (.x0 ((bits .andNot .i64 (bits .andNot .i64 v_t82 v_y107.fMay) v_r119) == 0) 0)
      else
       G_mode_Listed_L2 n v_t82 v_r83 v_t80 v_t79 v_t81 k (wi .i64 (v_t94 + 1))
    else
     some (.x1 )
theorem G_mode_Listed_L2_ok {Fi : Ex → PS → Prop} (hF : KC 78 Fi) (ks : List Fr) (n : Nat) (v_t82 : Int) (v_r83 : (Bool × Int)) (v_t80 : (List S_mode_Entry)) (v_t79 : S_api_Stat) (v_t81 : S_api_Cred)  : ∀ (k : Nat) (v_t94 : Int) (o : G_mode_Listed_L2_R), G_mode_Listed_L2 n v_t82 v_r83 v_t80 v_t79 v_t81 k v_t94 = some o → RunE Try.prog 78 Fi ks (G_mode_Listed_L2_ex o) (G_mode_Listed_L2_st v_t82 v_r83 v_t80 v_t79 v_t81 o) → RunE Try.prog 78 Fi (.l k (cP (cB (cR (cL (cR (cR (cR (cR (cR (bodyOf Try.f78)))))))))) :: ks) .normal (G_mode_Listed_L2_hd v_t82 v_r83 v_t80 v_t79 v_t81 v_t94)
  | 0, v_t94, o, h, q => by rw [G_mode_Listed_L2] at h; cases h
  | k + 1, v_t94, o, h, q => by
    rw [G_mode_Listed_L2] at h
    by_cases h110 : v_t94 < (v_t80.length : Int)
    · rw [if_pos h110] at h
      obtain ⟨v_y107, h130, h⟩ := bind_some h
      by_cases h133 : v_y107.fGroup = true
      · rw [if_pos h133] at h
        obtain ⟨v_r109, h134, h⟩ := bind_some h
        by_cases h138 : v_r109.1 = true
        · rw [if_pos h138] at h
          obtain ⟨v_r112, h139, h⟩ := bind_some h
          obtain ⟨v_r113, h140, h⟩ := bind_some h
          cases h
          exact pkk_sound TTok mix hF 26 (hs := [.t true, .y (eS_mode_Entry v_y107), .c, .c, .c, .c, .t true, .c, .c, .r (.tup [eB v_r109.1, (eI .i64) v_r109.2]), .t true, .c, .c, .c, .r ((eI .i64) v_r112), .r ((eI .i64) v_r113)]) (ts := []) (s := []) (l := [8, 9]) (by kernel_rfl) (by kernel_rfl) (.cons (dt h110) (.cons (getI_ob (f := eS_mode_Entry) h130) (.cons (show 0 + 3 ≤ 3 by decide) (.cons h133 (.cons (G_cred_In_ok n v_t81 v_y107.fId _ h134) (.cons h138 (.cons (G_mode_over_ok n v_t79 v_t81 _ h139) (.cons (G_mode_rights_ok n v_r112 _ h140) .nil)))))))) q
        · rw [if_neg h138] at h
          exact pkk_sound TTok mix hF 23 (hs := [.t true, .y (eS_mode_Entry v_y107), .c, .c, .c, .c, .t true, .c, .c, .r (.tup [eB v_r109.1, (eI .i64) v_r109.2]), .t false]) (ts := []) (s := [0, 1]) (l := [3, 4, 6, 10, 45, 46, 47]) (by kernel_rfl) (by kernel_rfl) (.cons (dt h110) (.cons (getI_ob (f := eS_mode_Entry) h130) (.cons (show 0 + 3 ≤ 3 by decide) (.cons h133 (.cons (G_cred_In_ok n v_t81 v_y107.fId _ h134) (.cons (vf h138) .nil)))))) (G_mode_Listed_L2_ok hF ks n v_t82 v_r83 v_t80 v_t79 v_t81 k (wi .i64 (v_t94 + 1)) _ h q)
      · rw [if_neg h133] at h
        by_cases h144 : v_y107.fId = v_t81.fUser
        · rw [if_pos h144] at h
          obtain ⟨v_r118, h145, h⟩ := bind_some h
          obtain ⟨v_r119, h146, h⟩ := bind_some h
          cases h
          exact pkk_sound TTok mix hF 26 (hs := [.t true, .y (eS_mode_Entry v_y107), .c, .c, .c, .c, .t false, .t true, .c, .c, .c, .r ((eI .i64) v_r118), .r ((eI .i64) v_r119)]) (ts := []) (s := []) (l := [8, 9]) (by kernel_rfl) (by kernel_rfl) (.cons (dt h110) (.cons (getI_ob (f := eS_mode_Entry) h130) (.cons (show 0 + 3 ≤ 3 by decide) (.cons (vf h133) (.cons (bt h144) (.cons (G_mode_over_ok n v_t79 v_t81 _ h145) (.cons (G_mode_rights_ok n v_r118 _ h146) .nil))))))) q
        · rw [if_neg h144] at h
          exact pkk_sound TTok mix hF 23 (hs := [.t true, .y (eS_mode_Entry v_y107), .c, .c, .c, .c, .t false, .t false]) (ts := []) (s := [0, 1]) (l := [3, 4, 6, 10, 45, 46, 47]) (by kernel_rfl) (by kernel_rfl) (.cons (dt h110) (.cons (getI_ob (f := eS_mode_Entry) h130) (.cons (show 0 + 3 ≤ 3 by decide) (.cons (vf h133) (.cons (bf h144) .nil))))) (G_mode_Listed_L2_ok hF ks n v_t82 v_r83 v_t80 v_t79 v_t81 k (wi .i64 (v_t94 + 1)) _ h q)
    · rw [if_neg h110] at h
      cases h
      exact pkk_sound TTok mix hF 8 (hs := [.t false]) (ts := []) (s := []) (l := [10]) (by kernel_rfl) (by kernel_rfl) (.cons (df h110) .nil) q
/- ringhall/mode.Listed -/
def G_mode_Listed (n : Nat) (v_t79 : S_api_Stat) (v_t80 : (List S_mode_Entry)) (v_t81 : S_api_Cred) (v_t82 : Int) : Option (Bool × Int) :=
  (G_mode_May n v_t79 v_t81 v_t82).bind fun (v_r83 : (Bool × Int)) =>
  if v_r83.2 = 0 then
   if (v_t80.length : Int) > 6 then
    some (false, 2)
   else
    (G_mode_Listed_L1 n v_t80 v_t82 v_r83 v_t79 v_t81 n 0).bind fun v_o91 => match v_o91 with
    | .x0 v_z92 v_z93 =>
      some (v_z92, v_z93)
    | .x1  =>
      (G_mode_Listed_L2 n v_t82 v_r83 v_t80 v_t79 v_t81 n 0).bind fun v_o122 => match v_o122 with
      | .x0 v_z123 v_z124 =>
        some (v_z123, v_z124)
      | .x1  =>
        some (v_r83.1, 0)
  else
   some (false, v_r83.2)
theorem G_mode_Listed_ok (n : Nat) (v_t79 : S_api_Stat) (v_t80 : (List S_mode_Entry)) (v_t81 : S_api_Cred) (v_t82 : Int) (r : Bool × Int) (h : G_mode_Listed n v_t79 v_t80 v_t81 v_t82 = some r) : Ret Try.prog 78 [eS_api_Stat v_t79, (eL eS_mode_Entry) v_t80, eS_api_Cred v_t81, (eI .i64) v_t82] (.tup [eB r.1, (eI .i64) r.2]) := by
  refine ret_run (n := 78) (fn := Try.f78) (c := bodyOf Try.f78) (by kernel_rfl) (by kernel_rfl) (by kernel_rfl) (by kernel_rfl) ?_
  have hF : KC 78 (FinR Try.prog Try.f78 (.tup [eB r.1, (eI .i64) r.2])) := FinR.kc' (by kernel_rfl)
  unfold G_mode_Listed at h
  obtain ⟨v_r83, h98, h⟩ := bind_some h
  by_cases h100 : v_r83.2 = 0
  · rw [if_pos h100] at h
    by_cases h101 : (v_t80.length : Int) > 6
    · rw [if_pos h101] at h
      obtain rfl := Option.some.inj h
      exact pend_sound TTok mix 17 (hs := [.c, .c, .r (.tup [eB v_r83.1, (eI .i64) v_r83.2]), .t false, .u (.d (.v (.int .i64 (v_t80.length : Int)))), .t true]) (by kernel_rfl) (by kernel_rfl) (by kernel_rfl) (.cons (G_mode_May_ok n v_t79 v_t81 v_t82 _ h98) (.cons (nf h100) (.cons (len_ob (f := eS_mode_Entry) (l := v_t80)) (.cons (dt h101) .nil))))
    · rw [if_neg h101] at h
      obtain ⟨v_o91, h109, h⟩ := bind_some h
      refine pkk_sound TTok mix hF 19 (hs := [.c, .c, .r (.tup [eB v_r83.1, (eI .i64) v_r83.2]), .t false, .u (.d (.v (.int .i64 (v_t80.length : Int)))), .t false, .u (.d (.v (.int .i64 (v_t80.length : Int)))), .n n]) (ts := []) (s := [0, 1]) (l := [1, 3, 4, 6, 10, 30, 31, 32]) (by kernel_rfl) (by kernel_rfl) (.cons (G_mode_May_ok n v_t79 v_t81 v_t82 _ h98) (.cons (nf h100) (.cons (len_ob (f := eS_mode_Entry) (l := v_t80)) (.cons (df h101) (.cons (len_ob (f := eS_mode_Entry) (l := v_t80)) .nil))))) (G_mode_Listed_L1_ok hF (.b 0 :: .s (cR (cR (cR (cR (cR (bodyOf Try.f78)))))) :: []) n v_t80 v_t82 v_r83 v_t79 v_t81 n 0 _ h109 ?_)
      cases v_o91 with
      | x0 v_z92 v_z93 =>
        dsimp only at h
        obtain rfl := Option.some.inj h
        exact pend_sound TTok mix 2 (hs := []) (by kernel_rfl) (by kernel_rfl) (by kernel_rfl) .nil
      | x1  =>
        dsimp only at h
        obtain ⟨v_o122, h147, h⟩ := bind_some h
        refine pkk_sound TTok mix hF 6 (hs := [.u (.d (.v (.int .i64 (v_t80.length : Int)))), .n n]) (ts := []) (s := [0, 1]) (l := [3, 4, 6, 10, 45, 46, 47]) (by kernel_rfl) (by kernel_rfl) (.cons (len_ob (f := eS_mode_Entry) (l := v_t80)) .nil) (G_mode_Listed_L2_ok hF (.b 2 :: .s (cR (cR (cR (cR (cR (cR (bodyOf Try.f78))))))) :: []) n v_t82 v_r83 v_t80 v_t79 v_t81 n 0 _ h147 ?_)
        cases v_o122 with
        | x0 v_z123 v_z124 =>
          dsimp only at h
          obtain rfl := Option.some.inj h
          exact pend_sound TTok mix 2 (hs := []) (by kernel_rfl) (by kernel_rfl) (by kernel_rfl) .nil
        | x1  =>
          dsimp only at h
          obtain rfl := Option.some.inj h
          exact pend_sound TTok mix 4 (hs := []) (by kernel_rfl) (by kernel_rfl) (by kernel_rfl) .nil
  · rw [if_neg h100] at h
    obtain rfl := Option.some.inj h
    exact pend_sound TTok mix 12 (hs := [.c, .c, .r (.tup [eB v_r83.1, (eI .i64) v_r83.2]), .t true]) (by kernel_rfl) (by kernel_rfl) (by kernel_rfl) (.cons (G_mode_May_ok n v_t79 v_t81 v_t82 _ h98) (.cons (nt h100) .nil))
inductive G_ringlaw5_mays_C1_R where
  | x0 (v_x126 : Bool)
def G_ringlaw5_mays_C1_ex : G_ringlaw5_mays_C1_R → Ex
  | .x0 _ => .normal
def G_ringlaw5_mays_C1_st (v_r78 : (Bool × Int)) (v_r125 : (Bool × Int)) : G_ringlaw5_mays_C1_R → PS
  | .x0 v_x126 => ⟨[.d (.v (.bool v_x126)), dd, dd, dd, dd, dd, dd, dd, dd, dd, dd, dd, dd, dd, dd, dd, dd, dd, dd, dd, dd, dd, dd, dd, dd, dd, dd, dd, dd, dd, dd, dd, dd], []⟩
def G_ringlaw5_mays_C1_hd (v_r78 : (Bool × Int)) (v_r125 : (Bool × Int))  : PS := ⟨[dd, dd, .d (.v (.bool v_r78.1)), .d (.v (.int .i64 v_r78.2)), .d (.v (.bool v_r125.1)), .d (.v (.int .i64 v_r125.2)), dd, dd, dd, dd, dd, dd, dd, dd, dd, dd, dd, dd, dd, dd, dd, dd, dd, dd, dd, dd, dd, dd, dd, dd, dd, dd, dd], []⟩
def G_ringlaw5_mays_C1 (n : Nat) (v_r78 : (Bool × Int)) (v_r125 : (Bool × Int)) : Option G_ringlaw5_mays_C1_R :=
  if v_r78.2 = 0 then
   if v_r125.2 = 0 then
    if v_r78.1 = true then
     some (.x0 v_r125.1)
    else
     some (.x0 false)
   else
    some (.x0 false)
  else
   some (.x0 false)
theorem G_ringlaw5_mays_C1_ok {Fi : Ex → PS → Prop} (hF : KC 33 Fi) (ks : List Fr) (n : Nat) (v_r78 : (Bool × Int)) (v_r125 : (Bool × Int))  (o : G_ringlaw5_mays_C1_R) (h : G_ringlaw5_mays_C1 n v_r78 v_r125 = some o) (q : RunE Try.prog 33 Fi ks (G_ringlaw5_mays_C1_ex o) (G_ringlaw5_mays_C1_st v_r78 v_r125 o)) : RunE Try.prog 33 Fi (.s (cL (cR (cR (cR (cR (bodyOf Try.f77)))))) :: ks) .normal (G_ringlaw5_mays_C1_hd v_r78 v_r125) := by
  unfold G_ringlaw5_mays_C1 at h
  by_cases h152 : v_r78.2 = 0
  · rw [if_pos h152] at h
    by_cases h153 : v_r125.2 = 0
    · rw [if_pos h153] at h
      by_cases h154 : v_r78.1 = true
      · rw [if_pos h154] at h
        cases h
        exact pkk_sound TTok mix hF 1 (hs := [.t true, .c, .t true, .t true]) (ts := []) (s := []) (l := [0]) (by kernel_rfl) (by kernel_rfl) (.cons (bt h152) (.cons (bt h153) (.cons h154 .nil))) q
      · rw [if_neg h154] at h
        cases h
        exact pkk_sound TTok mix hF 1 (hs := [.t true, .c, .t true, .t false]) (ts := []) (s := []) (l := [0]) (by kernel_rfl) (by kernel_rfl) (.cons (bt h152) (.cons (bt h153) (.cons (vf h154) .nil))) q
    · rw [if_neg h153] at h
      cases h
      exact pkk_sound TTok mix hF 1 (hs := [.t true, .c, .t false, .c]) (ts := []) (s := []) (l := [0]) (by kernel_rfl) (by kernel_rfl) (.cons (bt h152) (.cons (bf h153) .nil)) q
  · rw [if_neg h152] at h
    cases h
    exact pkk_sound TTok mix hF 1 (hs := [.t false, .c, .c, .c]) (ts := []) (s := []) (l := [0]) (by kernel_rfl) (by kernel_rfl) (.cons (bf h152) .nil) q
/- ringhall/ringlaw5.mays -/
def G_ringlaw5_mays (n : Nat)  : Option (Bool) :=
  (G_mode_May n (S_api_Stat.mk 0 420 1 0 0 0) (S_api_Cred.mk 1 0 ([] : (List Int)) 0 0 0) 2).bind fun (v_r78 : (Bool × Int)) =>
  (G_mode_Listed n (S_api_Stat.mk 0 420 1 0 0 0) ([(S_mode_Entry.mk false 2 2)]) (S_api_Cred.mk 2 0 ([] : (List Int)) 0 0 0) 2).bind fun (v_r125 : (Bool × Int)) =>
  (G_ringlaw5_mays_C1 n v_r78 v_r125).bind fun v_o130 => match v_o130 with
  | .x0 v_z131 =>
    some v_z131
theorem G_ringlaw5_mays_ok (n : Nat)  (r : Bool) (h : G_ringlaw5_mays n  = some r) : Ret Try.prog 77 [] (eB r) := by
  refine ret_run (n := 33) (fn := Try.f77) (c := bodyOf Try.f77) (by kernel_rfl) (by kernel_rfl) (by kernel_rfl) (by kernel_rfl) ?_
  have hF : KC 33 (FinR Try.prog Try.f77 (eB r)) := FinR.kc' (by kernel_rfl)
  unfold G_ringlaw5_mays at h
  obtain ⟨v_r78, h97, h⟩ := bind_some h
  obtain ⟨v_r125, h148, h⟩ := bind_some h
  obtain ⟨v_o130, h155, h⟩ := bind_some h
  refine pkk_sound TTok mix hF 9 (hs := [.c, .c, .r (.tup [eB v_r78.1, (eI .i64) v_r78.2]), .c, .w ([(S_mode_Entry.mk false 2 2)].map eS_mode_Entry), .c, .r (.tup [eB v_r125.1, (eI .i64) v_r125.2])]) (ts := []) (s := []) (l := [2, 3, 4, 5]) (by kernel_rfl) (by kernel_rfl) (.cons (show 0 + 6 ≤ 6 by decide) (.cons (G_mode_May_ok n (S_api_Stat.mk 0 420 1 0 0 0) (S_api_Cred.mk 1 0 ([] : (List Int)) 0 0 0) 2 _ h97) (.cons (Eq.refl ([(S_mode_Entry.mk false 2 2)].map eS_mode_Entry)) (.cons (G_mode_Listed_ok n (S_api_Stat.mk 0 420 1 0 0 0) ([(S_mode_Entry.mk false 2 2)]) (S_api_Cred.mk 2 0 ([] : (List Int)) 0 0 0) 2 _ h148) .nil)))) (G_ringlaw5_mays_C1_ok hF (.s (cR (cR (cR (cR (cR (bodyOf Try.f77)))))) :: []) n v_r78 v_r125 _ h155 ?_)
  cases v_o130 with
  | x0 v_z131 =>
    dsimp only at h
    obtain rfl := Option.some.inj h
    exact pend_sound TTok mix 1 (hs := []) (by kernel_rfl) (by kernel_rfl) (by kernel_rfl) .nil
/- ringhall/ringref5.Groups -/
def G_ringref5_Groups (n : Nat) (v_c147 : S_api_Cred) : Option ((List Int)) :=
  (app 8 ([v_c147.fGroup]) v_c147.fMore).bind fun (v_a148 : (List Int)) =>
  some v_a148
theorem G_ringref5_Groups_ok (n : Nat) (v_c147 : S_api_Cred) (r : (List Int)) (h : G_ringref5_Groups n v_c147 = some r) : Ret Try.prog 81 [eS_api_Cred v_c147] ((eL (eI .i64)) r) := by
  refine ret_run (n := 9) (fn := Try.f81) (c := bodyOf Try.f81) (by kernel_rfl) (by kernel_rfl) (by kernel_rfl) (by kernel_rfl) ?_
  have hF : KC 9 (FinR Try.prog Try.f81 ((eL (eI .i64)) r)) := FinR.kc' (by kernel_rfl)
  unfold G_ringref5_Groups at h
  obtain ⟨v_a148, h190, h⟩ := bind_some h
  obtain rfl := Option.some.inj h
  exact pend_sound TTok mix 5 (hs := [.c, .w ([v_c147.fGroup].map (eI .i64)), .c, .w (v_a148.map (eI .i64))]) (by kernel_rfl) (by kernel_rfl) (by kernel_rfl) (.cons (Eq.refl ([v_c147.fGroup].map (eI .i64))) (.cons (app_ob (f := (eI .i64)) (s := 1) h190 (fun _ => rfl)).1 (.cons (app_ob (f := (eI .i64)) (s := 1) h190 (fun _ => rfl)).2.1 (.cons (app_ob (f := (eI .i64)) (s := 1) h190 (fun _ => rfl)).2.2.1 (.cons (app_ob (f := (eI .i64)) (s := 1) h190 (fun _ => rfl)).2.2.2 .nil)))))
inductive G_ringref5_MayOf_C1_R where
  | x0 (v_t163 : Int)
def G_ringref5_MayOf_C1_ex : G_ringref5_MayOf_C1_R → Ex
  | .x0 _ => .normal
def G_ringref5_MayOf_C1_st (v_t160 : Int) (v_t158 : S_api_Stat) (v_r162 : (Bool)) (v_t159 : S_api_Cred) : G_ringref5_MayOf_C1_R → PS
  | .x0 v_t163 => ⟨[dd, dd, .d (.v (.int .i64 v_t160)), .ref 0 0, .ref 1 0, dd, dd, .d (.v (.int .i64 v_t163)), dd, dd, dd, dd, dd, dd, dd, dd, dd, dd, dd, dd, dd, dd, dd, dd, dd, dd, dd, dd, dd, dd, dd, dd, dd, dd, dd, dd, dd, dd, dd, dd, dd, dd, dd, dd, dd, dd, dd, dd, dd, dd, dd, dd, dd, dd, dd, dd, dd, dd, dd, dd, dd, dd, dd, dd, dd, dd, dd, dd, dd, dd, dd, dd, dd, dd, dd, dd], [.box [.d (.v (.int .i64 v_t158.fKind)), .d (.v (.int .i64 v_t158.fMode)), .d (.v (.int .i64 v_t158.fUser)), .d (.v (.int .i64 v_t158.fGroup)), .d (.v (.int .i64 v_t158.fSize)), .d (.v (.int .i64 v_t158.fLinks))], .box [.d (.v (.int .i64 v_t159.fUser)), .d (.v (.int .i64 v_t159.fGroup)), .d (.sl (v_t159.fMore.map (eI .i64))), .d (.v (.int .i64 v_t159.fCaps)), .d (.v (.int .i64 v_t159.fLevel)), .d (.v (.int .i64 v_t159.fKind))]]⟩
def G_ringref5_MayOf_C1_hd (v_t160 : Int) (v_t158 : S_api_Stat) (v_r162 : (Bool)) (v_t159 : S_api_Cred)  : PS := ⟨[dd, dd, .d (.v (.int .i64 v_t160)), .ref 0 0, .ref 1 0, dd, dd, .d (.v (.int .i64 (remI v_t158.fMode 8))), dd, dd, dd, dd, dd, dd, dd, .d (.v (.bool v_r162)), dd, dd, dd, dd, dd, dd, dd, dd, dd, dd, dd, dd, dd, dd, dd, dd, dd, dd, dd, dd, dd, dd, dd, dd, dd, dd, dd, dd, dd, dd, dd, dd, dd, dd, dd, dd, dd, dd, dd, dd, dd, dd, dd, dd, dd, dd, dd, dd, dd, dd, dd, dd, dd, dd, dd, dd, dd, dd, dd, dd], [.box [.d (.v (.int .i64 v_t158.fKind)), .d (.v (.int .i64 v_t158.fMode)), .d (.v (.int .i64 v_t158.fUser)), .d (.v (.int .i64 v_t158.fGroup)), .d (.v (.int .i64 v_t158.fSize)), .d (.v (.int .i64 v_t158.fLinks))], .box [.d (.v (.int .i64 v_t159.fUser)), .d (.v (.int .i64 v_t159.fGroup)), .d (.sl (v_t159.fMore.map (eI .i64))), .d (.v (.int .i64 v_t159.fCaps)), .d (.v (.int .i64 v_t159.fLevel)), .d (.v (.int .i64 v_t159.fKind))]]⟩
def G_ringref5_MayOf_C1 (n : Nat) (v_t160 : Int) (v_t158 : S_api_Stat) (v_r162 : (Bool)) (v_t159 : S_api_Cred) : Option G_ringref5_MayOf_C1_R :=
  if v_r162 = true then
   some (.x0 (remI (quoI .i64 v_t158.fMode 8) 8))
  else
   some (.x0 (remI v_t158.fMode 8))
theorem G_ringref5_MayOf_C1_ok {Fi : Ex → PS → Prop} (hF : KC 76 Fi) (ks : List Fr) (n : Nat) (v_t160 : Int) (v_t158 : S_api_Stat) (v_r162 : (Bool)) (v_t159 : S_api_Cred)  (o : G_ringref5_MayOf_C1_R) (h : G_ringref5_MayOf_C1 n v_t160 v_t158 v_r162 v_t159 = some o) (q : RunE Try.prog 76 Fi ks (G_ringref5_MayOf_C1_ex o) (G_ringref5_MayOf_C1_st v_t160 v_t158 v_r162 v_t159 o)) : RunE Try.prog 76 Fi (.s (cR (cL (cR (cR (bodyOf Try.f82))))) :: ks) .normal (G_ringref5_MayOf_C1_hd v_t160 v_t158 v_r162 v_t159) := by
  unfold G_ringref5_MayOf_C1 at h
  by_cases h209 : v_r162 = true
  · rw [if_pos h209] at h
    cases h
    exact pkk_sound TTok mix hF 2 (hs := [.t true, .c]) (ts := []) (s := [0, 1]) (l := [2, 3, 4, 7]) (by kernel_rfl) (by kernel_rfl) (.cons h209 (.cons (show (8 : Int) ≠ 0 by decide) (.cons (show (8 : Int) ≠ 0 by decide) .nil))) q
  · rw [if_neg h209] at h
    cases h
    exact pkk_sound TTok mix hF 2 (hs := [.t false]) (ts := []) (s := [0, 1]) (l := [2, 3, 4, 7]) (by kernel_rfl) (by kernel_rfl) (.cons (vf h209) .nil) q
inductive G_ringref5_MayOf_C2_R where
  | x0 (v_t167 : Int)
def G_ringref5_MayOf_C2_ex : G_ringref5_MayOf_C2_R → Ex
  | .x0 _ => .normal
def G_ringref5_MayOf_C2_st (v_t160 : Int) (v_z166 : Int) (v_t159 : S_api_Cred) (v_t158 : S_api_Stat) : G_ringref5_MayOf_C2_R → PS
  | .x0 v_t167 => ⟨[dd, dd, .d (.v (.int .i64 v_t160)), .ref 0 0, .ref 1 0, dd, dd, .d (.v (.int .i64 v_t167)), dd, dd, dd, dd, dd, dd, dd, dd, dd, dd, dd, dd, dd, dd, dd, dd, dd, dd, dd, dd, dd, dd, dd, dd, dd, dd, dd, dd, dd, dd, dd, dd, dd, dd, dd, dd, dd, dd, dd, dd, dd, dd, dd, dd, dd, dd, dd, dd, dd, dd, dd, dd, dd, dd, dd, dd, dd, dd, dd, dd, dd, dd, dd, dd, dd, dd, dd, dd], [.box [.d (.v (.int .i64 v_t158.fKind)), .d (.v (.int .i64 v_t158.fMode)), .d (.v (.int .i64 v_t158.fUser)), .d (.v (.int .i64 v_t158.fGroup)), .d (.v (.int .i64 v_t158.fSize)), .d (.v (.int .i64 v_t158.fLinks))], .box [.d (.v (.int .i64 v_t159.fUser)), .d (.v (.int .i64 v_t159.fGroup)), .d (.sl (v_t159.fMore.map (eI .i64))), .d (.v (.int .i64 v_t159.fCaps)), .d (.v (.int .i64 v_t159.fLevel)), .d (.v (.int .i64 v_t159.fKind))]]⟩
def G_ringref5_MayOf_C2_hd (v_t160 : Int) (v_z166 : Int) (v_t159 : S_api_Cred) (v_t158 : S_api_Stat)  : PS := ⟨[dd, dd, .d (.v (.int .i64 v_t160)), .ref 0 0, .ref 1 0, dd, dd, .d (.v (.int .i64 v_z166)), dd, dd, dd, dd, dd, dd, dd, dd, dd, dd, dd, dd, dd, dd, dd, dd, .d (.v (.bool (v_t159.fUser == v_t158.fUser))), dd, dd, dd, dd, dd, dd, dd, dd, dd, dd, dd, dd, dd, dd, dd, dd, dd, dd, dd, dd, dd, dd, dd, dd, dd, dd, dd, dd, dd, dd, dd, dd, dd, dd, dd, dd, dd, dd, dd, dd, dd, dd, dd, dd, dd, dd, dd, dd, dd, dd, dd], [.box [.d (.v (.int .i64 v_t158.fKind)), .d (.v (.int .i64 v_t158.fMode)), .d (.v (.int .i64 v_t158.fUser)), .d (.v (.int .i64 v_t158.fGroup)), .d (.v (.int .i64 v_t158.fSize)), .d (.v (.int .i64 v_t158.fLinks))], .box [.d (.v (.int .i64 v_t159.fUser)), .d (.v (.int .i64 v_t159.fGroup)), .d (.sl (v_t159.fMore.map (eI .i64))), .d (.v (.int .i64 v_t159.fCaps)), .d (.v (.int .i64 v_t159.fLevel)), .d (.v (.int .i64 v_t159.fKind))]]⟩
def G_ringref5_MayOf_C2 (n : Nat) (v_t160 : Int) (v_z166 : Int) (v_t159 : S_api_Cred) (v_t158 : S_api_Stat) : Option G_ringref5_MayOf_C2_R :=
  if v_t159.fUser = v_t158.fUser then
   some (.x0 (quoI .i64 v_t158.fMode 64))
  else
   some (.x0 v_z166)
theorem G_ringref5_MayOf_C2_ok {Fi : Ex → PS → Prop} (hF : KC 76 Fi) (ks : List Fr) (n : Nat) (v_t160 : Int) (v_z166 : Int) (v_t159 : S_api_Cred) (v_t158 : S_api_Stat)  (o : G_ringref5_MayOf_C2_R) (h : G_ringref5_MayOf_C2 n v_t160 v_z166 v_t159 v_t158 = some o) (q : RunE Try.prog 76 Fi ks (G_ringref5_MayOf_C2_ex o) (G_ringref5_MayOf_C2_st v_t160 v_z166 v_t159 v_t158 o)) : RunE Try.prog 76 Fi (.s (cR (cL (cR (cR (cR (bodyOf Try.f82)))))) :: ks) .normal (G_ringref5_MayOf_C2_hd v_t160 v_z166 v_t159 v_t158) := by
  unfold G_ringref5_MayOf_C2 at h
  by_cases h215 : v_t159.fUser = v_t158.fUser
  · rw [if_pos h215] at h
    cases h
    exact pkk_sound TTok mix hF 2 (hs := [.t true, .c]) (ts := []) (s := [0, 1]) (l := [2, 3, 4, 7]) (by kernel_rfl) (by kernel_rfl) (.cons (bt h215) (.cons (show (64 : Int) ≠ 0 by decide) .nil)) q
  · rw [if_neg h215] at h
    cases h
    exact pkk_sound TTok mix hF 2 (hs := [.t false]) (ts := []) (s := [0, 1]) (l := [2, 3, 4, 7]) (by kernel_rfl) (by kernel_rfl) (.cons (bf h215) .nil) q
inductive G_ringref5_MayOf_C3_R where
  | x0 (v_t171 : Bool)
def G_ringref5_MayOf_C3_ex : G_ringref5_MayOf_C3_R → Ex
  | .x0 _ => .normal
def G_ringref5_MayOf_C3_st (v_t160 : Int) (v_z170 : Int) (v_t158 : S_api_Stat) (v_t159 : S_api_Cred) : G_ringref5_MayOf_C3_R → PS
  | .x0 v_t171 => ⟨[dd, dd, .d (.v (.int .i64 v_t160)), .ref 0 0, .ref 1 0, dd, dd, .d (.v (.int .i64 v_z170)), dd, dd, dd, dd, dd, dd, dd, dd, dd, dd, dd, dd, dd, dd, dd, dd, dd, dd, dd, dd, dd, dd, dd, dd, dd, dd, dd, dd, dd, dd, dd, dd, .d (.v (.bool v_t171)), dd, dd, dd, dd, dd, dd, dd, dd, dd, dd, dd, dd, dd, dd, dd, dd, dd, dd, dd, dd, dd, dd, dd, dd, dd, dd, dd, dd, dd, dd, dd, dd, dd, dd, dd], [.box [.d (.v (.int .i64 v_t158.fKind)), .d (.v (.int .i64 v_t158.fMode)), .d (.v (.int .i64 v_t158.fUser)), .d (.v (.int .i64 v_t158.fGroup)), .d (.v (.int .i64 v_t158.fSize)), .d (.v (.int .i64 v_t158.fLinks))], .box [.d (.v (.int .i64 v_t159.fUser)), .d (.v (.int .i64 v_t159.fGroup)), .d (.sl (v_t159.fMore.map (eI .i64))), .d (.v (.int .i64 v_t159.fCaps)), .d (.v (.int .i64 v_t159.fLevel)), .d (.v (.int .i64 v_t159.fKind))]]⟩
def G_ringref5_MayOf_C3_hd (v_t160 : Int) (v_z170 : Int) (v_t158 : S_api_Stat) (v_t159 : S_api_Cred)  : PS := ⟨[dd, dd, .d (.v (.int .i64 v_t160)), .ref 0 0, .ref 1 0, dd, dd, .d (.v (.int .i64 v_z170)), dd, dd, dd, dd, dd, dd, dd, dd, dd, dd, dd, dd, dd, dd, dd, dd, dd, dd, dd, dd, dd, dd, dd, dd, dd, dd, dd, dd, dd, dd, dd, dd, dd, dd, dd, dd, dd, dd, dd, dd, dd, dd, dd, dd, dd, dd, dd, dd, dd, dd, dd, dd, dd, dd, dd, dd, dd, dd, dd, dd, dd, dd, dd, dd, dd, dd, dd, dd], [.box [.d (.v (.int .i64 v_t158.fKind)), .d (.v (.int .i64 v_t158.fMode)), .d (.v (.int .i64 v_t158.fUser)), .d (.v (.int .i64 v_t158.fGroup)), .d (.v (.int .i64 v_t158.fSize)), .d (.v (.int .i64 v_t158.fLinks))], .box [.d (.v (.int .i64 v_t159.fUser)), .d (.v (.int .i64 v_t159.fGroup)), .d (.sl (v_t159.fMore.map (eI .i64))), .d (.v (.int .i64 v_t159.fCaps)), .d (.v (.int .i64 v_t159.fLevel)), .d (.v (.int .i64 v_t159.fKind))]]⟩
def G_ringref5_MayOf_C3 (n : Nat) (v_t160 : Int) (v_z170 : Int) (v_t158 : S_api_Stat) (v_t159 : S_api_Cred) : Option G_ringref5_MayOf_C3_R :=
  if (remI v_t160 2) = 1 then
   if v_z170 < 4 then
    some (.x0 ((remI v_t159.fCaps 2) == 0))
   else
    some (.x0 false)
  else
   some (.x0 false)
theorem G_ringref5_MayOf_C3_ok {Fi : Ex → PS → Prop} (hF : KC 76 Fi) (ks : List Fr) (n : Nat) (v_t160 : Int) (v_z170 : Int) (v_t158 : S_api_Stat) (v_t159 : S_api_Cred)  (o : G_ringref5_MayOf_C3_R) (h : G_ringref5_MayOf_C3 n v_t160 v_z170 v_t158 v_t159 = some o) (q : RunE Try.prog 76 Fi ks (G_ringref5_MayOf_C3_ex o) (G_ringref5_MayOf_C3_st v_t160 v_z170 v_t158 v_t159 o)) : RunE Try.prog 76 Fi (.s (cL (cL (cR (cR (cR (cR (bodyOf Try.f82))))))) :: ks) .normal (G_ringref5_MayOf_C3_hd v_t160 v_z170 v_t158 v_t159) := by
  unfold G_ringref5_MayOf_C3 at h
  by_cases h223 : (remI v_t160 2) = 1
  · rw [if_pos h223] at h
    by_cases h224 : v_z170 < 4
    · rw [if_pos h224] at h
      cases h
      exact pkk_sound TTok mix hF 1 (hs := [.t true, .c, .t true, .c, .c, .c, .c]) (ts := []) (s := [0, 1]) (l := [2, 3, 4, 7, 40]) (by kernel_rfl) (by kernel_rfl) (.cons (show (2 : Int) ≠ 0 by decide) (.cons (bt h223) (.cons (dt h224) (.cons (show (2 : Int) ≠ 0 by decide) .nil)))) q
    · rw [if_neg h224] at h
      cases h
      exact pkk_sound TTok mix hF 1 (hs := [.t true, .c, .t false, .c, .c, .c]) (ts := []) (s := [0, 1]) (l := [2, 3, 4, 7, 40]) (by kernel_rfl) (by kernel_rfl) (.cons (show (2 : Int) ≠ 0 by decide) (.cons (bt h223) (.cons (df h224) .nil))) q
  · rw [if_neg h223] at h
    cases h
    exact pkk_sound TTok mix hF 1 (hs := [.t false, .c, .c, .c, .c, .c]) (ts := []) (s := [0, 1]) (l := [2, 3, 4, 7, 40]) (by kernel_rfl) (by kernel_rfl) (.cons (show (2 : Int) ≠ 0 by decide) (.cons (bf h223) .nil)) q
inductive G_ringref5_MayOf_C4_R where
  | x0 (v_t176 : Bool)
def G_ringref5_MayOf_C4_ex : G_ringref5_MayOf_C4_R → Ex
  | .x0 _ => .normal
def G_ringref5_MayOf_C4_st (v_t160 : Int) (v_z170 : Int) (v_t158 : S_api_Stat) (v_t159 : S_api_Cred) : G_ringref5_MayOf_C4_R → PS
  | .x0 v_t176 => ⟨[dd, dd, .d (.v (.int .i64 v_t160)), .ref 0 0, .ref 1 0, dd, dd, .d (.v (.int .i64 v_z170)), dd, dd, dd, dd, dd, dd, dd, dd, dd, dd, dd, dd, dd, dd, dd, dd, dd, dd, dd, dd, dd, dd, dd, dd, dd, dd, dd, dd, dd, dd, dd, dd, dd, dd, dd, dd, dd, dd, dd, dd, dd, dd, dd, dd, dd, dd, dd, dd, dd, .d (.v (.bool v_t176)), dd, dd, dd, dd, dd, dd, dd, dd, dd, dd, dd, dd, dd, dd, dd, dd, dd, dd], [.box [.d (.v (.int .i64 v_t158.fKind)), .d (.v (.int .i64 v_t158.fMode)), .d (.v (.int .i64 v_t158.fUser)), .d (.v (.int .i64 v_t158.fGroup)), .d (.v (.int .i64 v_t158.fSize)), .d (.v (.int .i64 v_t158.fLinks))], .box [.d (.v (.int .i64 v_t159.fUser)), .d (.v (.int .i64 v_t159.fGroup)), .d (.sl (v_t159.fMore.map (eI .i64))), .d (.v (.int .i64 v_t159.fCaps)), .d (.v (.int .i64 v_t159.fLevel)), .d (.v (.int .i64 v_t159.fKind))]]⟩
def G_ringref5_MayOf_C4_hd (v_t160 : Int) (v_z170 : Int) (v_t158 : S_api_Stat) (v_t159 : S_api_Cred)  : PS := ⟨[dd, dd, .d (.v (.int .i64 v_t160)), .ref 0 0, .ref 1 0, dd, dd, .d (.v (.int .i64 v_z170)), dd, dd, dd, dd, dd, dd, dd, dd, dd, dd, dd, dd, dd, dd, dd, dd, dd, dd, dd, dd, dd, dd, dd, dd, dd, dd, dd, dd, dd, dd, dd, dd, dd, dd, dd, dd, dd, dd, dd, dd, dd, dd, dd, dd, dd, dd, dd, dd, dd, dd, dd, dd, dd, dd, dd, dd, dd, dd, dd, dd, dd, dd, dd, dd, dd, dd, dd, dd], [.box [.d (.v (.int .i64 v_t158.fKind)), .d (.v (.int .i64 v_t158.fMode)), .d (.v (.int .i64 v_t158.fUser)), .d (.v (.int .i64 v_t158.fGroup)), .d (.v (.int .i64 v_t158.fSize)), .d (.v (.int .i64 v_t158.fLinks))], .box [.d (.v (.int .i64 v_t159.fUser)), .d (.v (.int .i64 v_t159.fGroup)), .d (.sl (v_t159.fMore.map (eI .i64))), .d (.v (.int .i64 v_t159.fCaps)), .d (.v (.int .i64 v_t159.fLevel)), .d (.v (.int .i64 v_t159.fKind))]]⟩
def G_ringref5_MayOf_C4 (n : Nat) (v_t160 : Int) (v_z170 : Int) (v_t158 : S_api_Stat) (v_t159 : S_api_Cred) : Option G_ringref5_MayOf_C4_R :=
  if (remI (quoI .i64 v_t160 2) 2) = 1 then
   if (remI (quoI .i64 v_z170 2) 2) = 0 then
    some (.x0 ((remI (quoI .i64 v_t159.fCaps 2) 2) == 0))
   else
    some (.x0 false)
  else
   some (.x0 false)
theorem G_ringref5_MayOf_C4_ok {Fi : Ex → PS → Prop} (hF : KC 76 Fi) (ks : List Fr) (n : Nat) (v_t160 : Int) (v_z170 : Int) (v_t158 : S_api_Stat) (v_t159 : S_api_Cred)  (o : G_ringref5_MayOf_C4_R) (h : G_ringref5_MayOf_C4 n v_t160 v_z170 v_t158 v_t159 = some o) (q : RunE Try.prog 76 Fi ks (G_ringref5_MayOf_C4_ex o) (G_ringref5_MayOf_C4_st v_t160 v_z170 v_t158 v_t159 o)) : RunE Try.prog 76 Fi (.s (cL (cL (cR (cR (cR (cR (cR (bodyOf Try.f82)))))))) :: ks) .normal (G_ringref5_MayOf_C4_hd v_t160 v_z170 v_t158 v_t159) := by
  unfold G_ringref5_MayOf_C4 at h
  by_cases h238 : (remI (quoI .i64 v_t160 2) 2) = 1
  · rw [if_pos h238] at h
    by_cases h241 : (remI (quoI .i64 v_z170 2) 2) = 0
    · rw [if_pos h241] at h
      cases h
      exact pkk_sound TTok mix hF 1 (hs := [.t true, .c, .c, .c, .t true, .c, .c, .c, .c, .c]) (ts := []) (s := [0, 1]) (l := [2, 3, 4, 7, 57]) (by kernel_rfl) (by kernel_rfl) (.cons (show (2 : Int) ≠ 0 by decide) (.cons (show (2 : Int) ≠ 0 by decide) (.cons (bt h238) (.cons (show (2 : Int) ≠ 0 by decide) (.cons (show (2 : Int) ≠ 0 by decide) (.cons (bt h241) (.cons (show (2 : Int) ≠ 0 by decide) (.cons (show (2 : Int) ≠ 0 by decide) .nil)))))))) q
    · rw [if_neg h241] at h
      cases h
      exact pkk_sound TTok mix hF 1 (hs := [.t true, .c, .c, .c, .t false, .c, .c, .c, .c]) (ts := []) (s := [0, 1]) (l := [2, 3, 4, 7, 57]) (by kernel_rfl) (by kernel_rfl) (.cons (show (2 : Int) ≠ 0 by decide) (.cons (show (2 : Int) ≠ 0 by decide) (.cons (bt h238) (.cons (show (2 : Int) ≠ 0 by decide) (.cons (show (2 : Int) ≠ 0 by decide) (.cons (bf h241) .nil)))))) q
  · rw [if_neg h238] at h
    cases h
    exact pkk_sound TTok mix hF 1 (hs := [.t false, .c, .c, .c, .c, .c, .c, .c, .c]) (ts := []) (s := [0, 1]) (l := [2, 3, 4, 7, 57]) (by kernel_rfl) (by kernel_rfl) (.cons (show (2 : Int) ≠ 0 by decide) (.cons (show (2 : Int) ≠ 0 by decide) (.cons (bf h238) .nil))) q
inductive G_ringref5_MayOf_C5_R where
  | x0 (v_t181 : Bool)
def G_ringref5_MayOf_C5_ex : G_ringref5_MayOf_C5_R → Ex
  | .x0 _ => .normal
def G_ringref5_MayOf_C5_st (v_t160 : Int) (v_z170 : Int) (v_t158 : S_api_Stat) (v_t159 : S_api_Cred) : G_ringref5_MayOf_C5_R → PS
  | .x0 v_t181 => ⟨[dd, dd, dd, dd, dd, dd, .d (.v (.bool v_t181)), dd, dd, dd, dd, dd, dd, dd, dd, dd, dd, dd, dd, dd, dd, dd, dd, dd, dd, dd, dd, dd, dd, dd, dd, dd, dd, dd, dd, dd, dd, dd, dd, dd, dd, dd, dd, dd, dd, dd, dd, dd, dd, dd, dd, dd, dd, dd, dd, dd, dd, dd, dd, dd, dd, dd, dd, dd, dd, dd, dd, dd, dd, dd, dd, dd, dd, dd, dd, dd], []⟩
def G_ringref5_MayOf_C5_hd (v_t160 : Int) (v_z170 : Int) (v_t158 : S_api_Stat) (v_t159 : S_api_Cred)  : PS := ⟨[dd, dd, .d (.v (.int .i64 v_t160)), .ref 0 0, .ref 1 0, dd, dd, .d (.v (.int .i64 v_z170)), dd, dd, dd, dd, dd, dd, dd, dd, dd, dd, dd, dd, dd, dd, dd, dd, dd, dd, dd, dd, dd, dd, dd, dd, dd, dd, dd, dd, dd, dd, dd, dd, dd, dd, dd, dd, dd, dd, dd, dd, dd, dd, dd, dd, dd, dd, dd, dd, dd, dd, dd, dd, dd, dd, dd, dd, dd, dd, dd, dd, dd, dd, dd, dd, dd, dd, dd, dd], [.box [.d (.v (.int .i64 v_t158.fKind)), .d (.v (.int .i64 v_t158.fMode)), .d (.v (.int .i64 v_t158.fUser)), .d (.v (.int .i64 v_t158.fGroup)), .d (.v (.int .i64 v_t158.fSize)), .d (.v (.int .i64 v_t158.fLinks))], .box [.d (.v (.int .i64 v_t159.fUser)), .d (.v (.int .i64 v_t159.fGroup)), .d (.sl (v_t159.fMore.map (eI .i64))), .d (.v (.int .i64 v_t159.fCaps)), .d (.v (.int .i64 v_t159.fLevel)), .d (.v (.int .i64 v_t159.fKind))]]⟩
def G_ringref5_MayOf_C5 (n : Nat) (v_t160 : Int) (v_z170 : Int) (v_t158 : S_api_Stat) (v_t159 : S_api_Cred) : Option G_ringref5_MayOf_C5_R :=
  if v_t160 < 4 then
   some (.x0 true)
  else
   if (remI v_z170 2) = 1 then
    some (.x0 true)
   else
    if v_t158.fKind = 2 then
     some (.x0 ((remI v_t159.fCaps 2) == 1))
    else
     some (.x0 false)
theorem G_ringref5_MayOf_C5_ok {Fi : Ex → PS → Prop} (hF : KC 76 Fi) (ks : List Fr) (n : Nat) (v_t160 : Int) (v_z170 : Int) (v_t158 : S_api_Stat) (v_t159 : S_api_Cred)  (o : G_ringref5_MayOf_C5_R) (h : G_ringref5_MayOf_C5 n v_t160 v_z170 v_t158 v_t159 = some o) (q : RunE Try.prog 76 Fi ks (G_ringref5_MayOf_C5_ex o) (G_ringref5_MayOf_C5_st v_t160 v_z170 v_t158 v_t159 o)) : RunE Try.prog 76 Fi (.s (cL (cR (cR (cR (cR (cR (cR (bodyOf Try.f82)))))))) :: ks) .normal (G_ringref5_MayOf_C5_hd v_t160 v_z170 v_t158 v_t159) := by
  unfold G_ringref5_MayOf_C5 at h
  by_cases h251 : v_t160 < 4
  · rw [if_pos h251] at h
    cases h
    exact pkk_sound TTok mix hF 1 (hs := [.t true, .c, .c, .c, .c, .c, .c, .c]) (ts := []) (s := []) (l := [6]) (by kernel_rfl) (by kernel_rfl) (.cons (dt h251) .nil) q
  · rw [if_neg h251] at h
    by_cases h253 : (remI v_z170 2) = 1
    · rw [if_pos h253] at h
      cases h
      exact pkk_sound TTok mix hF 1 (hs := [.t false, .c, .c, .t true, .c, .c, .c, .c]) (ts := []) (s := []) (l := [6]) (by kernel_rfl) (by kernel_rfl) (.cons (df h251) (.cons (show (2 : Int) ≠ 0 by decide) (.cons (bt h253) .nil))) q
    · rw [if_neg h253] at h
      by_cases h254 : v_t158.fKind = 2
      · rw [if_pos h254] at h
        cases h
        exact pkk_sound TTok mix hF 1 (hs := [.t false, .c, .c, .t false, .c, .c, .c, .c, .t true, .c, .c, .c, .c, .c]) (ts := []) (s := []) (l := [6]) (by kernel_rfl) (by kernel_rfl) (.cons (df h251) (.cons (show (2 : Int) ≠ 0 by decide) (.cons (bf h253) (.cons (bt h254) (.cons (show (2 : Int) ≠ 0 by decide) .nil))))) q
      · rw [if_neg h254] at h
        cases h
        exact pkk_sound TTok mix hF 1 (hs := [.t false, .c, .c, .t false, .c, .c, .c, .c, .t false, .c, .c, .c, .c]) (ts := []) (s := []) (l := [6]) (by kernel_rfl) (by kernel_rfl) (.cons (df h251) (.cons (show (2 : Int) ≠ 0 by decide) (.cons (bf h253) (.cons (bf h254) .nil)))) q
/- ringhall/ringref5.MayOf -/
def G_ringref5_MayOf (n : Nat) (v_t158 : S_api_Stat) (v_t159 : S_api_Cred) (v_t160 : Int) : Option (Bool) :=
  (G_ringref5_Groups n v_t159).bind fun (v_r161 : ((List Int))) =>
  (G_slices_Contains_int_int n v_r161 v_t158.fGroup).bind fun (v_r162 : (Bool)) =>
  (G_ringref5_MayOf_C1 n v_t160 v_t158 v_r162 v_t159).bind fun v_o165 => match v_o165 with
  | .x0 v_z166 =>
    (G_ringref5_MayOf_C2 n v_t160 v_z166 v_t159 v_t158).bind fun v_o169 => match v_o169 with
    | .x0 v_z170 =>
      (G_ringref5_MayOf_C3 n v_t160 v_z170 v_t158 v_t159).bind fun v_o174 => match v_o174 with
      | .x0 v_z175 =>
        if v_z175 = true then
         some false
        else
         (G_ringref5_MayOf_C4 n v_t160 v_z170 v_t158 v_t159).bind fun v_o179 => match v_o179 with
         | .x0 v_z180 =>
           if v_z180 = true then
            some false
           else
            (G_ringref5_MayOf_C5 n v_t160 v_z170 v_t158 v_t159).bind fun v_o185 => match v_o185 with
            | .x0 v_z186 =>
              some v_z186
theorem G_ringref5_MayOf_ok (n : Nat) (v_t158 : S_api_Stat) (v_t159 : S_api_Cred) (v_t160 : Int) (r : Bool) (h : G_ringref5_MayOf n v_t158 v_t159 v_t160 = some r) : Ret Try.prog 82 [eS_api_Stat v_t158, eS_api_Cred v_t159, (eI .i64) v_t160] (eB r) := by
  refine ret_run (n := 76) (fn := Try.f82) (c := bodyOf Try.f82) (by kernel_rfl) (by kernel_rfl) (by kernel_rfl) (by kernel_rfl) ?_
  have hF : KC 76 (FinR Try.prog Try.f82 (eB r)) := FinR.kc' (by kernel_rfl)
  unfold G_ringref5_MayOf at h
  obtain ⟨v_r161, h204, h⟩ := bind_some h
  obtain ⟨v_r162, h205, h⟩ := bind_some h
  obtain ⟨v_o165, h212, h⟩ := bind_some h
  refine pkk_sound TTok mix hF 7 (hs := [.c, .c, .r ((eL (eI .i64)) v_r161), .c, .r (eB v_r162)]) (ts := []) (s := [0, 1]) (l := [2, 3, 4, 7, 15]) (by kernel_rfl) (by kernel_rfl) (.cons (show (8 : Int) ≠ 0 by decide) (.cons (G_ringref5_Groups_ok n v_t159 _ h204) (.cons (G_slices_Contains_int_int_ok n v_r161 v_t158.fGroup _ h205) .nil))) (G_ringref5_MayOf_C1_ok hF (.s (cR (cR (cR (bodyOf Try.f82)))) :: []) n v_t160 v_t158 v_r162 v_t159 _ h212 ?_)
  cases v_o165 with
  | x0 v_z166 =>
    dsimp only at h
    obtain ⟨v_o169, h217, h⟩ := bind_some h
    refine pkk_sound TTok mix hF 3 (hs := [.c, .c]) (ts := []) (s := [0, 1]) (l := [2, 3, 4, 7, 24]) (by kernel_rfl) (by kernel_rfl) .nil (G_ringref5_MayOf_C2_ok hF (.s (cR (cR (cR (cR (bodyOf Try.f82))))) :: []) n v_t160 v_z166 v_t159 v_t158 _ h217 ?_)
    cases v_o169 with
    | x0 v_z170 =>
      dsimp only at h
      obtain ⟨v_o174, h226, h⟩ := bind_some h
      refine pkk_sound TTok mix hF 2 (hs := []) (ts := []) (s := [0, 1]) (l := [2, 3, 4, 7]) (by kernel_rfl) (by kernel_rfl) .nil (G_ringref5_MayOf_C3_ok hF (.s (cR (cL (cR (cR (cR (cR (bodyOf Try.f82))))))) :: .s (cR (cR (cR (cR (cR (bodyOf Try.f82)))))) :: []) n v_t160 v_z170 v_t158 v_t159 _ h226 ?_)
      cases v_o174 with
      | x0 v_z175 =>
        dsimp only at h
        by_cases h227 : v_z175 = true
        · rw [if_pos h227] at h
          obtain rfl := Option.some.inj h
          exact pend_sound TTok mix 5 (hs := [.t true]) (by kernel_rfl) (by kernel_rfl) (by kernel_rfl) (.cons h227 .nil)
        · rw [if_neg h227] at h
          obtain ⟨v_o179, h244, h⟩ := bind_some h
          refine pkk_sound TTok mix hF 4 (hs := [.t false]) (ts := []) (s := [0, 1]) (l := [2, 3, 4, 7]) (by kernel_rfl) (by kernel_rfl) (.cons (vf h227) .nil) (G_ringref5_MayOf_C4_ok hF (.s (cR (cL (cR (cR (cR (cR (cR (bodyOf Try.f82)))))))) :: .s (cR (cR (cR (cR (cR (cR (bodyOf Try.f82))))))) :: []) n v_t160 v_z170 v_t158 v_t159 _ h244 ?_)
          cases v_o179 with
          | x0 v_z180 =>
            dsimp only at h
            by_cases h245 : v_z180 = true
            · rw [if_pos h245] at h
              obtain rfl := Option.some.inj h
              exact pend_sound TTok mix 5 (hs := [.t true]) (by kernel_rfl) (by kernel_rfl) (by kernel_rfl) (.cons h245 .nil)
            · rw [if_neg h245] at h
              obtain ⟨v_o185, h256, h⟩ := bind_some h
              refine pkk_sound TTok mix hF 3 (hs := [.t false]) (ts := []) (s := [0, 1]) (l := [2, 3, 4, 7]) (by kernel_rfl) (by kernel_rfl) (.cons (vf h245) .nil) (G_ringref5_MayOf_C5_ok hF (.s (cR (cR (cR (cR (cR (cR (cR (bodyOf Try.f82)))))))) :: []) n v_t160 v_z170 v_t158 v_t159 _ h256 ?_)
              cases v_o185 with
              | x0 v_z186 =>
                dsimp only at h
                obtain rfl := Option.some.inj h
                exact pend_sound TTok mix 1 (hs := []) (by kernel_rfl) (by kernel_rfl) (by kernel_rfl) .nil
inductive G_ringlaw5_ModeLists_L1_R where
  | x0 (v_t138 : Bool)
  | x1 
def G_ringlaw5_ModeLists_L1_ex : G_ringlaw5_ModeLists_L1_R → Ex
  | .x0 _ => .ret
  | .x1  => .exit 0
def G_ringlaw5_ModeLists_L1_st (v_t2 : (List S_mode_Entry)) (v_t4 : Int) (v_r133 : (Bool × Int)) (v_r134 : (Bool × Int)) (v_t1 : S_api_Stat) (v_t3 : S_api_Cred) : G_ringlaw5_ModeLists_L1_R → PS
  | .x0 v_t138 => ⟨[dd, dd, dd, dd, dd, dd, dd, dd, .d (.v (.bool v_t138)), dd, dd, dd, dd, dd, dd, dd, dd, dd, dd, dd, dd, dd, dd, dd, dd, dd, dd, dd, dd, dd, dd, dd, dd, dd, dd, dd, dd, dd, dd, dd, dd, dd, dd, dd, dd, dd, dd, dd, dd, dd, dd, dd, dd, dd, dd, dd, dd, dd, dd, dd, dd, dd, dd, dd, dd, dd, dd, dd, dd, dd, dd, dd, dd, dd, dd, dd, dd, dd, dd, dd, dd, dd, dd, dd, dd, dd, dd, dd, dd, dd, dd, dd, dd, dd, dd, dd, dd, dd, dd, dd, dd, dd, dd, dd, dd, dd, dd, dd, dd, dd, dd, dd, dd, dd, dd, dd, dd, dd, dd, dd, dd, dd, dd, dd, dd, dd, dd, dd, dd, dd, dd], []⟩
  | .x1  => ⟨[dd, .d (.sl (v_t2.map eS_mode_Entry)), dd, .d (.v (.int .i64 v_t4)), .ref 0 0, dd, .ref 1 0, dd, dd, .d (.v (.bool v_r133.1)), .d (.v (.int .i64 v_r133.2)), .d (.v (.bool v_r134.1)), dd, dd, dd, dd, dd, dd, dd, dd, dd, dd, dd, dd, dd, dd, dd, dd, dd, dd, dd, dd, dd, dd, dd, dd, dd, dd, dd, dd, dd, dd, dd, dd, dd, dd, dd, dd, dd, dd, dd, dd, dd, dd, dd, dd, dd, dd, dd, dd, dd, dd, dd, dd, dd, dd, dd, dd, dd, dd, dd, dd, dd, dd, dd, dd, dd, dd, dd, dd, dd, dd, dd, dd, dd, dd, dd, dd, dd, dd, dd, dd, dd, dd, dd, dd, dd, dd, dd, dd, dd, dd, dd, dd, dd, dd, dd, dd, dd, dd, dd, dd, dd, dd, dd, dd, dd, dd, dd, dd, dd, dd, dd, dd, dd, dd, dd, dd, dd, dd, dd], [.box [.d (.v (.int .i64 v_t1.fKind)), .d (.v (.int .i64 v_t1.fMode)), .d (.v (.int .i64 v_t1.fUser)), .d (.v (.int .i64 v_t1.fGroup)), .d (.v (.int .i64 v_t1.fSize)), .d (.v (.int .i64 v_t1.fLinks))], .box [.d (.v (.int .i64 v_t3.fUser)), .d (.v (.int .i64 v_t3.fGroup)), .d (.sl (v_t3.fMore.map (eI .i64))), .d (.v (.int .i64 v_t3.fCaps)), .d (.v (.int .i64 v_t3.fLevel)), .d (.v (.int .i64 v_t3.fKind))]]⟩
def G_ringlaw5_ModeLists_L1_hd (v_t2 : (List S_mode_Entry)) (v_t4 : Int) (v_r133 : (Bool × Int)) (v_r134 : (Bool × Int)) (v_t1 : S_api_Stat) (v_t3 : S_api_Cred) (v_t135 : Int) : PS := ⟨[dd, .d (.sl (v_t2.map eS_mode_Entry)), dd, .d (.v (.int .i64 v_t4)), .ref 0 0, dd, .ref 1 0, dd, dd, .d (.v (.bool v_r133.1)), .d (.v (.int .i64 v_r133.2)), .d (.v (.bool v_r134.1)), dd, dd, dd, dd, dd, dd, dd, dd, dd, dd, dd, dd, dd, dd, dd, dd, dd, dd, dd, dd, dd, dd, dd, dd, dd, dd, dd, dd, dd, dd, dd, dd, dd, dd, dd, dd, dd, dd, dd, dd, dd, .d (.sl (v_t2.map eS_mode_Entry)), .d (.v (.int .i64 (v_t2.length : Int))), .d (.v (.int .i64 v_t135)), dd, dd, dd, dd, dd, dd, dd, dd, dd, dd, dd, dd, dd, dd, dd, dd, dd, dd, dd, dd, dd, dd, dd, dd, dd, dd, dd, dd, dd, dd, dd, dd, dd, dd, dd, dd, dd, dd, dd, dd, dd, dd, dd, dd, dd, dd, dd, dd, dd, dd, dd, dd, dd, dd, dd, dd, dd, dd, dd, dd, dd, dd, dd, dd, dd, dd, dd, dd, dd, dd, dd, dd, dd, dd, dd], [.box [.d (.v (.int .i64 v_t1.fKind)), .d (.v (.int .i64 v_t1.fMode)), .d (.v (.int .i64 v_t1.fUser)), .d (.v (.int .i64 v_t1.fGroup)), .d (.v (.int .i64 v_t1.fSize)), .d (.v (.int .i64 v_t1.fLinks))], .box [.d (.v (.int .i64 v_t3.fUser)), .d (.v (.int .i64 v_t3.fGroup)), .d (.sl (v_t3.fMore.map (eI .i64))), .d (.v (.int .i64 v_t3.fCaps)), .d (.v (.int .i64 v_t3.fLevel)), .d (.v (.int .i64 v_t3.fKind))]]⟩
def G_ringlaw5_ModeLists_L1 (n : Nat) (v_t2 : (List S_mode_Entry)) (v_t4 : Int) (v_r133 : (Bool × Int)) (v_r134 : (Bool × Int)) (v_t1 : S_api_Stat) (v_t3 : S_api_Cred) : Nat → Int → Option G_ringlaw5_ModeLists_L1_R
  | 0, _ => none
  | k + 1, v_t135 =>
    if v_t135 < (v_t2.length : Int) then
     (getI v_t2 v_t135).bind fun (v_y137 : S_mode_Entry) =>
     if v_y137.fMay < 0 then
      if v_r133.2 = 1 then
       some (.x0 (!v_r133.1))
      else
       some (.x0 false)
     else
      if v_y137.fMay > 7 then
       if v_r133.2 = 1 then
        some (.x0 (!v_r133.1))
       else
        some (.x0 false)
      else
       G_ringlaw5_ModeLists_L1 n v_t2 v_t4 v_r133 v_r134 v_t1 v_t3 k (wi .i64 (v_t135 + 1))
    else
     some (.x1 )
theorem G_ringlaw5_ModeLists_L1_ok {Fi : Ex → PS → Prop} (hF : KC 131 Fi) (ks : List Fr) (n : Nat) (v_t2 : (List S_mode_Entry)) (v_t4 : Int) (v_r133 : (Bool × Int)) (v_r134 : (Bool × Int)) (v_t1 : S_api_Stat) (v_t3 : S_api_Cred)  : ∀ (k : Nat) (v_t135 : Int) (o : G_ringlaw5_ModeLists_L1_R), G_ringlaw5_ModeLists_L1 n v_t2 v_t4 v_r133 v_r134 v_t1 v_t3 k v_t135 = some o → RunE Try.prog 131 Fi ks (G_ringlaw5_ModeLists_L1_ex o) (G_ringlaw5_ModeLists_L1_st v_t2 v_t4 v_r133 v_r134 v_t1 v_t3 o) → RunE Try.prog 131 Fi (.l k (cP (cB (cR (cL (cR (cR (cR (cR (cR (cR (bodyOf Try.f11))))))))))) :: ks) .normal (G_ringlaw5_ModeLists_L1_hd v_t2 v_t4 v_r133 v_r134 v_t1 v_t3 v_t135)
  | 0, v_t135, o, h, q => by rw [G_ringlaw5_ModeLists_L1] at h; cases h
  | k + 1, v_t135, o, h, q => by
    rw [G_ringlaw5_ModeLists_L1] at h
    by_cases h168 : v_t135 < (v_t2.length : Int)
    · rw [if_pos h168] at h
      obtain ⟨v_y137, h177, h⟩ := bind_some h
      by_cases h178 : v_y137.fMay < 0
      · rw [if_pos h178] at h
        by_cases h180 : v_r133.2 = 1
        · rw [if_pos h180] at h
          cases h
          exact pkk_sound TTok mix hF 19 (hs := [.t true, .y (eS_mode_Entry v_y137), .c, .c, .t true, .c, .c, .c, .t true, .c]) (ts := []) (s := []) (l := [8]) (by kernel_rfl) (by kernel_rfl) (.cons (dt h168) (.cons (getI_ob (f := eS_mode_Entry) h177) (.cons (show 0 + 3 ≤ 3 by decide) (.cons (dt h178) (.cons (bt h180) .nil))))) q
        · rw [if_neg h180] at h
          cases h
          exact pkk_sound TTok mix hF 19 (hs := [.t true, .y (eS_mode_Entry v_y137), .c, .c, .t true, .c, .c, .c, .t false, .c]) (ts := []) (s := []) (l := [8]) (by kernel_rfl) (by kernel_rfl) (.cons (dt h168) (.cons (getI_ob (f := eS_mode_Entry) h177) (.cons (show 0 + 3 ≤ 3 by decide) (.cons (dt h178) (.cons (bf h180) .nil))))) q
      · rw [if_neg h178] at h
        by_cases h183 : v_y137.fMay > 7
        · rw [if_pos h183] at h
          by_cases h184 : v_r133.2 = 1
          · rw [if_pos h184] at h
            cases h
            exact pkk_sound TTok mix hF 19 (hs := [.t true, .y (eS_mode_Entry v_y137), .c, .c, .t false, .c, .c, .c, .t true, .t true, .c]) (ts := []) (s := []) (l := [8]) (by kernel_rfl) (by kernel_rfl) (.cons (dt h168) (.cons (getI_ob (f := eS_mode_Entry) h177) (.cons (show 0 + 3 ≤ 3 by decide) (.cons (df h178) (.cons (dt h183) (.cons (bt h184) .nil)))))) q
          · rw [if_neg h184] at h
            cases h
            exact pkk_sound TTok mix hF 19 (hs := [.t true, .y (eS_mode_Entry v_y137), .c, .c, .t false, .c, .c, .c, .t true, .t false, .c]) (ts := []) (s := []) (l := [8]) (by kernel_rfl) (by kernel_rfl) (.cons (dt h168) (.cons (getI_ob (f := eS_mode_Entry) h177) (.cons (show 0 + 3 ≤ 3 by decide) (.cons (df h178) (.cons (dt h183) (.cons (bf h184) .nil)))))) q
        · rw [if_neg h183] at h
          exact pkk_sound TTok mix hF 16 (hs := [.t true, .y (eS_mode_Entry v_y137), .c, .c, .t false, .c, .c, .c, .t false]) (ts := []) (s := [0, 1]) (l := [1, 3, 4, 6, 9, 10, 11, 53, 54, 55]) (by kernel_rfl) (by kernel_rfl) (.cons (dt h168) (.cons (getI_ob (f := eS_mode_Entry) h177) (.cons (show 0 + 3 ≤ 3 by decide) (.cons (df h178) (.cons (df h183) .nil))))) (G_ringlaw5_ModeLists_L1_ok hF ks n v_t2 v_t4 v_r133 v_r134 v_t1 v_t3 k (wi .i64 (v_t135 + 1)) _ h q)
    · rw [if_neg h168] at h
      cases h
      exact pkk_sound TTok mix hF 8 (hs := [.t false]) (ts := []) (s := [0, 1]) (l := [1, 3, 4, 6, 9, 10, 11]) (by kernel_rfl) (by kernel_rfl) (.cons (df h168) .nil) q
inductive G_ringlaw5_ModeLists_C2_R where
  | x0 (v_t192 : Bool)
def G_ringlaw5_ModeLists_C2_ex : G_ringlaw5_ModeLists_C2_R → Ex
  | .x0 _ => .normal
def G_ringlaw5_ModeLists_C2_st (v_t4 : Int) (v_r133 : (Bool × Int)) (v_t144 : Bool) (v_t2 : (List S_mode_Entry)) (v_t145 : Int) (v_t1 : S_api_Stat) (v_t3 : S_api_Cred) (v_y189 : S_mode_Entry) : G_ringlaw5_ModeLists_C2_R → PS
  | .x0 v_t192 => ⟨[dd, dd, dd, .d (.v (.int .i64 v_t4)), .ref 0 0, dd, .ref 1 0, dd, dd, .d (.v (.bool v_r133.1)), .d (.v (.int .i64 v_r133.2)), .d (.v (.bool v_t144)), dd, dd, dd, dd, .ref 2 0, dd, dd, dd, dd, dd, dd, dd, dd, dd, dd, dd, dd, dd, dd, dd, dd, dd, dd, dd, dd, dd, dd, dd, dd, dd, dd, dd, dd, dd, dd, dd, dd, dd, dd, dd, dd, dd, dd, dd, dd, dd, dd, dd, dd, dd, dd, dd, dd, dd, dd, dd, dd, dd, dd, dd, dd, dd, .d (.sl (v_t2.map eS_mode_Entry)), .d (.v (.int .i64 (v_t2.length : Int))), .d (.v (.int .i64 v_t145)), dd, dd, dd, dd, dd, dd, dd, dd, dd, dd, dd, dd, dd, dd, dd, dd, dd, dd, dd, dd, dd, dd, dd, .d (.v (.bool v_t192)), dd, dd, dd, dd, dd, dd, dd, dd, dd, dd, dd, dd, dd, dd, dd, dd, dd, dd, dd, dd, dd, dd, dd, dd, dd, dd, dd, dd, dd, dd], [.box [.d (.v (.int .i64 v_t1.fKind)), .d (.v (.int .i64 v_t1.fMode)), .d (.v (.int .i64 v_t1.fUser)), .d (.v (.int .i64 v_t1.fGroup)), .d (.v (.int .i64 v_t1.fSize)), .d (.v (.int .i64 v_t1.fLinks))], .box [.d (.v (.int .i64 v_t3.fUser)), .d (.v (.int .i64 v_t3.fGroup)), .d (.sl (v_t3.fMore.map (eI .i64))), .d (.v (.int .i64 v_t3.fCaps)), .d (.v (.int .i64 v_t3.fLevel)), .d (.v (.int .i64 v_t3.fKind))], .box [.d (.v (.bool v_y189.fGroup)), .d (.v (.int .i64 v_y189.fId)), .d (.v (.int .i64 v_y189.fMay))]]⟩
def G_ringlaw5_ModeLists_C2_hd (v_t4 : Int) (v_r133 : (Bool × Int)) (v_t144 : Bool) (v_t2 : (List S_mode_Entry)) (v_t145 : Int) (v_t1 : S_api_Stat) (v_t3 : S_api_Cred) (v_y189 : S_mode_Entry)  : PS := ⟨[dd, dd, dd, .d (.v (.int .i64 v_t4)), .ref 0 0, dd, .ref 1 0, dd, dd, .d (.v (.bool v_r133.1)), .d (.v (.int .i64 v_r133.2)), .d (.v (.bool v_t144)), dd, dd, dd, dd, .ref 2 0, dd, dd, dd, dd, dd, dd, dd, dd, dd, dd, dd, dd, dd, dd, dd, dd, dd, dd, dd, dd, dd, dd, dd, dd, dd, dd, dd, dd, dd, dd, dd, dd, dd, dd, dd, dd, dd, dd, dd, dd, dd, dd, dd, dd, dd, dd, dd, dd, dd, dd, dd, dd, dd, dd, dd, dd, dd, .d (.sl (v_t2.map eS_mode_Entry)), .d (.v (.int .i64 (v_t2.length : Int))), .d (.v (.int .i64 v_t145)), dd, dd, dd, dd, dd, dd, dd, dd, dd, dd, dd, dd, dd, dd, dd, dd, dd, dd, dd, dd, dd, dd, dd, dd, dd, dd, dd, dd, dd, dd, dd, dd, dd, dd, dd, dd, dd, dd, dd, dd, dd, dd, dd, dd, dd, dd, dd, dd, dd, dd, dd, dd, dd, dd], [.box [.d (.v (.int .i64 v_t1.fKind)), .d (.v (.int .i64 v_t1.fMode)), .d (.v (.int .i64 v_t1.fUser)), .d (.v (.int .i64 v_t1.fGroup)), .d (.v (.int .i64 v_t1.fSize)), .d (.v (.int .i64 v_t1.fLinks))], .box [.d (.v (.int .i64 v_t3.fUser)), .d (.v (.int .i64 v_t3.fGroup)), .d (.sl (v_t3.fMore.map (eI .i64))), .d (.v (.int .i64 v_t3.fCaps)), .d (.v (.int .i64 v_t3.fLevel)), .d (.v (.int .i64 v_t3.fKind))], .box [.d (.v (.bool v_y189.fGroup)), .d (.v (.int .i64 v_y189.fId)), .d (.v (.int .i64 v_y189.fMay))]]⟩
def G_ringlaw5_ModeLists_C2 (n : Nat) (v_t4 : Int) (v_r133 : (Bool × Int)) (v_t144 : Bool) (v_t2 : (List S_mode_Entry)) (v_t145 : Int) (v_t1 : S_api_Stat) (v_t3 : S_api_Cred) (v_y189 : S_mode_Entry) : Option G_ringlaw5_ModeLists_C2_R :=
  if v_y189.fGroup = true then
   (G_ringref5_Groups n v_t3).bind fun (v_r194 : ((List Int))) =>
   (G_slices_Contains_int_int n v_r194 v_y189.fId).bind fun (v_r195 : (Bool)) =>
   some (.x0 v_r195)
  else
   if v_y189.fId = v_t3.fUser then
    some (.x0 true)
   else
    some (.x0 false)
theorem G_ringlaw5_ModeLists_C2_ok {Fi : Ex → PS → Prop} (hF : KC 131 Fi) (ks : List Fr) (n : Nat) (v_t4 : Int) (v_r133 : (Bool × Int)) (v_t144 : Bool) (v_t2 : (List S_mode_Entry)) (v_t145 : Int) (v_t1 : S_api_Stat) (v_t3 : S_api_Cred) (v_y189 : S_mode_Entry)  (o : G_ringlaw5_ModeLists_C2_R) (h : G_ringlaw5_ModeLists_C2 n v_t4 v_r133 v_t144 v_t2 v_t145 v_t1 v_t3 v_y189 = some o) (q : RunE Try.prog 131 Fi ks (G_ringlaw5_ModeLists_C2_ex o) (G_ringlaw5_ModeLists_C2_st v_t4 v_r133 v_t144 v_t2 v_t145 v_t1 v_t3 v_y189 o)) : RunE Try.prog 131 Fi (.s (cL (cR (cB (cL (cR (cR (cP (cB (cR (cL (cR (cR (cR (cR (cR (cR (cR (bodyOf Try.f11)))))))))))))))))) :: ks) .normal (G_ringlaw5_ModeLists_C2_hd v_t4 v_r133 v_t144 v_t2 v_t145 v_t1 v_t3 v_y189) := by
  unfold G_ringlaw5_ModeLists_C2 at h
  by_cases h269 : v_y189.fGroup = true
  · rw [if_pos h269] at h
    obtain ⟨v_r194, h271, h⟩ := bind_some h
    obtain ⟨v_r195, h272, h⟩ := bind_some h
    cases h
    exact pkk_sound TTok mix hF 1 (hs := [.c, .t false, .c, .c, .c, .c, .c, .c, .c, .c, .t true, .c, .c, .r ((eL (eI .i64)) v_r194), .c, .c, .c, .c, .r (eB v_r195), .c]) (ts := []) (s := [0, 1, 2]) (l := [3, 4, 6, 9, 10, 11, 16, 74, 75, 76, 100]) (by kernel_rfl) (by kernel_rfl) (.cons (bnf h269) (.cons h269 (.cons (G_ringref5_Groups_ok n v_t3 _ h271) (.cons (G_slices_Contains_int_int_ok n v_r194 v_y189.fId _ h272) .nil)))) q
  · rw [if_neg h269] at h
    by_cases h270 : v_y189.fId = v_t3.fUser
    · rw [if_pos h270] at h
      cases h
      exact pkk_sound TTok mix hF 1 (hs := [.c, .t true, .c, .c, .c, .c, .c, .c, .t true, .c, .c, .c]) (ts := []) (s := [0, 1, 2]) (l := [3, 4, 6, 9, 10, 11, 16, 74, 75, 76, 100]) (by kernel_rfl) (by kernel_rfl) (.cons (bnt (vf h269)) (.cons (bt h270) .nil)) q
    · rw [if_neg h270] at h
      cases h
      exact pkk_sound TTok mix hF 1 (hs := [.c, .t true, .c, .c, .c, .c, .c, .c, .t false, .c, .c, .c, .t false, .c, .c, .c, .c, .c]) (ts := []) (s := [0, 1, 2]) (l := [3, 4, 6, 9, 10, 11, 16, 74, 75, 76, 100]) (by kernel_rfl) (by kernel_rfl) (.cons (bnt (vf h269)) (.cons (bf h270) (.cons (vf h269) .nil))) q
inductive G_ringlaw5_ModeLists_L3_R where
  | x0 (v_t201 : Bool)
def G_ringlaw5_ModeLists_L3_ex : G_ringlaw5_ModeLists_L3_R → Ex
  | .x0 _ => .exit 2
def G_ringlaw5_ModeLists_L3_st (v_t4 : Int) (v_r133 : (Bool × Int)) (v_t2 : (List S_mode_Entry)) (v_t1 : S_api_Stat) (v_t3 : S_api_Cred) : G_ringlaw5_ModeLists_L3_R → PS
  | .x0 v_t201 => ⟨[dd, dd, dd, dd, dd, dd, dd, dd, dd, .d (.v (.bool v_r133.1)), .d (.v (.int .i64 v_r133.2)), .d (.v (.bool v_t201)), dd, dd, dd, dd, dd, dd, dd, dd, dd, dd, dd, dd, dd, dd, dd, dd, dd, dd, dd, dd, dd, dd, dd, dd, dd, dd, dd, dd, dd, dd, dd, dd, dd, dd, dd, dd, dd, dd, dd, dd, dd, dd, dd, dd, dd, dd, dd, dd, dd, dd, dd, dd, dd, dd, dd, dd, dd, dd, dd, dd, dd, dd, dd, dd, dd, dd, dd, dd, dd, dd, dd, dd, dd, dd, dd, dd, dd, dd, dd, dd, dd, dd, dd, dd, dd, dd, dd, dd, dd, dd, dd, dd, dd, dd, dd, dd, dd, dd, dd, dd, dd, dd, dd, dd, dd, dd, dd, dd, dd, dd, dd, dd, dd, dd, dd, dd, dd, dd, dd], []⟩
def G_ringlaw5_ModeLists_L3_hd (v_t4 : Int) (v_r133 : (Bool × Int)) (v_t2 : (List S_mode_Entry)) (v_t1 : S_api_Stat) (v_t3 : S_api_Cred) (v_t144 : Bool) (v_t145 : Int) : PS := ⟨[dd, dd, dd, .d (.v (.int .i64 v_t4)), .ref 0 0, dd, .ref 1 0, dd, dd, .d (.v (.bool v_r133.1)), .d (.v (.int .i64 v_r133.2)), .d (.v (.bool v_t144)), dd, dd, dd, dd, dd, dd, dd, dd, dd, dd, dd, dd, dd, dd, dd, dd, dd, dd, dd, dd, dd, dd, dd, dd, dd, dd, dd, dd, dd, dd, dd, dd, dd, dd, dd, dd, dd, dd, dd, dd, dd, dd, dd, dd, dd, dd, dd, dd, dd, dd, dd, dd, dd, dd, dd, dd, dd, dd, dd, dd, dd, dd, .d (.sl (v_t2.map eS_mode_Entry)), .d (.v (.int .i64 (v_t2.length : Int))), .d (.v (.int .i64 v_t145)), dd, dd, dd, dd, dd, dd, dd, dd, dd, dd, dd, dd, dd, dd, dd, dd, dd, dd, dd, dd, dd, dd, dd, dd, dd, dd, dd, dd, dd, dd, dd, dd, dd, dd, dd, dd, dd, dd, dd, dd, dd, dd, dd, dd, dd, dd, dd, dd, dd, dd, dd, dd, dd, dd], [.box [.d (.v (.int .i64 v_t1.fKind)), .d (.v (.int .i64 v_t1.fMode)), .d (.v (.int .i64 v_t1.fUser)), .d (.v (.int .i64 v_t1.fGroup)), .d (.v (.int .i64 v_t1.fSize)), .d (.v (.int .i64 v_t1.fLinks))], .box [.d (.v (.int .i64 v_t3.fUser)), .d (.v (.int .i64 v_t3.fGroup)), .d (.sl (v_t3.fMore.map (eI .i64))), .d (.v (.int .i64 v_t3.fCaps)), .d (.v (.int .i64 v_t3.fLevel)), .d (.v (.int .i64 v_t3.fKind))]]⟩
def G_ringlaw5_ModeLists_L3 (n : Nat) (v_t4 : Int) (v_r133 : (Bool × Int)) (v_t2 : (List S_mode_Entry)) (v_t1 : S_api_Stat) (v_t3 : S_api_Cred) : Nat → Bool → Int → Option G_ringlaw5_ModeLists_L3_R
  | 0, _, _ => none
  | k + 1, v_t144, v_t145 =>
    if v_t145 < (v_t2.length : Int) then
     (getI v_t2 v_t145).bind fun (v_y189 : S_mode_Entry) =>
     (G_ringlaw5_ModeLists_C2 n v_t4 v_r133 v_t144 v_t2 v_t145 v_t1 v_t3 v_y189).bind fun v_o197 => match v_o197 with
     | .x0 v_z198 =>
       if v_z198 = true then
        (G_ringref5_MayOf n (S_api_Stat.mk v_t1.fKind (wi .i64 ((wi .i64 ((wi .i64 ((wi .i64 ((remI v_y189.fMay 2) * 4)) + (wi .i64 ((remI (quoI .i64 v_y189.fMay 2) 2) * 2)))) + (quoI .i64 v_y189.fMay 4))) * 73)) 0 0 0 0) v_t3 v_t4).bind fun (v_r200 : (Bool)) =>
        some (.x0 v_r200)
       else
        G_ringlaw5_ModeLists_L3 n v_t4 v_r133 v_t2 v_t1 v_t3 k v_t144 (wi .i64 (v_t145 + 1))
    else
     some (.x0 v_t144)
theorem G_ringlaw5_ModeLists_L3_ok {Fi : Ex → PS → Prop} (hF : KC 131 Fi) (ks : List Fr) (n : Nat) (v_t4 : Int) (v_r133 : (Bool × Int)) (v_t2 : (List S_mode_Entry)) (v_t1 : S_api_Stat) (v_t3 : S_api_Cred)  : ∀ (k : Nat) (v_t144 : Bool) (v_t145 : Int) (o : G_ringlaw5_ModeLists_L3_R), G_ringlaw5_ModeLists_L3 n v_t4 v_r133 v_t2 v_t1 v_t3 k v_t144 v_t145 = some o → RunE Try.prog 131 Fi ks (G_ringlaw5_ModeLists_L3_ex o) (G_ringlaw5_ModeLists_L3_st v_t4 v_r133 v_t2 v_t1 v_t3 o) → RunE Try.prog 131 Fi (.l k (cP (cB (cR (cL (cR (cR (cR (cR (cR (cR (cR (bodyOf Try.f11)))))))))))) :: ks) .normal (G_ringlaw5_ModeLists_L3_hd v_t4 v_r133 v_t2 v_t1 v_t3 v_t144 v_t145)
  | 0, v_t144, v_t145, o, h, q => by rw [G_ringlaw5_ModeLists_L3] at h; cases h
  | k + 1, v_t144, v_t145, o, h, q => by
    rw [G_ringlaw5_ModeLists_L3] at h
    by_cases h186 : v_t145 < (v_t2.length : Int)
    · rw [if_pos h186] at h
      obtain ⟨v_y189, h264, h⟩ := bind_some h
      obtain ⟨v_o197, h273, h⟩ := bind_some h
      refine pkk_sound TTok mix hF 11 (hs := [.t true, .y (eS_mode_Entry v_y189), .c]) (ts := []) (s := [0, 1, 5]) (l := [3, 4, 6, 9, 10, 11, 16, 74, 75, 76]) (by kernel_rfl) (by kernel_rfl) (.cons (dt h186) (.cons (getI_ob (f := eS_mode_Entry) h264) (.cons (show 0 + 3 ≤ 3 by decide) .nil))) (G_ringlaw5_ModeLists_C2_ok hF (.s (cR (cR (cB (cL (cR (cR (cP (cB (cR (cL (cR (cR (cR (cR (cR (cR (cR (bodyOf Try.f11)))))))))))))))))) :: .b 3 :: .s (cR (cR (cR (cP (cB (cR (cL (cR (cR (cR (cR (cR (cR (cR (bodyOf Try.f11))))))))))))))) :: .l k (cP (cB (cR (cL (cR (cR (cR (cR (cR (cR (cR (bodyOf Try.f11)))))))))))) :: ks) n v_t4 v_r133 v_t144 v_t2 v_t145 v_t1 v_t3 v_y189 _ h273 ?_)
      cases v_o197 with
      | x0 v_z198 =>
        dsimp only at h
        by_cases h280 : v_z198 = true
        · rw [if_pos h280] at h
          obtain ⟨v_r200, h285, h⟩ := bind_some h
          cases h
          exact pkk_sound TTok mix hF 9 (hs := [.t true, .c, .c, .c, .c, .c, .r (eB v_r200)]) (ts := []) (s := []) (l := [9, 10, 11]) (by kernel_rfl) (by kernel_rfl) (.cons h280 (.cons (show (2 : Int) ≠ 0 by decide) (.cons (show (2 : Int) ≠ 0 by decide) (.cons (show (2 : Int) ≠ 0 by decide) (.cons (show (4 : Int) ≠ 0 by decide) (.cons (G_ringref5_MayOf_ok n (S_api_Stat.mk v_t1.fKind (wi .i64 ((wi .i64 ((wi .i64 ((wi .i64 ((remI v_y189.fMay 2) * 4)) + (wi .i64 ((remI (quoI .i64 v_y189.fMay 2) 2) * 2)))) + (quoI .i64 v_y189.fMay 4))) * 73)) 0 0 0 0) v_t3 v_t4 _ h285) .nil)))))) q
        · rw [if_neg h280] at h
          exact pkk_sound TTok mix hF 4 (hs := [.t false]) (ts := []) (s := [0, 1]) (l := [3, 4, 6, 9, 10, 11, 74, 75, 76]) (by kernel_rfl) (by kernel_rfl) (.cons (vf h280) .nil) (G_ringlaw5_ModeLists_L3_ok hF ks n v_t4 v_r133 v_t2 v_t1 v_t3 k v_t144 (wi .i64 (v_t145 + 1)) _ h q)
    · rw [if_neg h186] at h
      cases h
      exact pkk_sound TTok mix hF 8 (hs := [.t false]) (ts := []) (s := []) (l := [9, 10, 11]) (by kernel_rfl) (by kernel_rfl) (.cons (df h186) .nil) q
/- ringhall/ringlaw5.ModeLists -/
def G_ringlaw5_ModeLists (n : Nat) (v_t1 : S_api_Stat) (v_t2 : (List S_mode_Entry)) (v_t3 : S_api_Cred) (v_t4 : Int) : Option (Bool) :=
  (G_ringlaw5_mays n ).bind fun (v_r132 : (Bool)) =>
  if v_r132 = true then
   (G_mode_Listed n v_t1 v_t2 v_t3 v_t4).bind fun (v_r133 : (Bool × Int)) =>
   (G_mode_May n v_t1 v_t3 v_t4).bind fun (v_r134 : (Bool × Int)) =>
   if v_r134.2 = 0 then
    if (v_t2.length : Int) > 6 then
     if v_r133.2 = 2 then
      some (!v_r133.1)
     else
      some false
    else
     (G_ringlaw5_ModeLists_L1 n v_t2 v_t4 v_r133 v_r134 v_t1 v_t3 n 0).bind fun v_o142 => match v_o142 with
     | .x0 v_z143 =>
       some v_z143
     | .x1  =>
       (G_ringlaw5_ModeLists_L3 n v_t4 v_r133 v_t2 v_t1 v_t3 n v_r134.1 0).bind fun v_o203 => match v_o203 with
       | .x0 v_z204 =>
         if v_r133.2 = 0 then
          some (eqRes .eql (v_r133.1 == v_z204))
         else
          some false
   else
    if v_r133.2 = v_r134.2 then
     some (!v_r133.1)
    else
     some false
  else
   some false
theorem G_ringlaw5_ModeLists_ok (n : Nat) (v_t1 : S_api_Stat) (v_t2 : (List S_mode_Entry)) (v_t3 : S_api_Cred) (v_t4 : Int) (r : Bool) (h : G_ringlaw5_ModeLists n v_t1 v_t2 v_t3 v_t4 = some r) : Ret Try.prog 11 [eS_api_Stat v_t1, (eL eS_mode_Entry) v_t2, eS_api_Cred v_t3, (eI .i64) v_t4] (eB r) := by
  refine ret_run (n := 131) (fn := Try.f11) (c := bodyOf Try.f11) (by kernel_rfl) (by kernel_rfl) (by kernel_rfl) (by kernel_rfl) ?_
  have hF : KC 131 (FinR Try.prog Try.f11 (eB r)) := FinR.kc' (by kernel_rfl)
  unfold G_ringlaw5_ModeLists at h
  obtain ⟨v_r132, h156, h⟩ := bind_some h
  by_cases h157 : v_r132 = true
  · rw [if_pos h157] at h
    obtain ⟨v_r133, h158, h⟩ := bind_some h
    obtain ⟨v_r134, h159, h⟩ := bind_some h
    by_cases h162 : v_r134.2 = 0
    · rw [if_pos h162] at h
      by_cases h166 : (v_t2.length : Int) > 6
      · rw [if_pos h166] at h
        by_cases h167 : v_r133.2 = 2
        · rw [if_pos h167] at h
          obtain rfl := Option.some.inj h
          exact pend_sound TTok mix 24 (hs := [.r (eB v_r132), .t false, .c, .c, .r (.tup [eB v_r133.1, (eI .i64) v_r133.2]), .c, .c, .r (.tup [eB v_r134.1, (eI .i64) v_r134.2]), .t false, .u (.d (.v (.int .i64 (v_t2.length : Int)))), .t true, .t true, .c]) (by kernel_rfl) (by kernel_rfl) (by kernel_rfl) (.cons (G_ringlaw5_mays_ok n  _ h156) (.cons (bnf h157) (.cons (G_mode_Listed_ok n v_t1 v_t2 v_t3 v_t4 _ h158) (.cons (G_mode_May_ok n v_t1 v_t3 v_t4 _ h159) (.cons (nf h162) (.cons (len_ob (f := eS_mode_Entry) (l := v_t2)) (.cons (dt h166) (.cons (bt h167) .nil))))))))
        · rw [if_neg h167] at h
          obtain rfl := Option.some.inj h
          exact pend_sound TTok mix 24 (hs := [.r (eB v_r132), .t false, .c, .c, .r (.tup [eB v_r133.1, (eI .i64) v_r133.2]), .c, .c, .r (.tup [eB v_r134.1, (eI .i64) v_r134.2]), .t false, .u (.d (.v (.int .i64 (v_t2.length : Int)))), .t true, .t false, .c]) (by kernel_rfl) (by kernel_rfl) (by kernel_rfl) (.cons (G_ringlaw5_mays_ok n  _ h156) (.cons (bnf h157) (.cons (G_mode_Listed_ok n v_t1 v_t2 v_t3 v_t4 _ h158) (.cons (G_mode_May_ok n v_t1 v_t3 v_t4 _ h159) (.cons (nf h162) (.cons (len_ob (f := eS_mode_Entry) (l := v_t2)) (.cons (dt h166) (.cons (bf h167) .nil))))))))
      · rw [if_neg h166] at h
        obtain ⟨v_o142, h185, h⟩ := bind_some h
        refine pkk_sound TTok mix hF 26 (hs := [.r (eB v_r132), .t false, .c, .c, .r (.tup [eB v_r133.1, (eI .i64) v_r133.2]), .c, .c, .r (.tup [eB v_r134.1, (eI .i64) v_r134.2]), .t false, .u (.d (.v (.int .i64 (v_t2.length : Int)))), .t false, .u (.d (.v (.int .i64 (v_t2.length : Int)))), .n n]) (ts := []) (s := [0, 1]) (l := [1, 3, 4, 6, 9, 10, 11, 53, 54, 55]) (by kernel_rfl) (by kernel_rfl) (.cons (G_ringlaw5_mays_ok n  _ h156) (.cons (bnf h157) (.cons (G_mode_Listed_ok n v_t1 v_t2 v_t3 v_t4 _ h158) (.cons (G_mode_May_ok n v_t1 v_t3 v_t4 _ h159) (.cons (nf h162) (.cons (len_ob (f := eS_mode_Entry) (l := v_t2)) (.cons (df h166) (.cons (len_ob (f := eS_mode_Entry) (l := v_t2)) .nil)))))))) (G_ringlaw5_ModeLists_L1_ok hF (.b 0 :: .s (cR (cR (cR (cR (cR (cR (cR (bodyOf Try.f11)))))))) :: []) n v_t2 v_t4 v_r133 v_r134 v_t1 v_t3 n 0 _ h185 ?_)
        cases v_o142 with
        | x0 v_z143 =>
          dsimp only at h
          obtain rfl := Option.some.inj h
          exact pend_sound TTok mix 2 (hs := []) (by kernel_rfl) (by kernel_rfl) (by kernel_rfl) .nil
        | x1  =>
          dsimp only at h
          obtain ⟨v_o203, h286, h⟩ := bind_some h
          refine pkk_sound TTok mix hF 6 (hs := [.u (.d (.v (.int .i64 (v_t2.length : Int)))), .n n]) (ts := []) (s := [0, 1]) (l := [3, 4, 6, 9, 10, 11, 74, 75, 76]) (by kernel_rfl) (by kernel_rfl) (.cons (len_ob (f := eS_mode_Entry) (l := v_t2)) .nil) (G_ringlaw5_ModeLists_L3_ok hF (.b 2 :: .s (cR (cR (cR (cR (cR (cR (cR (cR (bodyOf Try.f11))))))))) :: []) n v_t4 v_r133 v_t2 v_t1 v_t3 n v_r134.1 0 _ h286 ?_)
          cases v_o203 with
          | x0 v_z204 =>
            dsimp only at h
            by_cases h287 : v_r133.2 = 0
            · rw [if_pos h287] at h
              obtain rfl := Option.some.inj h
              exact pend_sound TTok mix 4 (hs := [.t true, .c, .c]) (by kernel_rfl) (by kernel_rfl) (by kernel_rfl) (.cons (bt h287) .nil)
            · rw [if_neg h287] at h
              obtain rfl := Option.some.inj h
              exact pend_sound TTok mix 4 (hs := [.t false, .c, .c]) (by kernel_rfl) (by kernel_rfl) (by kernel_rfl) (.cons (bf h287) .nil)
    · rw [if_neg h162] at h
      by_cases h163 : v_r133.2 = v_r134.2
      · rw [if_pos h163] at h
        obtain rfl := Option.some.inj h
        exact pend_sound TTok mix 19 (hs := [.r (eB v_r132), .t false, .c, .c, .r (.tup [eB v_r133.1, (eI .i64) v_r133.2]), .c, .c, .r (.tup [eB v_r134.1, (eI .i64) v_r134.2]), .t true, .t true, .c]) (by kernel_rfl) (by kernel_rfl) (by kernel_rfl) (.cons (G_ringlaw5_mays_ok n  _ h156) (.cons (bnf h157) (.cons (G_mode_Listed_ok n v_t1 v_t2 v_t3 v_t4 _ h158) (.cons (G_mode_May_ok n v_t1 v_t3 v_t4 _ h159) (.cons (nt h162) (.cons (bt h163) .nil))))))
      · rw [if_neg h163] at h
        obtain rfl := Option.some.inj h
        exact pend_sound TTok mix 19 (hs := [.r (eB v_r132), .t false, .c, .c, .r (.tup [eB v_r133.1, (eI .i64) v_r133.2]), .c, .c, .r (.tup [eB v_r134.1, (eI .i64) v_r134.2]), .t true, .t false, .c]) (by kernel_rfl) (by kernel_rfl) (by kernel_rfl) (.cons (G_ringlaw5_mays_ok n  _ h156) (.cons (bnf h157) (.cons (G_mode_Listed_ok n v_t1 v_t2 v_t3 v_t4 _ h158) (.cons (G_mode_May_ok n v_t1 v_t3 v_t4 _ h159) (.cons (nt h162) (.cons (bf h163) .nil))))))
  · rw [if_neg h157] at h
    obtain rfl := Option.some.inj h
    exact pend_sound TTok mix 10 (hs := [.r (eB v_r132), .t true]) (by kernel_rfl) (by kernel_rfl) (by kernel_rfl) (.cons (G_ringlaw5_mays_ok n  _ h156) (.cons (bnt (vf h157)) .nil))
def okS_api_Stat (x : S_api_Stat) : Prop := (fun a => (Lit.int .i64 a).wf = true) x.fKind ∧ (fun a => (Lit.int .i64 a).wf = true) x.fMode ∧ (fun a => (Lit.int .i64 a).wf = true) x.fUser ∧ (fun a => (Lit.int .i64 a).wf = true) x.fGroup ∧ (fun a => (Lit.int .i64 a).wf = true) x.fSize ∧ (fun a => (Lit.int .i64 a).wf = true) x.fLinks ∧ True
theorem brS_api_Stat : Br (.pair (.int .i64) (.pair (.int .i64) (.pair (.int .i64) (.pair (.int .i64) (.pair (.int .i64) (.pair (.int .i64) .unit)))))) (fun x : S_api_Stat => [.v (.int .i64 x.fKind), .v (.int .i64 x.fMode), .v (.int .i64 x.fUser), .v (.int .i64 x.fGroup), .v (.int .i64 x.fSize), .v (.int .i64 x.fLinks)]) okS_api_Stat := br_map (br_pair (br_int .i64) (br_pair (br_int .i64) (br_pair (br_int .i64) (br_pair (br_int .i64) (br_pair (br_int .i64) (br_pair (br_int .i64) br_unit)))))) (fun p => S_api_Stat.mk p.1 p.2.1 p.2.2.1 p.2.2.2.1 p.2.2.2.2.1 p.2.2.2.2.2.1) (fun p h => ⟨rfl, h⟩)
def okS_mode_Entry (x : S_mode_Entry) : Prop := (fun _ => True) x.fGroup ∧ (fun a => (Lit.int .i64 a).wf = true) x.fId ∧ (fun a => (Lit.int .i64 a).wf = true) x.fMay ∧ True
theorem brS_mode_Entry : Br (.pair .bool (.pair (.int .i64) (.pair (.int .i64) .unit))) (fun x : S_mode_Entry => [.v (.bool x.fGroup), .v (.int .i64 x.fId), .v (.int .i64 x.fMay)]) okS_mode_Entry := br_map (br_pair br_bool (br_pair (br_int .i64) (br_pair (br_int .i64) br_unit))) (fun p => S_mode_Entry.mk p.1 p.2.1 p.2.2.1) (fun p h => ⟨rfl, h⟩)
def okS_api_Cred (x : S_api_Cred) : Prop := (fun a => (Lit.int .i64 a).wf = true) x.fUser ∧ (fun a => (Lit.int .i64 a).wf = true) x.fGroup ∧ (okL (fun a => (Lit.int .i64 a).wf = true)) x.fMore ∧ (fun a => (Lit.int .i64 a).wf = true) x.fCaps ∧ (fun a => (Lit.int .i64 a).wf = true) x.fLevel ∧ (fun a => (Lit.int .i64 a).wf = true) x.fKind ∧ True
theorem brS_api_Cred : Br (.pair (.int .i64) (.pair (.int .i64) (.pair (.slice (.int .i64)) (.pair (.int .i64) (.pair (.int .i64) (.pair (.int .i64) .unit)))))) (fun x : S_api_Cred => [.v (.int .i64 x.fUser), .v (.int .i64 x.fGroup), .sl (x.fMore.map (eI .i64)), .v (.int .i64 x.fCaps), .v (.int .i64 x.fLevel), .v (.int .i64 x.fKind)]) okS_api_Cred := br_map (br_pair (br_int .i64) (br_pair (br_int .i64) (br_pair (br_slice (f := (eI .i64)) (ok := (fun a => (Lit.int .i64 a).wf = true)) (br_int .i64) (fun _ => rfl) (by decide)) (br_pair (br_int .i64) (br_pair (br_int .i64) (br_pair (br_int .i64) br_unit)))))) (fun p => S_api_Cred.mk p.1 p.2.1 p.2.2.1 p.2.2.2.1 p.2.2.2.2.1 p.2.2.2.2.2.1) (fun p h => ⟨rfl, h⟩)
theorem ModeLists_walk (H : ∀ (a0 : S_api_Stat) (a1 : (List S_mode_Entry)) (a2 : S_api_Cred) (a3 : Int), okS_api_Stat a0 → (okL okS_mode_Entry) a1 → okS_api_Cred a2 → (fun a => (Lit.int .i64 a).wf = true) a3 → ∃ n, G_ringlaw5_ModeLists n a0 a1 a2 a3 = some true) (w : World) (v0 : Value) (v1 : Value) (v2 : Value) (v3 : Value) (h0 : rep.Arg w (.pair (.int .i64) (.pair (.int .i64) (.pair (.int .i64) (.pair (.int .i64) (.pair (.int .i64) (.pair (.int .i64) .unit)))))) v0) (h1 : rep.Arg w (.slice (.pair .bool (.pair (.int .i64) (.pair (.int .i64) .unit)))) v1) (h2 : rep.Arg w (.pair (.int .i64) (.pair (.int .i64) (.pair (.slice (.int .i64)) (.pair (.int .i64) (.pair (.int .i64) (.pair (.int .i64) .unit)))))) v2) (h3 : rep.Arg w (.int .i64) v3) : Calls Try.prog 11 #[v0, v1, v2, v3] w (help.Ret (.bool true) w) := by
  obtain ⟨a0, o0, r0⟩ := arg_agg brS_api_Stat (by rfl) h0
  obtain ⟨a1, o1, r1⟩ := arg_one (br_slice (f := eS_mode_Entry) (ok := okS_mode_Entry) brS_mode_Entry (fun _ => rfl) (by decide)) (by rfl) h1
  obtain ⟨a2, o2, r2⟩ := arg_agg brS_api_Cred (by rfl) h2
  obtain ⟨a3, o3, r3⟩ := arg_one (br_int .i64) (by rfl) h3
  obtain ⟨n, hn⟩ := H a0 a1 a2 a3 o0 o1 o2 o3
  exact walk_of (G_ringlaw5_ModeLists_ok n a0 a1 a2 a3 true hn) (RT_cons r0 (RT_cons r1 (RT_cons r2 (RT_cons r3 RT_nil))))
/- FRAME ModeLists; ringhall/ringlaw5.ModeLists; (.pair (.int .i64) (.pair (.int .i64) (.pair (.int .i64) (.pair (.int .i64) (.pair (.int .i64) (.pair (.int .i64) .unit)))))) | (.slice (.pair .bool (.pair (.int .i64) (.pair (.int .i64) .unit)))) | (.pair (.int .i64) (.pair (.int .i64) (.pair (.slice (.int .i64)) (.pair (.int .i64) (.pair (.int .i64) (.pair (.int .i64) .unit)))))) | (.int .i64); .agg #[.int .i64 0, .int .i64 0, .int .i64 0, .int .i64 0, .int .i64 0, .int .i64 0] | .slice none 0 0 | .agg #[.int .i64 0, .int .i64 0, .slice none 0 0, .int .i64 0, .int .i64 0, .int .i64 0] | .int .i64 0 -/
end Go.Proofs.YtccmjndnjpjohaaR.pv
