/- What the functions compute, as functions over plain data, with their contracts: written by gen.py. -/
import Derived.Test.YtnmpnljjaoddhaaProg
import Derived.Test.YtnmpnljjaoddhaaQr
import Derived.Test.YtnmpnljjaoddhaaSf
set_option maxRecDepth 100000
set_option linter.all false
namespace Go.Proofs.Ytnmpnljjaoddhaa.pv
open Go.RowKit
def TT : List TI := [
⟨1, 0, .oth, []⟩,
⟨1, 8, .oth, [.nf]⟩,
⟨1, 8, .int .i64, [.i .i64]⟩,
⟨1, 8, .int .i64, [.i .i64]⟩,
⟨1, 1, .bool, [.b]⟩,
⟨1, 1, .int .u8, [.i .u8]⟩,
⟨1, 1, .int .u8, [.i .u8]⟩,
⟨4, 24, .st [(0, 2), (1, 3), (2, 4), (3, 6)], [.i .i64, .i .i64, .b, .i .u8]⟩,
⟨4, 24, .st [(0, 2), (1, 3), (2, 4), (3, 6)], [.i .i64, .i .i64, .b, .i .u8]⟩,
⟨1, 16, .str, [.s]⟩,
⟨1, 16, .str, [.s]⟩,
⟨1, 16, .str, [.s]⟩,
⟨1, 8, .int .u64, [.i .u64]⟩,
⟨2, 24, .st [(0, 9), (1, 12)], [.s, .i .u64]⟩,
⟨2, 24, .st [(0, 9), (1, 12)], [.s, .i .u64]⟩,
⟨1, 8, .oth, [.np]⟩,
⟨1, 8, .oth, [.np]⟩,
⟨1, 8, .oth, [.np]⟩,
⟨1, 8, .st [(0, 17)], [.np]⟩,
⟨1, 8, .st [(0, 17)], [.np]⟩,
⟨1, 16, .oth, [.ni]⟩,
⟨1, 4, .int .i32, [.i .i32]⟩,
⟨1, 24, .sl 3, [.sl]⟩,
⟨1, 8, .int .i64, [.i .i64]⟩,
⟨1, 0, .oth, []⟩,
⟨1, 8, .oth, [.nf]⟩,
⟨1, 8, .oth, [.nf]⟩,
⟨1, 8, .oth, [.nf]⟩,
⟨1, 8, .oth, [.nf]⟩,
⟨1, 8, .oth, [.nf]⟩,
⟨6, 48, .st [(0, 3), (1, 3), (2, 3), (3, 3), (4, 3), (5, 3)], [.i .i64, .i .i64, .i .i64, .i .i64, .i .i64, .i .i64]⟩,
⟨6, 48, .st [(0, 3), (1, 3), (2, 3), (3, 3), (4, 3), (5, 3)], [.i .i64, .i .i64, .i .i64, .i .i64, .i .i64, .i .i64]⟩,
⟨6, 64, .st [(0, 3), (1, 3), (2, 22), (3, 3), (4, 3), (5, 3)], [.i .i64, .i .i64, .sl, .i .i64, .i .i64, .i .i64]⟩,
⟨6, 64, .st [(0, 3), (1, 3), (2, 22), (3, 3), (4, 3), (5, 3)], [.i .i64, .i .i64, .sl, .i .i64, .i .i64, .i .i64]⟩,
⟨1, 8, .oth, [.nf]⟩,
⟨1, 0, .oth, []⟩,
⟨1, 8, .oth, [.nf]⟩,
⟨1, 0, .oth, []⟩,
⟨1, 8, .oth, [.nf]⟩,
⟨1, 8, .oth, [.nf]⟩,
⟨1, 8, .oth, [.nf]⟩,
⟨1, 8, .oth, [.nf]⟩,
⟨1, 8, .oth, [.nf]⟩,
⟨1, 8, .oth, [.nf]⟩,
⟨1, 8, .oth, [.nf]⟩,
⟨1, 24, .sl 51, [.sl]⟩,
⟨2, 32, .st [(0, 4), (1, 45)], [.b, .sl]⟩,
⟨2, 32, .st [(0, 4), (1, 45)], [.b, .sl]⟩,
⟨16, 256, .arr 8 47, (List.replicate 8 [.b, .sl]).flatten⟩,
⟨16, 256, .arr 8 47, (List.replicate 8 [.b, .sl]).flatten⟩,
⟨7, 32, .st [(0, 4), (1, 4), (2, 3), (3, 3), (4, 4), (5, 4), (6, 4)], [.b, .b, .i .i64, .i .i64, .b, .b, .b]⟩,
⟨7, 32, .st [(0, 4), (1, 4), (2, 3), (3, 3), (4, 4), (5, 4), (6, 4)], [.b, .b, .i .i64, .i .i64, .b, .b, .b]⟩,
⟨1, 0, .oth, []⟩,
⟨1, 8, .oth, [.nf]⟩,
⟨1, 0, .oth, []⟩,
⟨1, 8, .oth, [.nf]⟩,
⟨1, 8, .oth, [.nf]⟩,
⟨1, 0, .oth, []⟩,
⟨1, 8, .oth, [.nf]⟩,
⟨1, 8, .oth, [.nf]⟩,
⟨448, 2048, .arr 64 51, (List.replicate 64 [.b, .b, .i .i64, .i .i64, .b, .b, .b]).flatten⟩,
⟨448, 2048, .arr 64 51, (List.replicate 64 [.b, .b, .i .i64, .i .i64, .b, .b, .b]).flatten⟩,
⟨1, 8, .oth, [.nf]⟩,
⟨1, 8, .oth, [.nf]⟩,
⟨1, 8, .oth, [.nf]⟩,
⟨1, 8, .oth, [.nf]⟩,
⟨1, 8, .oth, [.nf]⟩,
⟨1, 8, .oth, [.nf]⟩,
⟨1, 8, .oth, [.nf]⟩,
⟨1, 24, .sl 78, [.sl]⟩,
⟨1, 8, .oth, [.nf]⟩,
⟨1, 0, .oth, []⟩,
⟨1, 8, .oth, [.nf]⟩,
⟨1, 8, .oth, [.nf]⟩,
⟨1, 0, .oth, []⟩,
⟨1, 8, .oth, [.nf]⟩,
⟨1, 24, .sl 79, [.sl]⟩,
⟨2, 16, .st [(0, 3), (1, 3)], [.i .i64, .i .i64]⟩,
⟨2, 16, .st [(0, 3), (1, 3)], [.i .i64, .i .i64]⟩,
⟨2, 16, .arr 2 3, [.i .i64, .i .i64]⟩,
⟨1, 8, .oth, [.nf]⟩,
⟨1, 8, .oth, [.nf]⟩,
⟨1, 8, .oth, [.nf]⟩,
⟨1, 8, .oth, [.nf]⟩,
⟨1, 8, .oth, [.nf]⟩,
⟨1, 8, .oth, [.nf]⟩,
⟨1, 8, .oth, [.nf]⟩,
⟨1, 8, .oth, [.nf]⟩,
⟨1, 8, .oth, [.nf]⟩,
⟨1, 8, .oth, [.nf]⟩,
⟨1, 8, .oth, [.nf]⟩,
⟨1, 24, .sl 95, [.sl]⟩,
⟨2, 32, .st [(0, 91), (1, 3)], [.sl, .i .i64]⟩,
⟨2, 32, .st [(0, 91), (1, 3)], [.sl, .i .i64]⟩,
⟨3, 16, .st [(0, 3), (1, 4), (2, 4)], [.i .i64, .b, .b]⟩,
⟨3, 16, .st [(0, 3), (1, 4), (2, 4)], [.i .i64, .b, .b]⟩,
⟨1, 0, .oth, []⟩,
⟨1, 8, .oth, [.nf]⟩,
⟨1, 8, .oth, [.nf]⟩,
⟨1, 0, .oth, []⟩,
⟨1, 8, .oth, [.nf]⟩,
⟨1, 8, .oth, [.nf]⟩,
⟨1, 8, .oth, [.nf]⟩,
⟨1, 8, .oth, [.nf]⟩,
⟨1, 8, .oth, [.nf]⟩,
⟨1, 0, .oth, []⟩,
⟨1, 8, .oth, [.nf]⟩,
⟨1, 8, .oth, [.nf]⟩,
⟨1, 24, .sl 110, [.sl]⟩,
⟨3, 24, .st [(0, 3), (1, 3), (2, 3)], [.i .i64, .i .i64, .i .i64]⟩,
⟨3, 24, .st [(0, 3), (1, 3), (2, 3)], [.i .i64, .i .i64, .i .i64]⟩,
⟨1, 0, .oth, []⟩,
⟨1, 8, .oth, [.nf]⟩,
⟨1, 8, .oth, [.nf]⟩,
⟨1, 0, .oth, []⟩,
⟨1, 8, .oth, [.nf]⟩,
⟨1, 8, .oth, [.nf]⟩,
⟨1, 8, .oth, [.nf]⟩,
⟨64, 512, .arr 64 3, List.replicate 64 (.i .i64)⟩,
⟨64, 512, .arr 64 3, List.replicate 64 (.i .i64)⟩,
⟨1, 8, .oth, [.nf]⟩,
⟨1, 8, .oth, [.nf]⟩,
⟨1, 8, .oth, [.nf]⟩,
⟨1, 8, .oth, [.nf]⟩,
⟨1, 8, .oth, [.nf]⟩,
⟨1, 8, .oth, [.nf]⟩,
⟨1, 8, .oth, [.nf]⟩,
⟨1, 24, .sl 138, [.sl]⟩,
⟨2, 32, .st [(0, 3), (1, 127)], [.i .i64, .sl]⟩,
⟨2, 32, .st [(0, 3), (1, 127)], [.i .i64, .sl]⟩,
⟨1, 0, .oth, []⟩,
⟨1, 8, .oth, [.nf]⟩,
⟨1, 0, .oth, []⟩,
⟨1, 8, .oth, [.nf]⟩,
⟨1, 8, .oth, [.nf]⟩,
⟨1, 8, .oth, [.nf]⟩,
⟨1, 8, .oth, [.nf]⟩,
⟨2, 16, .st [(0, 3), (1, 3)], [.i .i64, .i .i64]⟩,
⟨2, 16, .st [(0, 3), (1, 3)], [.i .i64, .i .i64]⟩,
⟨1, 8, .oth, [.nf]⟩,
⟨64, 64, .arr 64 4, List.replicate 64 (.b)⟩,
⟨1, 8, .oth, [.nf]⟩,
⟨1, 8, .oth, [.nf]⟩,
⟨1, 8, .oth, [.nf]⟩,
⟨1, 8, .oth, [.nf]⟩,
⟨1, 0, .oth, []⟩,
⟨1, 8, .oth, [.nf]⟩,
⟨1, 8, .oth, [.nf]⟩,
⟨1, 8, .oth, [.nf]⟩,
⟨1, 8, .oth, [.nf]⟩,
⟨1, 8, .oth, [.nf]⟩,
⟨1, 8, .oth, [.nf]⟩,
⟨1, 8, .oth, [.nf]⟩,
⟨3, 24, .st [(0, 4), (1, 3), (2, 3)], [.b, .i .i64, .i .i64]⟩,
⟨3, 24, .st [(0, 4), (1, 3), (2, 3)], [.b, .i .i64, .i .i64]⟩,
⟨1, 24, .sl 154, [.sl]⟩,
⟨1, 8, .oth, [.nf]⟩,
⟨1, 8, .oth, [.nf]⟩,
⟨1, 8, .oth, [.nf]⟩,
⟨1, 8, .oth, [.nf]⟩,
⟨1, 8, .oth, [.nf]⟩,
⟨1, 8, .oth, [.nf]⟩,
⟨1, 8, .oth, [.nf]⟩,
⟨1, 8, .oth, [.nf]⟩,
⟨1, 0, .oth, []⟩,
⟨1, 8, .oth, [.nf]⟩,
⟨1, 8, .oth, [.nf]⟩,
⟨1, 8, .oth, [.nf]⟩,
⟨1, 24, .sl 69, [.sl]⟩,
⟨1, 8, .oth, [.nf]⟩,
⟨1, 8, .oth, [.nf]⟩,
⟨1, 8, .oth, [.nf]⟩,
⟨1, 8, .oth, [.nf]⟩,
⟨1, 8, .oth, [.nf]⟩,
⟨1, 8, .oth, [.nf]⟩,
⟨1, 8, .oth, [.nf]⟩,
⟨1, 8, .oth, [.np]⟩,
⟨1, 8, .oth, [.nf]⟩,
⟨1, 8, .oth, [.nf]⟩,
⟨1, 8, .oth, [.nf]⟩,
⟨1, 8, .oth, [.nf]⟩,
⟨1, 8, .oth, [.nf]⟩,
⟨1, 8, .oth, [.nf]⟩,
⟨1, 8, .oth, [.nf]⟩,
⟨1, 8, .oth, [.nf]⟩,
⟨1, 8, .oth, [.nf]⟩,
⟨1, 8, .oth, [.nf]⟩,
⟨1, 8, .oth, [.nf]⟩,
⟨1, 8, .oth, [.nf]⟩,
⟨1, 8, .oth, [.nf]⟩,
⟨1, 8, .oth, [.nf]⟩,
⟨1, 8, .oth, [.nf]⟩,
⟨1, 8, .oth, [.nf]⟩,
⟨1, 8, .int .u64, [.i .u64]⟩,
⟨1, 8, .oth, [.nf]⟩,
⟨1, 8, .oth, [.nf]⟩,
⟨1, 8, .oth, [.nf]⟩,
⟨1, 8, .oth, [.nf]⟩,
⟨1, 8, .oth, [.nf]⟩,
⟨1, 8, .oth, [.nf]⟩,
⟨1, 8, .oth, [.nf]⟩,
⟨1, 8, .oth, [.nf]⟩,
⟨1, 8, .oth, [.nf]⟩,
⟨1, 8, .oth, [.np]⟩,
⟨1, 8, .oth, [.nf]⟩,
⟨1, 8, .oth, [.nf]⟩,
⟨1, 8, .oth, [.nf]⟩,
⟨1, 8, .oth, [.nf]⟩,
⟨4, 40, .st [(0, 17), (1, 17), (2, 17), (3, 9)], [.np, .np, .np, .s]⟩,
⟨4, 40, .st [(0, 17), (1, 17), (2, 17), (3, 9)], [.np, .np, .np, .s]⟩,
⟨0, 0, .arr 0 16, []⟩,
⟨0, 0, .st [(0, 210)], []⟩,
⟨0, 0, .st [(0, 210)], []⟩,
⟨1, 8, .oth, [.nf]⟩,
⟨1, 4, .int .u32, [.i .u32]⟩,
⟨1, 1, .int .u8, [.i .u8]⟩,
⟨1, 1, .int .u8, [.i .u8]⟩,
⟨1, 8, .oth, [.nf]⟩,
⟨1, 8, .oth, [.np]⟩,
⟨1, 4, .int .i32, [.i .i32]⟩,
⟨1, 4, .int .i32, [.i .i32]⟩,
⟨11, 48, .st [(0, 12), (1, 12), (2, 214), (3, 215), (4, 5), (5, 5), (6, 216), (7, 217), (8, 218), (9, 219), (10, 220)], [.i .u64, .i .u64, .i .u32, .i .u8, .i .u8, .i .u8, .i .u8, .nf, .np, .i .i32, .i .i32]⟩,
⟨11, 48, .st [(0, 12), (1, 12), (2, 214), (3, 215), (4, 5), (5, 5), (6, 216), (7, 217), (8, 218), (9, 219), (10, 220)], [.i .u64, .i .u64, .i .u32, .i .u8, .i .u8, .i .u8, .i .u8, .nf, .np, .i .i32, .i .i32]⟩,
⟨1, 8, .oth, [.np]⟩]
theorem TTok : TOk Try.prog TT := by unfold TOk; kernel_rfl
theorem mix : Try.prog.follows .mixedOrders = true := by kernel_rfl
structure S_reclaim_Item where
  fId : Int
  fUsed : Bool
  fPinned : Bool
def eS_reclaim_Item (x : S_reclaim_Item) : PV := .agg [.v (.int .i64 x.fId), .v (.bool x.fUsed), .v (.bool x.fPinned)]
structure S_reclaim_Clock where
  fItems : (List S_reclaim_Item)
  fHand : Int
def eS_reclaim_Clock (x : S_reclaim_Clock) : PV := .agg [.sl (x.fItems.map eS_reclaim_Item), .v (.int .i64 x.fHand)]
def eqS_reclaim_Item (x y : S_reclaim_Item) : Bool := ((x.fId == y.fId) && ((x.fUsed == y.fUsed) && ((x.fPinned == y.fPinned) && true)))
theorem eqS_reclaim_Item_ok (x y : S_reclaim_Item) : EqA Try.prog 95 [((.int .i64 x.fId)), ((.bool x.fUsed)), ((.bool x.fPinned))] [((.int .i64 y.fId)), ((.bool y.fUsed)), ((.bool y.fPinned))] (eqS_reclaim_Item x y) := eqA_of TTok (by kernel_rfl) (by kernel_rfl) (by kernel_rfl)
inductive G_slices_IndexFunc_reclaim_Item_reclaim_Item_L1_R where
  | x0 (v_x22 : Int)
  | x1 
def G_slices_IndexFunc_reclaim_Item_reclaim_Item_L1_ex : G_slices_IndexFunc_reclaim_Item_reclaim_Item_L1_R → Ex
  | .x0 _ => .ret
  | .x1  => .exit 0
def G_slices_IndexFunc_reclaim_Item_reclaim_Item_L1_st (v_s15 : (List S_reclaim_Item)) (v_f16 : (S_reclaim_Item → Option (Bool))) (v_f16_g : FuncId) (v_f16_c : (List PV)) : G_slices_IndexFunc_reclaim_Item_reclaim_Item_L1_R → PS
  | .x0 v_x22 => ⟨[dd, dd, dd, dd, .d (.v (.int .i64 v_x22)), dd, dd, dd, dd, dd, dd, dd, dd, dd, dd, dd, dd, dd, dd], []⟩
  | .x1  => ⟨[dd, dd, dd, dd, dd, dd, dd, dd, dd, dd, dd, dd, dd, dd, dd, dd, dd, dd, dd], []⟩
def G_slices_IndexFunc_reclaim_Item_reclaim_Item_L1_hd (v_s15 : (List S_reclaim_Item)) (v_f16 : (S_reclaim_Item → Option (Bool))) (v_f16_g : FuncId) (v_f16_c : (List PV)) (v_x17 : Int) : PS := ⟨[.d (.sl (v_s15.map eS_reclaim_Item)), .d (.clo v_f16_g v_f16_c), dd, dd, dd, dd, dd, .d (.v (.int .i64 (v_s15.length : Int))), .d (.v (.int .i64 v_x17)), dd, dd, dd, dd, dd, dd, dd, dd, dd, dd], []⟩
def G_slices_IndexFunc_reclaim_Item_reclaim_Item_L1 (n : Nat) (v_s15 : (List S_reclaim_Item)) (v_f16 : (S_reclaim_Item → Option (Bool))) : Nat → Int → Option G_slices_IndexFunc_reclaim_Item_reclaim_Item_L1_R
  | 0, _ => none
  | k + 1, v_x17 =>
    if v_x17 < (v_s15.length : Int) then
     (getI v_s15 v_x17).bind fun (v_y20 : S_reclaim_Item) =>
     (v_f16 v_y20).bind fun (v_r21 : (Bool)) =>
     if v_r21 = true then
      some (.x0 v_x17)
     else
      G_slices_IndexFunc_reclaim_Item_reclaim_Item_L1 n v_s15 v_f16 k (wi .i64 (v_x17 + 1))
    else
     some (.x1 )
theorem G_slices_IndexFunc_reclaim_Item_reclaim_Item_L1_ok {Fi : Ex → PS → Prop} (hF : KC 19 Fi) (ks : List Fr) (n : Nat) (v_s15 : (List S_reclaim_Item)) (v_f16 : (S_reclaim_Item → Option (Bool))) (v_f16_g : FuncId) (v_f16_c : (List PV)) (v_f16_h : ∀ (x0 : S_reclaim_Item) (r : Bool), v_f16 x0 = some r → Ret Try.prog v_f16_g ([eS_reclaim_Item x0] ++ v_f16_c) (eB r)) : ∀ (k : Nat) (v_x17 : Int) (o : G_slices_IndexFunc_reclaim_Item_reclaim_Item_L1_R), G_slices_IndexFunc_reclaim_Item_reclaim_Item_L1 n v_s15 v_f16 k v_x17 = some o → RunE Try.prog 19 Fi ks (G_slices_IndexFunc_reclaim_Item_reclaim_Item_L1_ex o) (G_slices_IndexFunc_reclaim_Item_reclaim_Item_L1_st v_s15 v_f16 v_f16_g v_f16_c o) → RunE Try.prog 19 Fi (.l k (cP (cB (cR (cL (cR (bodyOf Try.f142)))))) :: ks) .normal (G_slices_IndexFunc_reclaim_Item_reclaim_Item_L1_hd v_s15 v_f16 v_f16_g v_f16_c v_x17)
  | 0, v_x17, o, h, q => by rw [G_slices_IndexFunc_reclaim_Item_reclaim_Item_L1] at h; cases h
  | k + 1, v_x17, o, h, q => by
    rw [G_slices_IndexFunc_reclaim_Item_reclaim_Item_L1] at h
    by_cases h9 : v_x17 < (v_s15.length : Int)
    · rw [if_pos h9] at h
      obtain ⟨v_y20, h13, h⟩ := bind_some h
      obtain ⟨v_r21, h14, h⟩ := bind_some h
      by_cases h15 : v_r21 = true
      · rw [if_pos h15] at h
        cases h
        exact pkk_sound TTok mix hF 19 (hs := [.t true, .y (eS_reclaim_Item v_y20), .r (eB v_r21), .t true]) (ts := []) (s := []) (l := [4]) (by kernel_rfl) (by kernel_rfl) (.cons (dt h9) (.cons (getI_ob (f := eS_reclaim_Item) h13) (.cons (v_f16_h v_y20 _ h14) (.cons h15 .nil)))) q
      · rw [if_neg h15] at h
        exact pkk_sound TTok mix hF 16 (hs := [.t true, .y (eS_reclaim_Item v_y20), .r (eB v_r21), .t false]) (ts := []) (s := []) (l := [0, 1, 7, 8]) (by kernel_rfl) (by kernel_rfl) (.cons (dt h9) (.cons (getI_ob (f := eS_reclaim_Item) h13) (.cons (v_f16_h v_y20 _ h14) (.cons (vf h15) .nil)))) (G_slices_IndexFunc_reclaim_Item_reclaim_Item_L1_ok hF ks n v_s15 v_f16 v_f16_g v_f16_c v_f16_h k (wi .i64 (v_x17 + 1)) _ h q)
    · rw [if_neg h9] at h
      cases h
      exact pkk_sound TTok mix hF 8 (hs := [.t false]) (ts := []) (s := []) (l := []) (by kernel_rfl) (by kernel_rfl) (.cons (df h9) .nil) q
/- slices.IndexFunc[[]ringhall/reclaim.Item,ringhall/reclaim.Item] -/
def G_slices_IndexFunc_reclaim_Item_reclaim_Item (n : Nat) (v_s15 : (List S_reclaim_Item)) (v_f16 : (S_reclaim_Item → Option (Bool))) : Option (Int) :=
  (G_slices_IndexFunc_reclaim_Item_reclaim_Item_L1 n v_s15 v_f16 n 0).bind fun v_o23 => match v_o23 with
  | .x0 v_z24 =>
    some v_z24
  | .x1  =>
    some (-1)
theorem G_slices_IndexFunc_reclaim_Item_reclaim_Item_ok (n : Nat) (v_s15 : (List S_reclaim_Item)) (v_f16 : (S_reclaim_Item → Option (Bool))) (v_f16_g : FuncId) (v_f16_c : List PV) (v_f16_h : ∀ (x0 : S_reclaim_Item) (r : Bool), v_f16 x0 = some r → Ret Try.prog v_f16_g ([eS_reclaim_Item x0] ++ v_f16_c) (eB r)) (r : Int) (h : G_slices_IndexFunc_reclaim_Item_reclaim_Item n v_s15 v_f16 = some r) : Ret Try.prog 142 [(eL eS_reclaim_Item) v_s15, (.clo v_f16_g v_f16_c)] ((eI .i64) r) := by
  refine ret_run (n := 19) (fn := Try.f142) (c := bodyOf Try.f142) (by kernel_rfl) (by kernel_rfl) (by kernel_rfl) (by kernel_rfl) ?_
  have hF : KC 19 (FinR Try.prog Try.f142 ((eI .i64) r)) := FinR.kc' (by kernel_rfl)
  unfold G_slices_IndexFunc_reclaim_Item_reclaim_Item at h
  obtain ⟨v_o23, h16, h⟩ := bind_some h
  refine pkk_sound TTok mix hF 7 (hs := [.u (.d (.v (.int .i64 (v_s15.length : Int)))), .n n]) (ts := []) (s := []) (l := [0, 1, 7, 8]) (by kernel_rfl) (by kernel_rfl) (.cons (len_ob (f := eS_reclaim_Item) (l := v_s15)) .nil) (G_slices_IndexFunc_reclaim_Item_reclaim_Item_L1_ok hF (.b 0 :: .s (cR (cR (bodyOf Try.f142))) :: []) n v_s15 v_f16 v_f16_g v_f16_c v_f16_h n 0 _ h16 ?_)
  cases v_o23 with
  | x0 v_z24 =>
    dsimp only at h
    obtain rfl := Option.some.inj h
    exact pend_sound TTok mix 2 (hs := []) (by kernel_rfl) (by kernel_rfl) (by kernel_rfl) .nil
  | x1  =>
    dsimp only at h
    obtain rfl := Option.some.inj h
    exact pend_sound TTok mix 4 (hs := []) (by kernel_rfl) (by kernel_rfl) (by kernel_rfl) .nil
/- ringhall/reclaim.find$1 -/
def G_reclaim_find_1 (n : Nat) (v_x25 : S_reclaim_Item) (v_c26 : Int) : Option (Bool) :=
  some (v_x25.fId == v_c26)
theorem G_reclaim_find_1_ok (n : Nat) (v_x25 : S_reclaim_Item) (v_c26 : Int) (r : Bool) (h : G_reclaim_find_1 n v_x25 v_c26 = some r) : Ret Try.prog 143 [eS_reclaim_Item v_x25, .iptr [.v (.int .i64 v_c26)] 0] (eB r) := by
  refine ret_run (n := 8) (fn := Try.f143) (c := bodyOf Try.f143) (by kernel_rfl) (by kernel_rfl) (by kernel_rfl) (by kernel_rfl) ?_
  have hF : KC 8 (FinR Try.prog Try.f143 (eB r)) := FinR.kc' (by kernel_rfl)
  unfold G_reclaim_find_1 at h
  obtain rfl := Option.some.inj h
  exact pend_sound TTok mix 5 (hs := [.c, .c]) (by kernel_rfl) (by kernel_rfl) (by kernel_rfl) .nil
/- ringhall/reclaim.find -/
def G_reclaim_find (n : Nat) (v_l13 : (List S_reclaim_Item)) (v_id14 : Int) : Option (Int) :=
  (G_slices_IndexFunc_reclaim_Item_reclaim_Item n v_l13 (fun (y0 : S_reclaim_Item) => G_reclaim_find_1 n y0 v_id14)).bind fun (v_r27 : (Int)) =>
  some v_r27
theorem G_reclaim_find_ok (n : Nat) (v_l13 : (List S_reclaim_Item)) (v_id14 : Int) (r : Int) (h : G_reclaim_find n v_l13 v_id14 = some r) : Ret Try.prog 119 [(eL eS_reclaim_Item) v_l13, (eI .i64) v_id14] ((eI .i64) r) := by
  refine ret_run (n := 8) (fn := Try.f119) (c := bodyOf Try.f119) (by kernel_rfl) (by kernel_rfl) (by kernel_rfl) (by kernel_rfl) ?_
  have hF : KC 8 (FinR Try.prog Try.f119 ((eI .i64) r)) := FinR.kc' (by kernel_rfl)
  unfold G_reclaim_find at h
  obtain ⟨v_r27, h17, h⟩ := bind_some h
  obtain rfl := Option.some.inj h
  exact pend_sound TTok mix 5 (hs := [.c, .r ((eI .i64) v_r27)]) (by kernel_rfl) (by kernel_rfl) (by kernel_rfl) (.cons (G_slices_IndexFunc_reclaim_Item_reclaim_Item_ok n v_l13 (fun (y0 : S_reclaim_Item) => G_reclaim_find_1 n y0 v_id14) 143 [.iptr [.v (.int .i64 v_id14)] 0] (fun y0 r h => G_reclaim_find_1_ok n y0 v_id14 r h) _ h17) .nil)
inductive G_reclaim_Check_C1_R where
  | x0 (v_x6 : Bool)
def G_reclaim_Check_C1_ex : G_reclaim_Check_C1_R → Ex
  | .x0 _ => .normal
def G_reclaim_Check_C1_st (v_c5 : S_reclaim_Clock) : G_reclaim_Check_C1_R → PS
  | .x0 v_x6 => ⟨[dd, .ref 0 0, dd, dd, dd, dd, dd, dd, dd, dd, dd, dd, dd, dd, dd, dd, dd, dd, dd, dd, dd, .d (.v (.bool v_x6)), dd, dd, dd, dd, dd, dd, dd, dd, dd, dd, dd, dd, dd, dd, dd, dd, dd], [.box [.d (.sl (v_c5.fItems.map eS_reclaim_Item)), .d (.v (.int .i64 v_c5.fHand))]]⟩
def G_reclaim_Check_C1_hd (v_c5 : S_reclaim_Clock)  : PS := ⟨[dd, .ref 0 0, dd, dd, dd, dd, dd, dd, dd, dd, dd, dd, dd, dd, dd, dd, dd, dd, dd, dd, dd, dd, dd, dd, dd, dd, dd, dd, dd, dd, dd, dd, dd, dd, dd, dd, dd, dd, dd], [.box [.d (.sl (v_c5.fItems.map eS_reclaim_Item)), .d (.v (.int .i64 v_c5.fHand))]]⟩
def G_reclaim_Check_C1 (n : Nat) (v_c5 : S_reclaim_Clock) : Option G_reclaim_Check_C1_R :=
  if v_c5.fHand < 0 then
   some (.x0 true)
  else
   some (.x0 (decide (v_c5.fHand > (maxI 0 (wi .i64 ((v_c5.fItems.length : Int) - 1))))))
theorem G_reclaim_Check_C1_ok {Fi : Ex → PS → Prop} (hF : KC 39 Fi) (ks : List Fr) (n : Nat) (v_c5 : S_reclaim_Clock)  (o : G_reclaim_Check_C1_R) (h : G_reclaim_Check_C1 n v_c5 = some o) (q : RunE Try.prog 39 Fi ks (G_reclaim_Check_C1_ex o) (G_reclaim_Check_C1_st v_c5 o)) : RunE Try.prog 39 Fi (.s (cL (cL (cR (cR (bodyOf Try.f57))))) :: ks) .normal (G_reclaim_Check_C1_hd v_c5) := by
  unfold G_reclaim_Check_C1 at h
  by_cases h3 : v_c5.fHand < 0
  · rw [if_pos h3] at h
    cases h
    exact pkk_sound TTok mix hF 1 (hs := [.c, .t true, .c, .c, .c, .c, .c, .c, .c]) (ts := []) (s := [0]) (l := [1, 21]) (by kernel_rfl) (by kernel_rfl) (.cons (dt h3) .nil) q
  · rw [if_neg h3] at h
    cases h
    exact pkk_sound TTok mix hF 1 (hs := [.c, .t false, .c, .c, .c, .c, .c, .c, .u (.d (.v (.int .i64 (v_c5.fItems.length : Int)))), .c, .c, .c]) (ts := []) (s := [0]) (l := [1, 21]) (by kernel_rfl) (by kernel_rfl) (.cons (df h3) (.cons (len_ob (f := eS_reclaim_Item) (l := v_c5.fItems)) .nil)) q
inductive G_reclaim_Check_L2_R where
  | x0 (v_x32 : Int)
  | x1 
def G_reclaim_Check_L2_ex : G_reclaim_Check_L2_R → Ex
  | .x0 _ => .ret
  | .x1  => .exit 0
def G_reclaim_Check_L2_st (v_c5 : S_reclaim_Clock) : G_reclaim_Check_L2_R → PS
  | .x0 v_x32 => ⟨[dd, dd, .d (.v (.int .i64 v_x32)), dd, dd, dd, dd, dd, dd, dd, dd, dd, dd, dd, dd, dd, dd, dd, dd, dd, dd, dd, dd, dd, dd, dd, dd, dd, dd, dd, dd, dd, dd, dd, dd, dd, dd, dd, dd], []⟩
  | .x1  => ⟨[dd, dd, dd, dd, dd, dd, dd, dd, dd, dd, dd, dd, dd, dd, dd, dd, dd, dd, dd, dd, dd, dd, dd, dd, dd, dd, dd, dd, dd, dd, dd, dd, dd, dd, dd, dd, dd, dd, dd], []⟩
def G_reclaim_Check_L2_hd (v_c5 : S_reclaim_Clock) (v_x10 : Int) : PS := ⟨[dd, .ref 0 0, dd, dd, dd, dd, dd, dd, dd, dd, dd, dd, dd, dd, dd, dd, dd, dd, dd, dd, dd, dd, dd, .d (.sl (v_c5.fItems.map eS_reclaim_Item)), .d (.v (.int .i64 (v_c5.fItems.length : Int))), .d (.v (.int .i64 v_x10)), dd, dd, dd, dd, dd, dd, dd, dd, dd, dd, dd, dd, dd], [.box [.d (.sl (v_c5.fItems.map eS_reclaim_Item)), .d (.v (.int .i64 v_c5.fHand))]]⟩
def G_reclaim_Check_L2 (n : Nat) (v_c5 : S_reclaim_Clock) : Nat → Int → Option G_reclaim_Check_L2_R
  | 0, _ => none
  | k + 1, v_x10 =>
    if v_x10 < (v_c5.fItems.length : Int) then
     (getI v_c5.fItems v_x10).bind fun (v_y29 : S_reclaim_Item) =>
     (sub v_c5.fItems 0 v_x10).bind fun (v_s30 : (List S_reclaim_Item)) =>
     (G_reclaim_find n v_s30 v_y29.fId).bind fun (v_r31 : (Int)) =>
     if v_r31 ≥ 0 then
      some (.x0 5)
     else
      G_reclaim_Check_L2 n v_c5 k (wi .i64 (v_x10 + 1))
    else
     some (.x1 )
theorem G_reclaim_Check_L2_ok {Fi : Ex → PS → Prop} (hF : KC 39 Fi) (ks : List Fr) (n : Nat) (v_c5 : S_reclaim_Clock)  : ∀ (k : Nat) (v_x10 : Int) (o : G_reclaim_Check_L2_R), G_reclaim_Check_L2 n v_c5 k v_x10 = some o → RunE Try.prog 39 Fi ks (G_reclaim_Check_L2_ex o) (G_reclaim_Check_L2_st v_c5 o) → RunE Try.prog 39 Fi (.l k (cP (cB (cR (cL (cR (cR (cR (bodyOf Try.f57)))))))) :: ks) .normal (G_reclaim_Check_L2_hd v_c5 v_x10)
  | 0, v_x10, o, h, q => by rw [G_reclaim_Check_L2] at h; cases h
  | k + 1, v_x10, o, h, q => by
    rw [G_reclaim_Check_L2] at h
    by_cases h6 : v_x10 < (v_c5.fItems.length : Int)
    · rw [if_pos h6] at h
      obtain ⟨v_y29, h20, h⟩ := bind_some h
      obtain ⟨v_s30, h21, h⟩ := bind_some h
      obtain ⟨v_r31, h22, h⟩ := bind_some h
      by_cases h23 : v_r31 ≥ 0
      · rw [if_pos h23] at h
        cases h
        exact pkk_sound TTok mix hF 19 (hs := [.t true, .y (eS_reclaim_Item v_y29), .c, .c, .w (v_s30.map eS_reclaim_Item), .c, .r ((eI .i64) v_r31), .t true]) (ts := []) (s := []) (l := [2]) (by kernel_rfl) (by kernel_rfl) (.cons (dt h6) (.cons (getI_ob (f := eS_reclaim_Item) h20) (.cons (show 0 + 3 ≤ 3 by decide) (.cons (sub_ob (f := eS_reclaim_Item) (s := 3) h21 (fun _ => rfl)).1 (.cons (sub_ob (f := eS_reclaim_Item) (s := 3) h21 (fun _ => rfl)).2.1 (.cons (sub_ob (f := eS_reclaim_Item) (s := 3) h21 (fun _ => rfl)).2.2.1 (.cons (sub_ob (f := eS_reclaim_Item) (s := 3) h21 (fun _ => rfl)).2.2.2.1 (.cons (sub_ob (f := eS_reclaim_Item) (s := 3) h21 (fun _ => rfl)).2.2.2.2 (.cons (G_reclaim_find_ok n v_s30 v_y29.fId _ h22) (.cons (dt h23) .nil)))))))))) q
      · rw [if_neg h23] at h
        exact pkk_sound TTok mix hF 16 (hs := [.t true, .y (eS_reclaim_Item v_y29), .c, .c, .w (v_s30.map eS_reclaim_Item), .c, .r ((eI .i64) v_r31), .t false]) (ts := []) (s := [0]) (l := [1, 23, 24, 25]) (by kernel_rfl) (by kernel_rfl) (.cons (dt h6) (.cons (getI_ob (f := eS_reclaim_Item) h20) (.cons (show 0 + 3 ≤ 3 by decide) (.cons (sub_ob (f := eS_reclaim_Item) (s := 3) h21 (fun _ => rfl)).1 (.cons (sub_ob (f := eS_reclaim_Item) (s := 3) h21 (fun _ => rfl)).2.1 (.cons (sub_ob (f := eS_reclaim_Item) (s := 3) h21 (fun _ => rfl)).2.2.1 (.cons (sub_ob (f := eS_reclaim_Item) (s := 3) h21 (fun _ => rfl)).2.2.2.1 (.cons (sub_ob (f := eS_reclaim_Item) (s := 3) h21 (fun _ => rfl)).2.2.2.2 (.cons (G_reclaim_find_ok n v_s30 v_y29.fId _ h22) (.cons (df h23) .nil)))))))))) (G_reclaim_Check_L2_ok hF ks n v_c5 k (wi .i64 (v_x10 + 1)) _ h q)
    · rw [if_neg h6] at h
      cases h
      exact pkk_sound TTok mix hF 8 (hs := [.t false]) (ts := []) (s := []) (l := []) (by kernel_rfl) (by kernel_rfl) (.cons (df h6) .nil) q
/- ringhall/reclaim.Check -/
def G_reclaim_Check (n : Nat) (v_c5 : S_reclaim_Clock) : Option (Int) :=
  if (v_c5.fItems.length : Int) > 64 then
   some 2
  else
   (G_reclaim_Check_C1 n v_c5).bind fun v_o8 => match v_o8 with
   | .x0 v_z9 =>
     if v_z9 = true then
      some 1
     else
      (G_reclaim_Check_L2 n v_c5 n 0).bind fun v_o33 => match v_o33 with
      | .x0 v_z34 =>
        some v_z34
      | .x1  =>
        some 0
theorem G_reclaim_Check_ok (n : Nat) (v_c5 : S_reclaim_Clock) (r : Int) (h : G_reclaim_Check n v_c5 = some r) : Ret Try.prog 57 [eS_reclaim_Clock v_c5] ((eI .i64) r) := by
  refine ret_run (n := 39) (fn := Try.f57) (c := bodyOf Try.f57) (by kernel_rfl) (by kernel_rfl) (by kernel_rfl) (by kernel_rfl) ?_
  have hF : KC 39 (FinR Try.prog Try.f57 ((eI .i64) r)) := FinR.kc' (by kernel_rfl)
  unfold G_reclaim_Check at h
  by_cases h1 : (v_c5.fItems.length : Int) > 64
  · rw [if_pos h1] at h
    obtain rfl := Option.some.inj h
    exact pend_sound TTok mix 10 (hs := [.c, .u (.d (.v (.int .i64 (v_c5.fItems.length : Int)))), .t true]) (by kernel_rfl) (by kernel_rfl) (by kernel_rfl) (.cons (len_ob (f := eS_reclaim_Item) (l := v_c5.fItems)) (.cons (dt h1) .nil))
  · rw [if_neg h1] at h
    obtain ⟨v_o8, h4, h⟩ := bind_some h
    refine pkk_sound TTok mix hF 9 (hs := [.c, .u (.d (.v (.int .i64 (v_c5.fItems.length : Int)))), .t false]) (ts := []) (s := [0]) (l := [1]) (by kernel_rfl) (by kernel_rfl) (.cons (len_ob (f := eS_reclaim_Item) (l := v_c5.fItems)) (.cons (df h1) .nil)) (G_reclaim_Check_C1_ok hF (.s (cR (cL (cR (cR (bodyOf Try.f57))))) :: .s (cR (cR (cR (bodyOf Try.f57)))) :: []) n v_c5 _ h4 ?_)
    cases v_o8 with
    | x0 v_z9 =>
      dsimp only at h
      by_cases h5 : v_z9 = true
      · rw [if_pos h5] at h
        obtain rfl := Option.some.inj h
        exact pend_sound TTok mix 5 (hs := [.t true]) (by kernel_rfl) (by kernel_rfl) (by kernel_rfl) (.cons h5 .nil)
      · rw [if_neg h5] at h
        obtain ⟨v_o33, h24, h⟩ := bind_some h
        refine pkk_sound TTok mix hF 7 (hs := [.t false, .c, .u (.d (.v (.int .i64 (v_c5.fItems.length : Int)))), .n n]) (ts := []) (s := [0]) (l := [1, 23, 24, 25]) (by kernel_rfl) (by kernel_rfl) (.cons (vf h5) (.cons (len_ob (f := eS_reclaim_Item) (l := v_c5.fItems)) .nil)) (G_reclaim_Check_L2_ok hF (.b 0 :: .s (cR (cR (cR (cR (bodyOf Try.f57))))) :: []) n v_c5 n 0 _ h24 ?_)
        cases v_o33 with
        | x0 v_z34 =>
          dsimp only at h
          obtain rfl := Option.some.inj h
          exact pend_sound TTok mix 2 (hs := []) (by kernel_rfl) (by kernel_rfl) (by kernel_rfl) .nil
        | x1  =>
          dsimp only at h
          obtain rfl := Option.some.inj h
          exact pend_sound TTok mix 4 (hs := []) (by kernel_rfl) (by kernel_rfl) (by kernel_rfl) .nil
/- slices.Clone[[]ringhall/reclaim.Item,ringhall/reclaim.Item] -/
def G_slices_Clone_reclaim_Item_reclaim_Item_A (n : Nat) (v_c40 : Nat) : Option ((List S_reclaim_Item)) :=
  some ([] : List S_reclaim_Item)
theorem G_slices_Clone_reclaim_Item_reclaim_Item_A_ok (n : Nat) (v_c40 : Nat) (r : (List S_reclaim_Item)) (h : G_slices_Clone_reclaim_Item_reclaim_Item_A n v_c40 = some r) : RetH Try.prog 60 [.d (.v (.slice none 0 v_c40))] [] (.srf 0) [.row 95 3 (r.map eS_reclaim_Item)] := by
  refine retH_run (n := 8) (fn := Try.f60) (c := bodyOf Try.f60) (by kernel_rfl) (by kernel_rfl) (by kernel_rfl) (by kernel_rfl) ?_
  have hF : KC 8 (FinH Try.prog Try.f60 [] (.srf 0) [.row 95 3 (r.map eS_reclaim_Item)]) := FinH.kc' (by kernel_rfl)
  unfold G_slices_Clone_reclaim_Item_reclaim_Item_A at h
  obtain rfl := Option.some.inj h
  exact pendH_sound TTok mix 11 (hs := [.c, .dl 4, .th 2 95 3]) [12] (by kernel_rfl) (by kernel_rfl) (by kernel_rfl) .nil
/- slices.Clone[[]ringhall/reclaim.Item,ringhall/reclaim.Item] -/
def G_slices_Clone_reclaim_Item_reclaim_Item_B (n : Nat) (v_a41 : Addr) (v_c42 : Nat) : Option ((List S_reclaim_Item)) :=
  (app 16 ([] : List S_reclaim_Item) ([] : (List S_reclaim_Item))).bind fun (v_a43 : (List S_reclaim_Item)) =>
  some v_a43
theorem G_slices_Clone_reclaim_Item_reclaim_Item_B_ok (n : Nat) (v_a41 : Addr) (v_c42 : Nat) (r : (List S_reclaim_Item)) (h : G_slices_Clone_reclaim_Item_reclaim_Item_B n v_a41 v_c42 = some r) : RetH Try.prog 60 [.d (.v (.slice (some v_a41) 0 v_c42))] [] (.srf 0) [.row 95 3 (r.map eS_reclaim_Item)] := by
  refine retH_run (n := 8) (fn := Try.f60) (c := bodyOf Try.f60) (by kernel_rfl) (by kernel_rfl) (by kernel_rfl) (by kernel_rfl) ?_
  have hF : KC 8 (FinH Try.prog Try.f60 [] (.srf 0) [.row 95 3 (r.map eS_reclaim_Item)]) := FinH.kc' (by kernel_rfl)
  unfold G_slices_Clone_reclaim_Item_reclaim_Item_B at h
  obtain ⟨v_a43, h48, h⟩ := bind_some h
  obtain rfl := Option.some.inj h
  exact pendH_sound TTok mix 10 (hs := [.c, .w (([] : List S_reclaim_Item).map eS_reclaim_Item), .w (v_a43.map eS_reclaim_Item)]) [15] (by kernel_rfl) (by kernel_rfl) (by kernel_rfl) (.cons (Eq.refl (([] : List S_reclaim_Item).map eS_reclaim_Item)) (.cons (app_ob (f := eS_reclaim_Item) (s := 3) h48 (fun _ => rfl)).1 (.cons (app_ob (f := eS_reclaim_Item) (s := 3) h48 (fun _ => rfl)).2.1 (.cons (app_ob (f := eS_reclaim_Item) (s := 3) h48 (fun _ => rfl)).2.2.1 (.cons (app_ob (f := eS_reclaim_Item) (s := 3) h48 (fun _ => rfl)).2.2.2 .nil)))))
/- slices.Clone[[]ringhall/reclaim.Item,ringhall/reclaim.Item] -/
def G_slices_Clone_reclaim_Item_reclaim_Item_C (n : Nat) (v_y44 : S_reclaim_Item) (v_ys45 : (List S_reclaim_Item)) : Option ((List S_reclaim_Item)) :=
  (app 16 ([] : List S_reclaim_Item) (v_y44 :: v_ys45)).bind fun (v_a46 : (List S_reclaim_Item)) =>
  some v_a46
theorem G_slices_Clone_reclaim_Item_reclaim_Item_C_ok (n : Nat) (v_y44 : S_reclaim_Item) (v_ys45 : (List S_reclaim_Item)) (r : (List S_reclaim_Item)) (h : G_slices_Clone_reclaim_Item_reclaim_Item_C n v_y44 v_ys45 = some r) : RetH Try.prog 60 [.d (.sl (eS_reclaim_Item v_y44 :: v_ys45.map eS_reclaim_Item))] [] (.srf 0) [.row 95 3 (r.map eS_reclaim_Item)] := by
  refine retH_run (n := 8) (fn := Try.f60) (c := bodyOf Try.f60) (by kernel_rfl) (by kernel_rfl) (by kernel_rfl) (by kernel_rfl) ?_
  have hF : KC 8 (FinH Try.prog Try.f60 [] (.srf 0) [.row 95 3 (r.map eS_reclaim_Item)]) := FinH.kc' (by kernel_rfl)
  unfold G_slices_Clone_reclaim_Item_reclaim_Item_C at h
  obtain ⟨v_a46, h49, h⟩ := bind_some h
  obtain rfl := Option.some.inj h
  exact pendH_sound TTok mix 10 (hs := [.c, .w (([] : List S_reclaim_Item).map eS_reclaim_Item), .w (v_a46.map eS_reclaim_Item)]) [15] (by kernel_rfl) (by kernel_rfl) (by kernel_rfl) (.cons (Eq.refl (([] : List S_reclaim_Item).map eS_reclaim_Item)) (.cons (app_ob (f := eS_reclaim_Item) (s := 3) h49 (fun _ => rfl)).1 (.cons (app_ob (f := eS_reclaim_Item) (s := 3) h49 (fun _ => rfl)).2.1 (.cons (app_ob (f := eS_reclaim_Item) (s := 3) h49 (fun _ => rfl)).2.2.1 (.cons (app_ob (f := eS_reclaim_Item) (s := 3) h49 (fun _ => rfl)).2.2.2 .nil)))))
def G_slices_Clone_reclaim_Item_reclaim_Item (n : Nat) (xs : (List S_reclaim_Item)) : Option (List S_reclaim_Item) := app 16 [] xs
theorem G_slices_Clone_reclaim_Item_reclaim_Item_ok (n : Nat) (xs : (List S_reclaim_Item)) (r : (List S_reclaim_Item)) (h : G_slices_Clone_reclaim_Item_reclaim_Item n xs = some r) : RetH Try.prog 60 [.d (.sl (xs.map eS_reclaim_Item))] [] (.srf 0) [.row 95 3 (r.map eS_reclaim_Item)] := by
  unfold G_slices_Clone_reclaim_Item_reclaim_Item at h
  have e : app 16 ([] : (List S_reclaim_Item)) [] = some [] := by simp [app]
  cases xs with
  | nil =>
    rw [e] at h; obtain rfl := Option.some.inj h
    exact clone_nil (fun c => G_slices_Clone_reclaim_Item_reclaim_Item_A_ok n c _ (by unfold G_slices_Clone_reclaim_Item_reclaim_Item_A; rfl)) (fun a c => G_slices_Clone_reclaim_Item_reclaim_Item_B_ok n a c _ (by unfold G_slices_Clone_reclaim_Item_reclaim_Item_B; rw [e]; rfl))
  | cons y ys => exact G_slices_Clone_reclaim_Item_reclaim_Item_C_ok n y ys _ (by unfold G_slices_Clone_reclaim_Item_reclaim_Item_C; rw [h]; rfl)
/- slices.Insert[[]ringhall/reclaim.Item,ringhall/reclaim.Item] -/
def G_slices_Insert_reclaim_Item_reclaim_Item_hC (n : Nat) (v_C49 : Nat) (v_s48 : (List S_reclaim_Item)) (v_i50 : Int) (v_v51 : (List S_reclaim_Item)) : Option ((List S_reclaim_Item)) :=
  if (0 ≤ v_i50 ∧ v_i50 ≤ (v_s48.length : Int)) ∧ v_s48.length ≤ v_C49 then
   if (v_v51.length : Int) = 0 then
    some v_s48
   else
    if v_i50 = (v_s48.length : Int) then
     (app 16 v_s48 v_v51).bind fun (v_a53 : (List S_reclaim_Item)) =>
     some v_a53
    else
     if (wi .i64 ((v_s48.length : Int) + (v_v51.length : Int))) > (v_C49 : Int) then
      if (0 ≤ v_i50 ∧ v_i50 ≤ (v_s48.length : Int)) ∧ v_s48.length ≤ v_C49 then
       if (wi .i64 ((wi .i64 ((v_s48.length : Int) + (v_v51.length : Int))) - v_i50)) = (((v_s48.length + v_v51.length - v_i50.toNat) : Nat) : Int) ∧ v_i50.toNat ≤ v_s48.length ∧ 0 < (v_s48.length + v_v51.length - v_i50.toNat) ∧ v_C49 < v_i50.toNat + (v_s48.length + v_v51.length - v_i50.toNat) ∧ v_i50.toNat + (v_s48.length + v_v51.length - v_i50.toNat) ≤ maxLen ∧ (v_i50.toNat + (v_s48.length + v_v51.length - v_i50.toNat)) * 16 ≤ 140737488355328 then
        if (0 ≤ v_i50 ∧ v_i50 ≤ ((v_s48.take v_i50.toNat ++ List.replicate (v_s48.length + v_v51.length - v_i50.toNat) (S_reclaim_Item.mk 0 false false)).length : Int)) then
         if (v_s48.take v_i50.toNat ++ List.replicate (v_s48.length + v_v51.length - v_i50.toNat) (S_reclaim_Item.mk 0 false false)).length ≤ (v_s48.take v_i50.toNat ++ List.replicate (v_s48.length + v_v51.length - v_i50.toNat) (S_reclaim_Item.mk 0 false false)).length then
          if (0 ≤ (wi .i64 (v_i50 + (v_v51.length : Int))) ∧ (wi .i64 (v_i50 + (v_v51.length : Int))) ≤ ((cpyR (v_s48.take v_i50.toNat ++ List.replicate (v_s48.length + v_v51.length - v_i50.toNat) (S_reclaim_Item.mk 0 false false)) v_i50.toNat ((v_s48.take v_i50.toNat ++ List.replicate (v_s48.length + v_v51.length - v_i50.toNat) (S_reclaim_Item.mk 0 false false)).length) v_v51).length : Int)) then
           if (0 ≤ v_i50 ∧ v_i50 ≤ (v_s48.length : Int)) ∧ v_s48.length ≤ v_C49 then
            if (cpyR (v_s48.take v_i50.toNat ++ List.replicate (v_s48.length + v_v51.length - v_i50.toNat) (S_reclaim_Item.mk 0 false false)) v_i50.toNat ((v_s48.take v_i50.toNat ++ List.replicate (v_s48.length + v_v51.length - v_i50.toNat) (S_reclaim_Item.mk 0 false false)).length) v_v51).length ≤ (cpyR (v_s48.take v_i50.toNat ++ List.replicate (v_s48.length + v_v51.length - v_i50.toNat) (S_reclaim_Item.mk 0 false false)) v_i50.toNat ((v_s48.take v_i50.toNat ++ List.replicate (v_s48.length + v_v51.length - v_i50.toNat) (S_reclaim_Item.mk 0 false false)).length) v_v51).length ∧ v_s48.length ≤ v_s48.length then
             some (cpyR (cpyR (v_s48.take v_i50.toNat ++ List.replicate (v_s48.length + v_v51.length - v_i50.toNat) (S_reclaim_Item.mk 0 false false)) v_i50.toNat ((v_s48.take v_i50.toNat ++ List.replicate (v_s48.length + v_v51.length - v_i50.toNat) (S_reclaim_Item.mk 0 false false)).length) v_v51) ((wi .i64 (v_i50 + (v_v51.length : Int))).toNat) ((cpyR (v_s48.take v_i50.toNat ++ List.replicate (v_s48.length + v_v51.length - v_i50.toNat) (S_reclaim_Item.mk 0 false false)) v_i50.toNat ((v_s48.take v_i50.toNat ++ List.replicate (v_s48.length + v_v51.length - v_i50.toNat) (S_reclaim_Item.mk 0 false false)).length) v_v51).length) ((v_s48.take v_s48.length).drop v_i50.toNat))
            else none
           else none
          else none
         else none
        else none
       else none
      else none
     else
      if 0 < v_v51.length ∧ (v_s48.length + v_v51.length) ≤ v_C49 ∧ (wi .i64 ((v_s48.length : Int) + (v_v51.length : Int))) = (((v_s48.length + v_v51.length) : Nat) : Int) then
       if (wi .i64 (v_i50 + (v_v51.length : Int))) = (((v_i50.toNat + v_v51.length) : Nat) : Int) ∧ (v_i50.toNat + v_v51.length) ≤ (v_s48.length + v_v51.length) then
        if (wi .i64 (v_i50 + (v_v51.length : Int))) = (((v_i50.toNat + v_v51.length) : Nat) : Int) ∧ (v_i50.toNat + v_v51.length) ≤ (v_s48.length + v_v51.length) then
         if 0 ≤ v_i50 ∧ v_i50 ≤ (((v_s48.length + v_v51.length) : Nat) : Int) then
          if 0 ≤ v_i50 ∧ v_i50 ≤ (((v_s48.length + v_v51.length) : Nat) : Int) then
           some ((v_s48.take v_i50.toNat) ++ v_v51 ++ (v_s48.drop v_i50.toNat))
          else none
         else none
        else none
       else none
      else none
  else none
theorem G_slices_Insert_reclaim_Item_reclaim_Item_hC_ok (n : Nat) (v_C49 : Nat) (v_s48 : (List S_reclaim_Item)) (v_i50 : Int) (v_v51 : (List S_reclaim_Item)) (r : (List S_reclaim_Item)) (h : G_slices_Insert_reclaim_Item_reclaim_Item_hC n v_C49 v_s48 v_i50 v_v51 = some r) : RetH Try.prog 120 [.srf 0, .d ((eI .i64) v_i50), .d ((eL eS_reclaim_Item) v_v51)] [.cu (rowC 95 3 v_C49 (v_s48.map eS_reclaim_Item)) []] (.srf 1) [.none, .row 95 3 (r.map eS_reclaim_Item)] := by
  refine retH_run (n := 95) (fn := Try.f120) (c := bodyOf Try.f120) (by kernel_rfl) (by kernel_rfl) (by kernel_rfl) (by kernel_rfl) ?_
  have hF : KC 95 (FinH Try.prog Try.f120 [.cu (rowC 95 3 v_C49 (v_s48.map eS_reclaim_Item)) []] (.srf 1) [.none, .row 95 3 (r.map eS_reclaim_Item)]) := FinH.kc' (by kernel_rfl)
  unfold G_slices_Insert_reclaim_Item_reclaim_Item_hC at h
  by_cases h51 : (0 ≤ v_i50 ∧ v_i50 ≤ (v_s48.length : Int)) ∧ v_s48.length ≤ v_C49
  · rw [if_pos h51] at h
    by_cases h52 : (v_v51.length : Int) = 0
    · rw [if_pos h52] at h
      obtain rfl := Option.some.inj h
      exact pendH_sound TTok mix 14 (hs := [.e 11 [0] (.ssl 0 v_i50.toNat v_s48.length 3) [], .u (.d (.v (.int .i64 (v_v51.length : Int)))), .t true, .e 29 [0, 29] (.srf 29) [(0, .none), (29, .row 95 3 (v_s48.map eS_reclaim_Item))]]) [0, 29] (by kernel_rfl) (by kernel_rfl) (by kernel_rfl) (.cons (ext_same (yc10 (P := Try.prog) (T := TT) (f := eS_reclaim_Item) (t := 91) (e := 95) (s := 3) (l := 0) (L := v_s48) (x := (.tmp 10)) (C := v_C49) (lo := (.tmp 11)) (A := v_i50) (ka := .i64) (by kernel_rfl) h51.1 h51.2)) (.cons (len_ob (f := eS_reclaim_Item) (l := v_v51)) (.cons (bt h52) (.cons (ymv (L := v_s48) (C := v_C49) (P := Try.prog) (T := TT) (f := eS_reclaim_Item) (e := 95) (s := 3) (l := 0) (nl := 29) (x := (.tmp 0)) (by decide)) .nil))))
    · rw [if_neg h52] at h
      by_cases h55 : v_i50 = (v_s48.length : Int)
      · rw [if_pos h55] at h
        obtain ⟨v_a53, h56, h⟩ := bind_some h
        obtain rfl := Option.some.inj h
        exact pendH_sound TTok mix 21 (hs := [.e 11 [0] (.ssl 0 v_i50.toNat v_s48.length 3) [], .u (.d (.v (.int .i64 (v_v51.length : Int)))), .t false, .e 32 [0] (.d (.v (.int .i64 (v_s48.length : Int)))) [], .t true, .e 53 [0, 53] (.srf 53) [(0, .none), (53, .row 95 3 (v_a53.map eS_reclaim_Item))]]) [0, 53] (by kernel_rfl) (by kernel_rfl) (by kernel_rfl) (.cons (ext_same (yc10 (P := Try.prog) (T := TT) (f := eS_reclaim_Item) (t := 91) (e := 95) (s := 3) (l := 0) (L := v_s48) (x := (.tmp 10)) (C := v_C49) (lo := (.tmp 11)) (A := v_i50) (ka := .i64) (by kernel_rfl) h51.1 h51.2)) (.cons (len_ob (f := eS_reclaim_Item) (l := v_v51)) (.cons (bf h52) (.cons (ylen (P := Try.prog) (T := TT) (f := eS_reclaim_Item) (t := 91) (e := 95) (s := 3) (l := 0) (L := v_s48) (C := v_C49) (x := (.tmp 18)) (by kernel_rfl)) (.cons (bt h55) (.cons (yapp (P := Try.prog) (T := TT) (f := eS_reclaim_Item) (t := 91) (e := 95) (s := 3) (l := 0) (nl := 53) (C := v_C49) (x := (.tmp 23)) (y := (.tmp 24)) (ti := ⟨3, 16, .st [(0, 3), (1, 4), (2, 4)], [.i .i64, .b, .b]⟩) (by kernel_rfl) h56 (by kernel_rfl) (by kernel_rfl) (by decide) (fun _ => rfl) (by decide)) .nil))))))
      · rw [if_neg h55] at h
        by_cases h65 : (wi .i64 ((v_s48.length : Int) + (v_v51.length : Int))) > (v_C49 : Int)
        · rw [if_pos h65] at h
          by_cases h66 : (0 ≤ v_i50 ∧ v_i50 ≤ (v_s48.length : Int)) ∧ v_s48.length ≤ v_C49
          · rw [if_pos h66] at h
            by_cases h67 : (wi .i64 ((wi .i64 ((v_s48.length : Int) + (v_v51.length : Int))) - v_i50)) = (((v_s48.length + v_v51.length - v_i50.toNat) : Nat) : Int) ∧ v_i50.toNat ≤ v_s48.length ∧ 0 < (v_s48.length + v_v51.length - v_i50.toNat) ∧ v_C49 < v_i50.toNat + (v_s48.length + v_v51.length - v_i50.toNat) ∧ v_i50.toNat + (v_s48.length + v_v51.length - v_i50.toNat) ≤ maxLen ∧ (v_i50.toNat + (v_s48.length + v_v51.length - v_i50.toNat)) * 16 ≤ 140737488355328
            · rw [if_pos h67] at h
              by_cases h68 : (0 ≤ v_i50 ∧ v_i50 ≤ ((v_s48.take v_i50.toNat ++ List.replicate (v_s48.length + v_v51.length - v_i50.toNat) (S_reclaim_Item.mk 0 false false)).length : Int))
              · rw [if_pos h68] at h
                by_cases h69 : (v_s48.take v_i50.toNat ++ List.replicate (v_s48.length + v_v51.length - v_i50.toNat) (S_reclaim_Item.mk 0 false false)).length ≤ (v_s48.take v_i50.toNat ++ List.replicate (v_s48.length + v_v51.length - v_i50.toNat) (S_reclaim_Item.mk 0 false false)).length
                · rw [if_pos h69] at h
                  by_cases h70 : (0 ≤ (wi .i64 (v_i50 + (v_v51.length : Int))) ∧ (wi .i64 (v_i50 + (v_v51.length : Int))) ≤ ((cpyR (v_s48.take v_i50.toNat ++ List.replicate (v_s48.length + v_v51.length - v_i50.toNat) (S_reclaim_Item.mk 0 false false)) v_i50.toNat ((v_s48.take v_i50.toNat ++ List.replicate (v_s48.length + v_v51.length - v_i50.toNat) (S_reclaim_Item.mk 0 false false)).length) v_v51).length : Int))
                  · rw [if_pos h70] at h
                    by_cases h71 : (0 ≤ v_i50 ∧ v_i50 ≤ (v_s48.length : Int)) ∧ v_s48.length ≤ v_C49
                    · rw [if_pos h71] at h
                      by_cases h72 : (cpyR (v_s48.take v_i50.toNat ++ List.replicate (v_s48.length + v_v51.length - v_i50.toNat) (S_reclaim_Item.mk 0 false false)) v_i50.toNat ((v_s48.take v_i50.toNat ++ List.replicate (v_s48.length + v_v51.length - v_i50.toNat) (S_reclaim_Item.mk 0 false false)).length) v_v51).length ≤ (cpyR (v_s48.take v_i50.toNat ++ List.replicate (v_s48.length + v_v51.length - v_i50.toNat) (S_reclaim_Item.mk 0 false false)) v_i50.toNat ((v_s48.take v_i50.toNat ++ List.replicate (v_s48.length + v_v51.length - v_i50.toNat) (S_reclaim_Item.mk 0 false false)).length) v_v51).length ∧ v_s48.length ≤ v_s48.length
                      · rw [if_pos h72] at h
                        obtain rfl := Option.some.inj h
                        exact pendH_sound TTok mix 32 (hs := [.e 11 [0] (.ssl 0 v_i50.toNat v_s48.length 3) [], .u (.d (.v (.int .i64 (v_v51.length : Int)))), .t false, .e 32 [0] (.d (.v (.int .i64 (v_s48.length : Int)))) [], .t false, .e 59 [0] (.d (.v (.int .i64 (v_C49 : Int)))) [], .t true, .e 71 [0] (.ssl 0 0 v_i50.toNat 3) [], .e 89 [0, 89] (.srf 89) [(89, .row 95 3 ((v_s48.take v_i50.toNat ++ List.replicate (v_s48.length + v_v51.length - v_i50.toNat) (S_reclaim_Item.mk 0 false false)).map eS_reclaim_Item))], .e 101 [89] (.ssl 89 v_i50.toNat ((v_s48.take v_i50.toNat ++ List.replicate (v_s48.length + v_v51.length - v_i50.toNat) (S_reclaim_Item.mk 0 false false)).length) 3) [], .e 107 [89] (.d (.v (.int .i64 ((Nat.min v_v51.length ((v_s48.take v_i50.toNat ++ List.replicate (v_s48.length + v_v51.length - v_i50.toNat) (S_reclaim_Item.mk 0 false false)).length - v_i50.toNat) : Nat) : Int)))) [(89, .row 95 3 ((cpyR (v_s48.take v_i50.toNat ++ List.replicate (v_s48.length + v_v51.length - v_i50.toNat) (S_reclaim_Item.mk 0 false false)) v_i50.toNat ((v_s48.take v_i50.toNat ++ List.replicate (v_s48.length + v_v51.length - v_i50.toNat) (S_reclaim_Item.mk 0 false false)).length) v_v51).map eS_reclaim_Item))], .e 122 [89] (.ssl 89 ((wi .i64 (v_i50 + (v_v51.length : Int))).toNat) ((cpyR (v_s48.take v_i50.toNat ++ List.replicate (v_s48.length + v_v51.length - v_i50.toNat) (S_reclaim_Item.mk 0 false false)) v_i50.toNat ((v_s48.take v_i50.toNat ++ List.replicate (v_s48.length + v_v51.length - v_i50.toNat) (S_reclaim_Item.mk 0 false false)).length) v_v51).length) 3) [], .e 131 [0] (.ssl 0 v_i50.toNat v_s48.length 3) [], .e 134 [89, 0] (.d (.v (.int .i64 ((Nat.min ((v_s48.take v_s48.length).drop v_i50.toNat).length ((cpyR (v_s48.take v_i50.toNat ++ List.replicate (v_s48.length + v_v51.length - v_i50.toNat) (S_reclaim_Item.mk 0 false false)) v_i50.toNat ((v_s48.take v_i50.toNat ++ List.replicate (v_s48.length + v_v51.length - v_i50.toNat) (S_reclaim_Item.mk 0 false false)).length) v_v51).length - (wi .i64 (v_i50 + (v_v51.length : Int))).toNat) : Nat) : Int)))) [(89, .row 95 3 ((cpyR (cpyR (v_s48.take v_i50.toNat ++ List.replicate (v_s48.length + v_v51.length - v_i50.toNat) (S_reclaim_Item.mk 0 false false)) v_i50.toNat ((v_s48.take v_i50.toNat ++ List.replicate (v_s48.length + v_v51.length - v_i50.toNat) (S_reclaim_Item.mk 0 false false)).length) v_v51) ((wi .i64 (v_i50 + (v_v51.length : Int))).toNat) ((cpyR (v_s48.take v_i50.toNat ++ List.replicate (v_s48.length + v_v51.length - v_i50.toNat) (S_reclaim_Item.mk 0 false false)) v_i50.toNat ((v_s48.take v_i50.toNat ++ List.replicate (v_s48.length + v_v51.length - v_i50.toNat) (S_reclaim_Item.mk 0 false false)).length) v_v51).length) ((v_s48.take v_s48.length).drop v_i50.toNat)).map eS_reclaim_Item)), (0, .none)]]) [0, 89] (by kernel_rfl) (by kernel_rfl) (by kernel_rfl) (.cons (ext_same (yc10 (P := Try.prog) (T := TT) (f := eS_reclaim_Item) (t := 91) (e := 95) (s := 3) (l := 0) (L := v_s48) (x := (.tmp 10)) (C := v_C49) (lo := (.tmp 11)) (A := v_i50) (ka := .i64) (by kernel_rfl) h51.1 h51.2)) (.cons (len_ob (f := eS_reclaim_Item) (l := v_v51)) (.cons (bf h52) (.cons (ylen (P := Try.prog) (T := TT) (f := eS_reclaim_Item) (t := 91) (e := 95) (s := 3) (l := 0) (L := v_s48) (C := v_C49) (x := (.tmp 18)) (by kernel_rfl)) (.cons (bf h55) (.cons (ycap (P := Try.prog) (T := TT) (f := eS_reclaim_Item) (t := 91) (e := 95) (s := 3) (l := 0) (L := v_s48) (C := v_C49) (x := (.tmp 29)) (by kernel_rfl)) (.cons (dt h65) (.cons (ext_same (yc01 (P := Try.prog) (T := TT) (f := eS_reclaim_Item) (t := 91) (e := 95) (s := 3) (l := 0) (L := v_s48) (x := (.tmp 32)) (C := v_C49) (hi := (.tmp 33)) (B := v_i50) (kb := .i64) (by kernel_rfl) h66.1 h66.2)) (.cons (yapZ (P := Try.prog) (T := TT) (f := eS_reclaim_Item) (t := 91) (e := 95) (s := 3) (l := 0) (nl := 89) (C := v_C49) (i := v_i50.toNat) (k := (v_s48.length + v_v51.length - v_i50.toNat)) (L := v_s48) (x := (.tmp 34)) (y := (.tmp 39)) (ti := ⟨3, 16, .st [(0, 3), (1, 4), (2, 4)], [.i .i64, .b, .b]⟩) (tn := 3) (kn := .i64) (kq := .i64) (z := (S_reclaim_Item.mk 0 false false)) (p := .agg [.v (.int .i64 0), .v (.bool false), .v (.bool false)]) (B := (wi .i64 ((wi .i64 ((v_s48.length : Int) + (v_v51.length : Int))) - v_i50))) (by kernel_rfl) (by kernel_rfl) (by kernel_rfl) (by kernel_rfl) (by kernel_rfl) (by decide) rfl h67.1 h67.2.1 h67.2.2.1 h67.2.2.2.1 h67.2.2.2.2.1 h67.2.2.2.2.2 (by decide)) (.cons (xs10 (P := Try.prog) (T := TT) (f := eS_reclaim_Item) (t := 91) (e := 95) (s := 3) (l := 89) (L := (v_s48.take v_i50.toNat ++ List.replicate (v_s48.length + v_v51.length - v_i50.toNat) (S_reclaim_Item.mk 0 false false))) (x := (.tmp 41)) (lo := (.tmp 42)) (a := v_i50) (ka := .i64) (by kernel_rfl) h68) (.cons (xcpD (P := Try.prog) (T := TT) (f := eS_reclaim_Item) (t := 91) (t' := 91) (e := 95) (s := 3) (l := 89) (x := (.tmp 43)) (y := (.tmp 44)) (ti := ⟨3, 16, .st [(0, 3), (1, 4), (2, 4)], [.i .i64, .b, .b]⟩) (L := (v_s48.take v_i50.toNat ++ List.replicate (v_s48.length + v_v51.length - v_i50.toNat) (S_reclaim_Item.mk 0 false false))) (Y := v_v51) (i := v_i50.toNat) (j := (v_s48.take v_i50.toNat ++ List.replicate (v_s48.length + v_v51.length - v_i50.toNat) (S_reclaim_Item.mk 0 false false)).length) (by kernel_rfl) (by kernel_rfl) h69 (fun _ => rfl)) (.cons (xs10 (P := Try.prog) (T := TT) (f := eS_reclaim_Item) (t := 91) (e := 95) (s := 3) (l := 89) (L := (cpyR (v_s48.take v_i50.toNat ++ List.replicate (v_s48.length + v_v51.length - v_i50.toNat) (S_reclaim_Item.mk 0 false false)) v_i50.toNat ((v_s48.take v_i50.toNat ++ List.replicate (v_s48.length + v_v51.length - v_i50.toNat) (S_reclaim_Item.mk 0 false false)).length) v_v51)) (x := (.tmp 46)) (lo := (.tmp 49)) (a := (wi .i64 (v_i50 + (v_v51.length : Int)))) (ka := .i64) (by kernel_rfl) h70) (.cons (ext_same (yc10 (P := Try.prog) (T := TT) (f := eS_reclaim_Item) (t := 91) (e := 95) (s := 3) (l := 0) (L := v_s48) (x := (.tmp 51)) (C := v_C49) (lo := (.tmp 52)) (A := v_i50) (ka := .i64) (by kernel_rfl) h71.1 h71.2)) (.cons (ext_kill (l := 0) (ycpC (P := Try.prog) (T := TT) (f := eS_reclaim_Item) (t := 91) (t' := 91) (e := 95) (s := 3) (l := 89) (x := (.tmp 50)) (y := (.tmp 53)) (ti := ⟨3, 16, .st [(0, 3), (1, 4), (2, 4)], [.i .i64, .b, .b]⟩) (L := (cpyR (v_s48.take v_i50.toNat ++ List.replicate (v_s48.length + v_v51.length - v_i50.toNat) (S_reclaim_Item.mk 0 false false)) v_i50.toNat ((v_s48.take v_i50.toNat ++ List.replicate (v_s48.length + v_v51.length - v_i50.toNat) (S_reclaim_Item.mk 0 false false)).length) v_v51)) (i := (wi .i64 (v_i50 + (v_v51.length : Int))).toNat) (j := (cpyR (v_s48.take v_i50.toNat ++ List.replicate (v_s48.length + v_v51.length - v_i50.toNat) (S_reclaim_Item.mk 0 false false)) v_i50.toNat ((v_s48.take v_i50.toNat ++ List.replicate (v_s48.length + v_v51.length - v_i50.toNat) (S_reclaim_Item.mk 0 false false)).length) v_v51).length) (p := v_i50.toNat) (q := v_s48.length) (Y := v_s48) (l' := 0) (C := v_C49) (by kernel_rfl) (by kernel_rfl) h72.1 h72.2)) .nil))))))))))))))
                      · rw [if_neg h72] at h; cases h
                    · rw [if_neg h71] at h; cases h
                  · rw [if_neg h70] at h; cases h
                · rw [if_neg h69] at h; cases h
              · rw [if_neg h68] at h; cases h
            · rw [if_neg h67] at h; cases h
          · rw [if_neg h66] at h; cases h
        · rw [if_neg h65] at h
          by_cases h73 : 0 < v_v51.length ∧ (v_s48.length + v_v51.length) ≤ v_C49 ∧ (wi .i64 ((v_s48.length : Int) + (v_v51.length : Int))) = (((v_s48.length + v_v51.length) : Nat) : Int)
          · rw [if_pos h73] at h
            by_cases h74 : (wi .i64 (v_i50 + (v_v51.length : Int))) = (((v_i50.toNat + v_v51.length) : Nat) : Int) ∧ (v_i50.toNat + v_v51.length) ≤ (v_s48.length + v_v51.length)
            · rw [if_pos h74] at h
              by_cases h78 : (wi .i64 (v_i50 + (v_v51.length : Int))) = (((v_i50.toNat + v_v51.length) : Nat) : Int) ∧ (v_i50.toNat + v_v51.length) ≤ (v_s48.length + v_v51.length)
              · rw [if_pos h78] at h
                by_cases h79 : 0 ≤ v_i50 ∧ v_i50 ≤ (((v_s48.length + v_v51.length) : Nat) : Int)
                · rw [if_pos h79] at h
                  by_cases h80 : 0 ≤ v_i50 ∧ v_i50 ≤ (((v_s48.length + v_v51.length) : Nat) : Int)
                  · rw [if_pos h80] at h
                    obtain rfl := Option.some.inj h
                    exact pendH_sound TTok mix 37 (hs := [.e 11 [0] (.ssl 0 v_i50.toNat v_s48.length 3) [], .u (.d (.v (.int .i64 (v_v51.length : Int)))), .t false, .e 32 [0] (.d (.v (.int .i64 (v_s48.length : Int)))) [], .t false, .e 59 [0] (.d (.v (.int .i64 (v_C49 : Int)))) [], .t false, .e 77 [0] (.ssl 0 0 (v_s48.length + v_v51.length) 3) [(0, .cu (rowH 95 3 v_C49 (v_s48.map eS_reclaim_Item) v_v51.length (([] : List S_reclaim_Item).map eS_reclaim_Item)) [])], .e 98 [0] (.ssl 0 (v_i50.toNat + v_v51.length) (v_s48.length + v_v51.length) 3) [], .e 101 [0] (.d (.v (.bool false))) [], .c, .e 119 [0] (.ssl 0 (v_i50.toNat + v_v51.length) (v_s48.length + v_v51.length) 3) [], .e 128 [0] (.ssl 0 v_i50.toNat (v_s48.length + v_v51.length) 3) [], .e 131 [0] (.d (.v (.int .i64 ((v_s48.length - v_i50.toNat : Nat) : Int)))) [(0, .cu (rowH 95 3 v_C49 ((v_s48.take v_i50.toNat).map eS_reclaim_Item) v_v51.length ((v_s48.drop v_i50.toNat).map eS_reclaim_Item)) [])], .e 140 [0] (.ssl 0 v_i50.toNat (v_s48.length + v_v51.length) 3) [], .e 146 [0] (.d (.v (.int .i64 (v_v51.length : Int)))) [(0, .cu (rowH 95 3 v_C49 (((v_s48.take v_i50.toNat) ++ v_v51 ++ (v_s48.drop v_i50.toNat)).map eS_reclaim_Item) 0 (([] : List S_reclaim_Item).map eS_reclaim_Item)) [])], .e 149 [0, 149] (.srf 149) [(0, .none), (149, .row 95 3 (((v_s48.take v_i50.toNat) ++ v_v51 ++ (v_s48.drop v_i50.toNat)).map eS_reclaim_Item))]]) [0, 149] (by kernel_rfl) (by kernel_rfl) (by kernel_rfl) (.cons (ext_same (yc10 (P := Try.prog) (T := TT) (f := eS_reclaim_Item) (t := 91) (e := 95) (s := 3) (l := 0) (L := v_s48) (x := (.tmp 10)) (C := v_C49) (lo := (.tmp 11)) (A := v_i50) (ka := .i64) (by kernel_rfl) h51.1 h51.2)) (.cons (len_ob (f := eS_reclaim_Item) (l := v_v51)) (.cons (bf h52) (.cons (ylen (P := Try.prog) (T := TT) (f := eS_reclaim_Item) (t := 91) (e := 95) (s := 3) (l := 0) (L := v_s48) (C := v_C49) (x := (.tmp 18)) (by kernel_rfl)) (.cons (bf h55) (.cons (ycap (P := Try.prog) (T := TT) (f := eS_reclaim_Item) (t := 91) (e := 95) (s := 3) (l := 0) (L := v_s48) (C := v_C49) (x := (.tmp 29)) (by kernel_rfl)) (.cons (df h65) (.cons (ycup (P := Try.prog) (T := TT) (f := eS_reclaim_Item) (t := 91) (e := 95) (s := 3) (l := 0) (L := v_s48) (x := (.tmp 56)) (C := v_C49) (m := v_v51.length) (hi := (.tmp 59)) (B := (wi .i64 ((v_s48.length : Int) + (v_v51.length : Int)))) (kb := .i64) (by kernel_rfl) h73.1 h73.2.1 h73.2.2) (.cons (ext_same (yh10q (P := Try.prog) (T := TT) (f := eS_reclaim_Item) (t := 91) (e := 95) (s := 3) (l := 0) (L := v_s48) (x := (.tmp 62)) (C := v_C49) (m := v_v51.length) (k := (v_s48.length + v_v51.length)) (Z := ([] : List S_reclaim_Item)) (q := (v_i50.toNat + v_v51.length)) (lo := (.tmp 65)) (A := (wi .i64 (v_i50 + (v_v51.length : Int)))) (ka := .i64) (by kernel_rfl) (by simp only [List.length_take, List.length_drop, List.length_nil]; omega) h74.1 h74.2)) (.cons (yov (P := Try.prog) (T := TT) (f := eS_reclaim_Item) (t := 91) (e := 95) (s := 3) (l := 0) (L := v_s48) (Y := v_v51) (Z := ([] : List S_reclaim_Item)) (m := v_v51.length) (C := v_C49) (i := (v_i50.toNat + v_v51.length)) (j := (v_s48.length + v_v51.length)) (x := (.tmp 61)) (y := (.tmp 66)) (g := 144) (fn := Try.f144) (tR := 4) (tys := #[91, 91]) (by kernel_rfl) (by kernel_rfl) (by kernel_rfl) (by kernel_rfl) (by kernel_rfl) (by kernel_rfl) (by decide) (fun _ => rfl)) (.cons (ext_same (yh10q (P := Try.prog) (T := TT) (f := eS_reclaim_Item) (t := 91) (e := 95) (s := 3) (l := 0) (L := v_s48) (x := (.tmp 69)) (C := v_C49) (m := v_v51.length) (k := (v_s48.length + v_v51.length)) (Z := ([] : List S_reclaim_Item)) (q := (v_i50.toNat + v_v51.length)) (lo := (.tmp 72)) (A := (wi .i64 (v_i50 + (v_v51.length : Int)))) (ka := .i64) (by kernel_rfl) (by simp only [List.length_take, List.length_drop, List.length_nil]; omega) h78.1 h78.2)) (.cons (ext_same (yh10 (P := Try.prog) (T := TT) (f := eS_reclaim_Item) (t := 91) (e := 95) (s := 3) (l := 0) (L := v_s48) (x := (.tmp 74)) (C := v_C49) (m := v_v51.length) (k := (v_s48.length + v_v51.length)) (Y := ([] : List S_reclaim_Item)) (lo := (.tmp 75)) (A := v_i50) (ka := .i64) (by kernel_rfl) (by simp only [List.length_take, List.length_drop, List.length_nil]; omega) h79)) (.cons (ycpS (P := Try.prog) (T := TT) (f := eS_reclaim_Item) (t := 91) (t' := 91) (e := 95) (s := 3) (l := 0) (x := (.tmp 73)) (y := (.tmp 76)) (ti := ⟨3, 16, .st [(0, 3), (1, 4), (2, 4)], [.i .i64, .b, .b]⟩) (L := v_s48) (i := v_i50.toNat) (m := v_v51.length) (C := v_C49) (by kernel_rfl) (by kernel_rfl) (by omega)) (.cons (ext_same (yh10 (P := Try.prog) (T := TT) (f := eS_reclaim_Item) (t := 91) (e := 95) (s := 3) (l := 0) (L := (v_s48.take v_i50.toNat)) (x := (.tmp 78)) (C := v_C49) (m := v_v51.length) (k := (v_s48.length + v_v51.length)) (Y := (v_s48.drop v_i50.toNat)) (lo := (.tmp 79)) (A := v_i50) (ka := .i64) (by kernel_rfl) (by simp only [List.length_take, List.length_drop, List.length_nil]; omega) h80)) (.cons (ycpD (P := Try.prog) (T := TT) (f := eS_reclaim_Item) (t := 91) (t' := 91) (e := 95) (s := 3) (l := 0) (x := (.tmp 80)) (y := (.tmp 81)) (ti := ⟨3, 16, .st [(0, 3), (1, 4), (2, 4)], [.i .i64, .b, .b]⟩) (L := (v_s48.take v_i50.toNat)) (Y := v_v51) (Z := (v_s48.drop v_i50.toNat)) (i := v_i50.toNat) (k := (v_s48.length + v_v51.length)) (m := v_v51.length) (C := v_C49) (by kernel_rfl) (by kernel_rfl) (by simp only [List.length_take, List.length_drop, List.length_nil]; omega) (by simp only [List.length_take, List.length_drop, List.length_nil]; omega) rfl (by omega) (fun _ => rfl)) (.cons (ymvH (L := ((v_s48.take v_i50.toNat) ++ v_v51 ++ (v_s48.drop v_i50.toNat))) (C := v_C49) (k := (v_s48.length + v_v51.length)) (P := Try.prog) (T := TT) (f := eS_reclaim_Item) (e := 95) (s := 3) (l := 0) (nl := 149) (x := (.tmp 0)) (by simp only [List.length_append, List.length_take, List.length_drop]; omega)) .nil))))))))))))))))
                  · rw [if_neg h80] at h; cases h
                · rw [if_neg h79] at h; cases h
              · rw [if_neg h78] at h; cases h
            · rw [if_neg h74] at h; cases h
          · rw [if_neg h73] at h; cases h
  · rw [if_neg h51] at h; cases h
def G_slices_Insert_reclaim_Item_reclaim_Item_h (n : Nat) (s : (List S_reclaim_Item)) (i : Int) (v : (List S_reclaim_Item)) : Option (List S_reclaim_Item) := insI 16 s i v
theorem G_slices_Insert_reclaim_Item_reclaim_Item_h_all (C n : Nat) (s : (List S_reclaim_Item)) (i : Int) (v r : (List S_reclaim_Item)) (h1 : s.length ≤ C) (h2 : C ≤ maxLen) (h : G_slices_Insert_reclaim_Item_reclaim_Item_h n s i v = some r) : G_slices_Insert_reclaim_Item_reclaim_Item_hC n C s i v = some r := by
  unfold G_slices_Insert_reclaim_Item_reclaim_Item_h insI at h
  split at h
  · rename_i c
    obtain ⟨c1, c2, c3, c4⟩ := c
    obtain rfl := Option.some.inj h
    obtain ⟨i, rfl⟩ := Int.eq_ofNat_of_zero_le c1
    simp only [Int.toNat_natCast]
    have hi : i ≤ s.length := by omega
    have w1 : wi .i64 ((s.length : Int) + (v.length : Int)) = ((s.length + v.length : Nat) : Int) := by rw [wi, IntKind.wrap_i64]; omega
    have w2 : wi .i64 ((i : Int) + (v.length : Int)) = ((i + v.length : Nat) : Int) := by rw [wi, IntKind.wrap_i64]; omega
    have w3 : wi .i64 (((s.length + v.length : Nat) : Int) - (i : Int)) = ((s.length + v.length - i : Nat) : Int) := by rw [wi, IntKind.wrap_i64]; omega
    unfold G_slices_Insert_reclaim_Item_reclaim_Item_hC
    rw [if_pos ⟨⟨by omega, by omega⟩, h1⟩]
    by_cases hm : (v.length : Int) = 0
    · rw [if_pos hm]
      have : v = [] := List.eq_nil_of_length_eq_zero (by omega)
      subst this; simp
    · rw [if_neg hm]
      by_cases he : (i : Int) = (s.length : Int)
      · rw [if_pos he]
        have e : i = s.length := by omega
        subst e
        unfold app
        rw [if_pos ⟨by unfold maxLen; omega, c4⟩]
        simp
      · rw [if_neg he, w1]
        by_cases hg : ((s.length + v.length : Nat) : Int) > (C : Int)
        · rw [if_pos hg, w3]
          simp only [Int.toNat_natCast]
          have hl : (s.take i ++ List.replicate (s.length + v.length - i) (S_reclaim_Item.mk 0 false false)).length = s.length + v.length := by simp; omega
          rw [if_pos ⟨⟨by omega, by omega⟩, h1⟩, if_pos ⟨trivial, hi, by omega, by omega, by unfold maxLen; omega, by rw [show i + (s.length + v.length - i) = s.length + v.length by omega]; exact c4⟩, w2]
          simp only [Int.toNat_natCast]
          rw [if_pos ⟨by omega, by rw [hl]; omega⟩, if_pos (Nat.le_refl _)]
          have hl2 : (cpyR (s.take i ++ List.replicate (s.length + v.length - i) (S_reclaim_Item.mk 0 false false)) i (s.take i ++ List.replicate (s.length + v.length - i) (S_reclaim_Item.mk 0 false false)).length v).length = s.length + v.length := by
            unfold cpyR
            rw [hl]
            rcases Nat.le_total v.length (s.length + v.length - i) with h' | h'
            · rw [show Nat.min v.length (s.length + v.length - i) = v.length from Nat.min_eq_left h']; simp; omega
            · rw [show Nat.min v.length (s.length + v.length - i) = s.length + v.length - i from Nat.min_eq_right h']; simp; omega
          rw [if_pos ⟨by omega, by rw [hl2]; omega⟩, if_pos ⟨⟨by omega, by omega⟩, h1⟩, if_pos ⟨Nat.le_refl _, Nat.le_refl _⟩]
          rw [ins_grow hi rfl]
        · rw [if_neg hg, w2]
          simp only [Int.toNat_natCast]
          rw [if_pos ⟨by omega, by omega, trivial⟩, if_pos ⟨trivial, by omega⟩, if_pos ⟨trivial, by omega⟩, if_pos ⟨by omega, by omega⟩, if_pos ⟨by omega, by omega⟩]
  · cases h
theorem G_slices_Insert_reclaim_Item_reclaim_Item_h_ok (n : Nat) (s : (List S_reclaim_Item)) (i : Int) (v r : (List S_reclaim_Item)) (h : G_slices_Insert_reclaim_Item_reclaim_Item_h n s i v = some r) : RetH Try.prog 120 [.srf 0, .d (.v (.int .i64 i)), .d ((eL eS_reclaim_Item) v)] [.row 95 3 (s.map eS_reclaim_Item)] (.srf 1) [.none, .row 95 3 (r.map eS_reclaim_Item)] :=
  retH_cap ⟨Try.f120, by kernel_rfl, by kernel_rfl, by kernel_rfl⟩ (fun C h1 h2 => G_slices_Insert_reclaim_Item_reclaim_Item_hC_ok n C s i v r (G_slices_Insert_reclaim_Item_reclaim_Item_h_all C n s i v r (by simpa using h1) h2 h))
/- ringhall/reclaim.Put -/
def G_reclaim_Put (n : Nat) (v_c3 : S_reclaim_Clock) (v_id4 : Int) : Option (S_reclaim_Clock × Int) :=
  (G_reclaim_Check n v_c3).bind fun (v_r35 : (Int)) =>
  if v_r35 = 0 then
   (G_reclaim_find n v_c3.fItems v_id4).bind fun (v_r39 : (Int)) =>
   if v_r39 ≥ 0 then
    some ((S_reclaim_Clock.mk ([] : (List S_reclaim_Item)) 0), 5)
   else
    if (v_c3.fItems.length : Int) = 64 then
     some ((S_reclaim_Clock.mk ([] : (List S_reclaim_Item)) 0), 6)
    else
     (G_slices_Clone_reclaim_Item_reclaim_Item n v_c3.fItems).bind fun (v_r47 : ((List S_reclaim_Item))) =>
     (G_slices_Insert_reclaim_Item_reclaim_Item_h n v_r47 v_c3.fHand ([(S_reclaim_Item.mk v_id4 true false)])).bind fun (v_r54 : ((List S_reclaim_Item))) =>
     if (v_r54.length : Int) ≠ 0 then
      some ((S_reclaim_Clock.mk v_r54 (remI (wi .i64 (v_c3.fHand + 1)) (v_r54.length : Int))), 0)
     else none
  else
   some ((S_reclaim_Clock.mk ([] : (List S_reclaim_Item)) 0), v_r35)
theorem G_reclaim_Put_ok (n : Nat) (v_c3 : S_reclaim_Clock) (v_id4 : Int) (r : S_reclaim_Clock × Int) (h : G_reclaim_Put n v_c3 v_id4 = some r) : Ret Try.prog 53 [eS_reclaim_Clock v_c3, (eI .i64) v_id4] (.tup [eS_reclaim_Clock r.1, (eI .i64) r.2]) := by
  refine ret_run (n := 45) (fn := Try.f53) (c := bodyOf Try.f53) (by kernel_rfl) (by kernel_rfl) (by kernel_rfl) (by kernel_rfl) ?_
  have hF : KC 45 (FinR Try.prog Try.f53 (.tup [eS_reclaim_Clock r.1, (eI .i64) r.2])) := FinR.kc' (by kernel_rfl)
  unfold G_reclaim_Put at h
  obtain ⟨v_r35, h25, h⟩ := bind_some h
  by_cases h41 : v_r35 = 0
  · rw [if_pos h41] at h
    obtain ⟨v_r39, h42, h⟩ := bind_some h
    by_cases h45 : v_r39 ≥ 0
    · rw [if_pos h45] at h
      obtain rfl := Option.some.inj h
      exact pend_sound TTok mix 17 (hs := [.c, .r ((eI .i64) v_r35), .t false, .c, .r ((eI .i64) v_r39), .t true, .c]) (by kernel_rfl) (by kernel_rfl) (by kernel_rfl) (.cons (G_reclaim_Check_ok n v_c3 _ h25) (.cons (nf h41) (.cons (G_reclaim_find_ok n v_c3.fItems v_id4 _ h42) (.cons (dt h45) (.cons (show 0 + 2 ≤ 2 by decide) .nil)))))
    · rw [if_neg h45] at h
      by_cases h47 : (v_c3.fItems.length : Int) = 64
      · rw [if_pos h47] at h
        obtain rfl := Option.some.inj h
        exact pend_sound TTok mix 20 (hs := [.c, .r ((eI .i64) v_r35), .t false, .c, .r ((eI .i64) v_r39), .t false, .c, .u (.d (.v (.int .i64 (v_c3.fItems.length : Int)))), .t true, .c]) (by kernel_rfl) (by kernel_rfl) (by kernel_rfl) (.cons (G_reclaim_Check_ok n v_c3 _ h25) (.cons (nf h41) (.cons (G_reclaim_find_ok n v_c3.fItems v_id4 _ h42) (.cons (df h45) (.cons (len_ob (f := eS_reclaim_Item) (l := v_c3.fItems)) (.cons (bt h47) (.cons (show 0 + 2 ≤ 2 by decide) .nil)))))))
      · rw [if_neg h47] at h
        obtain ⟨v_r47, h50, h⟩ := bind_some h
        obtain ⟨v_r54, h81, h⟩ := bind_some h
        by_cases h82 : (v_r54.length : Int) ≠ 0
        · rw [if_pos h82] at h
          obtain rfl := Option.some.inj h
          exact pend_sound TTok mix 22 (hs := [.c, .r ((eI .i64) v_r35), .t false, .c, .r ((eI .i64) v_r39), .t false, .c, .u (.d (.v (.int .i64 (v_c3.fItems.length : Int)))), .t false, .c, .h [] [] [.row 95 3 (v_r47.map eS_reclaim_Item)] (.srf 0), .c, .bd, .h [66] [] [.none, .row 95 3 (v_r54.map eS_reclaim_Item)] (.srf 1), .c, .u (.d (.v (.int .i64 (v_r54.length : Int)))), .c]) (by kernel_rfl) (by kernel_rfl) (by kernel_rfl) (.cons (G_reclaim_Check_ok n v_c3 _ h25) (.cons (nf h41) (.cons (G_reclaim_find_ok n v_c3.fItems v_id4 _ h42) (.cons (df h45) (.cons (len_ob (f := eS_reclaim_Item) (l := v_c3.fItems)) (.cons (bf h47) (.cons (G_slices_Clone_reclaim_Item_reclaim_Item_ok n v_c3.fItems _ h50) (.cons (G_slices_Insert_reclaim_Item_reclaim_Item_h_ok n v_r47 v_c3.fHand ([(S_reclaim_Item.mk v_id4 true false)]) _ h81) (.cons (len_ob (f := eS_reclaim_Item) (l := v_r54)) (.cons h82 (.cons (show 0 + 2 ≤ 2 by decide) .nil)))))))))))
        · rw [if_neg h82] at h; cases h
  · rw [if_neg h41] at h
    obtain rfl := Option.some.inj h
    exact pend_sound TTok mix 14 (hs := [.c, .r ((eI .i64) v_r35), .t true, .c]) (by kernel_rfl) (by kernel_rfl) (by kernel_rfl) (.cons (G_reclaim_Check_ok n v_c3 _ h25) (.cons (nt h41) (.cons (show 0 + 2 ≤ 2 by decide) .nil)))
/- ringhall/reclaim.Mark -/
def G_reclaim_Mark (n : Nat) (v_c56 : S_reclaim_Clock) (v_x57 : S_reclaim_Item) : Option (S_reclaim_Clock × Int) :=
  (G_reclaim_Check n v_c56).bind fun (v_r58 : (Int)) =>
  if v_r58 = 0 then
   (G_reclaim_find n v_c56.fItems v_x57.fId).bind fun (v_r59 : (Int)) =>
   if v_r59 < 0 then
    some ((S_reclaim_Clock.mk ([] : (List S_reclaim_Item)) 0), 4)
   else
    (G_slices_Clone_reclaim_Item_reclaim_Item n v_c56.fItems).bind fun (v_r60 : ((List S_reclaim_Item))) =>
    if 0 ≤ v_r59 ∧ (v_r59).toNat < v_r60.length then
     (v_r60[(v_r59).toNat]?).bind fun (v_y61 : S_reclaim_Item) =>
     some ((S_reclaim_Clock.mk (v_r60.set (v_r59).toNat v_x57) v_c56.fHand), 0)
    else none
  else
   some ((S_reclaim_Clock.mk ([] : (List S_reclaim_Item)) 0), v_r58)
theorem G_reclaim_Mark_ok (n : Nat) (v_c56 : S_reclaim_Clock) (v_x57 : S_reclaim_Item) (r : S_reclaim_Clock × Int) (h : G_reclaim_Mark n v_c56 v_x57 = some r) : Ret Try.prog 54 [eS_reclaim_Clock v_c56, eS_reclaim_Item v_x57] (.tup [eS_reclaim_Clock r.1, (eI .i64) r.2]) := by
  refine ret_run (n := 34) (fn := Try.f54) (c := bodyOf Try.f54) (by kernel_rfl) (by kernel_rfl) (by kernel_rfl) (by kernel_rfl) ?_
  have hF : KC 34 (FinR Try.prog Try.f54 (.tup [eS_reclaim_Clock r.1, (eI .i64) r.2])) := FinR.kc' (by kernel_rfl)
  unfold G_reclaim_Mark at h
  obtain ⟨v_r58, h84, h⟩ := bind_some h
  by_cases h86 : v_r58 = 0
  · rw [if_pos h86] at h
    obtain ⟨v_r59, h87, h⟩ := bind_some h
    by_cases h89 : v_r59 < 0
    · rw [if_pos h89] at h
      obtain rfl := Option.some.inj h
      exact pend_sound TTok mix 19 (hs := [.c, .r ((eI .i64) v_r58), .t false, .c, .c, .r ((eI .i64) v_r59), .t true, .c]) (by kernel_rfl) (by kernel_rfl) (by kernel_rfl) (.cons (G_reclaim_Check_ok n v_c56 _ h84) (.cons (nf h86) (.cons (G_reclaim_find_ok n v_c56.fItems v_x57.fId _ h87) (.cons (dt h89) (.cons (show 0 + 2 ≤ 2 by decide) .nil)))))
    · rw [if_neg h89] at h
      obtain ⟨v_r60, h90, h⟩ := bind_some h
      by_cases h91 : 0 ≤ v_r59 ∧ (v_r59).toNat < v_r60.length
      · rw [if_pos h91] at h
        obtain ⟨v_y61, h92, h⟩ := bind_some h
        obtain rfl := Option.some.inj h
        exact pend_sound TTok mix 23 (hs := [.c, .r ((eI .i64) v_r58), .t false, .c, .c, .r ((eI .i64) v_r59), .t false, .c, .h [] [] [.row 95 3 (v_r60.map eS_reclaim_Item)] (.srf 0), .c, .w ((v_r60.set (v_r59).toNat v_x57).map eS_reclaim_Item), .y (eS_reclaim_Item v_y61), .c, .c]) (by kernel_rfl) (by kernel_rfl) (by kernel_rfl) (.cons (G_reclaim_Check_ok n v_c56 _ h84) (.cons (nf h86) (.cons (G_reclaim_find_ok n v_c56.fItems v_x57.fId _ h87) (.cons (df h89) (.cons (G_slices_Clone_reclaim_Item_reclaim_Item_ok n v_c56.fItems _ h90) (.cons (idx_ob (f := eS_reclaim_Item) h91) (.cons (get_ob (f := eS_reclaim_Item) h92) (.cons (Eq.refl (pcells (.agg [.v (.int .i64 v_x57.fId), .v (.bool v_x57.fUsed), .v (.bool v_x57.fPinned)]))) (.cons (set_ob (f := eS_reclaim_Item) (l := v_r60) (k := (v_r59).toNat) (z := v_x57) (p := .agg [.v (.int .i64 v_x57.fId), .v (.bool v_x57.fUsed), .v (.bool v_x57.fPinned)]) rfl) (.cons (show 0 + 2 ≤ 2 by decide) .nil))))))))))
      · rw [if_neg h91] at h; cases h
  · rw [if_neg h86] at h
    obtain rfl := Option.some.inj h
    exact pend_sound TTok mix 12 (hs := [.c, .r ((eI .i64) v_r58), .t true, .c]) (by kernel_rfl) (by kernel_rfl) (by kernel_rfl) (.cons (G_reclaim_Check_ok n v_c56 _ h84) (.cons (nt h86) (.cons (show 0 + 2 ≤ 2 by decide) .nil)))
/- slices.ContainsFunc[[]ringhall/reclaim.Item,ringhall/reclaim.Item] -/
def G_slices_ContainsFunc_reclaim_Item_reclaim_Item (n : Nat) (v_s65 : (List S_reclaim_Item)) (v_f66 : (S_reclaim_Item → Option (Bool))) : Option (Bool) :=
  (G_slices_IndexFunc_reclaim_Item_reclaim_Item n v_s65 v_f66).bind fun (v_r67 : (Int)) =>
  some (decide (v_r67 ≥ 0))
theorem G_slices_ContainsFunc_reclaim_Item_reclaim_Item_ok (n : Nat) (v_s65 : (List S_reclaim_Item)) (v_f66 : (S_reclaim_Item → Option (Bool))) (v_f66_g : FuncId) (v_f66_c : List PV) (v_f66_h : ∀ (x0 : S_reclaim_Item) (r : Bool), v_f66 x0 = some r → Ret Try.prog v_f66_g ([eS_reclaim_Item x0] ++ v_f66_c) (eB r)) (r : Bool) (h : G_slices_ContainsFunc_reclaim_Item_reclaim_Item n v_s65 v_f66 = some r) : Ret Try.prog 121 [(eL eS_reclaim_Item) v_s65, (.clo v_f66_g v_f66_c)] (eB r) := by
  refine ret_run (n := 9) (fn := Try.f121) (c := bodyOf Try.f121) (by kernel_rfl) (by kernel_rfl) (by kernel_rfl) (by kernel_rfl) ?_
  have hF : KC 9 (FinR Try.prog Try.f121 (eB r)) := FinR.kc' (by kernel_rfl)
  unfold G_slices_ContainsFunc_reclaim_Item_reclaim_Item at h
  obtain ⟨v_r67, h97, h⟩ := bind_some h
  obtain rfl := Option.some.inj h
  exact pend_sound TTok mix 5 (hs := [.r ((eI .i64) v_r67)]) (by kernel_rfl) (by kernel_rfl) (by kernel_rfl) (.cons (G_slices_IndexFunc_reclaim_Item_reclaim_Item_ok n v_s65 v_f66 v_f66_g v_f66_c v_f66_h _ h97) .nil)
/- ringhall/reclaim.Next$1 -/
def G_reclaim_Next_1 (n : Nat) (v_x68 : S_reclaim_Item) : Option (Bool) :=
  some (!v_x68.fPinned)
theorem G_reclaim_Next_1_ok (n : Nat) (v_x68 : S_reclaim_Item) (r : Bool) (h : G_reclaim_Next_1 n v_x68 = some r) : Ret Try.prog 122 [eS_reclaim_Item v_x68] (eB r) := by
  refine ret_run (n := 6) (fn := Try.f122) (c := bodyOf Try.f122) (by kernel_rfl) (by kernel_rfl) (by kernel_rfl) (by kernel_rfl) ?_
  have hF : KC 6 (FinR Try.prog Try.f122 (eB r)) := FinR.kc' (by kernel_rfl)
  unfold G_reclaim_Next_1 at h
  obtain rfl := Option.some.inj h
  exact pend_sound TTok mix 5 (hs := [.c]) (by kernel_rfl) (by kernel_rfl) (by kernel_rfl) .nil
/- slices.Delete[[]ringhall/reclaim.Item,ringhall/reclaim.Item] -/
def G_slices_Delete_reclaim_Item_reclaim_Item_h (n : Nat) (v_s86 : (List S_reclaim_Item)) (v_i87 : Int) (v_j88 : Int) : Option ((List S_reclaim_Item)) :=
  if (0 ≤ v_i87 ∧ v_i87 ≤ v_j88 ∧ v_j88 ≤ (v_s86.length : Int) ∧ (v_s86.length : Int) ≤ (v_s86.length : Int)) then
   if v_i87 = v_j88 then
    some v_s86
   else
    if (0 ≤ v_i87 ∧ v_i87 ≤ (v_s86.length : Int)) then
     if (0 ≤ v_j88 ∧ v_j88 ≤ (v_s86.length : Int)) then
      if v_i87.toNat ≤ v_j88.toNat ∧ v_j88.toNat ≤ v_s86.length ∧ v_s86.length ≤ v_s86.length then
       if (0 ≤ (((v_i87.toNat + (v_s86.length - v_j88.toNat)) : Nat) : Int) ∧ (((v_i87.toNat + (v_s86.length - v_j88.toNat)) : Nat) : Int) ≤ (v_s86.length : Int) ∧ (v_s86.length : Int) ≤ ((delR v_s86 v_i87.toNat v_j88.toNat v_s86.length).length : Int)) then
        if ((v_i87.toNat + (v_s86.length - v_j88.toNat)) : Nat) ≤ v_s86.length ∧ v_s86.length ≤ (delR v_s86 v_i87.toNat v_j88.toNat v_s86.length).length then
         if (v_i87.toNat + (v_s86.length - v_j88.toNat)) ≤ (clrR (delR v_s86 v_i87.toNat v_j88.toNat v_s86.length) ((v_i87.toNat + (v_s86.length - v_j88.toNat)) : Nat) v_s86.length (S_reclaim_Item.mk 0 false false)).length then
          some ((clrR (delR v_s86 v_i87.toNat v_j88.toNat v_s86.length) ((v_i87.toNat + (v_s86.length - v_j88.toNat)) : Nat) v_s86.length (S_reclaim_Item.mk 0 false false)).take (v_i87.toNat + (v_s86.length - v_j88.toNat)))
         else none
        else none
       else none
      else none
     else none
    else none
  else none
theorem G_slices_Delete_reclaim_Item_reclaim_Item_h_ok (n : Nat) (v_s86 : (List S_reclaim_Item)) (v_i87 : Int) (v_j88 : Int) (r : (List S_reclaim_Item)) (h : G_slices_Delete_reclaim_Item_reclaim_Item_h n v_s86 v_i87 v_j88 = some r) : RetH Try.prog 123 [.srf 0, .d ((eI .i64) v_i87), .d ((eI .i64) v_j88)] [.row 95 3 (v_s86.map eS_reclaim_Item)] (.srf 1) [.none, .row 95 3 (r.map eS_reclaim_Item)] := by
  refine retH_run (n := 33) (fn := Try.f123) (c := bodyOf Try.f123) (by kernel_rfl) (by kernel_rfl) (by kernel_rfl) (by kernel_rfl) ?_
  have hF : KC 33 (FinH Try.prog Try.f123 [.row 95 3 (v_s86.map eS_reclaim_Item)] (.srf 1) [.none, .row 95 3 (r.map eS_reclaim_Item)]) := FinH.kc' (by kernel_rfl)
  unfold G_slices_Delete_reclaim_Item_reclaim_Item_h at h
  by_cases h112 : (0 ≤ v_i87 ∧ v_i87 ≤ v_j88 ∧ v_j88 ≤ (v_s86.length : Int) ∧ (v_s86.length : Int) ≤ (v_s86.length : Int))
  · rw [if_pos h112] at h
    by_cases h113 : v_i87 = v_j88
    · rw [if_pos h113] at h
      obtain rfl := Option.some.inj h
      exact pendH_sound TTok mix 13 (hs := [.u (.d (.v (.int .i64 (v_s86.length : Int)))), .e 20 [0] (dd) [], .t true, .dl 4, .mv 0]) [0, 38] (by kernel_rfl) (by kernel_rfl) (by kernel_rfl) (.cons (len_ob (f := eS_reclaim_Item) (l := v_s86)) (.cons (xs111 (P := Try.prog) (T := TT) (f := eS_reclaim_Item) (t := 91) (e := 95) (s := 3) (l := 0) (L := v_s86) (x := (.tmp 8)) (lo := (.tmp 9)) (hi := (.tmp 10)) (mx := (.tmp 12)) (a := v_i87) (ka := .i64) (b := v_j88) (kb := .i64) (c := (v_s86.length : Int)) (kc := .i64) (by kernel_rfl) h112) (.cons (bt h113) .nil)))
    · rw [if_neg h113] at h
      by_cases h114 : (0 ≤ v_i87 ∧ v_i87 ≤ (v_s86.length : Int))
      · rw [if_pos h114] at h
        by_cases h115 : (0 ≤ v_j88 ∧ v_j88 ≤ (v_s86.length : Int))
        · rw [if_pos h115] at h
          by_cases h116 : v_i87.toNat ≤ v_j88.toNat ∧ v_j88.toNat ≤ v_s86.length ∧ v_s86.length ≤ v_s86.length
          · rw [if_pos h116] at h
            by_cases h117 : (0 ≤ (((v_i87.toNat + (v_s86.length - v_j88.toNat)) : Nat) : Int) ∧ (((v_i87.toNat + (v_s86.length - v_j88.toNat)) : Nat) : Int) ≤ (v_s86.length : Int) ∧ (v_s86.length : Int) ≤ ((delR v_s86 v_i87.toNat v_j88.toNat v_s86.length).length : Int))
            · rw [if_pos h117] at h
              by_cases h118 : ((v_i87.toNat + (v_s86.length - v_j88.toNat)) : Nat) ≤ v_s86.length ∧ v_s86.length ≤ (delR v_s86 v_i87.toNat v_j88.toNat v_s86.length).length
              · rw [if_pos h118] at h
                by_cases h119 : (v_i87.toNat + (v_s86.length - v_j88.toNat)) ≤ (clrR (delR v_s86 v_i87.toNat v_j88.toNat v_s86.length) ((v_i87.toNat + (v_s86.length - v_j88.toNat)) : Nat) v_s86.length (S_reclaim_Item.mk 0 false false)).length
                · rw [if_pos h119] at h
                  obtain rfl := Option.some.inj h
                  exact pendH_sound TTok mix 18 (hs := [.u (.d (.v (.int .i64 (v_s86.length : Int)))), .e 20 [0] (dd) [], .t false, .u (.d (.v (.int .i64 (v_s86.length : Int)))), .e 47 [0] (.ssl 0 0 v_i87.toNat 3) [], .e 56 [0] (.ssl 0 v_j88.toNat v_s86.length 3) [], .e 59 [0] (.ssl 0 0 (v_i87.toNat + (v_s86.length - v_j88.toNat)) 3) [(0, .row 95 3 ((delR v_s86 v_i87.toNat v_j88.toNat v_s86.length).map eS_reclaim_Item))], .e 71 [] (.d (.v (.int .i64 (((v_i87.toNat + (v_s86.length - v_j88.toNat)) : Nat) : Int)))) [], .e 77 [0] (.ssl 0 ((v_i87.toNat + (v_s86.length - v_j88.toNat)) : Nat) v_s86.length 3) [], .e 80 [0] (dd) [(0, .row 95 3 ((clrR (delR v_s86 v_i87.toNat v_j88.toNat v_s86.length) ((v_i87.toNat + (v_s86.length - v_j88.toNat)) : Nat) v_s86.length (S_reclaim_Item.mk 0 false false)).map eS_reclaim_Item))], .e 83 [0, 83] (.srf 83) [(0, .none), (83, .row 95 3 (((clrR (delR v_s86 v_i87.toNat v_j88.toNat v_s86.length) ((v_i87.toNat + (v_s86.length - v_j88.toNat)) : Nat) v_s86.length (S_reclaim_Item.mk 0 false false)).take (v_i87.toNat + (v_s86.length - v_j88.toNat))).map eS_reclaim_Item))]]) [0, 83] (by kernel_rfl) (by kernel_rfl) (by kernel_rfl) (.cons (len_ob (f := eS_reclaim_Item) (l := v_s86)) (.cons (xs111 (P := Try.prog) (T := TT) (f := eS_reclaim_Item) (t := 91) (e := 95) (s := 3) (l := 0) (L := v_s86) (x := (.tmp 8)) (lo := (.tmp 9)) (hi := (.tmp 10)) (mx := (.tmp 12)) (a := v_i87) (ka := .i64) (b := v_j88) (kb := .i64) (c := (v_s86.length : Int)) (kc := .i64) (by kernel_rfl) h112) (.cons (bf h113) (.cons (len_ob (f := eS_reclaim_Item) (l := v_s86)) (.cons (xs01 (P := Try.prog) (T := TT) (f := eS_reclaim_Item) (t := 91) (e := 95) (s := 3) (l := 0) (L := v_s86) (x := (.tmp 20)) (hi := (.tmp 21)) (b := v_i87) (kb := .i64) (by kernel_rfl) h114) (.cons (xs10 (P := Try.prog) (T := TT) (f := eS_reclaim_Item) (t := 91) (e := 95) (s := 3) (l := 0) (L := v_s86) (x := (.tmp 23)) (lo := (.tmp 24)) (a := v_j88) (ka := .i64) (by kernel_rfl) h115) (.cons (xapp (ti := ⟨3, 16, .st [(0, 3), (1, 4), (2, 4)], [.i .i64, .b, .b]⟩) (P := Try.prog) (T := TT) (f := eS_reclaim_Item) (t := 91) (e := 95) (s := 3) (l := 0) (i := v_i87.toNat) (j := v_j88.toNat) (q := v_s86.length) (L := v_s86) (x := (.tmp 22)) (y := (.tmp 25)) (by kernel_rfl) (by kernel_rfl) h116) (.cons (xlen (P := Try.prog) (T := TT) (t := 91) (e := 95) (s := 3) (l := 0) (i := 0) (j := (v_i87.toNat + (v_s86.length - v_j88.toNat))) (x := (.tmp 28)) (by kernel_rfl)) (.cons (xt11 (P := Try.prog) (T := TT) (f := eS_reclaim_Item) (t := 91) (e := 95) (s := 3) (l := 0) (L := (delR v_s86 v_i87.toNat v_j88.toNat v_s86.length)) (x := (.tmp 27)) (lo := (.tmp 29)) (hi := (.tmp 30)) (a := (((v_i87.toNat + (v_s86.length - v_j88.toNat)) : Nat) : Int)) (ka := .i64) (b := (v_s86.length : Int)) (kb := .i64) (i := (v_i87.toNat + (v_s86.length - v_j88.toNat))) (by kernel_rfl) h117) (.cons (xclr (ti := ⟨3, 16, .st [(0, 3), (1, 4), (2, 4)], [.i .i64, .b, .b]⟩) (P := Try.prog) (T := TT) (f := eS_reclaim_Item) (t := 91) (e := 95) (s := 3) (l := 0) (i := ((v_i87.toNat + (v_s86.length - v_j88.toNat)) : Nat)) (j := v_s86.length) (z := (S_reclaim_Item.mk 0 false false)) (L := (delR v_s86 v_i87.toNat v_j88.toNat v_s86.length)) (x := (.tmp 31)) (p := .agg [.v (.int .i64 0), .v (.bool false), .v (.bool false)]) (by kernel_rfl) (by kernel_rfl) (by kernel_rfl) (by kernel_rfl) (by decide) rfl h118) (.cons (xmv (P := Try.prog) (T := TT) (f := eS_reclaim_Item) (e := 95) (s := 3) (l := 0) (nl := 83) (L := (clrR (delR v_s86 v_i87.toNat v_j88.toNat v_s86.length) ((v_i87.toNat + (v_s86.length - v_j88.toNat)) : Nat) v_s86.length (S_reclaim_Item.mk 0 false false))) (i := (v_i87.toNat + (v_s86.length - v_j88.toNat))) (x := (.tmp 0)) h119) .nil)))))))))))
                · rw [if_neg h119] at h; cases h
              · rw [if_neg h118] at h; cases h
            · rw [if_neg h117] at h; cases h
          · rw [if_neg h116] at h; cases h
        · rw [if_neg h115] at h; cases h
      · rw [if_neg h114] at h; cases h
  · rw [if_neg h112] at h; cases h
inductive G_reclaim_Next_C1_R where
  | x0 (v_x104 : Bool) (v_w105 : (List S_reclaim_Item))
def G_reclaim_Next_C1_ex : G_reclaim_Next_C1_R → Ex
  | .x0 _ _ => .normal
def G_reclaim_Next_C1_st (v_at71 : Int) (v_n72 : Int) (v_w73 : (List S_reclaim_Item)) : G_reclaim_Next_C1_R → PS
  | .x0 v_x104 v_w105 => ⟨[dd, dd, .ref 0 0, dd, dd, dd, dd, .srf 1, .d (.v (.int .i64 v_at71)), .d (.v (.int .i64 v_n72)), .ept 1 3 ((v_at71).toNat) 0, dd, dd, dd, dd, dd, dd, dd, dd, dd, dd, dd, dd, dd, dd, dd, dd, dd, dd, dd, dd, dd, dd, dd, dd, dd, dd, dd, dd, dd, dd, dd, dd, dd, .d (.v (.bool v_x104)), dd, dd, dd, dd, dd, dd, dd, dd, dd, dd, dd, dd, dd, dd, dd, dd, dd, dd, dd, dd, dd, dd, dd, dd, dd, dd, dd, dd, dd, dd, dd, dd, dd, dd, dd, dd], [.box [.d (vnil), .d (.v (.int .i64 0))], .row 95 3 (v_w105.map eS_reclaim_Item)]⟩
def G_reclaim_Next_C1_hd (v_at71 : Int) (v_n72 : Int) (v_w73 : (List S_reclaim_Item))  : PS := ⟨[dd, dd, .ref 0 0, dd, dd, dd, dd, .srf 1, .d (.v (.int .i64 v_at71)), .d (.v (.int .i64 v_n72)), .ept 1 3 ((v_at71).toNat) 0, dd, dd, dd, dd, dd, dd, dd, dd, dd, dd, dd, dd, dd, dd, dd, dd, dd, dd, dd, dd, dd, dd, dd, dd, dd, dd, dd, dd, dd, dd, dd, dd, dd, dd, dd, dd, dd, dd, dd, dd, dd, dd, dd, dd, dd, dd, dd, dd, dd, dd, dd, dd, dd, dd, dd, dd, dd, dd, dd, dd, dd, dd, dd, dd, dd, dd, dd, dd, dd, dd], [.box [.d (vnil), .d (.v (.int .i64 0))], .row 95 3 (v_w73.map eS_reclaim_Item)]⟩
def G_reclaim_Next_C1 (n : Nat) (v_at71 : Int) (v_n72 : Int) (v_w73 : (List S_reclaim_Item)) : Option G_reclaim_Next_C1_R :=
  (v_w73[(v_at71).toNat]?).bind fun (v_y102 : S_reclaim_Item) =>
  if v_y102.fPinned = true then
   some (.x0 false v_w73)
  else
   (v_w73[(v_at71).toNat]?).bind fun (v_y103 : S_reclaim_Item) =>
   some (.x0 (!v_y103.fUsed) v_w73)
theorem G_reclaim_Next_C1_ok {Fi : Ex → PS → Prop} (hF : KC 81 Fi) (ks : List Fr) (n : Nat) (v_at71 : Int) (v_n72 : Int) (v_w73 : (List S_reclaim_Item))  (o : G_reclaim_Next_C1_R) (h : G_reclaim_Next_C1 n v_at71 v_n72 v_w73 = some o) (q : RunE Try.prog 81 Fi ks (G_reclaim_Next_C1_ex o) (G_reclaim_Next_C1_st v_at71 v_n72 v_w73 o)) : RunE Try.prog 81 Fi (.s (cL (cL (cR (cB (cL (cP (cB (cR (cR (cR (cR (cR (bodyOf Try.f55))))))))))))) :: ks) .normal (G_reclaim_Next_C1_hd v_at71 v_n72 v_w73) := by
  unfold G_reclaim_Next_C1 at h
  obtain ⟨v_y102, h142, h⟩ := bind_some h
  by_cases h143 : v_y102.fPinned = true
  · rw [if_pos h143] at h
    cases h
    exact pkk_sound TTok mix hF 1 (hs := [.y (eS_reclaim_Item v_y102), .t false, .c, .c, .c, .c]) (ts := []) (s := [0, 1]) (l := [2, 7, 8, 9, 10, 44]) (by kernel_rfl) (by kernel_rfl) (.cons (get_ob (f := eS_reclaim_Item) h142) (.cons (bnf h143) .nil)) q
  · rw [if_neg h143] at h
    obtain ⟨v_y103, h144, h⟩ := bind_some h
    cases h
    exact pkk_sound TTok mix hF 1 (hs := [.y (eS_reclaim_Item v_y102), .t true, .c, .c, .c, .y (eS_reclaim_Item v_y103), .c]) (ts := []) (s := [0, 1]) (l := [2, 7, 8, 9, 10, 44]) (by kernel_rfl) (by kernel_rfl) (.cons (get_ob (f := eS_reclaim_Item) h142) (.cons (bnt (vf h143)) (.cons (get_ob (f := eS_reclaim_Item) h144) .nil))) q
inductive G_reclaim_Next_L2_R where
  | x0 (v_x115 : Int) (v_x116 : Int) (v_x117 : Int) (v_b118 : Int) (v_w119 : (List S_reclaim_Item))
def G_reclaim_Next_L2_ex : G_reclaim_Next_L2_R → Ex
  | .x0 _ _ _ _ _ => .ret
def G_reclaim_Next_L2_st  : G_reclaim_Next_L2_R → PS
  | .x0 v_x115 v_x116 v_x117 v_b118 v_w119 => ⟨[dd, dd, .ref 0 0, .d (.v (.int .i64 v_x115)), .d (.v (.int .i64 v_x116)), .d (.v (.int .i64 v_x117)), dd, dd, dd, dd, dd, dd, dd, dd, dd, dd, dd, dd, dd, dd, dd, dd, dd, dd, dd, dd, dd, dd, dd, dd, dd, dd, dd, dd, dd, dd, dd, dd, dd, dd, dd, dd, dd, dd, dd, dd, dd, dd, dd, dd, dd, dd, dd, dd, dd, dd, dd, dd, dd, dd, dd, dd, dd, dd, dd, dd, dd, dd, dd, dd, dd, dd, dd, dd, dd, dd, dd, dd, dd, dd, dd], [.box [.srf 1, .d (.v (.int .i64 v_b118))], .row 95 3 (v_w119.map eS_reclaim_Item)]⟩
def G_reclaim_Next_L2_hd  (v_at71 : Int) (v_n72 : Int) (v_w73 : (List S_reclaim_Item)) : PS := ⟨[dd, dd, .ref 0 0, dd, dd, dd, dd, .srf 1, .d (.v (.int .i64 v_at71)), .d (.v (.int .i64 v_n72)), dd, dd, dd, dd, dd, dd, dd, dd, dd, dd, dd, dd, dd, dd, dd, dd, dd, dd, dd, dd, dd, dd, dd, dd, dd, dd, dd, dd, dd, dd, dd, dd, dd, dd, dd, dd, dd, dd, dd, dd, dd, dd, dd, dd, dd, dd, dd, dd, dd, dd, dd, dd, dd, dd, dd, dd, dd, dd, dd, dd, dd, dd, dd, dd, dd, dd, dd, dd, dd, dd, dd], [.box [.d (vnil), .d (.v (.int .i64 0))], .row 95 3 (v_w73.map eS_reclaim_Item)]⟩
def G_reclaim_Next_L2 (n : Nat)  : Nat → Int → Int → (List S_reclaim_Item) → Option G_reclaim_Next_L2_R
  | 0, _, _, _ => none
  | k + 1, v_at71, v_n72, v_w73 =>
    if 0 ≤ v_at71 ∧ (v_at71).toNat < v_w73.length then
     (G_reclaim_Next_C1 n v_at71 v_n72 v_w73).bind fun v_o108 => match v_o108 with
     | .x0 v_z109 v_z110 =>
       if v_z109 = true then
        (v_z110[(v_at71).toNat]?).bind fun (v_y113 : S_reclaim_Item) =>
        (G_slices_Delete_reclaim_Item_reclaim_Item_h n v_z110 v_at71 (wi .i64 (v_at71 + 1))).bind fun (v_r114 : ((List S_reclaim_Item))) =>
        if (maxI 1 (v_r114.length : Int)) ≠ 0 then
         some (.x0 v_y113.fId v_n72 0 (remI v_at71 (maxI 1 (v_r114.length : Int))) v_r114)
        else none
       else
        (v_z110[(v_at71).toNat]?).bind fun (v_y124 : S_reclaim_Item) =>
        if v_y124.fUsed = true then
         (v_z110[(v_at71).toNat]?).bind fun (v_y125 : S_reclaim_Item) =>
         (v_z110[(v_at71).toNat]?).bind fun (v_y126 : S_reclaim_Item) =>
         if ((v_z110.set (v_at71).toNat (S_reclaim_Item.mk v_y126.fId v_y125.fPinned v_y126.fPinned)).length : Int) ≠ 0 then
          G_reclaim_Next_L2 n  k (remI (wi .i64 (v_at71 + 1)) ((v_z110.set (v_at71).toNat (S_reclaim_Item.mk v_y126.fId v_y125.fPinned v_y126.fPinned)).length : Int)) (wi .i64 (v_n72 + 1)) (v_z110.set (v_at71).toNat (S_reclaim_Item.mk v_y126.fId v_y125.fPinned v_y126.fPinned))
         else none
        else
         (v_z110[(v_at71).toNat]?).bind fun (v_y127 : S_reclaim_Item) =>
         if ((v_z110.set (v_at71).toNat (S_reclaim_Item.mk v_y127.fId false v_y127.fPinned)).length : Int) ≠ 0 then
          G_reclaim_Next_L2 n  k (remI (wi .i64 (v_at71 + 1)) ((v_z110.set (v_at71).toNat (S_reclaim_Item.mk v_y127.fId false v_y127.fPinned)).length : Int)) (wi .i64 (v_n72 + 1)) (v_z110.set (v_at71).toNat (S_reclaim_Item.mk v_y127.fId false v_y127.fPinned))
         else none
    else none
theorem G_reclaim_Next_L2_ok {Fi : Ex → PS → Prop} (hF : KC 81 Fi) (ks : List Fr) (n : Nat)   : ∀ (k : Nat) (v_at71 : Int) (v_n72 : Int) (v_w73 : (List S_reclaim_Item)) (o : G_reclaim_Next_L2_R), G_reclaim_Next_L2 n  k v_at71 v_n72 v_w73 = some o → RunE Try.prog 81 Fi ks (G_reclaim_Next_L2_ex o) (G_reclaim_Next_L2_st  o) → RunE Try.prog 81 Fi (.l k (cP (cB (cR (cR (cR (cR (cR (bodyOf Try.f55)))))))) :: ks) .normal (G_reclaim_Next_L2_hd  v_at71 v_n72 v_w73)
  | 0, v_at71, v_n72, v_w73, o, h, q => by rw [G_reclaim_Next_L2] at h; cases h
  | k + 1, v_at71, v_n72, v_w73, o, h, q => by
    rw [G_reclaim_Next_L2] at h
    by_cases h138 : 0 ≤ v_at71 ∧ (v_at71).toNat < v_w73.length
    · rw [if_pos h138] at h
      obtain ⟨v_o108, h145, h⟩ := bind_some h
      refine pkk_sound TTok mix hF 7 (hs := []) (ts := []) (s := [0, 1]) (l := [2, 7, 8, 9, 10]) (by kernel_rfl) (by kernel_rfl) (.cons (idx_ob (f := eS_reclaim_Item) h138) .nil) (G_reclaim_Next_C1_ok hF (.s (cR (cL (cR (cB (cL (cP (cB (cR (cR (cR (cR (cR (bodyOf Try.f55))))))))))))) :: .s (cR (cR (cB (cL (cP (cB (cR (cR (cR (cR (cR (bodyOf Try.f55)))))))))))) :: .b 1 :: .s (cR (cP (cB (cR (cR (cR (cR (cR (bodyOf Try.f55))))))))) :: .l k (cP (cB (cR (cR (cR (cR (cR (bodyOf Try.f55)))))))) :: ks) n v_at71 v_n72 v_w73 _ h145 ?_)
      cases v_o108 with
      | x0 v_z109 v_z110 =>
        dsimp only at h
        by_cases h150 : v_z109 = true
        · rw [if_pos h150] at h
          obtain ⟨v_y113, h151, h⟩ := bind_some h
          obtain ⟨v_r114, h152, h⟩ := bind_some h
          by_cases h153 : (maxI 1 (v_r114.length : Int)) ≠ 0
          · rw [if_pos h153] at h
            cases h
            exact pkk_sound TTok mix hF 12 (hs := [.t true, .y (eS_reclaim_Item v_y113), .h [1] [] [.none, .row 95 3 (v_r114.map eS_reclaim_Item)] (.srf 1), .u (.d (.v (.int .i64 (v_r114.length : Int)))), .c]) (ts := []) (s := [0, 29]) (l := [2, 3, 4, 5]) (by kernel_rfl) (by kernel_rfl) (.cons h150 (.cons (get_ob (f := eS_reclaim_Item) h151) (.cons (G_slices_Delete_reclaim_Item_reclaim_Item_h_ok n v_z110 v_at71 (wi .i64 (v_at71 + 1)) _ h152) (.cons (len_ob (f := eS_reclaim_Item) (l := v_r114)) (.cons h153 (.cons (show 0 + 2 ≤ 2 by decide) .nil)))))) q
          · rw [if_neg h153] at h; cases h
        · rw [if_neg h150] at h
          obtain ⟨v_y124, h159, h⟩ := bind_some h
          by_cases h160 : v_y124.fUsed = true
          · rw [if_pos h160] at h
            obtain ⟨v_y125, h161, h⟩ := bind_some h
            obtain ⟨v_y126, h162, h⟩ := bind_some h
            by_cases h163 : ((v_z110.set (v_at71).toNat (S_reclaim_Item.mk v_y126.fId v_y125.fPinned v_y126.fPinned)).length : Int) ≠ 0
            · rw [if_pos h163] at h
              exact pkk_sound TTok mix hF 7 (hs := [.t false, .y (eS_reclaim_Item v_y124), .t true, .c, .c, .c, .y (eS_reclaim_Item v_y125), .w ((v_z110.set (v_at71).toNat (S_reclaim_Item.mk v_y126.fId v_y125.fPinned v_y126.fPinned)).map eS_reclaim_Item), .y (eS_reclaim_Item v_y126), .u (.d (.v (.int .i64 ((v_z110.set (v_at71).toNat (S_reclaim_Item.mk v_y126.fId v_y125.fPinned v_y126.fPinned)).length : Int))))]) (ts := []) (s := [0, 1]) (l := [2, 7, 8, 9]) (by kernel_rfl) (by kernel_rfl) (.cons (vf h150) (.cons (get_ob (f := eS_reclaim_Item) h159) (.cons h160 (.cons (get_ob (f := eS_reclaim_Item) h161) (.cons (get_ob (f := eS_reclaim_Item) h162) (.cons (Eq.refl (pcells (.agg [.v (.int .i64 v_y126.fId), .v (.bool v_y125.fPinned), .v (.bool v_y126.fPinned)]))) (.cons (set_ob (f := eS_reclaim_Item) (l := v_z110) (k := (v_at71).toNat) (z := (S_reclaim_Item.mk v_y126.fId v_y125.fPinned v_y126.fPinned)) (p := .agg [.v (.int .i64 v_y126.fId), .v (.bool v_y125.fPinned), .v (.bool v_y126.fPinned)]) rfl) (.cons (len_ob (f := eS_reclaim_Item) (l := (v_z110.set (v_at71).toNat (S_reclaim_Item.mk v_y126.fId v_y125.fPinned v_y126.fPinned)))) (.cons h163 .nil))))))))) (G_reclaim_Next_L2_ok hF ks n  k (remI (wi .i64 (v_at71 + 1)) ((v_z110.set (v_at71).toNat (S_reclaim_Item.mk v_y126.fId v_y125.fPinned v_y126.fPinned)).length : Int)) (wi .i64 (v_n72 + 1)) (v_z110.set (v_at71).toNat (S_reclaim_Item.mk v_y126.fId v_y125.fPinned v_y126.fPinned)) _ h q)
            · rw [if_neg h163] at h; cases h
          · rw [if_neg h160] at h
            obtain ⟨v_y127, h164, h⟩ := bind_some h
            by_cases h165 : ((v_z110.set (v_at71).toNat (S_reclaim_Item.mk v_y127.fId false v_y127.fPinned)).length : Int) ≠ 0
            · rw [if_pos h165] at h
              exact pkk_sound TTok mix hF 7 (hs := [.t false, .y (eS_reclaim_Item v_y124), .t false, .c, .c, .c, .w ((v_z110.set (v_at71).toNat (S_reclaim_Item.mk v_y127.fId false v_y127.fPinned)).map eS_reclaim_Item), .y (eS_reclaim_Item v_y127), .u (.d (.v (.int .i64 ((v_z110.set (v_at71).toNat (S_reclaim_Item.mk v_y127.fId false v_y127.fPinned)).length : Int))))]) (ts := []) (s := [0, 1]) (l := [2, 7, 8, 9]) (by kernel_rfl) (by kernel_rfl) (.cons (vf h150) (.cons (get_ob (f := eS_reclaim_Item) h159) (.cons (vf h160) (.cons (get_ob (f := eS_reclaim_Item) h164) (.cons (Eq.refl (pcells (.agg [.v (.int .i64 v_y127.fId), .v (.bool false), .v (.bool v_y127.fPinned)]))) (.cons (set_ob (f := eS_reclaim_Item) (l := v_z110) (k := (v_at71).toNat) (z := (S_reclaim_Item.mk v_y127.fId false v_y127.fPinned)) (p := .agg [.v (.int .i64 v_y127.fId), .v (.bool false), .v (.bool v_y127.fPinned)]) rfl) (.cons (len_ob (f := eS_reclaim_Item) (l := (v_z110.set (v_at71).toNat (S_reclaim_Item.mk v_y127.fId false v_y127.fPinned)))) (.cons h165 .nil)))))))) (G_reclaim_Next_L2_ok hF ks n  k (remI (wi .i64 (v_at71 + 1)) ((v_z110.set (v_at71).toNat (S_reclaim_Item.mk v_y127.fId false v_y127.fPinned)).length : Int)) (wi .i64 (v_n72 + 1)) (v_z110.set (v_at71).toNat (S_reclaim_Item.mk v_y127.fId false v_y127.fPinned)) _ h q)
            · rw [if_neg h165] at h; cases h
    · rw [if_neg h138] at h; cases h
/- ringhall/reclaim.Next -/
def G_reclaim_Next (n : Nat) (v_c63 : S_reclaim_Clock) : Option (S_reclaim_Clock × Int × Int × Int) :=
  (G_reclaim_Check n v_c63).bind fun (v_r64 : (Int)) =>
  if v_r64 = 0 then
   (G_slices_ContainsFunc_reclaim_Item_reclaim_Item n v_c63.fItems (fun (y0 : S_reclaim_Item) => G_reclaim_Next_1 n y0)).bind fun (v_r69 : (Bool)) =>
   if v_r69 = true then
    (G_slices_Clone_reclaim_Item_reclaim_Item n v_c63.fItems).bind fun (v_r70 : ((List S_reclaim_Item))) =>
    (G_reclaim_Next_L2 n  n v_c63.fHand 1 v_r70).bind fun v_o128 => match v_o128 with
    | .x0 v_z129 v_z130 v_z131 v_z132 v_z133 =>
      some ((S_reclaim_Clock.mk v_z133 v_z132), v_z129, v_z130, v_z131)
   else
    some ((S_reclaim_Clock.mk ([] : (List S_reclaim_Item)) 0), 0, 0, 6)
  else
   some ((S_reclaim_Clock.mk ([] : (List S_reclaim_Item)) 0), 0, 0, v_r64)
theorem G_reclaim_Next_ok (n : Nat) (v_c63 : S_reclaim_Clock) (r : S_reclaim_Clock × Int × Int × Int) (h : G_reclaim_Next n v_c63 = some r) : Ret Try.prog 55 [eS_reclaim_Clock v_c63] (.tup [eS_reclaim_Clock r.1, (eI .i64) r.2.1, (eI .i64) r.2.2.1, (eI .i64) r.2.2.2]) := by
  refine ret_run (n := 81) (fn := Try.f55) (c := bodyOf Try.f55) (by kernel_rfl) (by kernel_rfl) (by kernel_rfl) (by kernel_rfl) ?_
  have hF : KC 81 (FinR Try.prog Try.f55 (.tup [eS_reclaim_Clock r.1, (eI .i64) r.2.1, (eI .i64) r.2.2.1, (eI .i64) r.2.2.2])) := FinR.kc' (by kernel_rfl)
  unfold G_reclaim_Next at h
  obtain ⟨v_r64, h94, h⟩ := bind_some h
  by_cases h96 : v_r64 = 0
  · rw [if_pos h96] at h
    obtain ⟨v_r69, h98, h⟩ := bind_some h
    by_cases h100 : v_r69 = true
    · rw [if_pos h100] at h
      obtain ⟨v_r70, h101, h⟩ := bind_some h
      obtain ⟨v_o128, h166, h⟩ := bind_some h
      refine pkk_sound TTok mix hF 20 (hs := [.c, .r ((eI .i64) v_r64), .t false, .c, .r (eB v_r69), .t false, .c, .h [] [] [.row 95 3 (v_r70.map eS_reclaim_Item)] (.srf 0), .c, .n n]) (ts := []) (s := [3, 48]) (l := [2, 7, 8, 9]) (by kernel_rfl) (by kernel_rfl) (.cons (G_reclaim_Check_ok n v_c63 _ h94) (.cons (nf h96) (.cons (G_slices_ContainsFunc_reclaim_Item_reclaim_Item_ok n v_c63.fItems (fun (y0 : S_reclaim_Item) => G_reclaim_Next_1 n y0) 122 [] (fun y0 r h => G_reclaim_Next_1_ok n y0 r h) _ h98) (.cons (bnf h100) (.cons (G_slices_Clone_reclaim_Item_reclaim_Item_ok n v_c63.fItems _ h101) .nil))))) (G_reclaim_Next_L2_ok hF (.b 0 :: []) n  n v_c63.fHand 1 v_r70 _ h166 ?_)
      cases v_o128 with
      | x0 v_z129 v_z130 v_z131 v_z132 v_z133 =>
        dsimp only at h
        obtain rfl := Option.some.inj h
        exact pend_sound TTok mix 1 (hs := []) (by kernel_rfl) (by kernel_rfl) (by kernel_rfl) .nil
    · rw [if_neg h100] at h
      obtain rfl := Option.some.inj h
      exact pend_sound TTok mix 17 (hs := [.c, .r ((eI .i64) v_r64), .t false, .c, .r (eB v_r69), .t true, .c]) (by kernel_rfl) (by kernel_rfl) (by kernel_rfl) (.cons (G_reclaim_Check_ok n v_c63 _ h94) (.cons (nf h96) (.cons (G_slices_ContainsFunc_reclaim_Item_reclaim_Item_ok n v_c63.fItems (fun (y0 : S_reclaim_Item) => G_reclaim_Next_1 n y0) 122 [] (fun y0 r h => G_reclaim_Next_1_ok n y0 r h) _ h98) (.cons (bnt (vf h100)) (.cons (show 0 + 2 ≤ 2 by decide) .nil)))))
  · rw [if_neg h96] at h
    obtain rfl := Option.some.inj h
    exact pend_sound TTok mix 12 (hs := [.c, .r ((eI .i64) v_r64), .t true, .c]) (by kernel_rfl) (by kernel_rfl) (by kernel_rfl) (.cons (G_reclaim_Check_ok n v_c63 _ h94) (.cons (nt h96) (.cons (show 0 + 2 ≤ 2 by decide) .nil)))
inductive G_ringref2_ItemAt_L1_R where
  | x0 (v_x148 : Int)
  | x1 
def G_ringref2_ItemAt_L1_ex : G_ringref2_ItemAt_L1_R → Ex
  | .x0 _ => .ret
  | .x1  => .exit 0
def G_ringref2_ItemAt_L1_st (v_id144 : Int) (v_c143 : S_reclaim_Clock) : G_ringref2_ItemAt_L1_R → PS
  | .x0 v_x148 => ⟨[dd, dd, dd, dd, .d (.v (.int .i64 v_x148)), dd, dd, dd, dd, dd, dd, dd, dd, dd, dd, dd, dd, dd, dd, dd, dd], []⟩
  | .x1  => ⟨[dd, dd, dd, dd, dd, dd, dd, dd, dd, dd, dd, dd, dd, dd, dd, dd, dd, dd, dd, dd, dd], []⟩
def G_ringref2_ItemAt_L1_hd (v_id144 : Int) (v_c143 : S_reclaim_Clock) (v_x145 : Int) : PS := ⟨[dd, .d (.v (.int .i64 v_id144)), dd, dd, dd, dd, dd, dd, .d (.sl (v_c143.fItems.map eS_reclaim_Item)), .d (.v (.int .i64 (v_c143.fItems.length : Int))), .d (.v (.int .i64 v_x145)), dd, dd, dd, dd, dd, dd, dd, dd, dd, dd], []⟩
def G_ringref2_ItemAt_L1 (n : Nat) (v_id144 : Int) (v_c143 : S_reclaim_Clock) : Nat → Int → Option G_ringref2_ItemAt_L1_R
  | 0, _ => none
  | k + 1, v_x145 =>
    if v_x145 < (v_c143.fItems.length : Int) then
     (getI v_c143.fItems v_x145).bind fun (v_y147 : S_reclaim_Item) =>
     if v_y147.fId = v_id144 then
      some (.x0 v_x145)
     else
      G_ringref2_ItemAt_L1 n v_id144 v_c143 k (wi .i64 (v_x145 + 1))
    else
     some (.x1 )
theorem G_ringref2_ItemAt_L1_ok {Fi : Ex → PS → Prop} (hF : KC 21 Fi) (ks : List Fr) (n : Nat) (v_id144 : Int) (v_c143 : S_reclaim_Clock)  : ∀ (k : Nat) (v_x145 : Int) (o : G_ringref2_ItemAt_L1_R), G_ringref2_ItemAt_L1 n v_id144 v_c143 k v_x145 = some o → RunE Try.prog 21 Fi ks (G_ringref2_ItemAt_L1_ex o) (G_ringref2_ItemAt_L1_st v_id144 v_c143 o) → RunE Try.prog 21 Fi (.l k (cP (cB (cR (cL (cR (bodyOf Try.f59)))))) :: ks) .normal (G_ringref2_ItemAt_L1_hd v_id144 v_c143 v_x145)
  | 0, v_x145, o, h, q => by rw [G_ringref2_ItemAt_L1] at h; cases h
  | k + 1, v_x145, o, h, q => by
    rw [G_ringref2_ItemAt_L1] at h
    by_cases h177 : v_x145 < (v_c143.fItems.length : Int)
    · rw [if_pos h177] at h
      obtain ⟨v_y147, h180, h⟩ := bind_some h
      by_cases h181 : v_y147.fId = v_id144
      · rw [if_pos h181] at h
        cases h
        exact pkk_sound TTok mix hF 19 (hs := [.t true, .y (eS_reclaim_Item v_y147), .c, .c, .t true]) (ts := []) (s := []) (l := [4]) (by kernel_rfl) (by kernel_rfl) (.cons (dt h177) (.cons (getI_ob (f := eS_reclaim_Item) h180) (.cons (show 0 + 3 ≤ 3 by decide) (.cons (bt h181) .nil)))) q
      · rw [if_neg h181] at h
        exact pkk_sound TTok mix hF 16 (hs := [.t true, .y (eS_reclaim_Item v_y147), .c, .c, .t false]) (ts := []) (s := []) (l := [1, 8, 9, 10]) (by kernel_rfl) (by kernel_rfl) (.cons (dt h177) (.cons (getI_ob (f := eS_reclaim_Item) h180) (.cons (show 0 + 3 ≤ 3 by decide) (.cons (bf h181) .nil)))) (G_ringref2_ItemAt_L1_ok hF ks n v_id144 v_c143 k (wi .i64 (v_x145 + 1)) _ h q)
    · rw [if_neg h177] at h
      cases h
      exact pkk_sound TTok mix hF 8 (hs := [.t false]) (ts := []) (s := []) (l := []) (by kernel_rfl) (by kernel_rfl) (.cons (df h177) .nil) q
/- ringhall/ringref2.ItemAt -/
def G_ringref2_ItemAt (n : Nat) (v_c143 : S_reclaim_Clock) (v_id144 : Int) : Option (Int) :=
  (G_ringref2_ItemAt_L1 n v_id144 v_c143 n 0).bind fun v_o149 => match v_o149 with
  | .x0 v_z150 =>
    some v_z150
  | .x1  =>
    some (-1)
theorem G_ringref2_ItemAt_ok (n : Nat) (v_c143 : S_reclaim_Clock) (v_id144 : Int) (r : Int) (h : G_ringref2_ItemAt n v_c143 v_id144 = some r) : Ret Try.prog 59 [eS_reclaim_Clock v_c143, (eI .i64) v_id144] ((eI .i64) r) := by
  refine ret_run (n := 21) (fn := Try.f59) (c := bodyOf Try.f59) (by kernel_rfl) (by kernel_rfl) (by kernel_rfl) (by kernel_rfl) ?_
  have hF : KC 21 (FinR Try.prog Try.f59 ((eI .i64) r)) := FinR.kc' (by kernel_rfl)
  unfold G_ringref2_ItemAt at h
  obtain ⟨v_o149, h182, h⟩ := bind_some h
  refine pkk_sound TTok mix hF 7 (hs := [.c, .u (.d (.v (.int .i64 (v_c143.fItems.length : Int)))), .n n]) (ts := []) (s := []) (l := [1, 8, 9, 10]) (by kernel_rfl) (by kernel_rfl) (.cons (len_ob (f := eS_reclaim_Item) (l := v_c143.fItems)) .nil) (G_ringref2_ItemAt_L1_ok hF (.b 0 :: .s (cR (cR (bodyOf Try.f59))) :: []) n v_id144 v_c143 n 0 _ h182 ?_)
  cases v_o149 with
  | x0 v_z150 =>
    dsimp only at h
    obtain rfl := Option.some.inj h
    exact pend_sound TTok mix 2 (hs := []) (by kernel_rfl) (by kernel_rfl) (by kernel_rfl) .nil
  | x1  =>
    dsimp only at h
    obtain rfl := Option.some.inj h
    exact pend_sound TTok mix 4 (hs := []) (by kernel_rfl) (by kernel_rfl) (by kernel_rfl) .nil
inductive G_ringref2_Clocks_C1_R where
  | x0 (v_x136 : Bool)
def G_ringref2_Clocks_C1_ex : G_ringref2_Clocks_C1_R → Ex
  | .x0 _ => .normal
def G_ringref2_Clocks_C1_st (v_c135 : S_reclaim_Clock) : G_ringref2_Clocks_C1_R → PS
  | .x0 v_x136 => ⟨[dd, .ref 0 0, dd, dd, dd, dd, dd, dd, dd, dd, dd, dd, dd, dd, dd, dd, dd, dd, dd, dd, dd, dd, dd, dd, .d (.v (.bool v_x136)), dd, dd, dd, dd, dd, dd, dd, dd, dd, dd, dd, dd, dd, dd, dd], [.box [.d (.sl (v_c135.fItems.map eS_reclaim_Item)), .d (.v (.int .i64 v_c135.fHand))]]⟩
def G_ringref2_Clocks_C1_hd (v_c135 : S_reclaim_Clock)  : PS := ⟨[dd, .ref 0 0, dd, dd, dd, dd, dd, dd, dd, dd, dd, dd, dd, dd, dd, dd, dd, dd, dd, dd, dd, dd, dd, dd, dd, dd, dd, dd, dd, dd, dd, dd, dd, dd, dd, dd, dd, dd, dd, dd], [.box [.d (.sl (v_c135.fItems.map eS_reclaim_Item)), .d (.v (.int .i64 v_c135.fHand))]]⟩
def G_ringref2_Clocks_C1 (n : Nat) (v_c135 : S_reclaim_Clock) : Option G_ringref2_Clocks_C1_R :=
  if v_c135.fHand < 0 then
   some (.x0 true)
  else
   if v_c135.fHand = 0 then
    some (.x0 false)
   else
    some (.x0 (decide (v_c135.fHand ≥ (v_c135.fItems.length : Int))))
theorem G_ringref2_Clocks_C1_ok {Fi : Ex → PS → Prop} (hF : KC 40 Fi) (ks : List Fr) (n : Nat) (v_c135 : S_reclaim_Clock)  (o : G_ringref2_Clocks_C1_R) (h : G_ringref2_Clocks_C1 n v_c135 = some o) (q : RunE Try.prog 40 Fi ks (G_ringref2_Clocks_C1_ex o) (G_ringref2_Clocks_C1_st v_c135 o)) : RunE Try.prog 40 Fi (.s (cL (cL (cR (cR (bodyOf Try.f56))))) :: ks) .normal (G_ringref2_Clocks_C1_hd v_c135) := by
  unfold G_ringref2_Clocks_C1 at h
  by_cases h171 : v_c135.fHand < 0
  · rw [if_pos h171] at h
    cases h
    exact pkk_sound TTok mix hF 1 (hs := [.c, .t true, .c, .c, .c, .c]) (ts := []) (s := [0]) (l := [1, 24]) (by kernel_rfl) (by kernel_rfl) (.cons (dt h171) .nil) q
  · rw [if_neg h171] at h
    by_cases h172 : v_c135.fHand = 0
    · rw [if_pos h172] at h
      cases h
      exact pkk_sound TTok mix hF 1 (hs := [.c, .t false, .c, .c, .c, .c, .t false, .c, .c, .c, .c, .c, .c]) (ts := []) (s := [0]) (l := [1, 24]) (by kernel_rfl) (by kernel_rfl) (.cons (df h171) (.cons (nf h172) .nil)) q
    · rw [if_neg h172] at h
      cases h
      exact pkk_sound TTok mix hF 1 (hs := [.c, .t false, .c, .c, .c, .c, .t true, .c, .c, .c, .c, .c, .c, .u (.d (.v (.int .i64 (v_c135.fItems.length : Int)))), .c, .c]) (ts := []) (s := [0]) (l := [1, 24]) (by kernel_rfl) (by kernel_rfl) (.cons (df h171) (.cons (nt h172) (.cons (len_ob (f := eS_reclaim_Item) (l := v_c135.fItems)) .nil))) q
inductive G_ringref2_Clocks_L2_R where
  | x0 (v_x154 : Int)
  | x1 
def G_ringref2_Clocks_L2_ex : G_ringref2_Clocks_L2_R → Ex
  | .x0 _ => .ret
  | .x1  => .exit 0
def G_ringref2_Clocks_L2_st (v_c135 : S_reclaim_Clock) : G_ringref2_Clocks_L2_R → PS
  | .x0 v_x154 => ⟨[dd, dd, .d (.v (.int .i64 v_x154)), dd, dd, dd, dd, dd, dd, dd, dd, dd, dd, dd, dd, dd, dd, dd, dd, dd, dd, dd, dd, dd, dd, dd, dd, dd, dd, dd, dd, dd, dd, dd, dd, dd, dd, dd, dd, dd], []⟩
  | .x1  => ⟨[dd, dd, dd, dd, dd, dd, dd, dd, dd, dd, dd, dd, dd, dd, dd, dd, dd, dd, dd, dd, dd, dd, dd, dd, dd, dd, dd, dd, dd, dd, dd, dd, dd, dd, dd, dd, dd, dd, dd, dd], []⟩
def G_ringref2_Clocks_L2_hd (v_c135 : S_reclaim_Clock) (v_x141 : Int) : PS := ⟨[dd, .ref 0 0, dd, dd, dd, dd, dd, dd, dd, dd, dd, dd, dd, dd, dd, dd, dd, dd, dd, dd, dd, dd, dd, dd, dd, dd, .d (.sl (v_c135.fItems.map eS_reclaim_Item)), .d (.v (.int .i64 (v_c135.fItems.length : Int))), .d (.v (.int .i64 v_x141)), dd, dd, dd, dd, dd, dd, dd, dd, dd, dd, dd], [.box [.d (.sl (v_c135.fItems.map eS_reclaim_Item)), .d (.v (.int .i64 v_c135.fHand))]]⟩
def G_ringref2_Clocks_L2 (n : Nat) (v_c135 : S_reclaim_Clock) : Nat → Int → Option G_ringref2_Clocks_L2_R
  | 0, _ => none
  | k + 1, v_x141 =>
    if v_x141 < (v_c135.fItems.length : Int) then
     (getI v_c135.fItems v_x141).bind fun (v_y152 : S_reclaim_Item) =>
     (G_ringref2_ItemAt n v_c135 v_y152.fId).bind fun (v_r153 : (Int)) =>
     if v_r153 = v_x141 then
      G_ringref2_Clocks_L2 n v_c135 k (wi .i64 (v_x141 + 1))
     else
      some (.x0 5)
    else
     some (.x1 )
theorem G_ringref2_Clocks_L2_ok {Fi : Ex → PS → Prop} (hF : KC 40 Fi) (ks : List Fr) (n : Nat) (v_c135 : S_reclaim_Clock)  : ∀ (k : Nat) (v_x141 : Int) (o : G_ringref2_Clocks_L2_R), G_ringref2_Clocks_L2 n v_c135 k v_x141 = some o → RunE Try.prog 40 Fi ks (G_ringref2_Clocks_L2_ex o) (G_ringref2_Clocks_L2_st v_c135 o) → RunE Try.prog 40 Fi (.l k (cP (cB (cR (cL (cR (cR (cR (bodyOf Try.f56)))))))) :: ks) .normal (G_ringref2_Clocks_L2_hd v_c135 v_x141)
  | 0, v_x141, o, h, q => by rw [G_ringref2_Clocks_L2] at h; cases h
  | k + 1, v_x141, o, h, q => by
    rw [G_ringref2_Clocks_L2] at h
    by_cases h175 : v_x141 < (v_c135.fItems.length : Int)
    · rw [if_pos h175] at h
      obtain ⟨v_y152, h185, h⟩ := bind_some h
      obtain ⟨v_r153, h186, h⟩ := bind_some h
      by_cases h187 : v_r153 = v_x141
      · rw [if_pos h187] at h
        exact pkk_sound TTok mix hF 16 (hs := [.t true, .y (eS_reclaim_Item v_y152), .c, .c, .c, .r ((eI .i64) v_r153), .t false]) (ts := []) (s := [0]) (l := [1, 26, 27, 28]) (by kernel_rfl) (by kernel_rfl) (.cons (dt h175) (.cons (getI_ob (f := eS_reclaim_Item) h185) (.cons (show 0 + 3 ≤ 3 by decide) (.cons (G_ringref2_ItemAt_ok n v_c135 v_y152.fId _ h186) (.cons (nf h187) .nil))))) (G_ringref2_Clocks_L2_ok hF ks n v_c135 k (wi .i64 (v_x141 + 1)) _ h q)
      · rw [if_neg h187] at h
        cases h
        exact pkk_sound TTok mix hF 19 (hs := [.t true, .y (eS_reclaim_Item v_y152), .c, .c, .c, .r ((eI .i64) v_r153), .t true]) (ts := []) (s := []) (l := [2]) (by kernel_rfl) (by kernel_rfl) (.cons (dt h175) (.cons (getI_ob (f := eS_reclaim_Item) h185) (.cons (show 0 + 3 ≤ 3 by decide) (.cons (G_ringref2_ItemAt_ok n v_c135 v_y152.fId _ h186) (.cons (nt h187) .nil))))) q
    · rw [if_neg h175] at h
      cases h
      exact pkk_sound TTok mix hF 8 (hs := [.t false]) (ts := []) (s := []) (l := []) (by kernel_rfl) (by kernel_rfl) (.cons (df h175) .nil) q
/- ringhall/ringref2.Clocks -/
def G_ringref2_Clocks (n : Nat) (v_c135 : S_reclaim_Clock) : Option (Int) :=
  if (v_c135.fItems.length : Int) > 64 then
   some 2
  else
   (G_ringref2_Clocks_C1 n v_c135).bind fun v_o139 => match v_o139 with
   | .x0 v_z140 =>
     if v_z140 = true then
      some 1
     else
      (G_ringref2_Clocks_L2 n v_c135 n 0).bind fun v_o155 => match v_o155 with
      | .x0 v_z156 =>
        some v_z156
      | .x1  =>
        some 0
theorem G_ringref2_Clocks_ok (n : Nat) (v_c135 : S_reclaim_Clock) (r : Int) (h : G_ringref2_Clocks n v_c135 = some r) : Ret Try.prog 56 [eS_reclaim_Clock v_c135] ((eI .i64) r) := by
  refine ret_run (n := 40) (fn := Try.f56) (c := bodyOf Try.f56) (by kernel_rfl) (by kernel_rfl) (by kernel_rfl) (by kernel_rfl) ?_
  have hF : KC 40 (FinR Try.prog Try.f56 ((eI .i64) r)) := FinR.kc' (by kernel_rfl)
  unfold G_ringref2_Clocks at h
  by_cases h168 : (v_c135.fItems.length : Int) > 64
  · rw [if_pos h168] at h
    obtain rfl := Option.some.inj h
    exact pend_sound TTok mix 10 (hs := [.c, .u (.d (.v (.int .i64 (v_c135.fItems.length : Int)))), .t true]) (by kernel_rfl) (by kernel_rfl) (by kernel_rfl) (.cons (len_ob (f := eS_reclaim_Item) (l := v_c135.fItems)) (.cons (dt h168) .nil))
  · rw [if_neg h168] at h
    obtain ⟨v_o139, h173, h⟩ := bind_some h
    refine pkk_sound TTok mix hF 9 (hs := [.c, .u (.d (.v (.int .i64 (v_c135.fItems.length : Int)))), .t false]) (ts := []) (s := [0]) (l := [1]) (by kernel_rfl) (by kernel_rfl) (.cons (len_ob (f := eS_reclaim_Item) (l := v_c135.fItems)) (.cons (df h168) .nil)) (G_ringref2_Clocks_C1_ok hF (.s (cR (cL (cR (cR (bodyOf Try.f56))))) :: .s (cR (cR (cR (bodyOf Try.f56)))) :: []) n v_c135 _ h173 ?_)
    cases v_o139 with
    | x0 v_z140 =>
      dsimp only at h
      by_cases h174 : v_z140 = true
      · rw [if_pos h174] at h
        obtain rfl := Option.some.inj h
        exact pend_sound TTok mix 5 (hs := [.t true]) (by kernel_rfl) (by kernel_rfl) (by kernel_rfl) (.cons h174 .nil)
      · rw [if_neg h174] at h
        obtain ⟨v_o155, h188, h⟩ := bind_some h
        refine pkk_sound TTok mix hF 7 (hs := [.t false, .c, .u (.d (.v (.int .i64 (v_c135.fItems.length : Int)))), .n n]) (ts := []) (s := [0]) (l := [1, 26, 27, 28]) (by kernel_rfl) (by kernel_rfl) (.cons (vf h174) (.cons (len_ob (f := eS_reclaim_Item) (l := v_c135.fItems)) .nil)) (G_ringref2_Clocks_L2_ok hF (.b 0 :: .s (cR (cR (cR (cR (bodyOf Try.f56))))) :: []) n v_c135 n 0 _ h188 ?_)
        cases v_o155 with
        | x0 v_z156 =>
          dsimp only at h
          obtain rfl := Option.some.inj h
          exact pend_sound TTok mix 2 (hs := []) (by kernel_rfl) (by kernel_rfl) (by kernel_rfl) .nil
        | x1  =>
          dsimp only at h
          obtain rfl := Option.some.inj h
          exact pend_sound TTok mix 4 (hs := []) (by kernel_rfl) (by kernel_rfl) (by kernel_rfl) .nil
inductive G_ringref2_ClockSame_C1_R where
  | x0 (v_x161 : Bool)
def G_ringref2_ClockSame_C1_ex : G_ringref2_ClockSame_C1_R → Ex
  | .x0 _ => .normal
def G_ringref2_ClockSame_C1_st (v_a159 : S_reclaim_Clock) (v_b160 : S_reclaim_Clock) : G_ringref2_ClockSame_C1_R → PS
  | .x0 v_x161 => ⟨[dd, dd, .ref 0 0, .ref 1 0, dd, dd, dd, dd, dd, dd, dd, dd, dd, dd, dd, dd, dd, dd, dd, .d (.v (.bool v_x161)), dd, dd, dd, dd, dd, dd, dd, dd, dd, dd, dd, dd, dd, dd, dd, dd, dd, dd], [.box [.d (.sl (v_a159.fItems.map eS_reclaim_Item)), .d (.v (.int .i64 v_a159.fHand))], .box [.d (.sl (v_b160.fItems.map eS_reclaim_Item)), .d (.v (.int .i64 v_b160.fHand))]]⟩
def G_ringref2_ClockSame_C1_hd (v_a159 : S_reclaim_Clock) (v_b160 : S_reclaim_Clock)  : PS := ⟨[dd, dd, .ref 0 0, .ref 1 0, dd, dd, dd, dd, dd, dd, dd, dd, dd, dd, dd, dd, dd, dd, dd, dd, dd, dd, dd, dd, dd, dd, dd, dd, dd, dd, dd, dd, dd, dd, dd, dd, dd, dd], [.box [.d (.sl (v_a159.fItems.map eS_reclaim_Item)), .d (.v (.int .i64 v_a159.fHand))], .box [.d (.sl (v_b160.fItems.map eS_reclaim_Item)), .d (.v (.int .i64 v_b160.fHand))]]⟩
def G_ringref2_ClockSame_C1 (n : Nat) (v_a159 : S_reclaim_Clock) (v_b160 : S_reclaim_Clock) : Option G_ringref2_ClockSame_C1_R :=
  if v_a159.fHand = v_b160.fHand then
   some (.x0 ((v_a159.fItems.length : Int) != (v_b160.fItems.length : Int)))
  else
   some (.x0 true)
theorem G_ringref2_ClockSame_C1_ok {Fi : Ex → PS → Prop} (hF : KC 38 Fi) (ks : List Fr) (n : Nat) (v_a159 : S_reclaim_Clock) (v_b160 : S_reclaim_Clock)  (o : G_ringref2_ClockSame_C1_R) (h : G_ringref2_ClockSame_C1 n v_a159 v_b160 = some o) (q : RunE Try.prog 38 Fi ks (G_ringref2_ClockSame_C1_ex o) (G_ringref2_ClockSame_C1_st v_a159 v_b160 o)) : RunE Try.prog 38 Fi (.s (cL (cL (cR (bodyOf Try.f58)))) :: ks) .normal (G_ringref2_ClockSame_C1_hd v_a159 v_b160) := by
  unfold G_ringref2_ClockSame_C1 at h
  by_cases h194 : v_a159.fHand = v_b160.fHand
  · rw [if_pos h194] at h
    cases h
    exact pkk_sound TTok mix hF 1 (hs := [.c, .c, .t false, .c, .c, .c, .u (.d (.v (.int .i64 (v_a159.fItems.length : Int)))), .c, .c, .c, .c, .u (.d (.v (.int .i64 (v_b160.fItems.length : Int)))), .c]) (ts := []) (s := [0, 1]) (l := [2, 3, 19]) (by kernel_rfl) (by kernel_rfl) (.cons (nf h194) (.cons (len_ob (f := eS_reclaim_Item) (l := v_a159.fItems)) (.cons (len_ob (f := eS_reclaim_Item) (l := v_b160.fItems)) .nil))) q
  · rw [if_neg h194] at h
    cases h
    exact pkk_sound TTok mix hF 1 (hs := [.c, .c, .t true, .c, .c, .c, .c, .c, .c]) (ts := []) (s := [0, 1]) (l := [2, 3, 19]) (by kernel_rfl) (by kernel_rfl) (.cons (nt h194) .nil) q
inductive G_ringref2_ClockSame_L2_R where
  | x0 (v_x170 : Bool)
  | x1 
def G_ringref2_ClockSame_L2_ex : G_ringref2_ClockSame_L2_R → Ex
  | .x0 _ => .ret
  | .x1  => .exit 0
def G_ringref2_ClockSame_L2_st (v_a159 : S_reclaim_Clock) (v_b160 : S_reclaim_Clock) : G_ringref2_ClockSame_L2_R → PS
  | .x0 v_x170 => ⟨[dd, dd, dd, dd, .d (.v (.bool v_x170)), dd, dd, dd, dd, dd, dd, dd, dd, dd, dd, dd, dd, dd, dd, dd, dd, dd, dd, dd, dd, dd, dd, dd, dd, dd, dd, dd, dd, dd, dd, dd, dd, dd], []⟩
  | .x1  => ⟨[dd, dd, dd, dd, dd, dd, dd, dd, dd, dd, dd, dd, dd, dd, dd, dd, dd, dd, dd, dd, dd, dd, dd, dd, dd, dd, dd, dd, dd, dd, dd, dd, dd, dd, dd, dd, dd, dd], []⟩
def G_ringref2_ClockSame_L2_hd (v_a159 : S_reclaim_Clock) (v_b160 : S_reclaim_Clock) (v_x165 : Int) : PS := ⟨[dd, dd, .ref 0 0, .ref 1 0, dd, dd, dd, dd, dd, dd, dd, dd, dd, dd, dd, dd, dd, dd, dd, dd, dd, dd, .d (.v (.int .i64 (v_a159.fItems.length : Int))), .d (.v (.int .i64 v_x165)), dd, dd, dd, dd, dd, dd, dd, dd, dd, dd, dd, dd, dd, dd], [.box [.d (.sl (v_a159.fItems.map eS_reclaim_Item)), .d (.v (.int .i64 v_a159.fHand))], .box [.d (.sl (v_b160.fItems.map eS_reclaim_Item)), .d (.v (.int .i64 v_b160.fHand))]]⟩
def G_ringref2_ClockSame_L2 (n : Nat) (v_a159 : S_reclaim_Clock) (v_b160 : S_reclaim_Clock) : Nat → Int → Option G_ringref2_ClockSame_L2_R
  | 0, _ => none
  | k + 1, v_x165 =>
    if v_x165 < (v_a159.fItems.length : Int) then
     (getI v_a159.fItems v_x165).bind fun (v_y168 : S_reclaim_Item) =>
     (getI v_b160.fItems v_x165).bind fun (v_y169 : S_reclaim_Item) =>
     if (eqRes .neq (eqS_reclaim_Item v_y168 v_y169)) = true then
      some (.x0 false)
     else
      G_ringref2_ClockSame_L2 n v_a159 v_b160 k (wi .i64 (v_x165 + 1))
    else
     some (.x1 )
theorem G_ringref2_ClockSame_L2_ok {Fi : Ex → PS → Prop} (hF : KC 38 Fi) (ks : List Fr) (n : Nat) (v_a159 : S_reclaim_Clock) (v_b160 : S_reclaim_Clock)  : ∀ (k : Nat) (v_x165 : Int) (o : G_ringref2_ClockSame_L2_R), G_ringref2_ClockSame_L2 n v_a159 v_b160 k v_x165 = some o → RunE Try.prog 38 Fi ks (G_ringref2_ClockSame_L2_ex o) (G_ringref2_ClockSame_L2_st v_a159 v_b160 o) → RunE Try.prog 38 Fi (.l k (cP (cB (cR (cL (cR (cR (bodyOf Try.f58))))))) :: ks) .normal (G_ringref2_ClockSame_L2_hd v_a159 v_b160 v_x165)
  | 0, v_x165, o, h, q => by rw [G_ringref2_ClockSame_L2] at h; cases h
  | k + 1, v_x165, o, h, q => by
    rw [G_ringref2_ClockSame_L2] at h
    by_cases h197 : v_x165 < (v_a159.fItems.length : Int)
    · rw [if_pos h197] at h
      obtain ⟨v_y168, h201, h⟩ := bind_some h
      obtain ⟨v_y169, h202, h⟩ := bind_some h
      by_cases h203 : (eqRes .neq (eqS_reclaim_Item v_y168 v_y169)) = true
      · rw [if_pos h203] at h
        cases h
        exact pkk_sound TTok mix hF 19 (hs := [.t true, .c, .y (eS_reclaim_Item v_y168), .c, .y (eS_reclaim_Item v_y169), .q (eqS_reclaim_Item v_y168 v_y169), .t true]) (ts := []) (s := []) (l := [4]) (by kernel_rfl) (by kernel_rfl) (.cons (dt h197) (.cons (getI_ob (f := eS_reclaim_Item) h201) (.cons (getI_ob (f := eS_reclaim_Item) h202) (.cons (eqS_reclaim_Item_ok v_y168 v_y169) (.cons h203 .nil))))) q
      · rw [if_neg h203] at h
        exact pkk_sound TTok mix hF 16 (hs := [.t true, .c, .y (eS_reclaim_Item v_y168), .c, .y (eS_reclaim_Item v_y169), .q (eqS_reclaim_Item v_y168 v_y169), .t false]) (ts := []) (s := [0, 1]) (l := [2, 3, 22, 23]) (by kernel_rfl) (by kernel_rfl) (.cons (dt h197) (.cons (getI_ob (f := eS_reclaim_Item) h201) (.cons (getI_ob (f := eS_reclaim_Item) h202) (.cons (eqS_reclaim_Item_ok v_y168 v_y169) (.cons (vf h203) .nil))))) (G_ringref2_ClockSame_L2_ok hF ks n v_a159 v_b160 k (wi .i64 (v_x165 + 1)) _ h q)
    · rw [if_neg h197] at h
      cases h
      exact pkk_sound TTok mix hF 8 (hs := [.t false]) (ts := []) (s := []) (l := []) (by kernel_rfl) (by kernel_rfl) (.cons (df h197) .nil) q
/- ringhall/ringref2.ClockSame -/
def G_ringref2_ClockSame (n : Nat) (v_a159 : S_reclaim_Clock) (v_b160 : S_reclaim_Clock) : Option (Bool) :=
  (G_ringref2_ClockSame_C1 n v_a159 v_b160).bind fun v_o163 => match v_o163 with
  | .x0 v_z164 =>
    if v_z164 = true then
     some false
    else
     (G_ringref2_ClockSame_L2 n v_a159 v_b160 n 0).bind fun v_o171 => match v_o171 with
     | .x0 v_z172 =>
       some v_z172
     | .x1  =>
       some true
theorem G_ringref2_ClockSame_ok (n : Nat) (v_a159 : S_reclaim_Clock) (v_b160 : S_reclaim_Clock) (r : Bool) (h : G_ringref2_ClockSame n v_a159 v_b160 = some r) : Ret Try.prog 58 [eS_reclaim_Clock v_a159, eS_reclaim_Clock v_b160] (eB r) := by
  refine ret_run (n := 38) (fn := Try.f58) (c := bodyOf Try.f58) (by kernel_rfl) (by kernel_rfl) (by kernel_rfl) (by kernel_rfl) ?_
  have hF : KC 38 (FinR Try.prog Try.f58 (eB r)) := FinR.kc' (by kernel_rfl)
  unfold G_ringref2_ClockSame at h
  obtain ⟨v_o163, h195, h⟩ := bind_some h
  refine pkk_sound TTok mix hF 4 (hs := []) (ts := []) (s := [0, 3]) (l := [2, 3]) (by kernel_rfl) (by kernel_rfl) .nil (G_ringref2_ClockSame_C1_ok hF (.s (cR (cL (cR (bodyOf Try.f58)))) :: .s (cR (cR (bodyOf Try.f58))) :: []) n v_a159 v_b160 _ h195 ?_)
  cases v_o163 with
  | x0 v_z164 =>
    dsimp only at h
    by_cases h196 : v_z164 = true
    · rw [if_pos h196] at h
      obtain rfl := Option.some.inj h
      exact pend_sound TTok mix 5 (hs := [.t true]) (by kernel_rfl) (by kernel_rfl) (by kernel_rfl) (.cons h196 .nil)
    · rw [if_neg h196] at h
      obtain ⟨v_o171, h204, h⟩ := bind_some h
      refine pkk_sound TTok mix hF 7 (hs := [.t false, .c, .u (.d (.v (.int .i64 (v_a159.fItems.length : Int)))), .n n]) (ts := []) (s := [0, 1]) (l := [2, 3, 22, 23]) (by kernel_rfl) (by kernel_rfl) (.cons (vf h196) (.cons (len_ob (f := eS_reclaim_Item) (l := v_a159.fItems)) .nil)) (G_ringref2_ClockSame_L2_ok hF (.b 0 :: .s (cR (cR (cR (bodyOf Try.f58)))) :: []) n v_a159 v_b160 n 0 _ h204 ?_)
      cases v_o171 with
      | x0 v_z172 =>
        dsimp only at h
        obtain rfl := Option.some.inj h
        exact pend_sound TTok mix 2 (hs := []) (by kernel_rfl) (by kernel_rfl) (by kernel_rfl) .nil
      | x1  =>
        dsimp only at h
        obtain rfl := Option.some.inj h
        exact pend_sound TTok mix 4 (hs := []) (by kernel_rfl) (by kernel_rfl) (by kernel_rfl) .nil
inductive G_ringref2_ClockNext_L1_R where
  | x0 (v_w481 : (List S_reclaim_Item))
def G_ringref2_ClockNext_L1_ex : G_ringref2_ClockNext_L1_R → Ex
  | .x0 _ => .exit 4
def G_ringref2_ClockNext_L1_st (v_s437 : (List S_reclaim_Item)) (v_n434 : Int) (v_c429 : S_reclaim_Clock) (v_x470 : Int) (v_y436 : S_reclaim_Item) (v_y472 : S_reclaim_Item) : G_ringref2_ClockNext_L1_R → PS
  | .x0 v_w481 => ⟨[dd, dd, .ref 0 0, dd, dd, .d (.sl (v_s437.map eS_reclaim_Item)), .d (.v (.int .i64 v_n434)), .ref 1 0, .ref 2 0, dd, dd, dd, dd, dd, dd, dd, dd, dd, dd, dd, dd, dd, dd, dd, dd, dd, dd, dd, dd, dd, dd, dd, dd, dd, dd, dd, dd, dd, dd, dd, dd, dd, dd, dd, dd, dd, dd, dd, dd, .d (.sl (v_c429.fItems.map eS_reclaim_Item)), .d (.v (.int .i64 (v_c429.fItems.length : Int))), .d (.v (.int .i64 v_x470)), dd, dd, dd, dd, dd, dd, dd, dd, dd, dd, dd, dd, dd, dd, dd, dd, dd, dd, dd, dd, dd, dd, dd, dd, dd, dd, dd, dd, dd, dd, dd, dd, dd, dd, dd, dd], [.box [.d (vnil), .d (.v (.int .i64 0))], .box [.d (.v (.int .i64 v_y436.fId)), .d (.v (.bool v_y436.fUsed)), .d (.v (.bool v_y436.fPinned))], .box [.srf 3, .d (.v (.int .i64 0))], .row 95 3 (v_w481.map eS_reclaim_Item)]⟩
def G_ringref2_ClockNext_L1_hd (v_s437 : (List S_reclaim_Item)) (v_n434 : Int) (v_c429 : S_reclaim_Clock) (v_x470 : Int) (v_y436 : S_reclaim_Item) (v_y472 : S_reclaim_Item) (v_x473 : Int) (v_w474 : (List S_reclaim_Item)) : PS := ⟨[dd, dd, .ref 0 0, dd, dd, .d (.sl (v_s437.map eS_reclaim_Item)), .d (.v (.int .i64 v_n434)), .ref 1 0, .ref 2 0, dd, .ref 4 0, dd, dd, dd, dd, dd, dd, dd, dd, dd, dd, dd, dd, dd, dd, dd, dd, dd, dd, dd, dd, dd, dd, dd, dd, dd, dd, dd, dd, dd, dd, dd, dd, dd, dd, dd, dd, dd, dd, .d (.sl (v_c429.fItems.map eS_reclaim_Item)), .d (.v (.int .i64 (v_c429.fItems.length : Int))), .d (.v (.int .i64 v_x470)), dd, dd, dd, .d (.sl (v_s437.map eS_reclaim_Item)), .d (.v (.int .i64 (v_s437.length : Int))), .d (.v (.int .i64 v_x473)), dd, dd, dd, dd, dd, dd, dd, dd, dd, dd, dd, dd, dd, dd, dd, dd, dd, dd, dd, dd, dd, dd, dd, dd, dd, dd, dd, dd, dd, dd], [.box [.d (vnil), .d (.v (.int .i64 0))], .box [.d (.v (.int .i64 v_y436.fId)), .d (.v (.bool v_y436.fUsed)), .d (.v (.bool v_y436.fPinned))], .box [.srf 3, .d (.v (.int .i64 0))], .row 95 3 (v_w474.map eS_reclaim_Item), .box [.d (.v (.int .i64 v_y472.fId)), .d (.v (.bool v_y472.fUsed)), .d (.v (.bool v_y472.fPinned))]]⟩
def G_ringref2_ClockNext_L1 (n : Nat) (v_s437 : (List S_reclaim_Item)) (v_n434 : Int) (v_c429 : S_reclaim_Clock) (v_x470 : Int) (v_y436 : S_reclaim_Item) (v_y472 : S_reclaim_Item) : Nat → Int → (List S_reclaim_Item) → Option G_ringref2_ClockNext_L1_R
  | 0, _, _ => none
  | k + 1, v_x473, v_w474 =>
    if v_x473 < (v_s437.length : Int) then
     (getI v_s437 v_x473).bind fun (v_y478 : S_reclaim_Item) =>
     if v_y478.fId = v_y472.fId then
      (app 16 v_w474 ([v_y478])).bind fun (v_a480 : (List S_reclaim_Item)) =>
      G_ringref2_ClockNext_L1 n v_s437 v_n434 v_c429 v_x470 v_y436 v_y472 k (wi .i64 (v_x473 + 1)) v_a480
     else
      G_ringref2_ClockNext_L1 n v_s437 v_n434 v_c429 v_x470 v_y436 v_y472 k (wi .i64 (v_x473 + 1)) v_w474
    else
     some (.x0 v_w474)
theorem G_ringref2_ClockNext_L1_ok {Fi : Ex → PS → Prop} (hF : KC 88 Fi) (ks : List Fr) (n : Nat) (v_s437 : (List S_reclaim_Item)) (v_n434 : Int) (v_c429 : S_reclaim_Clock) (v_x470 : Int) (v_y436 : S_reclaim_Item) (v_y472 : S_reclaim_Item)  : ∀ (k : Nat) (v_x473 : Int) (v_w474 : (List S_reclaim_Item)) (o : G_ringref2_ClockNext_L1_R), G_ringref2_ClockNext_L1 n v_s437 v_n434 v_c429 v_x470 v_y436 v_y472 k v_x473 v_w474 = some o → RunE Try.prog 88 Fi ks (G_ringref2_ClockNext_L1_ex o) (G_ringref2_ClockNext_L1_st v_s437 v_n434 v_c429 v_x470 v_y436 v_y472 o) → RunE Try.prog 88 Fi (.l k (cP (cB (cR (cR (cB (cL (cR (cR (cP (cB (cR (cL (cR (cR (cR (cR (cB (cL (cP (cB (cR (cR (cR (bodyOf Try.f61)))))))))))))))))))))))) :: ks) .normal (G_ringref2_ClockNext_L1_hd v_s437 v_n434 v_c429 v_x470 v_y436 v_y472 v_x473 v_w474)
  | 0, v_x473, v_w474, o, h, q => by rw [G_ringref2_ClockNext_L1] at h; cases h
  | k + 1, v_x473, v_w474, o, h, q => by
    rw [G_ringref2_ClockNext_L1] at h
    by_cases h564 : v_x473 < (v_s437.length : Int)
    · rw [if_pos h564] at h
      obtain ⟨v_y478, h570, h⟩ := bind_some h
      by_cases h573 : v_y478.fId = v_y472.fId
      · rw [if_pos h573] at h
        obtain ⟨v_a480, h574, h⟩ := bind_some h
        exact pkk_sound TTok mix hF 16 (hs := [.t true, .y (eS_reclaim_Item v_y478), .c, .c, .c, .t true, .c, .c, .bd, .w (v_a480.map eS_reclaim_Item), .c]) (ts := []) (s := [0, 1, 2, 47, 4]) (l := [2, 5, 6, 7, 8, 10, 49, 50, 51, 55, 56, 57]) (by kernel_rfl) (by kernel_rfl) (.cons (dt h564) (.cons (getI_ob (f := eS_reclaim_Item) h570) (.cons (show 0 + 3 ≤ 3 by decide) (.cons (bt h573) (.cons (app_ob (f := eS_reclaim_Item) (s := 3) h574 (fun _ => rfl)).1 (.cons (app_ob (f := eS_reclaim_Item) (s := 3) h574 (fun _ => rfl)).2.1 (.cons (app_ob (f := eS_reclaim_Item) (s := 3) h574 (fun _ => rfl)).2.2.1 (.cons (app_ob (f := eS_reclaim_Item) (s := 3) h574 (fun _ => rfl)).2.2.2 (.cons (show 0 + 1 ≤ 2 by decide) .nil))))))))) (G_ringref2_ClockNext_L1_ok hF ks n v_s437 v_n434 v_c429 v_x470 v_y436 v_y472 k (wi .i64 (v_x473 + 1)) v_a480 _ h q)
      · rw [if_neg h573] at h
        exact pkk_sound TTok mix hF 16 (hs := [.t true, .y (eS_reclaim_Item v_y478), .c, .c, .c, .t false]) (ts := []) (s := [0, 1, 2, 3, 4]) (l := [2, 5, 6, 7, 8, 10, 49, 50, 51, 55, 56, 57]) (by kernel_rfl) (by kernel_rfl) (.cons (dt h564) (.cons (getI_ob (f := eS_reclaim_Item) h570) (.cons (show 0 + 3 ≤ 3 by decide) (.cons (bf h573) .nil)))) (G_ringref2_ClockNext_L1_ok hF ks n v_s437 v_n434 v_c429 v_x470 v_y436 v_y472 k (wi .i64 (v_x473 + 1)) v_w474 _ h q)
    · rw [if_neg h564] at h
      cases h
      exact pkk_sound TTok mix hF 8 (hs := [.t false]) (ts := []) (s := [0, 1, 2, 3]) (l := [2, 5, 6, 7, 8, 49, 50, 51]) (by kernel_rfl) (by kernel_rfl) (.cons (df h564) .nil) q
inductive G_ringref2_ClockNext_L2_R where
  | x0 (v_w484 : (List S_reclaim_Item))
def G_ringref2_ClockNext_L2_ex : G_ringref2_ClockNext_L2_R → Ex
  | .x0 _ => .exit 2
def G_ringref2_ClockNext_L2_st (v_s437 : (List S_reclaim_Item)) (v_n434 : Int) (v_c429 : S_reclaim_Clock) (v_y436 : S_reclaim_Item) : G_ringref2_ClockNext_L2_R → PS
  | .x0 v_w484 => ⟨[dd, dd, .ref 0 0, dd, dd, .d (.sl (v_s437.map eS_reclaim_Item)), .d (.v (.int .i64 v_n434)), .ref 1 0, .ref 2 0, dd, dd, dd, dd, dd, dd, dd, dd, dd, dd, dd, dd, dd, dd, dd, dd, dd, dd, dd, dd, dd, dd, dd, dd, dd, dd, dd, dd, dd, dd, dd, dd, dd, dd, dd, dd, dd, dd, dd, dd, dd, dd, dd, dd, dd, dd, dd, dd, dd, dd, dd, dd, dd, dd, dd, dd, dd, dd, dd, dd, dd, dd, dd, dd, dd, dd, dd, dd, dd, dd, dd, dd, dd, dd, dd, dd, dd, dd, dd], [.box [.d (vnil), .d (.v (.int .i64 0))], .box [.d (.v (.int .i64 v_y436.fId)), .d (.v (.bool v_y436.fUsed)), .d (.v (.bool v_y436.fPinned))], .box [.srf 3, .d (.v (.int .i64 0))], .row 95 3 (v_w484.map eS_reclaim_Item)]⟩
def G_ringref2_ClockNext_L2_hd (v_s437 : (List S_reclaim_Item)) (v_n434 : Int) (v_c429 : S_reclaim_Clock) (v_y436 : S_reclaim_Item) (v_x470 : Int) (v_w471 : (List S_reclaim_Item)) : PS := ⟨[dd, dd, .ref 0 0, dd, dd, .d (.sl (v_s437.map eS_reclaim_Item)), .d (.v (.int .i64 v_n434)), .ref 1 0, .ref 2 0, dd, dd, dd, dd, dd, dd, dd, dd, dd, dd, dd, dd, dd, dd, dd, dd, dd, dd, dd, dd, dd, dd, dd, dd, dd, dd, dd, dd, dd, dd, dd, dd, dd, dd, dd, dd, dd, dd, dd, dd, .d (.sl (v_c429.fItems.map eS_reclaim_Item)), .d (.v (.int .i64 (v_c429.fItems.length : Int))), .d (.v (.int .i64 v_x470)), dd, dd, dd, dd, dd, dd, dd, dd, dd, dd, dd, dd, dd, dd, dd, dd, dd, dd, dd, dd, dd, dd, dd, dd, dd, dd, dd, dd, dd, dd, dd, dd, dd, dd, dd, dd], [.box [.d (vnil), .d (.v (.int .i64 0))], .box [.d (.v (.int .i64 v_y436.fId)), .d (.v (.bool v_y436.fUsed)), .d (.v (.bool v_y436.fPinned))], .box [.srf 3, .d (.v (.int .i64 0))], .row 95 3 (v_w471.map eS_reclaim_Item)]⟩
def G_ringref2_ClockNext_L2 (n : Nat) (v_s437 : (List S_reclaim_Item)) (v_n434 : Int) (v_c429 : S_reclaim_Clock) (v_y436 : S_reclaim_Item) : Nat → Int → (List S_reclaim_Item) → Option G_ringref2_ClockNext_L2_R
  | 0, _, _ => none
  | k + 1, v_x470, v_w471 =>
    if v_x470 < (v_c429.fItems.length : Int) then
     (getI v_c429.fItems v_x470).bind fun (v_y472 : S_reclaim_Item) =>
     (G_ringref2_ClockNext_L1 n v_s437 v_n434 v_c429 v_x470 v_y436 v_y472 n 0 v_w471).bind fun v_o482 => match v_o482 with
     | .x0 v_z483 =>
       G_ringref2_ClockNext_L2 n v_s437 v_n434 v_c429 v_y436 k (wi .i64 (v_x470 + 1)) v_z483
    else
     some (.x0 v_w471)
theorem G_ringref2_ClockNext_L2_ok {Fi : Ex → PS → Prop} (hF : KC 88 Fi) (ks : List Fr) (n : Nat) (v_s437 : (List S_reclaim_Item)) (v_n434 : Int) (v_c429 : S_reclaim_Clock) (v_y436 : S_reclaim_Item)  : ∀ (k : Nat) (v_x470 : Int) (v_w471 : (List S_reclaim_Item)) (o : G_ringref2_ClockNext_L2_R), G_ringref2_ClockNext_L2 n v_s437 v_n434 v_c429 v_y436 k v_x470 v_w471 = some o → RunE Try.prog 88 Fi ks (G_ringref2_ClockNext_L2_ex o) (G_ringref2_ClockNext_L2_st v_s437 v_n434 v_c429 v_y436 o) → RunE Try.prog 88 Fi (.l k (cP (cB (cR (cL (cR (cR (cR (cR (cB (cL (cP (cB (cR (cR (cR (bodyOf Try.f61)))))))))))))))) :: ks) .normal (G_ringref2_ClockNext_L2_hd v_s437 v_n434 v_c429 v_y436 v_x470 v_w471)
  | 0, v_x470, v_w471, o, h, q => by rw [G_ringref2_ClockNext_L2] at h; cases h
  | k + 1, v_x470, v_w471, o, h, q => by
    rw [G_ringref2_ClockNext_L2] at h
    by_cases h562 : v_x470 < (v_c429.fItems.length : Int)
    · rw [if_pos h562] at h
      obtain ⟨v_y472, h563, h⟩ := bind_some h
      obtain ⟨v_o482, h575, h⟩ := bind_some h
      refine pkk_sound TTok mix hF 14 (hs := [.t true, .y (eS_reclaim_Item v_y472), .c, .u (.d (.v (.int .i64 (v_s437.length : Int)))), .n n]) (ts := []) (s := [0, 1, 2, 3, 13]) (l := [2, 5, 6, 7, 8, 10, 49, 50, 51, 55, 56, 57]) (by kernel_rfl) (by kernel_rfl) (.cons (dt h562) (.cons (getI_ob (f := eS_reclaim_Item) h563) (.cons (show 0 + 3 ≤ 3 by decide) (.cons (len_ob (f := eS_reclaim_Item) (l := v_s437)) .nil)))) (G_ringref2_ClockNext_L1_ok hF (.b 4 :: .b 3 :: .s (cR (cR (cR (cP (cB (cR (cL (cR (cR (cR (cR (cB (cL (cP (cB (cR (cR (cR (bodyOf Try.f61))))))))))))))))))) :: .l k (cP (cB (cR (cL (cR (cR (cR (cR (cB (cL (cP (cB (cR (cR (cR (bodyOf Try.f61)))))))))))))))) :: ks) n v_s437 v_n434 v_c429 v_x470 v_y436 v_y472 n 0 v_w471 _ h575 ?_)
      cases v_o482 with
      | x0 v_z483 =>
        dsimp only at h
        exact pkk_sound TTok mix hF 3 (hs := []) (ts := []) (s := [0, 1, 2, 3]) (l := [2, 5, 6, 7, 8, 49, 50, 51]) (by kernel_rfl) (by kernel_rfl) .nil (G_ringref2_ClockNext_L2_ok hF ks n v_s437 v_n434 v_c429 v_y436 k (wi .i64 (v_x470 + 1)) v_z483 _ h q)
    · rw [if_neg h562] at h
      cases h
      exact pkk_sound TTok mix hF 8 (hs := [.t false]) (ts := []) (s := [0, 1, 2, 3]) (l := [2, 5, 6, 7, 8]) (by kernel_rfl) (by kernel_rfl) (.cons (df h562) .nil) q
inductive G_ringref2_ClockNext_L3_R where
  | x0 (v_x491 : Int) (v_x492 : Int) (v_b493 : Int) (v_w494 : (List S_reclaim_Item))
  | x1 (v_x495 : Int) (v_x496 : Int) (v_w497 : (List S_reclaim_Item))
def G_ringref2_ClockNext_L3_ex : G_ringref2_ClockNext_L3_R → Ex
  | .x0 _ _ _ _ => .ret
  | .x1 _ _ _ => .ret
def G_ringref2_ClockNext_L3_st (v_c429 : S_reclaim_Clock) : G_ringref2_ClockNext_L3_R → PS
  | .x0 v_x491 v_x492 v_b493 v_w494 => ⟨[dd, dd, .ref 0 0, .d (.v (.int .i64 v_x491)), .d (.v (.int .i64 v_x492)), dd, dd, dd, dd, dd, dd, dd, dd, dd, dd, dd, dd, dd, dd, dd, dd, dd, dd, dd, dd, dd, dd, dd, dd, dd, dd, dd, dd, dd, dd, dd, dd, dd, dd, dd, dd, dd, dd, dd, dd, dd, dd, dd, dd, dd, dd, dd, dd, dd, dd, dd, dd, dd, dd, dd, dd, dd, dd, dd, dd, dd, dd, dd, dd, dd, dd, dd, dd, dd, dd, dd, dd, dd, dd, dd, dd, dd, dd, dd, dd, dd, dd, dd], [.box [.srf 1, .d (.v (.int .i64 v_b493))], .row 95 3 (v_w494.map eS_reclaim_Item)]⟩
  | .x1 v_x495 v_x496 v_w497 => ⟨[dd, dd, .ref 0 0, .d (.v (.int .i64 v_x495)), .d (.v (.int .i64 v_x496)), dd, dd, dd, dd, dd, dd, dd, dd, dd, dd, dd, dd, dd, dd, dd, dd, dd, dd, dd, dd, dd, dd, dd, dd, dd, dd, dd, dd, dd, dd, dd, dd, dd, dd, dd, dd, dd, dd, dd, dd, dd, dd, dd, dd, dd, dd, dd, dd, dd, dd, dd, dd, dd, dd, dd, dd, dd, dd, dd, dd, dd, dd, dd, dd, dd, dd, dd, dd, dd, dd, dd, dd, dd, dd, dd, dd, dd, dd, dd, dd, dd, dd, dd], [.box [.srf 1, .d (.v (.int .i64 0))], .row 95 3 (v_w497.map eS_reclaim_Item)]⟩
def G_ringref2_ClockNext_L3_hd (v_c429 : S_reclaim_Clock) (v_n434 : Int) (v_w435 : (List S_reclaim_Item)) : PS := ⟨[dd, .ref 0 0, .ref 1 0, dd, dd, .srf 2, .d (.v (.int .i64 v_n434)), dd, dd, dd, dd, dd, dd, dd, dd, dd, dd, dd, dd, dd, dd, dd, dd, dd, dd, dd, dd, dd, dd, dd, dd, dd, dd, dd, dd, dd, dd, dd, dd, dd, dd, dd, dd, dd, dd, dd, dd, dd, dd, dd, dd, dd, dd, dd, dd, dd, dd, dd, dd, dd, dd, dd, dd, dd, dd, dd, dd, dd, dd, dd, dd, dd, dd, dd, dd, dd, dd, dd, dd, dd, dd, dd, dd, dd, dd, dd, dd, dd], [.box [.d (.sl (v_c429.fItems.map eS_reclaim_Item)), .d (.v (.int .i64 v_c429.fHand))], .box [.d (vnil), .d (.v (.int .i64 0))], .row 95 3 (v_w435.map eS_reclaim_Item)]⟩
def G_ringref2_ClockNext_L3 (n : Nat) (v_c429 : S_reclaim_Clock) : Nat → Int → (List S_reclaim_Item) → Option G_ringref2_ClockNext_L3_R
  | 0, _, _ => none
  | k + 1, v_n434, v_w435 =>
    if 0 ≤ (0 : Int) ∧ ((0 : Int)).toNat < v_w435.length then
     (v_w435[((0 : Int)).toNat]?).bind fun (v_y436 : S_reclaim_Item) =>
     (sub v_w435 1 (v_w435.length : Int)).bind fun (v_s437 : (List S_reclaim_Item)) =>
     if v_y436.fPinned = true then
      (app 16 ([] : (List S_reclaim_Item)) v_s437).bind fun (v_a442 : (List S_reclaim_Item)) =>
      (app 16 v_a442 ([v_y436])).bind fun (v_a443 : (List S_reclaim_Item)) =>
      G_ringref2_ClockNext_L3 n v_c429 k (wi .i64 (v_n434 + 1)) v_a443
     else
      if v_y436.fUsed = true then
       (app 16 ([] : (List S_reclaim_Item)) v_s437).bind fun (v_a448 : (List S_reclaim_Item)) =>
       (app 16 v_a448 ([(S_reclaim_Item.mk v_y436.fId false v_y436.fPinned)])).bind fun (v_a449 : (List S_reclaim_Item)) =>
       G_ringref2_ClockNext_L3 n v_c429 k (wi .i64 (v_n434 + 1)) v_a449
      else
       (G_ringref2_ClockNext_L2 n v_s437 v_n434 v_c429 v_y436 n 0 ([] : List S_reclaim_Item)).bind fun v_o485 => match v_o485 with
       | .x0 v_z486 =>
         if (v_s437.length : Int) > 0 then
          (getI v_s437 0).bind fun (v_y489 : S_reclaim_Item) =>
          (G_ringref2_ItemAt n (S_reclaim_Clock.mk v_z486 0) v_y489.fId).bind fun (v_r490 : (Int)) =>
          some (.x0 v_y436.fId v_n434 v_r490 v_z486)
         else
          some (.x1 v_y436.fId v_n434 v_z486)
    else none
theorem G_ringref2_ClockNext_L3_ok {Fi : Ex → PS → Prop} (hF : KC 88 Fi) (ks : List Fr) (n : Nat) (v_c429 : S_reclaim_Clock)  : ∀ (k : Nat) (v_n434 : Int) (v_w435 : (List S_reclaim_Item)) (o : G_ringref2_ClockNext_L3_R), G_ringref2_ClockNext_L3 n v_c429 k v_n434 v_w435 = some o → RunE Try.prog 88 Fi ks (G_ringref2_ClockNext_L3_ex o) (G_ringref2_ClockNext_L3_st v_c429 o) → RunE Try.prog 88 Fi (.l k (cP (cB (cR (cR (cR (bodyOf Try.f61)))))) :: ks) .normal (G_ringref2_ClockNext_L3_hd v_c429 v_n434 v_w435)
  | 0, v_n434, v_w435, o, h, q => by rw [G_ringref2_ClockNext_L3] at h; cases h
  | k + 1, v_n434, v_w435, o, h, q => by
    rw [G_ringref2_ClockNext_L3] at h
    by_cases h517 : 0 ≤ (0 : Int) ∧ ((0 : Int)).toNat < v_w435.length
    · rw [if_pos h517] at h
      obtain ⟨v_y436, h518, h⟩ := bind_some h
      obtain ⟨v_s437, h519, h⟩ := bind_some h
      by_cases h520 : v_y436.fPinned = true
      · rw [if_pos h520] at h
        obtain ⟨v_a442, h526, h⟩ := bind_some h
        obtain ⟨v_a443, h527, h⟩ := bind_some h
        exact pkk_sound TTok mix hF 23 (hs := [.y (eS_reclaim_Item v_y436), .c, .dl 1, .fz 2, .w (v_s437.map eS_reclaim_Item), .c, .t true, .c, .c, .c, .t false, .w (v_a442.map eS_reclaim_Item), .c, .bd, .w (v_a443.map eS_reclaim_Item)]) (ts := []) (s := [0, 1, 66]) (l := [1, 2, 5, 6]) (by kernel_rfl) (by kernel_rfl) (.cons (idx_ob (f := eS_reclaim_Item) h517) (.cons (get_ob (f := eS_reclaim_Item) h518) (.cons (show 0 + 3 ≤ 3 by decide) (.cons (sub_ob' (f := eS_reclaim_Item) (s := 3) h519 (fun _ => rfl)).1 (.cons (sub_ob' (f := eS_reclaim_Item) (s := 3) h519 (fun _ => rfl)).2.1 (.cons (sub_ob' (f := eS_reclaim_Item) (s := 3) h519 (fun _ => rfl)).2.2.1 (.cons (sub_ob' (f := eS_reclaim_Item) (s := 3) h519 (fun _ => rfl)).2.2.2.1 (.cons (sub_ob' (f := eS_reclaim_Item) (s := 3) h519 (fun _ => rfl)).2.2.2.2 (.cons h520 (.cons (bnf h520) (.cons (app_ob (f := eS_reclaim_Item) (s := 3) h526 (fun _ => rfl)).1 (.cons (app_ob (f := eS_reclaim_Item) (s := 3) h526 (fun _ => rfl)).2.1 (.cons (app_ob (f := eS_reclaim_Item) (s := 3) h526 (fun _ => rfl)).2.2.1 (.cons (app_ob (f := eS_reclaim_Item) (s := 3) h526 (fun _ => rfl)).2.2.2 (.cons (app_ob (f := eS_reclaim_Item) (s := 3) h527 (fun _ => rfl)).1 (.cons (app_ob (f := eS_reclaim_Item) (s := 3) h527 (fun _ => rfl)).2.1 (.cons (app_ob (f := eS_reclaim_Item) (s := 3) h527 (fun _ => rfl)).2.2.1 (.cons (app_ob (f := eS_reclaim_Item) (s := 3) h527 (fun _ => rfl)).2.2.2 .nil)))))))))))))))))) (G_ringref2_ClockNext_L3_ok hF ks n v_c429 k (wi .i64 (v_n434 + 1)) v_a443 _ h q)
      · rw [if_neg h520] at h
        by_cases h534 : v_y436.fUsed = true
        · rw [if_pos h534] at h
          obtain ⟨v_a448, h535, h⟩ := bind_some h
          obtain ⟨v_a449, h536, h⟩ := bind_some h
          exact pkk_sound TTok mix hF 23 (hs := [.y (eS_reclaim_Item v_y436), .c, .dl 1, .fz 2, .w (v_s437.map eS_reclaim_Item), .c, .t false, .c, .c, .t true, .c, .t true, .c, .w (v_a448.map eS_reclaim_Item), .c, .bd, .w (v_a449.map eS_reclaim_Item)]) (ts := []) (s := [0, 1, 72]) (l := [1, 2, 5, 6]) (by kernel_rfl) (by kernel_rfl) (.cons (idx_ob (f := eS_reclaim_Item) h517) (.cons (get_ob (f := eS_reclaim_Item) h518) (.cons (show 0 + 3 ≤ 3 by decide) (.cons (sub_ob' (f := eS_reclaim_Item) (s := 3) h519 (fun _ => rfl)).1 (.cons (sub_ob' (f := eS_reclaim_Item) (s := 3) h519 (fun _ => rfl)).2.1 (.cons (sub_ob' (f := eS_reclaim_Item) (s := 3) h519 (fun _ => rfl)).2.2.1 (.cons (sub_ob' (f := eS_reclaim_Item) (s := 3) h519 (fun _ => rfl)).2.2.2.1 (.cons (sub_ob' (f := eS_reclaim_Item) (s := 3) h519 (fun _ => rfl)).2.2.2.2 (.cons (vf h520) (.cons h534 (.cons (bnt (vf h520)) (.cons (show 1 + 1 ≤ 3 by decide) (.cons (app_ob (f := eS_reclaim_Item) (s := 3) h535 (fun _ => rfl)).1 (.cons (app_ob (f := eS_reclaim_Item) (s := 3) h535 (fun _ => rfl)).2.1 (.cons (app_ob (f := eS_reclaim_Item) (s := 3) h535 (fun _ => rfl)).2.2.1 (.cons (app_ob (f := eS_reclaim_Item) (s := 3) h535 (fun _ => rfl)).2.2.2 (.cons (app_ob (f := eS_reclaim_Item) (s := 3) h536 (fun _ => rfl)).1 (.cons (app_ob (f := eS_reclaim_Item) (s := 3) h536 (fun _ => rfl)).2.1 (.cons (app_ob (f := eS_reclaim_Item) (s := 3) h536 (fun _ => rfl)).2.2.1 (.cons (app_ob (f := eS_reclaim_Item) (s := 3) h536 (fun _ => rfl)).2.2.2 .nil)))))))))))))))))))) (G_ringref2_ClockNext_L3_ok hF ks n v_c429 k (wi .i64 (v_n434 + 1)) v_a449 _ h q)
        · rw [if_neg h534] at h
          obtain ⟨v_o485, h576, h⟩ := bind_some h
          refine pkk_sound TTok mix hF 21 (hs := [.y (eS_reclaim_Item v_y436), .c, .dl 1, .fz 2, .w (v_s437.map eS_reclaim_Item), .c, .t false, .c, .c, .t false, .c, .c, .u (.d (.v (.int .i64 (v_c429.fItems.length : Int)))), .dl 1, .tb 48 0 95 3, .n n]) (ts := []) (s := [1, 12, 48, 66]) (l := [2, 5, 6, 7, 8, 49, 50, 51]) (by kernel_rfl) (by kernel_rfl) (.cons (idx_ob (f := eS_reclaim_Item) h517) (.cons (get_ob (f := eS_reclaim_Item) h518) (.cons (show 0 + 3 ≤ 3 by decide) (.cons (sub_ob' (f := eS_reclaim_Item) (s := 3) h519 (fun _ => rfl)).1 (.cons (sub_ob' (f := eS_reclaim_Item) (s := 3) h519 (fun _ => rfl)).2.1 (.cons (sub_ob' (f := eS_reclaim_Item) (s := 3) h519 (fun _ => rfl)).2.2.1 (.cons (sub_ob' (f := eS_reclaim_Item) (s := 3) h519 (fun _ => rfl)).2.2.2.1 (.cons (sub_ob' (f := eS_reclaim_Item) (s := 3) h519 (fun _ => rfl)).2.2.2.2 (.cons (vf h520) (.cons (vf h534) (.cons (show 0 + 2 ≤ 2 by decide) (.cons (len_ob (f := eS_reclaim_Item) (l := v_c429.fItems)) .nil)))))))))))) (G_ringref2_ClockNext_L2_ok hF (.b 2 :: .s (cR (cR (cR (cR (cR (cB (cL (cP (cB (cR (cR (cR (bodyOf Try.f61))))))))))))) :: .b 1 :: .s (cR (cP (cB (cR (cR (cR (bodyOf Try.f61))))))) :: .l k (cP (cB (cR (cR (cR (bodyOf Try.f61)))))) :: ks) n v_s437 v_n434 v_c429 v_y436 n 0 ([] : List S_reclaim_Item) _ h576 ?_)
          cases v_o485 with
          | x0 v_z486 =>
            dsimp only at h
            by_cases h580 : (v_s437.length : Int) > 0
            · rw [if_pos h580] at h
              obtain ⟨v_y489, h581, h⟩ := bind_some h
              obtain ⟨v_r490, h582, h⟩ := bind_some h
              cases h
              exact pkk_sound TTok mix hF 12 (hs := [.u (.d (.v (.int .i64 (v_s437.length : Int)))), .t true, .c, .y (eS_reclaim_Item v_y489), .c, .c, .r ((eI .i64) v_r490), .c, .c, .c, .c]) (ts := []) (s := [0, 3]) (l := [2, 3, 4]) (by kernel_rfl) (by kernel_rfl) (.cons (len_ob (f := eS_reclaim_Item) (l := v_s437)) (.cons (dt h580) (.cons (getI_ob (f := eS_reclaim_Item) h581) (.cons (G_ringref2_ItemAt_ok n (S_reclaim_Clock.mk v_z486 0) v_y489.fId _ h582) (.cons (show 1 + 1 ≤ 2 by decide) (.cons (show 0 + 2 ≤ 2 by decide) .nil)))))) q
            · rw [if_neg h580] at h
              cases h
              exact pkk_sound TTok mix hF 12 (hs := [.u (.d (.v (.int .i64 (v_s437.length : Int)))), .t false, .c, .c, .c]) (ts := []) (s := [0, 3]) (l := [2, 3, 4]) (by kernel_rfl) (by kernel_rfl) (.cons (len_ob (f := eS_reclaim_Item) (l := v_s437)) (.cons (df h580) (.cons (show 0 + 2 ≤ 2 by decide) .nil))) q
    · rw [if_neg h517] at h; cases h
/- ringhall/ringref2.ClockNext -/
def G_ringref2_ClockNext (n : Nat) (v_c429 : S_reclaim_Clock) : Option (S_reclaim_Clock × Int × Int) :=
  (sub v_c429.fItems v_c429.fHand (v_c429.fItems.length : Int)).bind fun (v_s430 : (List S_reclaim_Item)) =>
  (app 16 ([] : (List S_reclaim_Item)) v_s430).bind fun (v_a431 : (List S_reclaim_Item)) =>
  (sub v_c429.fItems 0 v_c429.fHand).bind fun (v_s432 : (List S_reclaim_Item)) =>
  (app 16 v_a431 v_s432).bind fun (v_a433 : (List S_reclaim_Item)) =>
  (G_ringref2_ClockNext_L3 n v_c429 n 1 v_a433).bind fun v_o498 => match v_o498 with
  | .x0 v_z499 v_z500 v_z501 v_z502 =>
    some ((S_reclaim_Clock.mk v_z502 v_z501), v_z499, v_z500)
  | .x1 v_z503 v_z504 v_z505 =>
    some ((S_reclaim_Clock.mk v_z505 0), v_z503, v_z504)
theorem G_ringref2_ClockNext_ok (n : Nat) (v_c429 : S_reclaim_Clock) (r : S_reclaim_Clock × Int × Int) (h : G_ringref2_ClockNext n v_c429 = some r) : Ret Try.prog 61 [eS_reclaim_Clock v_c429] (.tup [eS_reclaim_Clock r.1, (eI .i64) r.2.1, (eI .i64) r.2.2]) := by
  refine ret_run (n := 88) (fn := Try.f61) (c := bodyOf Try.f61) (by kernel_rfl) (by kernel_rfl) (by kernel_rfl) (by kernel_rfl) ?_
  have hF : KC 88 (FinR Try.prog Try.f61 (.tup [eS_reclaim_Clock r.1, (eI .i64) r.2.1, (eI .i64) r.2.2])) := FinR.kc' (by kernel_rfl)
  unfold G_ringref2_ClockNext at h
  obtain ⟨v_s430, h513, h⟩ := bind_some h
  obtain ⟨v_a431, h514, h⟩ := bind_some h
  obtain ⟨v_s432, h515, h⟩ := bind_some h
  obtain ⟨v_a433, h516, h⟩ := bind_some h
  obtain ⟨v_o498, h583, h⟩ := bind_some h
  refine pkk_sound TTok mix hF 8 (hs := [.c, .c, .w (v_s430.map eS_reclaim_Item), .w (v_a431.map eS_reclaim_Item), .c, .c, .w (v_s432.map eS_reclaim_Item), .w (v_a433.map eS_reclaim_Item), .n n]) (ts := []) (s := [0, 3, 45]) (l := [1, 2, 5, 6]) (by kernel_rfl) (by kernel_rfl) (.cons (sub_ob' (f := eS_reclaim_Item) (s := 3) h513 (fun _ => rfl)).1 (.cons (sub_ob' (f := eS_reclaim_Item) (s := 3) h513 (fun _ => rfl)).2.1 (.cons (sub_ob' (f := eS_reclaim_Item) (s := 3) h513 (fun _ => rfl)).2.2.1 (.cons (sub_ob' (f := eS_reclaim_Item) (s := 3) h513 (fun _ => rfl)).2.2.2.1 (.cons (sub_ob' (f := eS_reclaim_Item) (s := 3) h513 (fun _ => rfl)).2.2.2.2 (.cons (app_ob (f := eS_reclaim_Item) (s := 3) h514 (fun _ => rfl)).1 (.cons (app_ob (f := eS_reclaim_Item) (s := 3) h514 (fun _ => rfl)).2.1 (.cons (app_ob (f := eS_reclaim_Item) (s := 3) h514 (fun _ => rfl)).2.2.1 (.cons (app_ob (f := eS_reclaim_Item) (s := 3) h514 (fun _ => rfl)).2.2.2 (.cons (sub_ob (f := eS_reclaim_Item) (s := 3) h515 (fun _ => rfl)).1 (.cons (sub_ob (f := eS_reclaim_Item) (s := 3) h515 (fun _ => rfl)).2.1 (.cons (sub_ob (f := eS_reclaim_Item) (s := 3) h515 (fun _ => rfl)).2.2.1 (.cons (sub_ob (f := eS_reclaim_Item) (s := 3) h515 (fun _ => rfl)).2.2.2.1 (.cons (sub_ob (f := eS_reclaim_Item) (s := 3) h515 (fun _ => rfl)).2.2.2.2 (.cons (app_ob (f := eS_reclaim_Item) (s := 3) h516 (fun _ => rfl)).1 (.cons (app_ob (f := eS_reclaim_Item) (s := 3) h516 (fun _ => rfl)).2.1 (.cons (app_ob (f := eS_reclaim_Item) (s := 3) h516 (fun _ => rfl)).2.2.1 (.cons (app_ob (f := eS_reclaim_Item) (s := 3) h516 (fun _ => rfl)).2.2.2 .nil)))))))))))))))))) (G_ringref2_ClockNext_L3_ok hF (.b 0 :: []) n v_c429 n 1 v_a433 _ h583 ?_)
  cases v_o498 with
  | x0 v_z499 v_z500 v_z501 v_z502 =>
    dsimp only at h
    obtain rfl := Option.some.inj h
    exact pend_sound TTok mix 1 (hs := []) (by kernel_rfl) (by kernel_rfl) (by kernel_rfl) .nil
  | x1 v_z503 v_z504 v_z505 =>
    dsimp only at h
    obtain rfl := Option.some.inj h
    exact pend_sound TTok mix 1 (hs := []) (by kernel_rfl) (by kernel_rfl) (by kernel_rfl) .nil
inductive G_ringlaw2_ReclaimTells_C1_R where
  | x0 (v_x195 : Bool)
def G_ringlaw2_ReclaimTells_C1_ex : G_ringlaw2_ReclaimTells_C1_R → Ex
  | .x0 _ => .normal
def G_ringlaw2_ReclaimTells_C1_st (v_r55 : (S_reclaim_Clock × Int)) (v_r62 : (S_reclaim_Clock × Int)) (v_r134 : (S_reclaim_Clock × Int × Int × Int)) (v_r157 : (Int)) : G_ringlaw2_ReclaimTells_C1_R → PS
  | .x0 v_x195 => ⟨[dd, dd, dd, dd, .d (.v (.bool v_x195)), dd, dd, dd, dd, dd, dd, dd, dd, dd, dd, dd, dd, dd, dd, dd, dd, dd, dd, dd, dd, dd, dd, dd, dd, dd, dd, dd, dd, dd, dd, dd, dd, dd, dd, dd, dd, dd, dd, dd, dd, dd, dd, dd, dd, dd, dd, dd, dd, dd, dd, dd, dd, dd, dd, dd, dd, dd, dd, dd, dd, dd, dd, dd, dd, dd, dd, dd, dd, dd, dd, dd, dd, dd, dd, dd, dd, dd, dd, dd, dd, dd, dd, dd, dd, dd, dd, dd, dd, dd, dd, dd, dd, dd, dd, dd, dd, dd, dd, dd, dd, dd, dd, dd, dd, dd, dd, dd, dd, dd, dd, dd, dd, dd, dd, dd, dd, dd, dd, dd, dd, dd, dd, dd, dd, dd, dd, dd, dd, dd, dd, dd, dd, dd, dd, dd, dd, dd, dd, dd, dd, dd, dd, dd, dd, dd, dd, dd, dd, dd, dd, dd, dd, dd, dd, dd, dd, dd, dd, dd, dd, dd, dd, dd, dd, dd, dd, dd, dd, dd, dd, dd, dd, dd, dd, dd, dd, dd, dd, dd, dd, dd, dd, dd, dd, dd, dd, dd, dd, dd, dd, dd, dd, dd, dd, dd, dd, dd, dd, dd, dd, dd, dd, dd, dd, dd, dd, dd, dd, dd, dd, dd, dd, dd, dd, dd, dd, dd, dd, dd, dd, dd, dd, dd, dd, dd, dd, dd, dd, dd, dd, dd, dd, dd, dd, dd, dd, dd, dd, dd, dd, dd, dd, dd, dd], []⟩
def G_ringlaw2_ReclaimTells_C1_hd (v_r55 : (S_reclaim_Clock × Int)) (v_r62 : (S_reclaim_Clock × Int)) (v_r134 : (S_reclaim_Clock × Int × Int × Int)) (v_r157 : (Int))  : PS := ⟨[dd, dd, dd, dd, dd, .ref 0 0, .d (.v (.int .i64 v_r55.2)), .ref 1 0, .d (.v (.int .i64 v_r62.2)), .ref 2 0, .d (.v (.int .i64 v_r134.2.1)), .d (.v (.int .i64 v_r134.2.2.1)), .d (.v (.int .i64 v_r134.2.2.2)), .ref 3 0, .d (.v (.int .i64 v_r157)), dd, dd, dd, dd, dd, dd, dd, dd, dd, dd, dd, dd, dd, dd, dd, dd, dd, dd, dd, dd, dd, dd, dd, dd, dd, dd, dd, dd, dd, dd, dd, dd, dd, dd, dd, dd, dd, dd, dd, dd, dd, dd, dd, dd, dd, dd, dd, dd, dd, dd, dd, dd, dd, dd, dd, dd, dd, dd, dd, dd, dd, dd, dd, dd, dd, dd, dd, dd, dd, dd, dd, dd, dd, dd, dd, dd, dd, dd, dd, dd, dd, dd, dd, dd, dd, dd, dd, dd, dd, dd, dd, dd, dd, dd, dd, dd, dd, dd, dd, dd, dd, dd, dd, dd, dd, dd, dd, dd, dd, dd, dd, dd, dd, dd, dd, dd, dd, dd, dd, dd, dd, dd, dd, dd, dd, dd, dd, dd, dd, dd, dd, dd, dd, dd, dd, dd, dd, dd, dd, dd, dd, dd, dd, dd, dd, dd, dd, dd, dd, dd, dd, dd, dd, dd, dd, dd, dd, dd, dd, dd, dd, dd, dd, dd, dd, dd, dd, dd, dd, dd, dd, dd, dd, dd, dd, dd, dd, dd, dd, dd, dd, dd, dd, dd, dd, dd, dd, dd, dd, dd, dd, dd, dd, dd, dd, dd, dd, dd, dd, dd, dd, dd, dd, dd, dd, dd, dd, dd, dd, dd, dd, dd, dd, dd, dd, dd, dd, dd, dd, dd, dd, dd, dd, dd, dd, dd, dd, dd, dd, dd, dd, dd, dd, dd], [.box [.d (.sl (v_r55.1.fItems.map eS_reclaim_Item)), .d (.v (.int .i64 v_r55.1.fHand))], .box [.d (.sl (v_r62.1.fItems.map eS_reclaim_Item)), .d (.v (.int .i64 v_r62.1.fHand))], .box [.d (.sl (v_r134.1.fItems.map eS_reclaim_Item)), .d (.v (.int .i64 v_r134.1.fHand))], .box [.d (vnil), .d (.v (.int .i64 0))]]⟩
def G_ringlaw2_ReclaimTells_C1 (n : Nat) (v_r55 : (S_reclaim_Clock × Int)) (v_r62 : (S_reclaim_Clock × Int)) (v_r134 : (S_reclaim_Clock × Int × Int × Int)) (v_r157 : (Int)) : Option G_ringlaw2_ReclaimTells_C1_R :=
  (G_ringref2_ClockSame n v_r55.1 (S_reclaim_Clock.mk ([] : (List S_reclaim_Item)) 0)).bind fun (v_r192 : (Bool)) =>
  if v_r192 = true then
   if v_r55.2 = v_r157 then
    (G_ringref2_ClockSame n v_r62.1 (S_reclaim_Clock.mk ([] : (List S_reclaim_Item)) 0)).bind fun (v_r193 : (Bool)) =>
    if v_r193 = true then
     if v_r62.2 = v_r157 then
      (G_ringref2_ClockSame n v_r134.1 (S_reclaim_Clock.mk ([] : (List S_reclaim_Item)) 0)).bind fun (v_r194 : (Bool)) =>
      if v_r194 = true then
       if v_r134.2.1 = 0 then
        if v_r134.2.2.1 = 0 then
         some (.x0 (v_r134.2.2.2 == v_r157))
        else
         some (.x0 false)
       else
        some (.x0 false)
      else
       some (.x0 false)
     else
      some (.x0 false)
    else
     some (.x0 false)
   else
    some (.x0 false)
  else
   some (.x0 false)
theorem G_ringlaw2_ReclaimTells_C1_ok {Fi : Ex → PS → Prop} (hF : KC 249 Fi) (ks : List Fr) (n : Nat) (v_r55 : (S_reclaim_Clock × Int)) (v_r62 : (S_reclaim_Clock × Int)) (v_r134 : (S_reclaim_Clock × Int × Int × Int)) (v_r157 : (Int))  (o : G_ringlaw2_ReclaimTells_C1_R) (h : G_ringlaw2_ReclaimTells_C1 n v_r55 v_r62 v_r134 v_r157 = some o) (q : RunE Try.prog 249 Fi ks (G_ringlaw2_ReclaimTells_C1_ex o) (G_ringlaw2_ReclaimTells_C1_st v_r55 v_r62 v_r134 v_r157 o)) : RunE Try.prog 249 Fi (.s (cL (cT (cR (cL (cR (cR (cR (cR (cR (cR (cR (bodyOf Try.f7)))))))))))) :: ks) .normal (G_ringlaw2_ReclaimTells_C1_hd v_r55 v_r62 v_r134 v_r157) := by
  unfold G_ringlaw2_ReclaimTells_C1 at h
  obtain ⟨v_r192, h237, h⟩ := bind_some h
  by_cases h238 : v_r192 = true
  · rw [if_pos h238] at h
    by_cases h239 : v_r55.2 = v_r157
    · rw [if_pos h239] at h
      obtain ⟨v_r193, h240, h⟩ := bind_some h
      by_cases h241 : v_r193 = true
      · rw [if_pos h241] at h
        by_cases h242 : v_r62.2 = v_r157
        · rw [if_pos h242] at h
          obtain ⟨v_r194, h243, h⟩ := bind_some h
          by_cases h244 : v_r194 = true
          · rw [if_pos h244] at h
            by_cases h245 : v_r134.2.1 = 0
            · rw [if_pos h245] at h
              by_cases h246 : v_r134.2.2.1 = 0
              · rw [if_pos h246] at h
                cases h
                exact pkk_sound TTok mix hF 1 (hs := [.c, .c, .r (eB v_r192), .t true, .c, .c, .t true, .c, .c, .c, .c, .r (eB v_r193), .t true, .c, .c, .t true, .c, .c, .c, .c, .r (eB v_r194), .t true, .c, .t true, .c, .t true, .c, .c]) (ts := []) (s := []) (l := [4]) (by kernel_rfl) (by kernel_rfl) (.cons (G_ringref2_ClockSame_ok n v_r55.1 (S_reclaim_Clock.mk ([] : (List S_reclaim_Item)) 0) _ h237) (.cons h238 (.cons (bt h239) (.cons (G_ringref2_ClockSame_ok n v_r62.1 (S_reclaim_Clock.mk ([] : (List S_reclaim_Item)) 0) _ h240) (.cons h241 (.cons (bt h242) (.cons (G_ringref2_ClockSame_ok n v_r134.1 (S_reclaim_Clock.mk ([] : (List S_reclaim_Item)) 0) _ h243) (.cons h244 (.cons (bt h245) (.cons (bt h246) .nil)))))))))) q
              · rw [if_neg h246] at h
                cases h
                exact pkk_sound TTok mix hF 1 (hs := [.c, .c, .r (eB v_r192), .t true, .c, .c, .t true, .c, .c, .c, .c, .r (eB v_r193), .t true, .c, .c, .t true, .c, .c, .c, .c, .r (eB v_r194), .t true, .c, .t true, .c, .t false, .c, .c]) (ts := []) (s := []) (l := [4]) (by kernel_rfl) (by kernel_rfl) (.cons (G_ringref2_ClockSame_ok n v_r55.1 (S_reclaim_Clock.mk ([] : (List S_reclaim_Item)) 0) _ h237) (.cons h238 (.cons (bt h239) (.cons (G_ringref2_ClockSame_ok n v_r62.1 (S_reclaim_Clock.mk ([] : (List S_reclaim_Item)) 0) _ h240) (.cons h241 (.cons (bt h242) (.cons (G_ringref2_ClockSame_ok n v_r134.1 (S_reclaim_Clock.mk ([] : (List S_reclaim_Item)) 0) _ h243) (.cons h244 (.cons (bt h245) (.cons (bf h246) .nil)))))))))) q
            · rw [if_neg h245] at h
              cases h
              exact pkk_sound TTok mix hF 1 (hs := [.c, .c, .r (eB v_r192), .t true, .c, .c, .t true, .c, .c, .c, .c, .r (eB v_r193), .t true, .c, .c, .t true, .c, .c, .c, .c, .r (eB v_r194), .t true, .c, .t false, .c, .c, .c, .c]) (ts := []) (s := []) (l := [4]) (by kernel_rfl) (by kernel_rfl) (.cons (G_ringref2_ClockSame_ok n v_r55.1 (S_reclaim_Clock.mk ([] : (List S_reclaim_Item)) 0) _ h237) (.cons h238 (.cons (bt h239) (.cons (G_ringref2_ClockSame_ok n v_r62.1 (S_reclaim_Clock.mk ([] : (List S_reclaim_Item)) 0) _ h240) (.cons h241 (.cons (bt h242) (.cons (G_ringref2_ClockSame_ok n v_r134.1 (S_reclaim_Clock.mk ([] : (List S_reclaim_Item)) 0) _ h243) (.cons h244 (.cons (bf h245) .nil))))))))) q
          · rw [if_neg h244] at h
            cases h
            exact pkk_sound TTok mix hF 1 (hs := [.c, .c, .r (eB v_r192), .t true, .c, .c, .t true, .c, .c, .c, .c, .r (eB v_r193), .t true, .c, .c, .t true, .c, .c, .c, .c, .r (eB v_r194), .t false, .c, .c, .c, .c, .c, .c]) (ts := []) (s := []) (l := [4]) (by kernel_rfl) (by kernel_rfl) (.cons (G_ringref2_ClockSame_ok n v_r55.1 (S_reclaim_Clock.mk ([] : (List S_reclaim_Item)) 0) _ h237) (.cons h238 (.cons (bt h239) (.cons (G_ringref2_ClockSame_ok n v_r62.1 (S_reclaim_Clock.mk ([] : (List S_reclaim_Item)) 0) _ h240) (.cons h241 (.cons (bt h242) (.cons (G_ringref2_ClockSame_ok n v_r134.1 (S_reclaim_Clock.mk ([] : (List S_reclaim_Item)) 0) _ h243) (.cons (vf h244) .nil)))))))) q
        · rw [if_neg h242] at h
          cases h
          exact pkk_sound TTok mix hF 1 (hs := [.c, .c, .r (eB v_r192), .t true, .c, .c, .t true, .c, .c, .c, .c, .r (eB v_r193), .t true, .c, .c, .t false, .c, .c, .c, .c, .c, .c, .c, .c, .c]) (ts := []) (s := []) (l := [4]) (by kernel_rfl) (by kernel_rfl) (.cons (G_ringref2_ClockSame_ok n v_r55.1 (S_reclaim_Clock.mk ([] : (List S_reclaim_Item)) 0) _ h237) (.cons h238 (.cons (bt h239) (.cons (G_ringref2_ClockSame_ok n v_r62.1 (S_reclaim_Clock.mk ([] : (List S_reclaim_Item)) 0) _ h240) (.cons h241 (.cons (bf h242) .nil)))))) q
      · rw [if_neg h241] at h
        cases h
        exact pkk_sound TTok mix hF 1 (hs := [.c, .c, .r (eB v_r192), .t true, .c, .c, .t true, .c, .c, .c, .c, .r (eB v_r193), .t false, .c, .c, .c, .c, .c, .c, .c, .c, .c, .c, .c, .c]) (ts := []) (s := []) (l := [4]) (by kernel_rfl) (by kernel_rfl) (.cons (G_ringref2_ClockSame_ok n v_r55.1 (S_reclaim_Clock.mk ([] : (List S_reclaim_Item)) 0) _ h237) (.cons h238 (.cons (bt h239) (.cons (G_ringref2_ClockSame_ok n v_r62.1 (S_reclaim_Clock.mk ([] : (List S_reclaim_Item)) 0) _ h240) (.cons (vf h241) .nil))))) q
    · rw [if_neg h239] at h
      cases h
      exact pkk_sound TTok mix hF 1 (hs := [.c, .c, .r (eB v_r192), .t true, .c, .c, .t false, .c, .c, .c, .c, .c, .c, .c, .c, .c, .c, .c, .c, .c, .c, .c]) (ts := []) (s := []) (l := [4]) (by kernel_rfl) (by kernel_rfl) (.cons (G_ringref2_ClockSame_ok n v_r55.1 (S_reclaim_Clock.mk ([] : (List S_reclaim_Item)) 0) _ h237) (.cons h238 (.cons (bf h239) .nil))) q
  · rw [if_neg h238] at h
    cases h
    exact pkk_sound TTok mix hF 1 (hs := [.c, .c, .r (eB v_r192), .t false, .c, .c, .c, .c, .c, .c, .c, .c, .c, .c, .c, .c, .c, .c, .c, .c, .c, .c]) (ts := []) (s := []) (l := [4]) (by kernel_rfl) (by kernel_rfl) (.cons (G_ringref2_ClockSame_ok n v_r55.1 (S_reclaim_Clock.mk ([] : (List S_reclaim_Item)) 0) _ h237) (.cons (vf h238) .nil)) q
inductive G_ringlaw2_ReclaimTells_C2_R where
  | x0 (v_x358 : Bool)
def G_ringlaw2_ReclaimTells_C2_ex : G_ringlaw2_ReclaimTells_C2_R → Ex
  | .x0 _ => .normal
def G_ringlaw2_ReclaimTells_C2_st (v_r55 : (S_reclaim_Clock × Int)) (v_r62 : (S_reclaim_Clock × Int)) (v_r134 : (S_reclaim_Clock × Int × Int × Int)) (v_c1 : S_reclaim_Clock) (v_r353 : ((List S_reclaim_Item))) (v_r205 : (Int)) (v_x2 : S_reclaim_Item) : G_ringlaw2_ReclaimTells_C2_R → PS
  | .x0 v_x358 => ⟨[dd, dd, .ref 0 0, dd, dd, dd, dd, dd, dd, .ref 1 0, .d (.v (.int .i64 v_r134.2.1)), .d (.v (.int .i64 v_r134.2.2.1)), .d (.v (.int .i64 v_r134.2.2.2)), .ref 2 0, dd, dd, dd, dd, dd, dd, dd, dd, dd, dd, dd, dd, dd, dd, dd, dd, dd, dd, dd, dd, dd, dd, dd, dd, dd, dd, dd, dd, dd, dd, dd, dd, dd, dd, dd, dd, dd, dd, dd, dd, dd, dd, dd, dd, dd, dd, dd, dd, dd, dd, dd, dd, dd, dd, dd, dd, dd, dd, dd, dd, dd, dd, dd, dd, dd, dd, dd, dd, dd, dd, dd, dd, dd, dd, dd, dd, dd, dd, dd, dd, dd, dd, dd, dd, dd, dd, dd, dd, dd, dd, dd, dd, dd, dd, dd, dd, dd, dd, dd, dd, dd, dd, dd, dd, dd, dd, dd, dd, dd, dd, dd, dd, dd, dd, dd, dd, dd, dd, dd, dd, dd, dd, dd, dd, dd, dd, dd, dd, dd, dd, dd, dd, dd, dd, dd, dd, dd, dd, dd, dd, dd, dd, dd, dd, dd, dd, dd, dd, dd, dd, dd, dd, dd, dd, dd, dd, dd, .d (.v (.bool v_x358)), dd, dd, dd, dd, dd, dd, dd, dd, dd, dd, dd, dd, dd, dd, dd, dd, dd, dd, dd, dd, dd, dd, dd, dd, dd, dd, dd, dd, dd, dd, dd, dd, dd, dd, dd, dd, dd, dd, dd, dd, dd, dd, dd, dd, dd, dd, dd, dd, dd, dd, dd, dd, dd, dd, dd, dd, dd, dd, dd, dd, dd, dd, dd, dd, dd, dd, dd, dd, dd, dd, dd, dd, dd, dd, dd, dd, dd], [.box [.d (.sl (v_c1.fItems.map eS_reclaim_Item)), .d (.v (.int .i64 v_c1.fHand))], .box [.d (.sl (v_r134.1.fItems.map eS_reclaim_Item)), .d (.v (.int .i64 v_r134.1.fHand))], .box [.d (vnil), .d (.v (.int .i64 0))]]⟩
def G_ringlaw2_ReclaimTells_C2_hd (v_r55 : (S_reclaim_Clock × Int)) (v_r62 : (S_reclaim_Clock × Int)) (v_r134 : (S_reclaim_Clock × Int × Int × Int)) (v_c1 : S_reclaim_Clock) (v_r353 : ((List S_reclaim_Item))) (v_r205 : (Int)) (v_x2 : S_reclaim_Item)  : PS := ⟨[dd, dd, .ref 0 0, dd, dd, .ref 1 0, .d (.v (.int .i64 v_r55.2)), .ref 2 0, .d (.v (.int .i64 v_r62.2)), .ref 3 0, .d (.v (.int .i64 v_r134.2.1)), .d (.v (.int .i64 v_r134.2.2.1)), .d (.v (.int .i64 v_r134.2.2.2)), .ref 4 0, dd, dd, .ref 5 0, dd, dd, dd, dd, dd, dd, dd, dd, dd, dd, dd, dd, dd, dd, dd, dd, dd, dd, dd, dd, dd, dd, dd, dd, dd, dd, dd, dd, dd, dd, dd, dd, dd, dd, dd, dd, dd, dd, dd, dd, dd, dd, dd, dd, dd, dd, dd, dd, dd, dd, dd, dd, dd, dd, dd, dd, dd, dd, dd, dd, dd, dd, dd, dd, dd, dd, dd, dd, dd, dd, dd, dd, dd, dd, dd, dd, dd, dd, dd, dd, dd, dd, dd, dd, dd, dd, dd, dd, dd, dd, dd, dd, dd, dd, dd, dd, dd, dd, dd, dd, dd, dd, dd, dd, dd, dd, dd, dd, dd, dd, dd, dd, dd, dd, dd, dd, dd, dd, dd, dd, dd, dd, dd, dd, dd, dd, dd, dd, dd, dd, dd, dd, dd, dd, dd, dd, dd, dd, dd, dd, dd, dd, dd, dd, dd, dd, dd, dd, dd, dd, dd, dd, dd, dd, dd, dd, dd, dd, dd, dd, dd, dd, dd, dd, dd, dd, dd, dd, dd, dd, dd, dd, dd, dd, dd, dd, dd, dd, dd, dd, dd, dd, dd, dd, dd, dd, dd, dd, dd, dd, dd, dd, dd, dd, dd, dd, dd, dd, dd, dd, dd, dd, dd, dd, dd, dd, dd, dd, dd, dd, dd, dd, dd, dd, dd, dd, dd, dd, dd, dd, dd, dd, dd, dd, dd, dd, dd, dd, dd, dd, dd, dd], [.box [.d (.sl (v_c1.fItems.map eS_reclaim_Item)), .d (.v (.int .i64 v_c1.fHand))], .box [.d (.sl (v_r55.1.fItems.map eS_reclaim_Item)), .d (.v (.int .i64 v_r55.1.fHand))], .box [.d (.sl (v_r62.1.fItems.map eS_reclaim_Item)), .d (.v (.int .i64 v_r62.1.fHand))], .box [.d (.sl (v_r134.1.fItems.map eS_reclaim_Item)), .d (.v (.int .i64 v_r134.1.fHand))], .box [.d (vnil), .d (.v (.int .i64 0))], .box [.srf 6, .d (.v (.int .i64 v_c1.fHand))], .row 95 3 ((v_r353.set (v_r205).toNat v_x2).map eS_reclaim_Item)]⟩
def G_ringlaw2_ReclaimTells_C2 (n : Nat) (v_r55 : (S_reclaim_Clock × Int)) (v_r62 : (S_reclaim_Clock × Int)) (v_r134 : (S_reclaim_Clock × Int × Int × Int)) (v_c1 : S_reclaim_Clock) (v_r353 : ((List S_reclaim_Item))) (v_r205 : (Int)) (v_x2 : S_reclaim_Item) : Option G_ringlaw2_ReclaimTells_C2_R :=
  (G_ringref2_ClockSame n v_r55.1 (S_reclaim_Clock.mk ([] : (List S_reclaim_Item)) 0)).bind fun (v_r357 : (Bool)) =>
  if v_r357 = true then
   if v_r55.2 = 5 then
    (G_ringref2_ClockSame n v_r62.1 (S_reclaim_Clock.mk (v_r353.set (v_r205).toNat v_x2) v_c1.fHand)).bind fun (v_r360 : (Bool)) =>
    if v_r360 = true then
     some (.x0 (v_r62.2 != 0))
    else
     some (.x0 true)
   else
    some (.x0 true)
  else
   some (.x0 true)
theorem G_ringlaw2_ReclaimTells_C2_ok {Fi : Ex → PS → Prop} (hF : KC 249 Fi) (ks : List Fr) (n : Nat) (v_r55 : (S_reclaim_Clock × Int)) (v_r62 : (S_reclaim_Clock × Int)) (v_r134 : (S_reclaim_Clock × Int × Int × Int)) (v_c1 : S_reclaim_Clock) (v_r353 : ((List S_reclaim_Item))) (v_r205 : (Int)) (v_x2 : S_reclaim_Item)  (o : G_ringlaw2_ReclaimTells_C2_R) (h : G_ringlaw2_ReclaimTells_C2 n v_r55 v_r62 v_r134 v_c1 v_r353 v_r205 v_x2 = some o) (q : RunE Try.prog 249 Fi ks (G_ringlaw2_ReclaimTells_C2_ex o) (G_ringlaw2_ReclaimTells_C2_st v_r55 v_r62 v_r134 v_c1 v_r353 v_r205 v_x2 o)) : RunE Try.prog 249 Fi (.s (cL (cR (cR (cT (cR (cB (cL (cR (cR (cR (cR (cR (cR (cR (cR (cR (bodyOf Try.f7))))))))))))))))) :: ks) .normal (G_ringlaw2_ReclaimTells_C2_hd v_r55 v_r62 v_r134 v_c1 v_r353 v_r205 v_x2) := by
  unfold G_ringlaw2_ReclaimTells_C2 at h
  obtain ⟨v_r357, h436, h⟩ := bind_some h
  by_cases h437 : v_r357 = true
  · rw [if_pos h437] at h
    by_cases h438 : v_r55.2 = 5
    · rw [if_pos h438] at h
      obtain ⟨v_r360, h439, h⟩ := bind_some h
      by_cases h440 : v_r360 = true
      · rw [if_pos h440] at h
        cases h
        exact pkk_sound TTok mix hF 1 (hs := [.c, .c, .r (eB v_r357), .t false, .c, .t false, .c, .c, .c, .c, .c, .r (eB v_r360), .c, .t false, .c]) (ts := []) (s := [0, 3, 4]) (l := [2, 9, 10, 11, 12, 13, 171]) (by kernel_rfl) (by kernel_rfl) (.cons (G_ringref2_ClockSame_ok n v_r55.1 (S_reclaim_Clock.mk ([] : (List S_reclaim_Item)) 0) _ h436) (.cons (bnf h437) (.cons (nf h438) (.cons (G_ringref2_ClockSame_ok n v_r62.1 (S_reclaim_Clock.mk (v_r353.set (v_r205).toNat v_x2) v_c1.fHand) _ h439) (.cons (bnf h440) .nil))))) q
      · rw [if_neg h440] at h
        cases h
        exact pkk_sound TTok mix hF 1 (hs := [.c, .c, .r (eB v_r357), .t false, .c, .t false, .c, .c, .c, .c, .c, .r (eB v_r360), .c, .t true, .c]) (ts := []) (s := [0, 3, 4]) (l := [2, 9, 10, 11, 12, 13, 171]) (by kernel_rfl) (by kernel_rfl) (.cons (G_ringref2_ClockSame_ok n v_r55.1 (S_reclaim_Clock.mk ([] : (List S_reclaim_Item)) 0) _ h436) (.cons (bnf h437) (.cons (nf h438) (.cons (G_ringref2_ClockSame_ok n v_r62.1 (S_reclaim_Clock.mk (v_r353.set (v_r205).toNat v_x2) v_c1.fHand) _ h439) (.cons (bnt (vf h440)) .nil))))) q
    · rw [if_neg h438] at h
      cases h
      exact pkk_sound TTok mix hF 1 (hs := [.c, .c, .r (eB v_r357), .t false, .c, .t true, .c, .c, .c, .c, .c]) (ts := []) (s := [0, 3, 4]) (l := [2, 9, 10, 11, 12, 13, 171]) (by kernel_rfl) (by kernel_rfl) (.cons (G_ringref2_ClockSame_ok n v_r55.1 (S_reclaim_Clock.mk ([] : (List S_reclaim_Item)) 0) _ h436) (.cons (bnf h437) (.cons (nt h438) .nil))) q
  · rw [if_neg h437] at h
    cases h
    exact pkk_sound TTok mix hF 1 (hs := [.c, .c, .r (eB v_r357), .t true, .c, .c, .c, .c, .c, .c, .c]) (ts := []) (s := [0, 3, 4]) (l := [2, 9, 10, 11, 12, 13, 171]) (by kernel_rfl) (by kernel_rfl) (.cons (G_ringref2_ClockSame_ok n v_r55.1 (S_reclaim_Clock.mk ([] : (List S_reclaim_Item)) 0) _ h436) (.cons (bnt (vf h437)) .nil)) q
inductive G_ringlaw2_ReclaimTells_C3_R where
  | x0 (v_x369 : Bool)
def G_ringlaw2_ReclaimTells_C3_ex : G_ringlaw2_ReclaimTells_C3_R → Ex
  | .x0 _ => .normal
def G_ringlaw2_ReclaimTells_C3_st (v_r55 : (S_reclaim_Clock × Int)) (v_r62 : (S_reclaim_Clock × Int)) (v_r134 : (S_reclaim_Clock × Int × Int × Int)) (v_c1 : S_reclaim_Clock) : G_ringlaw2_ReclaimTells_C3_R → PS
  | .x0 v_x369 => ⟨[dd, dd, .ref 0 0, dd, dd, dd, dd, dd, dd, .ref 1 0, .d (.v (.int .i64 v_r134.2.1)), .d (.v (.int .i64 v_r134.2.2.1)), .d (.v (.int .i64 v_r134.2.2.2)), .ref 2 0, dd, dd, dd, dd, dd, dd, dd, dd, dd, dd, dd, dd, dd, dd, dd, dd, dd, dd, dd, dd, dd, dd, dd, dd, dd, dd, dd, dd, dd, dd, dd, dd, dd, dd, dd, dd, dd, dd, dd, dd, dd, dd, dd, dd, dd, dd, dd, dd, dd, dd, dd, dd, dd, dd, dd, dd, dd, dd, dd, dd, dd, dd, dd, dd, dd, dd, dd, dd, dd, dd, dd, dd, dd, dd, dd, dd, dd, dd, dd, dd, dd, dd, dd, dd, dd, dd, dd, dd, dd, dd, dd, dd, dd, dd, dd, dd, dd, dd, dd, dd, dd, dd, dd, dd, dd, dd, dd, dd, dd, dd, dd, dd, dd, dd, dd, dd, dd, dd, dd, dd, dd, dd, dd, dd, dd, dd, dd, dd, dd, dd, dd, dd, dd, dd, dd, dd, dd, dd, dd, dd, dd, dd, dd, dd, dd, dd, dd, dd, dd, dd, dd, dd, dd, dd, dd, dd, dd, dd, dd, dd, dd, dd, dd, dd, dd, dd, dd, dd, dd, dd, dd, dd, dd, dd, dd, dd, dd, dd, dd, dd, .d (.v (.bool v_x369)), dd, dd, dd, dd, dd, dd, dd, dd, dd, dd, dd, dd, dd, dd, dd, dd, dd, dd, dd, dd, dd, dd, dd, dd, dd, dd, dd, dd, dd, dd, dd, dd, dd, dd, dd, dd, dd, dd, dd, dd, dd, dd, dd, dd, dd, dd, dd, dd, dd, dd, dd, dd, dd, dd], [.box [.d (.sl (v_c1.fItems.map eS_reclaim_Item)), .d (.v (.int .i64 v_c1.fHand))], .box [.d (.sl (v_r134.1.fItems.map eS_reclaim_Item)), .d (.v (.int .i64 v_r134.1.fHand))], .box [.d (vnil), .d (.v (.int .i64 0))]]⟩
def G_ringlaw2_ReclaimTells_C3_hd (v_r55 : (S_reclaim_Clock × Int)) (v_r62 : (S_reclaim_Clock × Int)) (v_r134 : (S_reclaim_Clock × Int × Int × Int)) (v_c1 : S_reclaim_Clock)  : PS := ⟨[dd, dd, .ref 0 0, dd, dd, .ref 1 0, .d (.v (.int .i64 v_r55.2)), .ref 2 0, .d (.v (.int .i64 v_r62.2)), .ref 3 0, .d (.v (.int .i64 v_r134.2.1)), .d (.v (.int .i64 v_r134.2.2.1)), .d (.v (.int .i64 v_r134.2.2.2)), .ref 4 0, dd, dd, dd, dd, dd, dd, dd, dd, dd, dd, dd, dd, dd, dd, dd, dd, dd, dd, dd, dd, dd, dd, dd, dd, dd, dd, dd, dd, dd, dd, dd, dd, dd, dd, dd, dd, dd, dd, dd, dd, dd, dd, dd, dd, dd, dd, dd, dd, dd, dd, dd, dd, dd, dd, dd, dd, dd, dd, dd, dd, dd, dd, dd, dd, dd, dd, dd, dd, dd, dd, dd, dd, dd, dd, dd, dd, dd, dd, dd, dd, dd, dd, dd, dd, dd, dd, dd, dd, dd, dd, dd, dd, dd, dd, dd, dd, dd, dd, dd, dd, dd, dd, dd, dd, dd, dd, dd, dd, dd, dd, dd, dd, dd, dd, dd, dd, dd, dd, dd, dd, dd, dd, dd, dd, dd, dd, dd, dd, dd, dd, dd, dd, dd, dd, dd, dd, dd, dd, dd, dd, dd, dd, dd, dd, dd, dd, dd, dd, dd, dd, dd, dd, dd, dd, dd, dd, dd, dd, dd, dd, dd, dd, dd, dd, dd, dd, dd, dd, dd, dd, dd, dd, dd, dd, dd, dd, dd, dd, dd, dd, dd, dd, dd, dd, dd, dd, dd, dd, dd, dd, dd, dd, dd, dd, dd, dd, dd, dd, dd, dd, dd, dd, dd, dd, dd, dd, dd, dd, dd, dd, dd, dd, dd, dd, dd, dd, dd, dd, dd, dd, dd, dd, dd, dd, dd, dd, dd, dd, dd, dd, dd, dd, dd, dd, dd], [.box [.d (.sl (v_c1.fItems.map eS_reclaim_Item)), .d (.v (.int .i64 v_c1.fHand))], .box [.d (.sl (v_r55.1.fItems.map eS_reclaim_Item)), .d (.v (.int .i64 v_r55.1.fHand))], .box [.d (.sl (v_r62.1.fItems.map eS_reclaim_Item)), .d (.v (.int .i64 v_r62.1.fHand))], .box [.d (.sl (v_r134.1.fItems.map eS_reclaim_Item)), .d (.v (.int .i64 v_r134.1.fHand))], .box [.d (vnil), .d (.v (.int .i64 0))]]⟩
def G_ringlaw2_ReclaimTells_C3 (n : Nat) (v_r55 : (S_reclaim_Clock × Int)) (v_r62 : (S_reclaim_Clock × Int)) (v_r134 : (S_reclaim_Clock × Int × Int × Int)) (v_c1 : S_reclaim_Clock) : Option G_ringlaw2_ReclaimTells_C3_R :=
  (G_ringref2_ClockSame n v_r55.1 (S_reclaim_Clock.mk ([] : (List S_reclaim_Item)) 0)).bind fun (v_r368 : (Bool)) =>
  if v_r368 = true then
   if v_r55.2 = 6 then
    (G_ringref2_ClockSame n v_r62.1 (S_reclaim_Clock.mk ([] : (List S_reclaim_Item)) 0)).bind fun (v_r371 : (Bool)) =>
    if v_r371 = true then
     some (.x0 (v_r62.2 != 4))
    else
     some (.x0 true)
   else
    some (.x0 true)
  else
   some (.x0 true)
theorem G_ringlaw2_ReclaimTells_C3_ok {Fi : Ex → PS → Prop} (hF : KC 249 Fi) (ks : List Fr) (n : Nat) (v_r55 : (S_reclaim_Clock × Int)) (v_r62 : (S_reclaim_Clock × Int)) (v_r134 : (S_reclaim_Clock × Int × Int × Int)) (v_c1 : S_reclaim_Clock)  (o : G_ringlaw2_ReclaimTells_C3_R) (h : G_ringlaw2_ReclaimTells_C3 n v_r55 v_r62 v_r134 v_c1 = some o) (q : RunE Try.prog 249 Fi ks (G_ringlaw2_ReclaimTells_C3_ex o) (G_ringlaw2_ReclaimTells_C3_st v_r55 v_r62 v_r134 v_c1 o)) : RunE Try.prog 249 Fi (.s (cL (cT (cR (cF (cR (cB (cL (cR (cR (cR (cR (cR (cR (cR (cR (cR (bodyOf Try.f7))))))))))))))))) :: ks) .normal (G_ringlaw2_ReclaimTells_C3_hd v_r55 v_r62 v_r134 v_c1) := by
  unfold G_ringlaw2_ReclaimTells_C3 at h
  obtain ⟨v_r368, h449, h⟩ := bind_some h
  by_cases h450 : v_r368 = true
  · rw [if_pos h450] at h
    by_cases h451 : v_r55.2 = 6
    · rw [if_pos h451] at h
      obtain ⟨v_r371, h452, h⟩ := bind_some h
      by_cases h453 : v_r371 = true
      · rw [if_pos h453] at h
        cases h
        exact pkk_sound TTok mix hF 1 (hs := [.c, .c, .r (eB v_r368), .t false, .c, .t false, .c, .c, .c, .c, .r (eB v_r371), .c, .t false, .c]) (ts := []) (s := [0, 3, 4]) (l := [2, 9, 10, 11, 12, 13, 194]) (by kernel_rfl) (by kernel_rfl) (.cons (G_ringref2_ClockSame_ok n v_r55.1 (S_reclaim_Clock.mk ([] : (List S_reclaim_Item)) 0) _ h449) (.cons (bnf h450) (.cons (nf h451) (.cons (G_ringref2_ClockSame_ok n v_r62.1 (S_reclaim_Clock.mk ([] : (List S_reclaim_Item)) 0) _ h452) (.cons (bnf h453) .nil))))) q
      · rw [if_neg h453] at h
        cases h
        exact pkk_sound TTok mix hF 1 (hs := [.c, .c, .r (eB v_r368), .t false, .c, .t false, .c, .c, .c, .c, .r (eB v_r371), .c, .t true, .c]) (ts := []) (s := [0, 3, 4]) (l := [2, 9, 10, 11, 12, 13, 194]) (by kernel_rfl) (by kernel_rfl) (.cons (G_ringref2_ClockSame_ok n v_r55.1 (S_reclaim_Clock.mk ([] : (List S_reclaim_Item)) 0) _ h449) (.cons (bnf h450) (.cons (nf h451) (.cons (G_ringref2_ClockSame_ok n v_r62.1 (S_reclaim_Clock.mk ([] : (List S_reclaim_Item)) 0) _ h452) (.cons (bnt (vf h453)) .nil))))) q
    · rw [if_neg h451] at h
      cases h
      exact pkk_sound TTok mix hF 1 (hs := [.c, .c, .r (eB v_r368), .t false, .c, .t true, .c, .c, .c, .c, .c]) (ts := []) (s := [0, 3, 4]) (l := [2, 9, 10, 11, 12, 13, 194]) (by kernel_rfl) (by kernel_rfl) (.cons (G_ringref2_ClockSame_ok n v_r55.1 (S_reclaim_Clock.mk ([] : (List S_reclaim_Item)) 0) _ h449) (.cons (bnf h450) (.cons (nt h451) .nil))) q
  · rw [if_neg h450] at h
    cases h
    exact pkk_sound TTok mix hF 1 (hs := [.c, .c, .r (eB v_r368), .t true, .c, .c, .c, .c, .c, .c, .c]) (ts := []) (s := [0, 3, 4]) (l := [2, 9, 10, 11, 12, 13, 194]) (by kernel_rfl) (by kernel_rfl) (.cons (G_ringref2_ClockSame_ok n v_r55.1 (S_reclaim_Clock.mk ([] : (List S_reclaim_Item)) 0) _ h449) (.cons (bnt (vf h450)) .nil)) q
inductive G_ringlaw2_ReclaimTells_C4_R where
  | x0 (v_x385 : Bool)
def G_ringlaw2_ReclaimTells_C4_ex : G_ringlaw2_ReclaimTells_C4_R → Ex
  | .x0 _ => .normal
def G_ringlaw2_ReclaimTells_C4_st (v_r55 : (S_reclaim_Clock × Int)) (v_r62 : (S_reclaim_Clock × Int)) (v_r134 : (S_reclaim_Clock × Int × Int × Int)) (v_c1 : S_reclaim_Clock) (v_a381 : (List S_reclaim_Item)) : G_ringlaw2_ReclaimTells_C4_R → PS
  | .x0 v_x385 => ⟨[dd, dd, .ref 0 0, dd, dd, dd, dd, dd, dd, .ref 1 0, .d (.v (.int .i64 v_r134.2.1)), .d (.v (.int .i64 v_r134.2.2.1)), .d (.v (.int .i64 v_r134.2.2.2)), .ref 2 0, dd, dd, dd, dd, dd, dd, dd, dd, dd, dd, dd, dd, dd, dd, dd, dd, dd, dd, dd, dd, dd, dd, dd, dd, dd, dd, dd, dd, dd, dd, dd, dd, dd, dd, dd, dd, dd, dd, dd, dd, dd, dd, dd, dd, dd, dd, dd, dd, dd, dd, dd, dd, dd, dd, dd, dd, dd, dd, dd, dd, dd, dd, dd, dd, dd, dd, dd, dd, dd, dd, dd, dd, dd, dd, dd, dd, dd, dd, dd, dd, dd, dd, dd, dd, dd, dd, dd, dd, dd, dd, dd, dd, dd, dd, dd, dd, dd, dd, dd, dd, dd, dd, dd, dd, dd, dd, dd, dd, dd, dd, dd, dd, dd, dd, dd, dd, dd, dd, dd, dd, dd, dd, dd, dd, dd, .d (.v (.bool v_x385)), dd, dd, dd, dd, dd, dd, dd, dd, dd, dd, dd, dd, dd, dd, dd, dd, dd, dd, dd, dd, dd, dd, dd, dd, dd, dd, dd, dd, dd, dd, dd, dd, dd, dd, dd, dd, dd, dd, dd, dd, dd, dd, dd, dd, dd, dd, dd, dd, dd, dd, dd, dd, dd, dd, dd, dd, dd, dd, dd, dd, dd, dd, dd, dd, dd, dd, dd, dd, dd, dd, dd, dd, dd, dd, dd, dd, dd, dd, dd, dd, dd, dd, dd, dd, dd, dd, dd, dd, dd, dd, dd, dd, dd, dd, dd, dd, dd, dd, dd, dd, dd, dd, dd, dd, dd, dd, dd, dd, dd], [.box [.d (.sl (v_c1.fItems.map eS_reclaim_Item)), .d (.v (.int .i64 v_c1.fHand))], .box [.d (.sl (v_r134.1.fItems.map eS_reclaim_Item)), .d (.v (.int .i64 v_r134.1.fHand))], .box [.d (vnil), .d (.v (.int .i64 0))]]⟩
def G_ringlaw2_ReclaimTells_C4_hd (v_r55 : (S_reclaim_Clock × Int)) (v_r62 : (S_reclaim_Clock × Int)) (v_r134 : (S_reclaim_Clock × Int × Int × Int)) (v_c1 : S_reclaim_Clock) (v_a381 : (List S_reclaim_Item))  : PS := ⟨[dd, dd, .ref 0 0, dd, dd, .ref 1 0, .d (.v (.int .i64 v_r55.2)), .ref 2 0, .d (.v (.int .i64 v_r62.2)), .ref 3 0, .d (.v (.int .i64 v_r134.2.1)), .d (.v (.int .i64 v_r134.2.2.1)), .d (.v (.int .i64 v_r134.2.2.2)), .ref 4 0, dd, dd, dd, .ref 5 0, dd, dd, dd, dd, dd, dd, dd, dd, dd, dd, dd, dd, dd, dd, dd, dd, dd, dd, dd, dd, dd, dd, dd, dd, dd, dd, dd, dd, dd, dd, dd, dd, dd, dd, dd, dd, dd, dd, dd, dd, dd, dd, dd, dd, dd, dd, dd, dd, dd, dd, dd, dd, dd, dd, dd, dd, dd, dd, dd, dd, dd, dd, dd, dd, dd, dd, dd, dd, dd, dd, dd, dd, dd, dd, dd, dd, dd, dd, dd, dd, dd, dd, dd, dd, dd, dd, dd, dd, dd, dd, dd, dd, dd, dd, dd, dd, dd, dd, dd, dd, dd, dd, dd, dd, dd, dd, dd, dd, dd, dd, dd, dd, dd, dd, dd, dd, dd, dd, dd, dd, dd, dd, dd, dd, dd, dd, dd, dd, dd, dd, dd, dd, dd, dd, dd, dd, dd, dd, dd, dd, dd, dd, dd, dd, dd, dd, dd, dd, dd, dd, dd, dd, dd, dd, dd, dd, dd, dd, dd, dd, dd, dd, dd, dd, dd, dd, dd, dd, dd, dd, dd, dd, dd, dd, dd, dd, dd, dd, dd, dd, dd, dd, dd, dd, dd, dd, dd, dd, dd, dd, dd, dd, dd, dd, dd, dd, dd, dd, dd, dd, dd, dd, dd, dd, dd, dd, dd, dd, dd, dd, dd, dd, dd, dd, dd, dd, dd, dd, dd, dd, dd, dd, dd, dd, dd, dd, dd, dd, dd, dd, dd], [.box [.d (.sl (v_c1.fItems.map eS_reclaim_Item)), .d (.v (.int .i64 v_c1.fHand))], .box [.d (.sl (v_r55.1.fItems.map eS_reclaim_Item)), .d (.v (.int .i64 v_r55.1.fHand))], .box [.d (.sl (v_r62.1.fItems.map eS_reclaim_Item)), .d (.v (.int .i64 v_r62.1.fHand))], .box [.d (.sl (v_r134.1.fItems.map eS_reclaim_Item)), .d (.v (.int .i64 v_r134.1.fHand))], .box [.d (vnil), .d (.v (.int .i64 0))], .box [.srf 6, .d (.v (.int .i64 0))], .row 95 3 (v_a381.map eS_reclaim_Item)]⟩
def G_ringlaw2_ReclaimTells_C4 (n : Nat) (v_r55 : (S_reclaim_Clock × Int)) (v_r62 : (S_reclaim_Clock × Int)) (v_r134 : (S_reclaim_Clock × Int × Int × Int)) (v_c1 : S_reclaim_Clock) (v_a381 : (List S_reclaim_Item)) : Option G_ringlaw2_ReclaimTells_C4_R :=
  (G_ringref2_ClockSame n v_r55.1 (S_reclaim_Clock.mk v_a381 0)).bind fun (v_r384 : (Bool)) =>
  if v_r384 = true then
   if v_r55.2 = 0 then
    (G_ringref2_ClockSame n v_r62.1 (S_reclaim_Clock.mk ([] : (List S_reclaim_Item)) 0)).bind fun (v_r387 : (Bool)) =>
    if v_r387 = true then
     some (.x0 (v_r62.2 != 4))
    else
     some (.x0 true)
   else
    some (.x0 true)
  else
   some (.x0 true)
theorem G_ringlaw2_ReclaimTells_C4_ok {Fi : Ex → PS → Prop} (hF : KC 249 Fi) (ks : List Fr) (n : Nat) (v_r55 : (S_reclaim_Clock × Int)) (v_r62 : (S_reclaim_Clock × Int)) (v_r134 : (S_reclaim_Clock × Int × Int × Int)) (v_c1 : S_reclaim_Clock) (v_a381 : (List S_reclaim_Item))  (o : G_ringlaw2_ReclaimTells_C4_R) (h : G_ringlaw2_ReclaimTells_C4 n v_r55 v_r62 v_r134 v_c1 v_a381 = some o) (q : RunE Try.prog 249 Fi ks (G_ringlaw2_ReclaimTells_C4_ex o) (G_ringlaw2_ReclaimTells_C4_st v_r55 v_r62 v_r134 v_c1 v_a381 o)) : RunE Try.prog 249 Fi (.s (cL (cR (cR (cR (cF (cR (cF (cR (cB (cL (cR (cR (cR (cR (cR (cR (cR (cR (cR (bodyOf Try.f7)))))))))))))))))))) :: ks) .normal (G_ringlaw2_ReclaimTells_C4_hd v_r55 v_r62 v_r134 v_c1 v_a381) := by
  unfold G_ringlaw2_ReclaimTells_C4 at h
  obtain ⟨v_r384, h467, h⟩ := bind_some h
  by_cases h468 : v_r384 = true
  · rw [if_pos h468] at h
    by_cases h469 : v_r55.2 = 0
    · rw [if_pos h469] at h
      obtain ⟨v_r387, h470, h⟩ := bind_some h
      by_cases h471 : v_r387 = true
      · rw [if_pos h471] at h
        cases h
        exact pkk_sound TTok mix hF 1 (hs := [.c, .c, .c, .r (eB v_r384), .t false, .c, .t false, .c, .c, .c, .c, .r (eB v_r387), .c, .t false, .c]) (ts := []) (s := [0, 3, 4]) (l := [2, 9, 10, 11, 12, 13, 139]) (by kernel_rfl) (by kernel_rfl) (.cons (G_ringref2_ClockSame_ok n v_r55.1 (S_reclaim_Clock.mk v_a381 0) _ h467) (.cons (bnf h468) (.cons (nf h469) (.cons (G_ringref2_ClockSame_ok n v_r62.1 (S_reclaim_Clock.mk ([] : (List S_reclaim_Item)) 0) _ h470) (.cons (bnf h471) .nil))))) q
      · rw [if_neg h471] at h
        cases h
        exact pkk_sound TTok mix hF 1 (hs := [.c, .c, .c, .r (eB v_r384), .t false, .c, .t false, .c, .c, .c, .c, .r (eB v_r387), .c, .t true, .c]) (ts := []) (s := [0, 3, 4]) (l := [2, 9, 10, 11, 12, 13, 139]) (by kernel_rfl) (by kernel_rfl) (.cons (G_ringref2_ClockSame_ok n v_r55.1 (S_reclaim_Clock.mk v_a381 0) _ h467) (.cons (bnf h468) (.cons (nf h469) (.cons (G_ringref2_ClockSame_ok n v_r62.1 (S_reclaim_Clock.mk ([] : (List S_reclaim_Item)) 0) _ h470) (.cons (bnt (vf h471)) .nil))))) q
    · rw [if_neg h469] at h
      cases h
      exact pkk_sound TTok mix hF 1 (hs := [.c, .c, .c, .r (eB v_r384), .t false, .c, .t true, .c, .c, .c, .c, .c]) (ts := []) (s := [0, 3, 4]) (l := [2, 9, 10, 11, 12, 13, 139]) (by kernel_rfl) (by kernel_rfl) (.cons (G_ringref2_ClockSame_ok n v_r55.1 (S_reclaim_Clock.mk v_a381 0) _ h467) (.cons (bnf h468) (.cons (nt h469) .nil))) q
  · rw [if_neg h468] at h
    cases h
    exact pkk_sound TTok mix hF 1 (hs := [.c, .c, .c, .r (eB v_r384), .t true, .c, .c, .c, .c, .c, .c, .c]) (ts := []) (s := [0, 3, 4]) (l := [2, 9, 10, 11, 12, 13, 139]) (by kernel_rfl) (by kernel_rfl) (.cons (G_ringref2_ClockSame_ok n v_r55.1 (S_reclaim_Clock.mk v_a381 0) _ h467) (.cons (bnt (vf h468)) .nil)) q
inductive G_ringlaw2_ReclaimTells_C5_R where
  | x0 (v_x396 : Bool)
def G_ringlaw2_ReclaimTells_C5_ex : G_ringlaw2_ReclaimTells_C5_R → Ex
  | .x0 _ => .normal
def G_ringlaw2_ReclaimTells_C5_st (v_r55 : (S_reclaim_Clock × Int)) (v_r62 : (S_reclaim_Clock × Int)) (v_r134 : (S_reclaim_Clock × Int × Int × Int)) (v_c1 : S_reclaim_Clock) (v_a381 : (List S_reclaim_Item)) : G_ringlaw2_ReclaimTells_C5_R → PS
  | .x0 v_x396 => ⟨[dd, dd, .ref 0 0, dd, dd, dd, dd, dd, dd, .ref 1 0, .d (.v (.int .i64 v_r134.2.1)), .d (.v (.int .i64 v_r134.2.2.1)), .d (.v (.int .i64 v_r134.2.2.2)), .ref 2 0, dd, dd, dd, dd, dd, dd, dd, dd, dd, dd, dd, dd, dd, dd, dd, dd, dd, dd, dd, dd, dd, dd, dd, dd, dd, dd, dd, dd, dd, dd, dd, dd, dd, dd, dd, dd, dd, dd, dd, dd, dd, dd, dd, dd, dd, dd, dd, dd, dd, dd, dd, dd, dd, dd, dd, dd, dd, dd, dd, dd, dd, dd, dd, dd, dd, dd, dd, dd, dd, dd, dd, dd, dd, dd, dd, dd, dd, dd, dd, dd, dd, dd, dd, dd, dd, dd, dd, dd, dd, dd, dd, dd, dd, dd, dd, dd, dd, dd, dd, dd, dd, dd, dd, dd, dd, dd, dd, dd, dd, dd, dd, dd, dd, dd, dd, dd, dd, dd, dd, dd, dd, dd, dd, dd, dd, .d (.v (.bool v_x396)), dd, dd, dd, dd, dd, dd, dd, dd, dd, dd, dd, dd, dd, dd, dd, dd, dd, dd, dd, dd, dd, dd, dd, dd, dd, dd, dd, dd, dd, dd, dd, dd, dd, dd, dd, dd, dd, dd, dd, dd, dd, dd, dd, dd, dd, dd, dd, dd, dd, dd, dd, dd, dd, dd, dd, dd, dd, dd, dd, dd, dd, dd, dd, dd, dd, dd, dd, dd, dd, dd, dd, dd, dd, dd, dd, dd, dd, dd, dd, dd, dd, dd, dd, dd, dd, dd, dd, dd, dd, dd, dd, dd, dd, dd, dd, dd, dd, dd, dd, dd, dd, dd, dd, dd, dd, dd, dd, dd, dd], [.box [.d (.sl (v_c1.fItems.map eS_reclaim_Item)), .d (.v (.int .i64 v_c1.fHand))], .box [.d (.sl (v_r134.1.fItems.map eS_reclaim_Item)), .d (.v (.int .i64 v_r134.1.fHand))], .box [.d (vnil), .d (.v (.int .i64 0))]]⟩
def G_ringlaw2_ReclaimTells_C5_hd (v_r55 : (S_reclaim_Clock × Int)) (v_r62 : (S_reclaim_Clock × Int)) (v_r134 : (S_reclaim_Clock × Int × Int × Int)) (v_c1 : S_reclaim_Clock) (v_a381 : (List S_reclaim_Item))  : PS := ⟨[dd, dd, .ref 0 0, dd, dd, .ref 1 0, .d (.v (.int .i64 v_r55.2)), .ref 2 0, .d (.v (.int .i64 v_r62.2)), .ref 3 0, .d (.v (.int .i64 v_r134.2.1)), .d (.v (.int .i64 v_r134.2.2.1)), .d (.v (.int .i64 v_r134.2.2.2)), .ref 4 0, dd, dd, dd, .ref 5 0, dd, dd, dd, dd, dd, dd, dd, dd, dd, dd, dd, dd, dd, dd, dd, dd, dd, dd, dd, dd, dd, dd, dd, dd, dd, dd, dd, dd, dd, dd, dd, dd, dd, dd, dd, dd, dd, dd, dd, dd, dd, dd, dd, dd, dd, dd, dd, dd, dd, dd, dd, dd, dd, dd, dd, dd, dd, dd, dd, dd, dd, dd, dd, dd, dd, dd, dd, dd, dd, dd, dd, dd, dd, dd, dd, dd, dd, dd, dd, dd, dd, dd, dd, dd, dd, dd, dd, dd, dd, dd, dd, dd, dd, dd, dd, dd, dd, dd, dd, dd, dd, dd, dd, dd, dd, dd, dd, dd, dd, dd, dd, dd, dd, dd, dd, dd, dd, dd, dd, dd, dd, dd, dd, dd, dd, dd, dd, dd, dd, dd, dd, dd, dd, dd, dd, dd, dd, dd, dd, dd, dd, dd, dd, dd, dd, dd, dd, dd, dd, dd, dd, dd, dd, dd, dd, dd, dd, dd, dd, dd, dd, dd, dd, dd, dd, dd, dd, dd, dd, dd, dd, dd, dd, dd, dd, dd, dd, dd, dd, dd, dd, dd, dd, dd, dd, dd, dd, dd, dd, dd, dd, dd, dd, dd, dd, dd, dd, dd, dd, dd, dd, dd, dd, dd, dd, dd, dd, dd, dd, dd, dd, dd, dd, dd, dd, dd, dd, dd, dd, dd, dd, dd, dd, dd, dd, dd, dd, dd, dd, dd, dd], [.box [.d (.sl (v_c1.fItems.map eS_reclaim_Item)), .d (.v (.int .i64 v_c1.fHand))], .box [.d (.sl (v_r55.1.fItems.map eS_reclaim_Item)), .d (.v (.int .i64 v_r55.1.fHand))], .box [.d (.sl (v_r62.1.fItems.map eS_reclaim_Item)), .d (.v (.int .i64 v_r62.1.fHand))], .box [.d (.sl (v_r134.1.fItems.map eS_reclaim_Item)), .d (.v (.int .i64 v_r134.1.fHand))], .box [.d (vnil), .d (.v (.int .i64 0))], .box [.srf 6, .d (.v (.int .i64 (wi .i64 (v_c1.fHand + 1))))], .row 95 3 (v_a381.map eS_reclaim_Item)]⟩
def G_ringlaw2_ReclaimTells_C5 (n : Nat) (v_r55 : (S_reclaim_Clock × Int)) (v_r62 : (S_reclaim_Clock × Int)) (v_r134 : (S_reclaim_Clock × Int × Int × Int)) (v_c1 : S_reclaim_Clock) (v_a381 : (List S_reclaim_Item)) : Option G_ringlaw2_ReclaimTells_C5_R :=
  (G_ringref2_ClockSame n v_r55.1 (S_reclaim_Clock.mk v_a381 (wi .i64 (v_c1.fHand + 1)))).bind fun (v_r395 : (Bool)) =>
  if v_r395 = true then
   if v_r55.2 = 0 then
    (G_ringref2_ClockSame n v_r62.1 (S_reclaim_Clock.mk ([] : (List S_reclaim_Item)) 0)).bind fun (v_r398 : (Bool)) =>
    if v_r398 = true then
     some (.x0 (v_r62.2 != 4))
    else
     some (.x0 true)
   else
    some (.x0 true)
  else
   some (.x0 true)
theorem G_ringlaw2_ReclaimTells_C5_ok {Fi : Ex → PS → Prop} (hF : KC 249 Fi) (ks : List Fr) (n : Nat) (v_r55 : (S_reclaim_Clock × Int)) (v_r62 : (S_reclaim_Clock × Int)) (v_r134 : (S_reclaim_Clock × Int × Int × Int)) (v_c1 : S_reclaim_Clock) (v_a381 : (List S_reclaim_Item))  (o : G_ringlaw2_ReclaimTells_C5_R) (h : G_ringlaw2_ReclaimTells_C5 n v_r55 v_r62 v_r134 v_c1 v_a381 = some o) (q : RunE Try.prog 249 Fi ks (G_ringlaw2_ReclaimTells_C5_ex o) (G_ringlaw2_ReclaimTells_C5_st v_r55 v_r62 v_r134 v_c1 v_a381 o)) : RunE Try.prog 249 Fi (.s (cL (cR (cR (cR (cF (cR (cF (cR (cB (cL (cR (cR (cR (cR (cR (cR (cR (cR (cR (bodyOf Try.f7)))))))))))))))))))) :: ks) .normal (G_ringlaw2_ReclaimTells_C5_hd v_r55 v_r62 v_r134 v_c1 v_a381) := by
  unfold G_ringlaw2_ReclaimTells_C5 at h
  obtain ⟨v_r395, h479, h⟩ := bind_some h
  by_cases h480 : v_r395 = true
  · rw [if_pos h480] at h
    by_cases h481 : v_r55.2 = 0
    · rw [if_pos h481] at h
      obtain ⟨v_r398, h482, h⟩ := bind_some h
      by_cases h483 : v_r398 = true
      · rw [if_pos h483] at h
        cases h
        exact pkk_sound TTok mix hF 1 (hs := [.c, .c, .c, .r (eB v_r395), .t false, .c, .t false, .c, .c, .c, .c, .r (eB v_r398), .c, .t false, .c]) (ts := []) (s := [0, 3, 4]) (l := [2, 9, 10, 11, 12, 13, 139]) (by kernel_rfl) (by kernel_rfl) (.cons (G_ringref2_ClockSame_ok n v_r55.1 (S_reclaim_Clock.mk v_a381 (wi .i64 (v_c1.fHand + 1))) _ h479) (.cons (bnf h480) (.cons (nf h481) (.cons (G_ringref2_ClockSame_ok n v_r62.1 (S_reclaim_Clock.mk ([] : (List S_reclaim_Item)) 0) _ h482) (.cons (bnf h483) .nil))))) q
      · rw [if_neg h483] at h
        cases h
        exact pkk_sound TTok mix hF 1 (hs := [.c, .c, .c, .r (eB v_r395), .t false, .c, .t false, .c, .c, .c, .c, .r (eB v_r398), .c, .t true, .c]) (ts := []) (s := [0, 3, 4]) (l := [2, 9, 10, 11, 12, 13, 139]) (by kernel_rfl) (by kernel_rfl) (.cons (G_ringref2_ClockSame_ok n v_r55.1 (S_reclaim_Clock.mk v_a381 (wi .i64 (v_c1.fHand + 1))) _ h479) (.cons (bnf h480) (.cons (nf h481) (.cons (G_ringref2_ClockSame_ok n v_r62.1 (S_reclaim_Clock.mk ([] : (List S_reclaim_Item)) 0) _ h482) (.cons (bnt (vf h483)) .nil))))) q
    · rw [if_neg h481] at h
      cases h
      exact pkk_sound TTok mix hF 1 (hs := [.c, .c, .c, .r (eB v_r395), .t false, .c, .t true, .c, .c, .c, .c, .c]) (ts := []) (s := [0, 3, 4]) (l := [2, 9, 10, 11, 12, 13, 139]) (by kernel_rfl) (by kernel_rfl) (.cons (G_ringref2_ClockSame_ok n v_r55.1 (S_reclaim_Clock.mk v_a381 (wi .i64 (v_c1.fHand + 1))) _ h479) (.cons (bnf h480) (.cons (nt h481) .nil))) q
  · rw [if_neg h480] at h
    cases h
    exact pkk_sound TTok mix hF 1 (hs := [.c, .c, .c, .r (eB v_r395), .t true, .c, .c, .c, .c, .c, .c, .c]) (ts := []) (s := [0, 3, 4]) (l := [2, 9, 10, 11, 12, 13, 139]) (by kernel_rfl) (by kernel_rfl) (.cons (G_ringref2_ClockSame_ok n v_r55.1 (S_reclaim_Clock.mk v_a381 (wi .i64 (v_c1.fHand + 1))) _ h479) (.cons (bnt (vf h480)) .nil)) q
inductive G_ringlaw2_ReclaimTells_C6_R where
  | x0 (v_x365 : Bool)
  | x1 
def G_ringlaw2_ReclaimTells_C6_ex : G_ringlaw2_ReclaimTells_C6_R → Ex
  | .x0 _ => .ret
  | .x1  => .normal
def G_ringlaw2_ReclaimTells_C6_st (v_r55 : (S_reclaim_Clock × Int)) (v_r62 : (S_reclaim_Clock × Int)) (v_r134 : (S_reclaim_Clock × Int × Int × Int)) (v_r205 : (Int)) (v_c1 : S_reclaim_Clock) (v_x2 : S_reclaim_Item) : G_ringlaw2_ReclaimTells_C6_R → PS
  | .x0 v_x365 => ⟨[dd, dd, dd, dd, .d (.v (.bool v_x365)), dd, dd, dd, dd, dd, dd, dd, dd, dd, dd, dd, dd, dd, dd, dd, dd, dd, dd, dd, dd, dd, dd, dd, dd, dd, dd, dd, dd, dd, dd, dd, dd, dd, dd, dd, dd, dd, dd, dd, dd, dd, dd, dd, dd, dd, dd, dd, dd, dd, dd, dd, dd, dd, dd, dd, dd, dd, dd, dd, dd, dd, dd, dd, dd, dd, dd, dd, dd, dd, dd, dd, dd, dd, dd, dd, dd, dd, dd, dd, dd, dd, dd, dd, dd, dd, dd, dd, dd, dd, dd, dd, dd, dd, dd, dd, dd, dd, dd, dd, dd, dd, dd, dd, dd, dd, dd, dd, dd, dd, dd, dd, dd, dd, dd, dd, dd, dd, dd, dd, dd, dd, dd, dd, dd, dd, dd, dd, dd, dd, dd, dd, dd, dd, dd, dd, dd, dd, dd, dd, dd, dd, dd, dd, dd, dd, dd, dd, dd, dd, dd, dd, dd, dd, dd, dd, dd, dd, dd, dd, dd, dd, dd, dd, dd, dd, dd, dd, dd, dd, dd, dd, dd, dd, dd, dd, dd, dd, dd, dd, dd, dd, dd, dd, dd, dd, dd, dd, dd, dd, dd, dd, dd, dd, dd, dd, dd, dd, dd, dd, dd, dd, dd, dd, dd, dd, dd, dd, dd, dd, dd, dd, dd, dd, dd, dd, dd, dd, dd, dd, dd, dd, dd, dd, dd, dd, dd, dd, dd, dd, dd, dd, dd, dd, dd, dd, dd, dd, dd, dd, dd, dd, dd, dd, dd], []⟩
  | .x1  => ⟨[dd, dd, .ref 0 0, dd, dd, dd, dd, dd, dd, .ref 1 0, .d (.v (.int .i64 v_r134.2.1)), .d (.v (.int .i64 v_r134.2.2.1)), .d (.v (.int .i64 v_r134.2.2.2)), .ref 2 0, dd, dd, dd, dd, dd, dd, dd, dd, dd, dd, dd, dd, dd, dd, dd, dd, dd, dd, dd, dd, dd, dd, dd, dd, dd, dd, dd, dd, dd, dd, dd, dd, dd, dd, dd, dd, dd, dd, dd, dd, dd, dd, dd, dd, dd, dd, dd, dd, dd, dd, dd, dd, dd, dd, dd, dd, dd, dd, dd, dd, dd, dd, dd, dd, dd, dd, dd, dd, dd, dd, dd, dd, dd, dd, dd, dd, dd, dd, dd, dd, dd, dd, dd, dd, dd, dd, dd, dd, dd, dd, dd, dd, dd, dd, dd, dd, dd, dd, dd, dd, dd, dd, dd, dd, dd, dd, dd, dd, dd, dd, dd, dd, dd, dd, dd, dd, dd, dd, dd, dd, dd, dd, dd, dd, dd, dd, dd, dd, dd, dd, dd, dd, dd, dd, dd, dd, dd, dd, dd, dd, dd, dd, dd, dd, dd, dd, dd, dd, dd, dd, dd, dd, dd, dd, dd, dd, dd, dd, dd, dd, dd, dd, dd, dd, dd, dd, dd, dd, dd, dd, dd, dd, dd, dd, dd, dd, dd, dd, dd, dd, dd, dd, dd, dd, dd, dd, dd, dd, dd, dd, dd, dd, dd, dd, dd, dd, dd, dd, dd, dd, dd, dd, dd, dd, dd, dd, dd, dd, dd, dd, dd, dd, dd, dd, dd, dd, dd, dd, dd, dd, dd, dd, dd, dd, dd, dd, dd, dd, dd, dd, dd, dd, dd, dd, dd], [.box [.d (.sl (v_c1.fItems.map eS_reclaim_Item)), .d (.v (.int .i64 v_c1.fHand))], .box [.d (.sl (v_r134.1.fItems.map eS_reclaim_Item)), .d (.v (.int .i64 v_r134.1.fHand))], .box [.d (vnil), .d (.v (.int .i64 0))]]⟩
def G_ringlaw2_ReclaimTells_C6_hd (v_r55 : (S_reclaim_Clock × Int)) (v_r62 : (S_reclaim_Clock × Int)) (v_r134 : (S_reclaim_Clock × Int × Int × Int)) (v_r205 : (Int)) (v_c1 : S_reclaim_Clock) (v_x2 : S_reclaim_Item)  : PS := ⟨[dd, dd, .ref 0 0, .ref 1 0, dd, .ref 2 0, .d (.v (.int .i64 v_r55.2)), .ref 3 0, .d (.v (.int .i64 v_r62.2)), .ref 4 0, .d (.v (.int .i64 v_r134.2.1)), .d (.v (.int .i64 v_r134.2.2.1)), .d (.v (.int .i64 v_r134.2.2.2)), .ref 5 0, dd, .d (.v (.int .i64 v_r205)), dd, dd, dd, dd, dd, dd, dd, dd, dd, dd, dd, dd, dd, dd, dd, dd, dd, dd, dd, dd, dd, dd, dd, dd, dd, dd, dd, dd, dd, dd, dd, dd, dd, dd, dd, dd, dd, dd, dd, dd, dd, dd, dd, dd, dd, dd, dd, dd, dd, dd, dd, dd, dd, dd, dd, dd, dd, dd, dd, dd, dd, dd, dd, dd, dd, dd, dd, dd, dd, dd, dd, dd, dd, dd, dd, dd, dd, dd, dd, dd, dd, dd, dd, dd, dd, dd, dd, dd, dd, dd, dd, dd, dd, dd, dd, dd, dd, dd, dd, dd, dd, dd, dd, dd, dd, dd, dd, dd, dd, dd, dd, dd, dd, dd, dd, dd, dd, dd, dd, dd, dd, dd, dd, dd, .d (.v (.bool (decide (v_r205 ≥ 0)))), dd, dd, dd, dd, dd, dd, dd, dd, dd, dd, dd, dd, dd, dd, dd, dd, dd, dd, dd, dd, dd, dd, dd, dd, dd, dd, dd, dd, dd, dd, dd, dd, dd, dd, dd, dd, dd, dd, dd, dd, dd, dd, dd, dd, dd, dd, dd, dd, dd, dd, dd, dd, dd, dd, dd, dd, dd, dd, dd, dd, dd, dd, dd, dd, dd, dd, dd, dd, dd, dd, dd, dd, dd, dd, dd, dd, dd, dd, dd, dd, dd, dd, dd, dd, dd, dd, dd, dd, dd, dd, dd, dd, dd, dd, dd, dd, dd, dd, dd, dd, dd, dd, dd, dd, dd, dd, dd, dd], [.box [.d (.sl (v_c1.fItems.map eS_reclaim_Item)), .d (.v (.int .i64 v_c1.fHand))], .box [.d (.v (.int .i64 v_x2.fId)), .d (.v (.bool v_x2.fUsed)), .d (.v (.bool v_x2.fPinned))], .box [.d (.sl (v_r55.1.fItems.map eS_reclaim_Item)), .d (.v (.int .i64 v_r55.1.fHand))], .box [.d (.sl (v_r62.1.fItems.map eS_reclaim_Item)), .d (.v (.int .i64 v_r62.1.fHand))], .box [.d (.sl (v_r134.1.fItems.map eS_reclaim_Item)), .d (.v (.int .i64 v_r134.1.fHand))], .box [.d (vnil), .d (.v (.int .i64 0))]]⟩
def G_ringlaw2_ReclaimTells_C6 (n : Nat) (v_r55 : (S_reclaim_Clock × Int)) (v_r62 : (S_reclaim_Clock × Int)) (v_r134 : (S_reclaim_Clock × Int × Int × Int)) (v_r205 : (Int)) (v_c1 : S_reclaim_Clock) (v_x2 : S_reclaim_Item) : Option G_ringlaw2_ReclaimTells_C6_R :=
  if v_r205 ≥ 0 then
   (G_slices_Clone_reclaim_Item_reclaim_Item n v_c1.fItems).bind fun (v_r353 : ((List S_reclaim_Item))) =>
   if 0 ≤ v_r205 ∧ (v_r205).toNat < v_r353.length then
    (v_r353[(v_r205).toNat]?).bind fun (v_y354 : S_reclaim_Item) =>
    (G_ringlaw2_ReclaimTells_C2 n v_r55 v_r62 v_r134 v_c1 v_r353 v_r205 v_x2).bind fun v_o363 => match v_o363 with
    | .x0 v_z364 =>
      if v_z364 = true then
       some (.x0 false)
      else
       some (.x1 )
   else none
  else
   if (v_c1.fItems.length : Int) = 64 then
    (G_ringlaw2_ReclaimTells_C3 n v_r55 v_r62 v_r134 v_c1).bind fun v_o374 => match v_o374 with
    | .x0 v_z375 =>
      if v_z375 = true then
       some (.x0 false)
      else
       some (.x1 )
   else
    (sub v_c1.fItems 0 v_c1.fHand).bind fun (v_s377 : (List S_reclaim_Item)) =>
    (app 16 ([] : (List S_reclaim_Item)) v_s377).bind fun (v_a378 : (List S_reclaim_Item)) =>
    (app 16 v_a378 ([(S_reclaim_Item.mk v_x2.fId true false)])).bind fun (v_a379 : (List S_reclaim_Item)) =>
    (sub v_c1.fItems v_c1.fHand (v_c1.fItems.length : Int)).bind fun (v_s380 : (List S_reclaim_Item)) =>
    (app 16 v_a379 v_s380).bind fun (v_a381 : (List S_reclaim_Item)) =>
    if (v_c1.fItems.length : Int) = 0 then
     (G_ringlaw2_ReclaimTells_C4 n v_r55 v_r62 v_r134 v_c1 v_a381).bind fun v_o390 => match v_o390 with
     | .x0 v_z391 =>
       if v_z391 = true then
        some (.x0 false)
       else
        some (.x1 )
    else
     (G_ringlaw2_ReclaimTells_C5 n v_r55 v_r62 v_r134 v_c1 v_a381).bind fun v_o401 => match v_o401 with
     | .x0 v_z402 =>
       if v_z402 = true then
        some (.x0 false)
       else
        some (.x1 )
theorem G_ringlaw2_ReclaimTells_C6_ok {Fi : Ex → PS → Prop} (hF : KC 249 Fi) (ks : List Fr) (n : Nat) (v_r55 : (S_reclaim_Clock × Int)) (v_r62 : (S_reclaim_Clock × Int)) (v_r134 : (S_reclaim_Clock × Int × Int × Int)) (v_r205 : (Int)) (v_c1 : S_reclaim_Clock) (v_x2 : S_reclaim_Item)  (o : G_ringlaw2_ReclaimTells_C6_R) (h : G_ringlaw2_ReclaimTells_C6 n v_r55 v_r62 v_r134 v_r205 v_c1 v_x2 = some o) (q : RunE Try.prog 249 Fi ks (G_ringlaw2_ReclaimTells_C6_ex o) (G_ringlaw2_ReclaimTells_C6_st v_r55 v_r62 v_r134 v_r205 v_c1 v_x2 o)) : RunE Try.prog 249 Fi (.s (cR (cB (cL (cR (cR (cR (cR (cR (cR (cR (cR (cR (bodyOf Try.f7))))))))))))) :: ks) .normal (G_ringlaw2_ReclaimTells_C6_hd v_r55 v_r62 v_r134 v_r205 v_c1 v_x2) := by
  unfold G_ringlaw2_ReclaimTells_C6 at h
  by_cases h427 : v_r205 ≥ 0
  · rw [if_pos h427] at h
    obtain ⟨v_r353, h428, h⟩ := bind_some h
    by_cases h429 : 0 ≤ v_r205 ∧ (v_r205).toNat < v_r353.length
    · rw [if_pos h429] at h
      obtain ⟨v_y354, h430, h⟩ := bind_some h
      obtain ⟨v_o363, h441, h⟩ := bind_some h
      refine pkk_sound TTok mix hF 6 (hs := [.t true, .c, .h [] [] [.row 95 3 (v_r353.map eS_reclaim_Item)] (.srf 0), .c, .c, .c, .c, .w ((v_r353.set (v_r205).toNat v_x2).map eS_reclaim_Item), .y (eS_reclaim_Item v_y354)]) (ts := []) (s := [0, 2, 3, 4, 5, 24, 12]) (l := [2, 5, 6, 7, 8, 9, 10, 11, 12, 13, 16]) (by kernel_rfl) (by kernel_rfl) (.cons (dt h427) (.cons (G_slices_Clone_reclaim_Item_reclaim_Item_ok n v_c1.fItems _ h428) (.cons (show 0 + 2 ≤ 2 by decide) (.cons (idx_ob (f := eS_reclaim_Item) h429) (.cons (get_ob (f := eS_reclaim_Item) h430) (.cons (Eq.refl (pcells (.agg [.v (.int .i64 v_x2.fId), .v (.bool v_x2.fUsed), .v (.bool v_x2.fPinned)]))) (.cons (set_ob (f := eS_reclaim_Item) (l := v_r353) (k := (v_r205).toNat) (z := v_x2) (p := .agg [.v (.int .i64 v_x2.fId), .v (.bool v_x2.fUsed), .v (.bool v_x2.fPinned)]) rfl) .nil))))))) (G_ringlaw2_ReclaimTells_C2_ok hF (.s (cR (cR (cR (cT (cR (cB (cL (cR (cR (cR (cR (cR (cR (cR (cR (cR (bodyOf Try.f7))))))))))))))))) :: ks) n v_r55 v_r62 v_r134 v_c1 v_r353 v_r205 v_x2 _ h441 ?_)
      cases v_o363 with
      | x0 v_z364 =>
        dsimp only at h
        by_cases h442 : v_z364 = true
        · rw [if_pos h442] at h
          cases h
          exact pkk_sound TTok mix hF 4 (hs := [.t true]) (ts := []) (s := []) (l := [4]) (by kernel_rfl) (by kernel_rfl) (.cons h442 .nil) q
        · rw [if_neg h442] at h
          cases h
          exact pkk_sound TTok mix hF 2 (hs := [.t false]) (ts := []) (s := [0, 1, 2]) (l := [2, 9, 10, 11, 12, 13]) (by kernel_rfl) (by kernel_rfl) (.cons (vf h442) .nil) q
    · rw [if_neg h429] at h; cases h
  · rw [if_neg h427] at h
    by_cases h443 : (v_c1.fItems.length : Int) = 64
    · rw [if_pos h443] at h
      obtain ⟨v_o374, h454, h⟩ := bind_some h
      refine pkk_sound TTok mix hF 5 (hs := [.t false, .c, .u (.d (.v (.int .i64 (v_c1.fItems.length : Int)))), .t true]) (ts := []) (s := [0, 2, 3, 4, 5]) (l := [2, 5, 6, 7, 8, 9, 10, 11, 12, 13]) (by kernel_rfl) (by kernel_rfl) (.cons (df h427) (.cons (len_ob (f := eS_reclaim_Item) (l := v_c1.fItems)) (.cons (bt h443) .nil))) (G_ringlaw2_ReclaimTells_C3_ok hF (.s (cR (cT (cR (cF (cR (cB (cL (cR (cR (cR (cR (cR (cR (cR (cR (cR (bodyOf Try.f7))))))))))))))))) :: ks) n v_r55 v_r62 v_r134 v_c1 _ h454 ?_)
      cases v_o374 with
      | x0 v_z375 =>
        dsimp only at h
        by_cases h455 : v_z375 = true
        · rw [if_pos h455] at h
          cases h
          exact pkk_sound TTok mix hF 4 (hs := [.t true]) (ts := []) (s := []) (l := [4]) (by kernel_rfl) (by kernel_rfl) (.cons h455 .nil) q
        · rw [if_neg h455] at h
          cases h
          exact pkk_sound TTok mix hF 2 (hs := [.t false]) (ts := []) (s := [0, 1, 2]) (l := [2, 9, 10, 11, 12, 13]) (by kernel_rfl) (by kernel_rfl) (.cons (vf h455) .nil) q
    · rw [if_neg h443] at h
      obtain ⟨v_s377, h456, h⟩ := bind_some h
      obtain ⟨v_a378, h457, h⟩ := bind_some h
      obtain ⟨v_a379, h458, h⟩ := bind_some h
      obtain ⟨v_s380, h459, h⟩ := bind_some h
      obtain ⟨v_a381, h460, h⟩ := bind_some h
      by_cases h461 : (v_c1.fItems.length : Int) = 0
      · rw [if_pos h461] at h
        obtain ⟨v_o390, h472, h⟩ := bind_some h
        refine pkk_sound TTok mix hF 14 (hs := [.t false, .c, .u (.d (.v (.int .i64 (v_c1.fItems.length : Int)))), .t false, .c, .c, .c, .c, .c, .w (v_s377.map eS_reclaim_Item), .w (v_a378.map eS_reclaim_Item), .c, .bd, .w (v_a379.map eS_reclaim_Item), .c, .c, .w (v_s380.map eS_reclaim_Item), .w (v_a381.map eS_reclaim_Item), .c, .c, .u (.d (.v (.int .i64 (v_c1.fItems.length : Int)))), .t true, .c]) (ts := []) (s := [0, 2, 3, 4, 5, 33, 93]) (l := [2, 5, 6, 7, 8, 9, 10, 11, 12, 13, 17]) (by kernel_rfl) (by kernel_rfl) (.cons (df h427) (.cons (len_ob (f := eS_reclaim_Item) (l := v_c1.fItems)) (.cons (bf h443) (.cons (show 0 + 2 ≤ 2 by decide) (.cons (sub_ob (f := eS_reclaim_Item) (s := 3) h456 (fun _ => rfl)).1 (.cons (sub_ob (f := eS_reclaim_Item) (s := 3) h456 (fun _ => rfl)).2.1 (.cons (sub_ob (f := eS_reclaim_Item) (s := 3) h456 (fun _ => rfl)).2.2.1 (.cons (sub_ob (f := eS_reclaim_Item) (s := 3) h456 (fun _ => rfl)).2.2.2.1 (.cons (sub_ob (f := eS_reclaim_Item) (s := 3) h456 (fun _ => rfl)).2.2.2.2 (.cons (app_ob (f := eS_reclaim_Item) (s := 3) h457 (fun _ => rfl)).1 (.cons (app_ob (f := eS_reclaim_Item) (s := 3) h457 (fun _ => rfl)).2.1 (.cons (app_ob (f := eS_reclaim_Item) (s := 3) h457 (fun _ => rfl)).2.2.1 (.cons (app_ob (f := eS_reclaim_Item) (s := 3) h457 (fun _ => rfl)).2.2.2 (.cons (app_ob (f := eS_reclaim_Item) (s := 3) h458 (fun _ => rfl)).1 (.cons (app_ob (f := eS_reclaim_Item) (s := 3) h458 (fun _ => rfl)).2.1 (.cons (app_ob (f := eS_reclaim_Item) (s := 3) h458 (fun _ => rfl)).2.2.1 (.cons (app_ob (f := eS_reclaim_Item) (s := 3) h458 (fun _ => rfl)).2.2.2 (.cons (sub_ob' (f := eS_reclaim_Item) (s := 3) h459 (fun _ => rfl)).1 (.cons (sub_ob' (f := eS_reclaim_Item) (s := 3) h459 (fun _ => rfl)).2.1 (.cons (sub_ob' (f := eS_reclaim_Item) (s := 3) h459 (fun _ => rfl)).2.2.1 (.cons (sub_ob' (f := eS_reclaim_Item) (s := 3) h459 (fun _ => rfl)).2.2.2.1 (.cons (sub_ob' (f := eS_reclaim_Item) (s := 3) h459 (fun _ => rfl)).2.2.2.2 (.cons (app_ob (f := eS_reclaim_Item) (s := 3) h460 (fun _ => rfl)).1 (.cons (app_ob (f := eS_reclaim_Item) (s := 3) h460 (fun _ => rfl)).2.1 (.cons (app_ob (f := eS_reclaim_Item) (s := 3) h460 (fun _ => rfl)).2.2.1 (.cons (app_ob (f := eS_reclaim_Item) (s := 3) h460 (fun _ => rfl)).2.2.2 (.cons (show 0 + 1 ≤ 2 by decide) (.cons (len_ob (f := eS_reclaim_Item) (l := v_c1.fItems)) (.cons (bt h461) (.cons (show 1 + 1 ≤ 2 by decide) .nil)))))))))))))))))))))))))))))) (G_ringlaw2_ReclaimTells_C4_ok hF (.s (cR (cR (cR (cR (cF (cR (cF (cR (cB (cL (cR (cR (cR (cR (cR (cR (cR (cR (cR (bodyOf Try.f7)))))))))))))))))))) :: ks) n v_r55 v_r62 v_r134 v_c1 v_a381 _ h472 ?_)
        cases v_o390 with
        | x0 v_z391 =>
          dsimp only at h
          by_cases h473 : v_z391 = true
          · rw [if_pos h473] at h
            cases h
            exact pkk_sound TTok mix hF 4 (hs := [.t true]) (ts := []) (s := []) (l := [4]) (by kernel_rfl) (by kernel_rfl) (.cons h473 .nil) q
          · rw [if_neg h473] at h
            cases h
            exact pkk_sound TTok mix hF 2 (hs := [.t false]) (ts := []) (s := [0, 1, 2]) (l := [2, 9, 10, 11, 12, 13]) (by kernel_rfl) (by kernel_rfl) (.cons (vf h473) .nil) q
      · rw [if_neg h461] at h
        obtain ⟨v_o401, h484, h⟩ := bind_some h
        refine pkk_sound TTok mix hF 14 (hs := [.t false, .c, .u (.d (.v (.int .i64 (v_c1.fItems.length : Int)))), .t false, .c, .c, .c, .c, .c, .w (v_s377.map eS_reclaim_Item), .w (v_a378.map eS_reclaim_Item), .c, .bd, .w (v_a379.map eS_reclaim_Item), .c, .c, .w (v_s380.map eS_reclaim_Item), .w (v_a381.map eS_reclaim_Item), .c, .c, .u (.d (.v (.int .i64 (v_c1.fItems.length : Int)))), .t false]) (ts := []) (s := [0, 2, 3, 4, 5, 33, 93]) (l := [2, 5, 6, 7, 8, 9, 10, 11, 12, 13, 17]) (by kernel_rfl) (by kernel_rfl) (.cons (df h427) (.cons (len_ob (f := eS_reclaim_Item) (l := v_c1.fItems)) (.cons (bf h443) (.cons (show 0 + 2 ≤ 2 by decide) (.cons (sub_ob (f := eS_reclaim_Item) (s := 3) h456 (fun _ => rfl)).1 (.cons (sub_ob (f := eS_reclaim_Item) (s := 3) h456 (fun _ => rfl)).2.1 (.cons (sub_ob (f := eS_reclaim_Item) (s := 3) h456 (fun _ => rfl)).2.2.1 (.cons (sub_ob (f := eS_reclaim_Item) (s := 3) h456 (fun _ => rfl)).2.2.2.1 (.cons (sub_ob (f := eS_reclaim_Item) (s := 3) h456 (fun _ => rfl)).2.2.2.2 (.cons (app_ob (f := eS_reclaim_Item) (s := 3) h457 (fun _ => rfl)).1 (.cons (app_ob (f := eS_reclaim_Item) (s := 3) h457 (fun _ => rfl)).2.1 (.cons (app_ob (f := eS_reclaim_Item) (s := 3) h457 (fun _ => rfl)).2.2.1 (.cons (app_ob (f := eS_reclaim_Item) (s := 3) h457 (fun _ => rfl)).2.2.2 (.cons (app_ob (f := eS_reclaim_Item) (s := 3) h458 (fun _ => rfl)).1 (.cons (app_ob (f := eS_reclaim_Item) (s := 3) h458 (fun _ => rfl)).2.1 (.cons (app_ob (f := eS_reclaim_Item) (s := 3) h458 (fun _ => rfl)).2.2.1 (.cons (app_ob (f := eS_reclaim_Item) (s := 3) h458 (fun _ => rfl)).2.2.2 (.cons (sub_ob' (f := eS_reclaim_Item) (s := 3) h459 (fun _ => rfl)).1 (.cons (sub_ob' (f := eS_reclaim_Item) (s := 3) h459 (fun _ => rfl)).2.1 (.cons (sub_ob' (f := eS_reclaim_Item) (s := 3) h459 (fun _ => rfl)).2.2.1 (.cons (sub_ob' (f := eS_reclaim_Item) (s := 3) h459 (fun _ => rfl)).2.2.2.1 (.cons (sub_ob' (f := eS_reclaim_Item) (s := 3) h459 (fun _ => rfl)).2.2.2.2 (.cons (app_ob (f := eS_reclaim_Item) (s := 3) h460 (fun _ => rfl)).1 (.cons (app_ob (f := eS_reclaim_Item) (s := 3) h460 (fun _ => rfl)).2.1 (.cons (app_ob (f := eS_reclaim_Item) (s := 3) h460 (fun _ => rfl)).2.2.1 (.cons (app_ob (f := eS_reclaim_Item) (s := 3) h460 (fun _ => rfl)).2.2.2 (.cons (show 0 + 1 ≤ 2 by decide) (.cons (len_ob (f := eS_reclaim_Item) (l := v_c1.fItems)) (.cons (bf h461) .nil))))))))))))))))))))))))))))) (G_ringlaw2_ReclaimTells_C5_ok hF (.s (cR (cR (cR (cR (cF (cR (cF (cR (cB (cL (cR (cR (cR (cR (cR (cR (cR (cR (cR (bodyOf Try.f7)))))))))))))))))))) :: ks) n v_r55 v_r62 v_r134 v_c1 v_a381 _ h484 ?_)
        cases v_o401 with
        | x0 v_z402 =>
          dsimp only at h
          by_cases h485 : v_z402 = true
          · rw [if_pos h485] at h
            cases h
            exact pkk_sound TTok mix hF 4 (hs := [.t true]) (ts := []) (s := []) (l := [4]) (by kernel_rfl) (by kernel_rfl) (.cons h485 .nil) q
          · rw [if_neg h485] at h
            cases h
            exact pkk_sound TTok mix hF 2 (hs := [.t false]) (ts := []) (s := [0, 1, 2]) (l := [2, 9, 10, 11, 12, 13]) (by kernel_rfl) (by kernel_rfl) (.cons (vf h485) .nil) q
inductive G_ringlaw2_ReclaimTells_L7_R where
  | x0 (v_may410 : Bool)
def G_ringlaw2_ReclaimTells_L7_ex : G_ringlaw2_ReclaimTells_L7_R → Ex
  | .x0 _ => .exit 1
def G_ringlaw2_ReclaimTells_L7_st (v_r134 : (S_reclaim_Clock × Int × Int × Int)) (v_c1 : S_reclaim_Clock) : G_ringlaw2_ReclaimTells_L7_R → PS
  | .x0 v_may410 => ⟨[dd, dd, .ref 0 0, dd, dd, dd, dd, dd, dd, .ref 1 0, .d (.v (.int .i64 v_r134.2.1)), .d (.v (.int .i64 v_r134.2.2.1)), .d (.v (.int .i64 v_r134.2.2.2)), .ref 2 0, dd, dd, dd, dd, .d (.v (.bool v_may410)), dd, dd, dd, dd, dd, dd, dd, dd, dd, dd, dd, dd, dd, dd, dd, dd, dd, dd, dd, dd, dd, dd, dd, dd, dd, dd, dd, dd, dd, dd, dd, dd, dd, dd, dd, dd, dd, dd, dd, dd, dd, dd, dd, dd, dd, dd, dd, dd, dd, dd, dd, dd, dd, dd, dd, dd, dd, dd, dd, dd, dd, dd, dd, dd, dd, dd, dd, dd, dd, dd, dd, dd, dd, dd, dd, dd, dd, dd, dd, dd, dd, dd, dd, dd, dd, dd, dd, dd, dd, dd, dd, dd, dd, dd, dd, dd, dd, dd, dd, dd, dd, dd, dd, dd, dd, dd, dd, dd, dd, dd, dd, dd, dd, dd, dd, dd, dd, dd, dd, dd, dd, dd, dd, dd, dd, dd, dd, dd, dd, dd, dd, dd, dd, dd, dd, dd, dd, dd, dd, dd, dd, dd, dd, dd, dd, dd, dd, dd, dd, dd, dd, dd, dd, dd, dd, dd, dd, dd, dd, dd, dd, dd, dd, dd, dd, dd, dd, dd, dd, dd, dd, dd, dd, dd, dd, dd, dd, dd, dd, dd, dd, dd, dd, dd, dd, dd, dd, dd, dd, dd, dd, dd, dd, dd, dd, dd, dd, dd, dd, dd, dd, dd, dd, dd, dd, dd, dd, dd, dd, dd, dd, dd, dd, dd, dd, dd, dd, dd, dd, dd, dd, dd, dd, dd, dd, dd, dd, dd, dd, dd], [.box [.d (.sl (v_c1.fItems.map eS_reclaim_Item)), .d (.v (.int .i64 v_c1.fHand))], .box [.d (.sl (v_r134.1.fItems.map eS_reclaim_Item)), .d (.v (.int .i64 v_r134.1.fHand))], .box [.d (vnil), .d (.v (.int .i64 0))]]⟩
def G_ringlaw2_ReclaimTells_L7_hd (v_r134 : (S_reclaim_Clock × Int × Int × Int)) (v_c1 : S_reclaim_Clock) (v_may406 : Bool) (v_x407 : Int) : PS := ⟨[dd, dd, .ref 0 0, dd, dd, dd, dd, dd, dd, .ref 1 0, .d (.v (.int .i64 v_r134.2.1)), .d (.v (.int .i64 v_r134.2.2.1)), .d (.v (.int .i64 v_r134.2.2.2)), .ref 2 0, dd, dd, dd, dd, .d (.v (.bool v_may406)), dd, dd, dd, dd, dd, dd, dd, dd, dd, dd, dd, dd, dd, dd, dd, dd, dd, dd, dd, dd, dd, dd, dd, dd, dd, dd, dd, dd, dd, dd, dd, dd, dd, dd, dd, dd, dd, dd, dd, dd, dd, dd, dd, dd, dd, dd, dd, dd, dd, dd, dd, dd, dd, dd, dd, dd, dd, dd, dd, dd, dd, dd, dd, dd, dd, dd, dd, dd, dd, dd, dd, dd, dd, dd, dd, dd, dd, dd, dd, dd, dd, dd, dd, dd, dd, dd, dd, dd, dd, dd, dd, dd, dd, dd, dd, dd, dd, dd, dd, dd, dd, dd, dd, dd, dd, dd, dd, dd, dd, dd, dd, dd, dd, dd, dd, dd, dd, dd, dd, dd, dd, dd, dd, dd, dd, dd, dd, dd, dd, dd, dd, dd, dd, dd, dd, dd, dd, dd, dd, dd, dd, dd, dd, dd, dd, dd, dd, dd, dd, dd, dd, dd, dd, dd, dd, dd, dd, dd, dd, dd, dd, dd, dd, dd, dd, dd, dd, dd, dd, dd, dd, dd, dd, dd, dd, dd, dd, .d (.sl (v_c1.fItems.map eS_reclaim_Item)), .d (.v (.int .i64 (v_c1.fItems.length : Int))), .d (.v (.int .i64 v_x407)), dd, dd, dd, dd, dd, dd, dd, dd, dd, dd, dd, dd, dd, dd, dd, dd, dd, dd, dd, dd, dd, dd, dd, dd, dd, dd, dd, dd, dd, dd, dd, dd, dd, dd, dd, dd, dd, dd, dd, dd, dd, dd, dd, dd, dd, dd, dd, dd, dd, dd], [.box [.d (.sl (v_c1.fItems.map eS_reclaim_Item)), .d (.v (.int .i64 v_c1.fHand))], .box [.d (.sl (v_r134.1.fItems.map eS_reclaim_Item)), .d (.v (.int .i64 v_r134.1.fHand))], .box [.d (vnil), .d (.v (.int .i64 0))]]⟩
def G_ringlaw2_ReclaimTells_L7 (n : Nat) (v_r134 : (S_reclaim_Clock × Int × Int × Int)) (v_c1 : S_reclaim_Clock) : Nat → Bool → Int → Option G_ringlaw2_ReclaimTells_L7_R
  | 0, _, _ => none
  | k + 1, v_may406, v_x407 =>
    if v_x407 < (v_c1.fItems.length : Int) then
     (getI v_c1.fItems v_x407).bind fun (v_y409 : S_reclaim_Item) =>
     if v_may406 = true then
      G_ringlaw2_ReclaimTells_L7 n v_r134 v_c1 k true (wi .i64 (v_x407 + 1))
     else
      G_ringlaw2_ReclaimTells_L7 n v_r134 v_c1 k (!v_y409.fPinned) (wi .i64 (v_x407 + 1))
    else
     some (.x0 v_may406)
theorem G_ringlaw2_ReclaimTells_L7_ok {Fi : Ex → PS → Prop} (hF : KC 249 Fi) (ks : List Fr) (n : Nat) (v_r134 : (S_reclaim_Clock × Int × Int × Int)) (v_c1 : S_reclaim_Clock)  : ∀ (k : Nat) (v_may406 : Bool) (v_x407 : Int) (o : G_ringlaw2_ReclaimTells_L7_R), G_ringlaw2_ReclaimTells_L7 n v_r134 v_c1 k v_may406 v_x407 = some o → RunE Try.prog 249 Fi ks (G_ringlaw2_ReclaimTells_L7_ex o) (G_ringlaw2_ReclaimTells_L7_st v_r134 v_c1 o) → RunE Try.prog 249 Fi (.l k (cP (cB (cR (cL (cR (cR (cR (cR (cR (cR (cR (cR (cR (cR (cR (bodyOf Try.f7)))))))))))))))) :: ks) .normal (G_ringlaw2_ReclaimTells_L7_hd v_r134 v_c1 v_may406 v_x407)
  | 0, v_may406, v_x407, o, h, q => by rw [G_ringlaw2_ReclaimTells_L7] at h; cases h
  | k + 1, v_may406, v_x407, o, h, q => by
    rw [G_ringlaw2_ReclaimTells_L7] at h
    by_cases h487 : v_x407 < (v_c1.fItems.length : Int)
    · rw [if_pos h487] at h
      obtain ⟨v_y409, h490, h⟩ := bind_some h
      by_cases h491 : v_may406 = true
      · rw [if_pos h491] at h
        exact pkk_sound TTok mix hF 13 (hs := [.t true, .y (eS_reclaim_Item v_y409), .c, .t true, .c, .c]) (ts := []) (s := [0, 1, 2]) (l := [2, 9, 10, 11, 12, 13, 18, 196, 197, 198]) (by kernel_rfl) (by kernel_rfl) (.cons (dt h487) (.cons (getI_ob (f := eS_reclaim_Item) h490) (.cons (show 0 + 3 ≤ 3 by decide) (.cons h491 .nil)))) (G_ringlaw2_ReclaimTells_L7_ok hF ks n v_r134 v_c1 k true (wi .i64 (v_x407 + 1)) _ h q)
      · rw [if_neg h491] at h
        exact pkk_sound TTok mix hF 13 (hs := [.t true, .y (eS_reclaim_Item v_y409), .c, .t false, .c, .c, .c]) (ts := []) (s := [0, 1, 2]) (l := [2, 9, 10, 11, 12, 13, 18, 196, 197, 198]) (by kernel_rfl) (by kernel_rfl) (.cons (dt h487) (.cons (getI_ob (f := eS_reclaim_Item) h490) (.cons (show 0 + 3 ≤ 3 by decide) (.cons (vf h491) .nil)))) (G_ringlaw2_ReclaimTells_L7_ok hF ks n v_r134 v_c1 k (!v_y409.fPinned) (wi .i64 (v_x407 + 1)) _ h q)
    · rw [if_neg h487] at h
      cases h
      exact pkk_sound TTok mix hF 8 (hs := [.t false]) (ts := []) (s := [0, 1, 2]) (l := [2, 9, 10, 11, 12, 13, 18]) (by kernel_rfl) (by kernel_rfl) (.cons (df h487) .nil) q
inductive G_ringlaw2_ReclaimTells_C8_R where
  | x0 (v_x423 : Bool)
def G_ringlaw2_ReclaimTells_C8_ex : G_ringlaw2_ReclaimTells_C8_R → Ex
  | .x0 _ => .normal
def G_ringlaw2_ReclaimTells_C8_st (v_r134 : (S_reclaim_Clock × Int × Int × Int)) : G_ringlaw2_ReclaimTells_C8_R → PS
  | .x0 v_x423 => ⟨[dd, dd, dd, dd, .d (.v (.bool v_x423)), dd, dd, dd, dd, dd, dd, dd, dd, dd, dd, dd, dd, dd, dd, dd, dd, dd, dd, dd, dd, dd, dd, dd, dd, dd, dd, dd, dd, dd, dd, dd, dd, dd, dd, dd, dd, dd, dd, dd, dd, dd, dd, dd, dd, dd, dd, dd, dd, dd, dd, dd, dd, dd, dd, dd, dd, dd, dd, dd, dd, dd, dd, dd, dd, dd, dd, dd, dd, dd, dd, dd, dd, dd, dd, dd, dd, dd, dd, dd, dd, dd, dd, dd, dd, dd, dd, dd, dd, dd, dd, dd, dd, dd, dd, dd, dd, dd, dd, dd, dd, dd, dd, dd, dd, dd, dd, dd, dd, dd, dd, dd, dd, dd, dd, dd, dd, dd, dd, dd, dd, dd, dd, dd, dd, dd, dd, dd, dd, dd, dd, dd, dd, dd, dd, dd, dd, dd, dd, dd, dd, dd, dd, dd, dd, dd, dd, dd, dd, dd, dd, dd, dd, dd, dd, dd, dd, dd, dd, dd, dd, dd, dd, dd, dd, dd, dd, dd, dd, dd, dd, dd, dd, dd, dd, dd, dd, dd, dd, dd, dd, dd, dd, dd, dd, dd, dd, dd, dd, dd, dd, dd, dd, dd, dd, dd, dd, dd, dd, dd, dd, dd, dd, dd, dd, dd, dd, dd, dd, dd, dd, dd, dd, dd, dd, dd, dd, dd, dd, dd, dd, dd, dd, dd, dd, dd, dd, dd, dd, dd, dd, dd, dd, dd, dd, dd, dd, dd, dd, dd, dd, dd, dd, dd, dd], []⟩
def G_ringlaw2_ReclaimTells_C8_hd (v_r134 : (S_reclaim_Clock × Int × Int × Int))  : PS := ⟨[dd, dd, dd, dd, dd, dd, dd, dd, dd, .ref 0 0, .d (.v (.int .i64 v_r134.2.1)), .d (.v (.int .i64 v_r134.2.2.1)), .d (.v (.int .i64 v_r134.2.2.2)), .ref 1 0, dd, dd, dd, dd, dd, dd, dd, dd, dd, dd, dd, dd, dd, dd, dd, dd, dd, dd, dd, dd, dd, dd, dd, dd, dd, dd, dd, dd, dd, dd, dd, dd, dd, dd, dd, dd, dd, dd, dd, dd, dd, dd, dd, dd, dd, dd, dd, dd, dd, dd, dd, dd, dd, dd, dd, dd, dd, dd, dd, dd, dd, dd, dd, dd, dd, dd, dd, dd, dd, dd, dd, dd, dd, dd, dd, dd, dd, dd, dd, dd, dd, dd, dd, dd, dd, dd, dd, dd, dd, dd, dd, dd, dd, dd, dd, dd, dd, dd, dd, dd, dd, dd, dd, dd, dd, dd, dd, dd, dd, dd, dd, dd, dd, dd, dd, dd, dd, dd, dd, dd, dd, dd, dd, dd, dd, dd, dd, dd, dd, dd, dd, dd, dd, dd, dd, dd, dd, dd, dd, dd, dd, dd, dd, dd, dd, dd, dd, dd, dd, dd, dd, dd, dd, dd, dd, dd, dd, dd, dd, dd, dd, dd, dd, dd, dd, dd, dd, dd, dd, dd, dd, dd, dd, dd, dd, dd, dd, dd, dd, dd, dd, dd, dd, dd, dd, dd, dd, dd, dd, dd, dd, dd, dd, dd, dd, dd, dd, dd, dd, dd, dd, dd, dd, dd, dd, dd, dd, dd, dd, dd, dd, dd, dd, dd, dd, dd, dd, dd, dd, dd, dd, dd, dd, dd, dd, dd, dd, dd, dd, dd, dd, dd, dd, dd, dd], [.box [.d (.sl (v_r134.1.fItems.map eS_reclaim_Item)), .d (.v (.int .i64 v_r134.1.fHand))], .box [.d (vnil), .d (.v (.int .i64 0))]]⟩
def G_ringlaw2_ReclaimTells_C8 (n : Nat) (v_r134 : (S_reclaim_Clock × Int × Int × Int)) : Option G_ringlaw2_ReclaimTells_C8_R :=
  (G_ringref2_ClockSame n v_r134.1 (S_reclaim_Clock.mk ([] : (List S_reclaim_Item)) 0)).bind fun (v_r422 : (Bool)) =>
  if v_r422 = true then
   if v_r134.2.1 = 0 then
    if v_r134.2.2.1 = 0 then
     some (.x0 (v_r134.2.2.2 == 6))
    else
     some (.x0 false)
   else
    some (.x0 false)
  else
   some (.x0 false)
theorem G_ringlaw2_ReclaimTells_C8_ok {Fi : Ex → PS → Prop} (hF : KC 249 Fi) (ks : List Fr) (n : Nat) (v_r134 : (S_reclaim_Clock × Int × Int × Int))  (o : G_ringlaw2_ReclaimTells_C8_R) (h : G_ringlaw2_ReclaimTells_C8 n v_r134 = some o) (q : RunE Try.prog 249 Fi ks (G_ringlaw2_ReclaimTells_C8_ex o) (G_ringlaw2_ReclaimTells_C8_st v_r134 o)) : RunE Try.prog 249 Fi (.s (cL (cT (cR (cL (cR (cR (cR (cR (cR (cR (cR (cR (cR (cR (cR (cR (bodyOf Try.f7))))))))))))))))) :: ks) .normal (G_ringlaw2_ReclaimTells_C8_hd v_r134) := by
  unfold G_ringlaw2_ReclaimTells_C8 at h
  obtain ⟨v_r422, h508, h⟩ := bind_some h
  by_cases h509 : v_r422 = true
  · rw [if_pos h509] at h
    by_cases h510 : v_r134.2.1 = 0
    · rw [if_pos h510] at h
      by_cases h511 : v_r134.2.2.1 = 0
      · rw [if_pos h511] at h
        cases h
        exact pkk_sound TTok mix hF 1 (hs := [.c, .c, .r (eB v_r422), .t true, .c, .t true, .c, .t true, .c]) (ts := []) (s := []) (l := [4]) (by kernel_rfl) (by kernel_rfl) (.cons (G_ringref2_ClockSame_ok n v_r134.1 (S_reclaim_Clock.mk ([] : (List S_reclaim_Item)) 0) _ h508) (.cons h509 (.cons (bt h510) (.cons (bt h511) .nil)))) q
      · rw [if_neg h511] at h
        cases h
        exact pkk_sound TTok mix hF 1 (hs := [.c, .c, .r (eB v_r422), .t true, .c, .t true, .c, .t false, .c]) (ts := []) (s := []) (l := [4]) (by kernel_rfl) (by kernel_rfl) (.cons (G_ringref2_ClockSame_ok n v_r134.1 (S_reclaim_Clock.mk ([] : (List S_reclaim_Item)) 0) _ h508) (.cons h509 (.cons (bt h510) (.cons (bf h511) .nil)))) q
    · rw [if_neg h510] at h
      cases h
      exact pkk_sound TTok mix hF 1 (hs := [.c, .c, .r (eB v_r422), .t true, .c, .t false, .c, .c, .c]) (ts := []) (s := []) (l := [4]) (by kernel_rfl) (by kernel_rfl) (.cons (G_ringref2_ClockSame_ok n v_r134.1 (S_reclaim_Clock.mk ([] : (List S_reclaim_Item)) 0) _ h508) (.cons h509 (.cons (bf h510) .nil))) q
  · rw [if_neg h509] at h
    cases h
    exact pkk_sound TTok mix hF 1 (hs := [.c, .c, .r (eB v_r422), .t false, .c, .c, .c, .c, .c]) (ts := []) (s := []) (l := [4]) (by kernel_rfl) (by kernel_rfl) (.cons (G_ringref2_ClockSame_ok n v_r134.1 (S_reclaim_Clock.mk ([] : (List S_reclaim_Item)) 0) _ h508) (.cons (vf h509) .nil)) q
inductive G_ringlaw2_ReclaimTells_C9_R where
  | x0 (v_x509 : Bool)
def G_ringlaw2_ReclaimTells_C9_ex : G_ringlaw2_ReclaimTells_C9_R → Ex
  | .x0 _ => .normal
def G_ringlaw2_ReclaimTells_C9_st (v_r134 : (S_reclaim_Clock × Int × Int × Int)) (v_r506 : (S_reclaim_Clock × Int × Int)) : G_ringlaw2_ReclaimTells_C9_R → PS
  | .x0 v_x509 => ⟨[dd, dd, dd, dd, .d (.v (.bool v_x509)), dd, dd, dd, dd, dd, dd, dd, dd, dd, dd, dd, dd, dd, dd, dd, dd, dd, dd, dd, dd, dd, dd, dd, dd, dd, dd, dd, dd, dd, dd, dd, dd, dd, dd, dd, dd, dd, dd, dd, dd, dd, dd, dd, dd, dd, dd, dd, dd, dd, dd, dd, dd, dd, dd, dd, dd, dd, dd, dd, dd, dd, dd, dd, dd, dd, dd, dd, dd, dd, dd, dd, dd, dd, dd, dd, dd, dd, dd, dd, dd, dd, dd, dd, dd, dd, dd, dd, dd, dd, dd, dd, dd, dd, dd, dd, dd, dd, dd, dd, dd, dd, dd, dd, dd, dd, dd, dd, dd, dd, dd, dd, dd, dd, dd, dd, dd, dd, dd, dd, dd, dd, dd, dd, dd, dd, dd, dd, dd, dd, dd, dd, dd, dd, dd, dd, dd, dd, dd, dd, dd, dd, dd, dd, dd, dd, dd, dd, dd, dd, dd, dd, dd, dd, dd, dd, dd, dd, dd, dd, dd, dd, dd, dd, dd, dd, dd, dd, dd, dd, dd, dd, dd, dd, dd, dd, dd, dd, dd, dd, dd, dd, dd, dd, dd, dd, dd, dd, dd, dd, dd, dd, dd, dd, dd, dd, dd, dd, dd, dd, dd, dd, dd, dd, dd, dd, dd, dd, dd, dd, dd, dd, dd, dd, dd, dd, dd, dd, dd, dd, dd, dd, dd, dd, dd, dd, dd, dd, dd, dd, dd, dd, dd, dd, dd, dd, dd, dd, dd, dd, dd, dd, dd, dd, dd], []⟩
def G_ringlaw2_ReclaimTells_C9_hd (v_r134 : (S_reclaim_Clock × Int × Int × Int)) (v_r506 : (S_reclaim_Clock × Int × Int))  : PS := ⟨[dd, dd, dd, dd, dd, dd, dd, dd, dd, .ref 0 0, .d (.v (.int .i64 v_r134.2.1)), .d (.v (.int .i64 v_r134.2.2.1)), .d (.v (.int .i64 v_r134.2.2.2)), dd, dd, dd, dd, dd, dd, dd, dd, .ref 1 0, .d (.v (.int .i64 v_r506.2.1)), .d (.v (.int .i64 v_r506.2.2)), dd, dd, dd, dd, dd, dd, dd, dd, dd, dd, dd, dd, dd, dd, dd, dd, dd, dd, dd, dd, dd, dd, dd, dd, dd, dd, dd, dd, dd, dd, dd, dd, dd, dd, dd, dd, dd, dd, dd, dd, dd, dd, dd, dd, dd, dd, dd, dd, dd, dd, dd, dd, dd, dd, dd, dd, dd, dd, dd, dd, dd, dd, dd, dd, dd, dd, dd, dd, dd, dd, dd, dd, dd, dd, dd, dd, dd, dd, dd, dd, dd, dd, dd, dd, dd, dd, dd, dd, dd, dd, dd, dd, dd, dd, dd, dd, dd, dd, dd, dd, dd, dd, dd, dd, dd, dd, dd, dd, dd, dd, dd, dd, dd, dd, dd, dd, dd, dd, dd, dd, dd, dd, dd, dd, dd, dd, dd, dd, dd, dd, dd, dd, dd, dd, dd, dd, dd, dd, dd, dd, dd, dd, dd, dd, dd, dd, dd, dd, dd, dd, dd, dd, dd, dd, dd, dd, dd, dd, dd, dd, dd, dd, dd, dd, dd, dd, dd, dd, dd, dd, dd, dd, dd, dd, dd, dd, dd, dd, dd, dd, dd, dd, dd, dd, dd, dd, dd, dd, dd, dd, dd, dd, dd, dd, dd, dd, dd, dd, dd, dd, dd, dd, dd, dd, dd, dd, dd, dd, dd, dd, dd, dd, dd, dd, dd, dd, dd, dd, dd, dd, dd, dd, dd, dd, dd], [.box [.d (.sl (v_r134.1.fItems.map eS_reclaim_Item)), .d (.v (.int .i64 v_r134.1.fHand))], .box [.d (.sl (v_r506.1.fItems.map eS_reclaim_Item)), .d (.v (.int .i64 v_r506.1.fHand))]]⟩
def G_ringlaw2_ReclaimTells_C9 (n : Nat) (v_r134 : (S_reclaim_Clock × Int × Int × Int)) (v_r506 : (S_reclaim_Clock × Int × Int)) : Option G_ringlaw2_ReclaimTells_C9_R :=
  (G_ringref2_ClockSame n v_r134.1 v_r506.1).bind fun (v_r508 : (Bool)) =>
  if v_r508 = true then
   if v_r134.2.1 = v_r506.2.1 then
    if v_r134.2.2.1 = v_r506.2.2 then
     some (.x0 (v_r134.2.2.2 == 0))
    else
     some (.x0 false)
   else
    some (.x0 false)
  else
   some (.x0 false)
theorem G_ringlaw2_ReclaimTells_C9_ok {Fi : Ex → PS → Prop} (hF : KC 249 Fi) (ks : List Fr) (n : Nat) (v_r134 : (S_reclaim_Clock × Int × Int × Int)) (v_r506 : (S_reclaim_Clock × Int × Int))  (o : G_ringlaw2_ReclaimTells_C9_R) (h : G_ringlaw2_ReclaimTells_C9 n v_r134 v_r506 = some o) (q : RunE Try.prog 249 Fi ks (G_ringlaw2_ReclaimTells_C9_ex o) (G_ringlaw2_ReclaimTells_C9_st v_r134 v_r506 o)) : RunE Try.prog 249 Fi (.s (cL (cR (cR (cR (cR (cR (cR (cR (cR (cR (cR (cR (cR (cR (cR (bodyOf Try.f7)))))))))))))))) :: ks) .normal (G_ringlaw2_ReclaimTells_C9_hd v_r134 v_r506) := by
  unfold G_ringlaw2_ReclaimTells_C9 at h
  obtain ⟨v_r508, h589, h⟩ := bind_some h
  by_cases h590 : v_r508 = true
  · rw [if_pos h590] at h
    by_cases h591 : v_r134.2.1 = v_r506.2.1
    · rw [if_pos h591] at h
      by_cases h592 : v_r134.2.2.1 = v_r506.2.2
      · rw [if_pos h592] at h
        cases h
        exact pkk_sound TTok mix hF 1 (hs := [.c, .c, .r (eB v_r508), .t true, .c, .c, .t true, .c, .c, .t true, .c]) (ts := []) (s := []) (l := [4]) (by kernel_rfl) (by kernel_rfl) (.cons (G_ringref2_ClockSame_ok n v_r134.1 v_r506.1 _ h589) (.cons h590 (.cons (bt h591) (.cons (bt h592) .nil)))) q
      · rw [if_neg h592] at h
        cases h
        exact pkk_sound TTok mix hF 1 (hs := [.c, .c, .r (eB v_r508), .t true, .c, .c, .t true, .c, .c, .t false, .c]) (ts := []) (s := []) (l := [4]) (by kernel_rfl) (by kernel_rfl) (.cons (G_ringref2_ClockSame_ok n v_r134.1 v_r506.1 _ h589) (.cons h590 (.cons (bt h591) (.cons (bf h592) .nil)))) q
    · rw [if_neg h591] at h
      cases h
      exact pkk_sound TTok mix hF 1 (hs := [.c, .c, .r (eB v_r508), .t true, .c, .c, .t false, .c, .c, .c, .c]) (ts := []) (s := []) (l := [4]) (by kernel_rfl) (by kernel_rfl) (.cons (G_ringref2_ClockSame_ok n v_r134.1 v_r506.1 _ h589) (.cons h590 (.cons (bf h591) .nil))) q
  · rw [if_neg h590] at h
    cases h
    exact pkk_sound TTok mix hF 1 (hs := [.c, .c, .r (eB v_r508), .t false, .c, .c, .c, .c, .c, .c, .c]) (ts := []) (s := []) (l := [4]) (by kernel_rfl) (by kernel_rfl) (.cons (G_ringref2_ClockSame_ok n v_r134.1 v_r506.1 _ h589) (.cons (vf h590) .nil)) q
/- ringhall/ringlaw2.ReclaimTells -/
def G_ringlaw2_ReclaimTells (n : Nat) (v_c1 : S_reclaim_Clock) (v_x2 : S_reclaim_Item) : Option (Bool) :=
  (G_reclaim_Put n v_c1 v_x2.fId).bind fun (v_r55 : (S_reclaim_Clock × Int)) =>
  (G_reclaim_Mark n v_c1 v_x2).bind fun (v_r62 : (S_reclaim_Clock × Int)) =>
  (G_reclaim_Next n v_c1).bind fun (v_r134 : (S_reclaim_Clock × Int × Int × Int)) =>
  (G_ringref2_Clocks n v_c1).bind fun (v_r157 : (Int)) =>
  (G_reclaim_Check n v_c1).bind fun (v_r158 : (Int)) =>
  if v_r158 = v_r157 then
   if v_r157 = 0 then
    (G_ringref2_ItemAt n v_c1 v_x2.fId).bind fun (v_r205 : (Int)) =>
    (G_ringlaw2_ReclaimTells_C6 n v_r55 v_r62 v_r134 v_r205 v_c1 v_x2).bind fun v_o404 => match v_o404 with
    | .x0 v_z405 =>
      some v_z405
    | .x1  =>
      (G_ringlaw2_ReclaimTells_L7 n v_r134 v_c1 n false 0).bind fun v_o411 => match v_o411 with
      | .x0 v_z412 =>
        if v_z412 = true then
         (G_ringref2_ClockNext n v_c1).bind fun (v_r506 : (S_reclaim_Clock × Int × Int)) =>
         (G_ringlaw2_ReclaimTells_C9 n v_r134 v_r506).bind fun v_o513 => match v_o513 with
         | .x0 v_z514 =>
           some v_z514
        else
         (G_ringlaw2_ReclaimTells_C8 n v_r134).bind fun v_o427 => match v_o427 with
         | .x0 v_z428 =>
           some v_z428
   else
    (G_ringlaw2_ReclaimTells_C1 n v_r55 v_r62 v_r134 v_r157).bind fun v_o203 => match v_o203 with
    | .x0 v_z204 =>
      some v_z204
  else
   some false
theorem G_ringlaw2_ReclaimTells_ok (n : Nat) (v_c1 : S_reclaim_Clock) (v_x2 : S_reclaim_Item) (r : Bool) (h : G_ringlaw2_ReclaimTells n v_c1 v_x2 = some r) : Ret Try.prog 7 [eS_reclaim_Clock v_c1, eS_reclaim_Item v_x2] (eB r) := by
  refine ret_run (n := 249) (fn := Try.f7) (c := bodyOf Try.f7) (by kernel_rfl) (by kernel_rfl) (by kernel_rfl) (by kernel_rfl) ?_
  have hF : KC 249 (FinR Try.prog Try.f7 (eB r)) := FinR.kc' (by kernel_rfl)
  unfold G_ringlaw2_ReclaimTells at h
  obtain ⟨v_r55, h83, h⟩ := bind_some h
  obtain ⟨v_r62, h93, h⟩ := bind_some h
  obtain ⟨v_r134, h167, h⟩ := bind_some h
  obtain ⟨v_r157, h189, h⟩ := bind_some h
  obtain ⟨v_r158, h190, h⟩ := bind_some h
  by_cases h191 : v_r158 = v_r157
  · rw [if_pos h191] at h
    by_cases h226 : v_r157 = 0
    · rw [if_pos h226] at h
      obtain ⟨v_r205, h248, h⟩ := bind_some h
      obtain ⟨v_o404, h486, h⟩ := bind_some h
      refine pkk_sound TTok mix hF 28 (hs := [.c, .c, .r (.tup [eS_reclaim_Clock v_r55.1, (eI .i64) v_r55.2]), .c, .c, .c, .r (.tup [eS_reclaim_Clock v_r62.1, (eI .i64) v_r62.2]), .c, .c, .r (.tup [eS_reclaim_Clock v_r134.1, (eI .i64) v_r134.2.1, (eI .i64) v_r134.2.2.1, (eI .i64) v_r134.2.2.2]), .c, .c, .c, .r ((eI .i64) v_r157), .c, .r ((eI .i64) v_r158), .t false, .t false, .c, .c, .r ((eI .i64) v_r205)]) (ts := []) (s := [0, 3, 30, 57, 87, 105]) (l := [2, 3, 5, 6, 7, 8, 9, 10, 11, 12, 13, 15, 140]) (by kernel_rfl) (by kernel_rfl) (.cons (G_reclaim_Put_ok n v_c1 v_x2.fId _ h83) (.cons (show 0 + 2 ≤ 2 by decide) (.cons (G_reclaim_Mark_ok n v_c1 v_x2 _ h93) (.cons (show 0 + 2 ≤ 2 by decide) (.cons (G_reclaim_Next_ok n v_c1 _ h167) (.cons (show 0 + 2 ≤ 2 by decide) (.cons (show 0 + 2 ≤ 2 by decide) (.cons (G_ringref2_Clocks_ok n v_c1 _ h189) (.cons (G_reclaim_Check_ok n v_c1 _ h190) (.cons (nf h191) (.cons (nf h226) (.cons (G_ringref2_ItemAt_ok n v_c1 v_x2.fId _ h248) .nil)))))))))))) (G_ringlaw2_ReclaimTells_C6_ok hF (.b 0 :: .s (cR (cR (cR (cR (cR (cR (cR (cR (cR (cR (bodyOf Try.f7))))))))))) :: []) n v_r55 v_r62 v_r134 v_r205 v_c1 v_x2 _ h486 ?_)
      cases v_o404 with
      | x0 v_z405 =>
        dsimp only at h
        obtain rfl := Option.some.inj h
        exact pend_sound TTok mix 2 (hs := []) (by kernel_rfl) (by kernel_rfl) (by kernel_rfl) .nil
      | x1  =>
        dsimp only at h
        obtain ⟨v_o411, h492, h⟩ := bind_some h
        refine pkk_sound TTok mix hF 8 (hs := [.c, .u (.d (.v (.int .i64 (v_c1.fItems.length : Int)))), .n n]) (ts := []) (s := [0, 1, 2]) (l := [2, 9, 10, 11, 12, 13, 18, 196, 197, 198]) (by kernel_rfl) (by kernel_rfl) (.cons (len_ob (f := eS_reclaim_Item) (l := v_c1.fItems)) .nil) (G_ringlaw2_ReclaimTells_L7_ok hF (.b 1 :: .s (cR (cR (cR (cR (cR (cR (cR (cR (cR (cR (cR (cR (bodyOf Try.f7))))))))))))) :: []) n v_r134 v_c1 n false 0 _ h492 ?_)
        cases v_o411 with
        | x0 v_z412 =>
          dsimp only at h
          by_cases h503 : v_z412 = true
          · rw [if_pos h503] at h
            obtain ⟨v_r506, h584, h⟩ := bind_some h
            obtain ⟨v_o513, h593, h⟩ := bind_some h
            refine pkk_sound TTok mix hF 9 (hs := [.t false, .c, .r (.tup [eS_reclaim_Clock v_r506.1, (eI .i64) v_r506.2.1, (eI .i64) v_r506.2.2]), .c]) (ts := []) (s := [1, 27]) (l := [9, 10, 11, 12, 21, 22, 23]) (by kernel_rfl) (by kernel_rfl) (.cons (bnf h503) (.cons (G_ringref2_ClockNext_ok n v_c1 _ h584) (.cons (show 0 + 2 ≤ 2 by decide) .nil))) (G_ringlaw2_ReclaimTells_C9_ok hF (.s (cR (cR (cR (cR (cR (cR (cR (cR (cR (cR (cR (cR (cR (cR (cR (bodyOf Try.f7)))))))))))))))) :: []) n v_r134 v_r506 _ h593 ?_)
            cases v_o513 with
            | x0 v_z514 =>
              dsimp only at h
              obtain rfl := Option.some.inj h
              exact pend_sound TTok mix 1 (hs := []) (by kernel_rfl) (by kernel_rfl) (by kernel_rfl) .nil
          · rw [if_neg h503] at h
            obtain ⟨v_o427, h512, h⟩ := bind_some h
            refine pkk_sound TTok mix hF 6 (hs := [.t true]) (ts := []) (s := [1, 2]) (l := [9, 10, 11, 12, 13]) (by kernel_rfl) (by kernel_rfl) (.cons (bnt (vf h503)) .nil) (G_ringlaw2_ReclaimTells_C8_ok hF (.s (cR (cT (cR (cL (cR (cR (cR (cR (cR (cR (cR (cR (cR (cR (cR (cR (bodyOf Try.f7))))))))))))))))) :: .s (cR (cR (cR (cR (cR (cR (cR (cR (cR (cR (cR (cR (cR (bodyOf Try.f7)))))))))))))) :: []) n v_r134 _ h512 ?_)
            cases v_o427 with
            | x0 v_z428 =>
              dsimp only at h
              obtain rfl := Option.some.inj h
              exact pend_sound TTok mix 2 (hs := []) (by kernel_rfl) (by kernel_rfl) (by kernel_rfl) .nil
    · rw [if_neg h226] at h
      obtain ⟨v_o203, h247, h⟩ := bind_some h
      refine pkk_sound TTok mix hF 22 (hs := [.c, .c, .r (.tup [eS_reclaim_Clock v_r55.1, (eI .i64) v_r55.2]), .c, .c, .c, .r (.tup [eS_reclaim_Clock v_r62.1, (eI .i64) v_r62.2]), .c, .c, .r (.tup [eS_reclaim_Clock v_r134.1, (eI .i64) v_r134.2.1, (eI .i64) v_r134.2.2.1, (eI .i64) v_r134.2.2.2]), .c, .c, .c, .r ((eI .i64) v_r157), .c, .r ((eI .i64) v_r158), .t false, .t true]) (ts := []) (s := [30, 57, 87, 105]) (l := [5, 6, 7, 8, 9, 10, 11, 12, 13, 14]) (by kernel_rfl) (by kernel_rfl) (.cons (G_reclaim_Put_ok n v_c1 v_x2.fId _ h83) (.cons (show 0 + 2 ≤ 2 by decide) (.cons (G_reclaim_Mark_ok n v_c1 v_x2 _ h93) (.cons (show 0 + 2 ≤ 2 by decide) (.cons (G_reclaim_Next_ok n v_c1 _ h167) (.cons (show 0 + 2 ≤ 2 by decide) (.cons (show 0 + 2 ≤ 2 by decide) (.cons (G_ringref2_Clocks_ok n v_c1 _ h189) (.cons (G_reclaim_Check_ok n v_c1 _ h190) (.cons (nf h191) (.cons (nt h226) .nil))))))))))) (G_ringlaw2_ReclaimTells_C1_ok hF (.s (cR (cT (cR (cL (cR (cR (cR (cR (cR (cR (cR (bodyOf Try.f7)))))))))))) :: .s (cR (cR (cR (cR (cR (cR (cR (cR (bodyOf Try.f7))))))))) :: []) n v_r55 v_r62 v_r134 v_r157 _ h247 ?_)
      cases v_o203 with
      | x0 v_z204 =>
        dsimp only at h
        obtain rfl := Option.some.inj h
        exact pend_sound TTok mix 2 (hs := []) (by kernel_rfl) (by kernel_rfl) (by kernel_rfl) .nil
  · rw [if_neg h191] at h
    obtain rfl := Option.some.inj h
    exact pend_sound TTok mix 20 (hs := [.c, .c, .r (.tup [eS_reclaim_Clock v_r55.1, (eI .i64) v_r55.2]), .c, .c, .c, .r (.tup [eS_reclaim_Clock v_r62.1, (eI .i64) v_r62.2]), .c, .c, .r (.tup [eS_reclaim_Clock v_r134.1, (eI .i64) v_r134.2.1, (eI .i64) v_r134.2.2.1, (eI .i64) v_r134.2.2.2]), .c, .c, .c, .r ((eI .i64) v_r157), .c, .r ((eI .i64) v_r158), .t true]) (by kernel_rfl) (by kernel_rfl) (by kernel_rfl) (.cons (G_reclaim_Put_ok n v_c1 v_x2.fId _ h83) (.cons (show 0 + 2 ≤ 2 by decide) (.cons (G_reclaim_Mark_ok n v_c1 v_x2 _ h93) (.cons (show 0 + 2 ≤ 2 by decide) (.cons (G_reclaim_Next_ok n v_c1 _ h167) (.cons (show 0 + 2 ≤ 2 by decide) (.cons (show 0 + 2 ≤ 2 by decide) (.cons (G_ringref2_Clocks_ok n v_c1 _ h189) (.cons (G_reclaim_Check_ok n v_c1 _ h190) (.cons (nt h191) .nil))))))))))
def okS_reclaim_Item (x : S_reclaim_Item) : Prop := (fun a => (Lit.int .i64 a).wf = true) x.fId ∧ (fun _ => True) x.fUsed ∧ (fun _ => True) x.fPinned ∧ True
theorem brS_reclaim_Item : Br (.pair (.int .i64) (.pair .bool (.pair .bool .unit))) (fun x : S_reclaim_Item => [.v (.int .i64 x.fId), .v (.bool x.fUsed), .v (.bool x.fPinned)]) okS_reclaim_Item := br_map (br_pair (br_int .i64) (br_pair br_bool (br_pair br_bool br_unit))) (fun p => S_reclaim_Item.mk p.1 p.2.1 p.2.2.1) (fun p h => ⟨rfl, h⟩)
def okS_reclaim_Clock (x : S_reclaim_Clock) : Prop := (okL 16 okS_reclaim_Item) x.fItems ∧ (fun a => (Lit.int .i64 a).wf = true) x.fHand ∧ True
theorem brS_reclaim_Clock : Br (.pair (.slice 16 (.pair (.int .i64) (.pair .bool (.pair .bool .unit)))) (.pair (.int .i64) .unit)) (fun x : S_reclaim_Clock => [.sl (x.fItems.map eS_reclaim_Item), .v (.int .i64 x.fHand)]) okS_reclaim_Clock := br_map (br_pair (br_slice (f := eS_reclaim_Item) (ok := okS_reclaim_Item) brS_reclaim_Item (fun _ => rfl) (by decide)) (br_pair (br_int .i64) br_unit)) (fun p => S_reclaim_Clock.mk p.1 p.2.1) (fun p h => ⟨rfl, h⟩)
theorem ReclaimTells_walk (H : ∀ (a0 : S_reclaim_Clock) (a1 : S_reclaim_Item), okS_reclaim_Clock a0 → okS_reclaim_Item a1 → ∃ n, G_ringlaw2_ReclaimTells n a0 a1 = some true) (w : World) (v0 : Value) (v1 : Value) (h0 : rep.Arg w (.pair (.slice 16 (.pair (.int .i64) (.pair .bool (.pair .bool .unit)))) (.pair (.int .i64) .unit)) v0) (h1 : rep.Arg w (.pair (.int .i64) (.pair .bool (.pair .bool .unit))) v1) : Calls Try.prog 7 #[v0, v1] w (help.Ret (.bool true) w) := by
  obtain ⟨a0, o0, r0⟩ := arg_agg brS_reclaim_Clock (by rfl) h0
  obtain ⟨a1, o1, r1⟩ := arg_agg brS_reclaim_Item (by rfl) h1
  obtain ⟨n, hn⟩ := H a0 a1 o0 o1
  exact walk_of (G_ringlaw2_ReclaimTells_ok n a0 a1 true hn) (RT_cons r0 (RT_cons r1 RT_nil))
/- FRAME ReclaimTells; ringhall/ringlaw2.ReclaimTells; (.pair (.slice 16 (.pair (.int .i64) (.pair .bool (.pair .bool .unit)))) (.pair (.int .i64) .unit)) | (.pair (.int .i64) (.pair .bool (.pair .bool .unit))); .agg #[.slice none 0 0, .int .i64 0] | .agg #[.int .i64 0, .bool false, .bool false] -/
end Go.Proofs.Ytnmpnljjaoddhaa.pv
