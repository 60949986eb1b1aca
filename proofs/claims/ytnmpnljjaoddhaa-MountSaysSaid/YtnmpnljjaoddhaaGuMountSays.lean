/- What the functions compute, as functions over plain data, with their contracts: written by gen.py. -/
import Derived.Test.YtnmpnljjaoddhaaProg
import Derived.Test.YtnmpnljjaoddhaaQr
import Derived.Test.YtnmpnljjaoddhaaSc
set_option maxRecDepth 100000
set_option linter.all false
namespace Go.Proofs.Ytnmpnljjaoddhaa.pv
open Go.RowKit
def TT : List TI := [
⟨1, 0, .oth, []⟩,
⟨1, 8, .oth, [.nf]⟩,
⟨1, 8, .int .i64, [.i .i64]⟩,
⟨1, 8, .int .i64, [.i .i64]⟩,
⟨1, 1, .bool, [.b]⟩,
⟨1, 1, .int .u8, [.i .u8]⟩,
⟨1, 1, .int .u8, [.i .u8]⟩,
⟨4, 24, .st [(0, 2), (1, 3), (2, 4), (3, 6)], [.i .i64, .i .i64, .b, .i .u8]⟩,
⟨4, 24, .st [(0, 2), (1, 3), (2, 4), (3, 6)], [.i .i64, .i .i64, .b, .i .u8]⟩,
⟨1, 16, .str, [.s]⟩,
⟨1, 16, .str, [.s]⟩,
⟨1, 16, .str, [.s]⟩,
⟨1, 8, .int .u64, [.i .u64]⟩,
⟨2, 24, .st [(0, 9), (1, 12)], [.s, .i .u64]⟩,
⟨2, 24, .st [(0, 9), (1, 12)], [.s, .i .u64]⟩,
⟨1, 8, .oth, [.np]⟩,
⟨1, 8, .oth, [.np]⟩,
⟨1, 8, .oth, [.np]⟩,
⟨1, 8, .st [(0, 17)], [.np]⟩,
⟨1, 8, .st [(0, 17)], [.np]⟩,
⟨1, 16, .oth, [.ni]⟩,
⟨1, 4, .int .i32, [.i .i32]⟩,
⟨1, 24, .sl 3, [.sl]⟩,
⟨1, 8, .int .i64, [.i .i64]⟩,
⟨1, 0, .oth, []⟩,
⟨1, 8, .oth, [.nf]⟩,
⟨1, 8, .oth, [.nf]⟩,
⟨1, 8, .oth, [.nf]⟩,
⟨1, 8, .oth, [.nf]⟩,
⟨1, 8, .oth, [.nf]⟩,
⟨6, 48, .st [(0, 3), (1, 3), (2, 3), (3, 3), (4, 3), (5, 3)], [.i .i64, .i .i64, .i .i64, .i .i64, .i .i64, .i .i64]⟩,
⟨6, 48, .st [(0, 3), (1, 3), (2, 3), (3, 3), (4, 3), (5, 3)], [.i .i64, .i .i64, .i .i64, .i .i64, .i .i64, .i .i64]⟩,
⟨6, 64, .st [(0, 3), (1, 3), (2, 22), (3, 3), (4, 3), (5, 3)], [.i .i64, .i .i64, .sl, .i .i64, .i .i64, .i .i64]⟩,
⟨6, 64, .st [(0, 3), (1, 3), (2, 22), (3, 3), (4, 3), (5, 3)], [.i .i64, .i .i64, .sl, .i .i64, .i .i64, .i .i64]⟩,
⟨1, 8, .oth, [.nf]⟩,
⟨1, 0, .oth, []⟩,
⟨1, 8, .oth, [.nf]⟩,
⟨1, 0, .oth, []⟩,
⟨1, 8, .oth, [.nf]⟩,
⟨1, 8, .oth, [.nf]⟩,
⟨1, 8, .oth, [.nf]⟩,
⟨1, 8, .oth, [.nf]⟩,
⟨1, 8, .oth, [.nf]⟩,
⟨1, 8, .oth, [.nf]⟩,
⟨1, 8, .oth, [.nf]⟩,
⟨1, 24, .sl 51, [.sl]⟩,
⟨2, 32, .st [(0, 4), (1, 45)], [.b, .sl]⟩,
⟨2, 32, .st [(0, 4), (1, 45)], [.b, .sl]⟩,
⟨16, 256, .arr 8 47, (List.replicate 8 [.b, .sl]).flatten⟩,
⟨16, 256, .arr 8 47, (List.replicate 8 [.b, .sl]).flatten⟩,
⟨7, 32, .st [(0, 4), (1, 4), (2, 3), (3, 3), (4, 4), (5, 4), (6, 4)], [.b, .b, .i .i64, .i .i64, .b, .b, .b]⟩,
⟨7, 32, .st [(0, 4), (1, 4), (2, 3), (3, 3), (4, 4), (5, 4), (6, 4)], [.b, .b, .i .i64, .i .i64, .b, .b, .b]⟩,
⟨1, 0, .oth, []⟩,
⟨1, 8, .oth, [.nf]⟩,
⟨1, 0, .oth, []⟩,
⟨1, 8, .oth, [.nf]⟩,
⟨1, 8, .oth, [.nf]⟩,
⟨1, 0, .oth, []⟩,
⟨1, 8, .oth, [.nf]⟩,
⟨1, 8, .oth, [.nf]⟩,
⟨448, 2048, .arr 64 51, (List.replicate 64 [.b, .b, .i .i64, .i .i64, .b, .b, .b]).flatten⟩,
⟨448, 2048, .arr 64 51, (List.replicate 64 [.b, .b, .i .i64, .i .i64, .b, .b, .b]).flatten⟩,
⟨1, 8, .oth, [.nf]⟩,
⟨1, 8, .oth, [.nf]⟩,
⟨1, 8, .oth, [.nf]⟩,
⟨1, 8, .oth, [.nf]⟩,
⟨1, 8, .oth, [.nf]⟩,
⟨1, 8, .oth, [.nf]⟩,
⟨1, 8, .oth, [.nf]⟩,
⟨1, 24, .sl 78, [.sl]⟩,
⟨1, 8, .oth, [.nf]⟩,
⟨1, 0, .oth, []⟩,
⟨1, 8, .oth, [.nf]⟩,
⟨1, 8, .oth, [.nf]⟩,
⟨1, 0, .oth, []⟩,
⟨1, 8, .oth, [.nf]⟩,
⟨1, 24, .sl 79, [.sl]⟩,
⟨2, 16, .st [(0, 3), (1, 3)], [.i .i64, .i .i64]⟩,
⟨2, 16, .st [(0, 3), (1, 3)], [.i .i64, .i .i64]⟩,
⟨2, 16, .arr 2 3, [.i .i64, .i .i64]⟩,
⟨1, 8, .oth, [.nf]⟩,
⟨1, 8, .oth, [.nf]⟩,
⟨1, 8, .oth, [.nf]⟩,
⟨1, 8, .oth, [.nf]⟩,
⟨1, 8, .oth, [.nf]⟩,
⟨1, 8, .oth, [.nf]⟩,
⟨1, 8, .oth, [.nf]⟩,
⟨1, 8, .oth, [.nf]⟩,
⟨1, 8, .oth, [.nf]⟩,
⟨1, 8, .oth, [.nf]⟩,
⟨1, 8, .oth, [.nf]⟩,
⟨1, 24, .sl 95, [.sl]⟩,
⟨2, 32, .st [(0, 91), (1, 3)], [.sl, .i .i64]⟩,
⟨2, 32, .st [(0, 91), (1, 3)], [.sl, .i .i64]⟩,
⟨3, 16, .st [(0, 3), (1, 4), (2, 4)], [.i .i64, .b, .b]⟩,
⟨3, 16, .st [(0, 3), (1, 4), (2, 4)], [.i .i64, .b, .b]⟩,
⟨1, 0, .oth, []⟩,
⟨1, 8, .oth, [.nf]⟩,
⟨1, 8, .oth, [.nf]⟩,
⟨1, 0, .oth, []⟩,
⟨1, 8, .oth, [.nf]⟩,
⟨1, 8, .oth, [.nf]⟩,
⟨1, 8, .oth, [.nf]⟩,
⟨1, 8, .oth, [.nf]⟩,
⟨1, 8, .oth, [.nf]⟩,
⟨1, 0, .oth, []⟩,
⟨1, 8, .oth, [.nf]⟩,
⟨1, 8, .oth, [.nf]⟩,
⟨1, 24, .sl 110, [.sl]⟩,
⟨3, 24, .st [(0, 3), (1, 3), (2, 3)], [.i .i64, .i .i64, .i .i64]⟩,
⟨3, 24, .st [(0, 3), (1, 3), (2, 3)], [.i .i64, .i .i64, .i .i64]⟩,
⟨1, 0, .oth, []⟩,
⟨1, 8, .oth, [.nf]⟩,
⟨1, 8, .oth, [.nf]⟩,
⟨1, 0, .oth, []⟩,
⟨1, 8, .oth, [.nf]⟩,
⟨1, 8, .oth, [.nf]⟩,
⟨1, 8, .oth, [.nf]⟩,
⟨64, 512, .arr 64 3, List.replicate 64 (.i .i64)⟩,
⟨64, 512, .arr 64 3, List.replicate 64 (.i .i64)⟩,
⟨1, 8, .oth, [.nf]⟩,
⟨1, 8, .oth, [.nf]⟩,
⟨1, 8, .oth, [.nf]⟩,
⟨1, 8, .oth, [.nf]⟩,
⟨1, 8, .oth, [.nf]⟩,
⟨1, 8, .oth, [.nf]⟩,
⟨1, 8, .oth, [.nf]⟩,
⟨1, 24, .sl 138, [.sl]⟩,
⟨2, 32, .st [(0, 3), (1, 127)], [.i .i64, .sl]⟩,
⟨2, 32, .st [(0, 3), (1, 127)], [.i .i64, .sl]⟩,
⟨1, 0, .oth, []⟩,
⟨1, 8, .oth, [.nf]⟩,
⟨1, 0, .oth, []⟩,
⟨1, 8, .oth, [.nf]⟩,
⟨1, 8, .oth, [.nf]⟩,
⟨1, 8, .oth, [.nf]⟩,
⟨1, 8, .oth, [.nf]⟩,
⟨2, 16, .st [(0, 3), (1, 3)], [.i .i64, .i .i64]⟩,
⟨2, 16, .st [(0, 3), (1, 3)], [.i .i64, .i .i64]⟩,
⟨1, 8, .oth, [.nf]⟩,
⟨64, 64, .arr 64 4, List.replicate 64 (.b)⟩,
⟨1, 8, .oth, [.nf]⟩,
⟨1, 8, .oth, [.nf]⟩,
⟨1, 8, .oth, [.nf]⟩,
⟨1, 8, .oth, [.nf]⟩,
⟨1, 0, .oth, []⟩,
⟨1, 8, .oth, [.nf]⟩,
⟨1, 8, .oth, [.nf]⟩,
⟨1, 8, .oth, [.nf]⟩,
⟨1, 8, .oth, [.nf]⟩,
⟨1, 8, .oth, [.nf]⟩,
⟨1, 8, .oth, [.nf]⟩,
⟨1, 8, .oth, [.nf]⟩,
⟨3, 24, .st [(0, 4), (1, 3), (2, 3)], [.b, .i .i64, .i .i64]⟩,
⟨3, 24, .st [(0, 4), (1, 3), (2, 3)], [.b, .i .i64, .i .i64]⟩,
⟨1, 24, .sl 154, [.sl]⟩,
⟨1, 8, .oth, [.nf]⟩,
⟨1, 8, .oth, [.nf]⟩,
⟨1, 8, .oth, [.nf]⟩,
⟨1, 8, .oth, [.nf]⟩,
⟨1, 8, .oth, [.nf]⟩,
⟨1, 8, .oth, [.nf]⟩,
⟨1, 8, .oth, [.nf]⟩,
⟨1, 8, .oth, [.nf]⟩,
⟨1, 0, .oth, []⟩,
⟨1, 8, .oth, [.nf]⟩,
⟨1, 8, .oth, [.nf]⟩,
⟨1, 8, .oth, [.nf]⟩,
⟨1, 24, .sl 69, [.sl]⟩,
⟨1, 8, .oth, [.nf]⟩,
⟨1, 8, .oth, [.nf]⟩,
⟨1, 8, .oth, [.nf]⟩,
⟨1, 8, .oth, [.nf]⟩,
⟨1, 8, .oth, [.nf]⟩,
⟨1, 8, .oth, [.nf]⟩,
⟨1, 8, .oth, [.nf]⟩,
⟨1, 8, .oth, [.np]⟩,
⟨1, 8, .oth, [.nf]⟩,
⟨1, 8, .oth, [.nf]⟩,
⟨1, 8, .oth, [.nf]⟩,
⟨1, 8, .oth, [.nf]⟩,
⟨1, 8, .oth, [.nf]⟩,
⟨1, 8, .oth, [.nf]⟩,
⟨1, 8, .oth, [.nf]⟩,
⟨1, 8, .oth, [.nf]⟩,
⟨1, 8, .oth, [.nf]⟩,
⟨1, 8, .oth, [.nf]⟩,
⟨1, 8, .oth, [.nf]⟩,
⟨1, 8, .oth, [.nf]⟩,
⟨1, 8, .oth, [.nf]⟩,
⟨1, 8, .oth, [.nf]⟩,
⟨1, 8, .oth, [.nf]⟩,
⟨1, 8, .oth, [.nf]⟩,
⟨1, 8, .int .u64, [.i .u64]⟩,
⟨1, 8, .oth, [.nf]⟩,
⟨1, 8, .oth, [.nf]⟩,
⟨1, 8, .oth, [.nf]⟩,
⟨1, 8, .oth, [.nf]⟩,
⟨1, 8, .oth, [.nf]⟩,
⟨1, 8, .oth, [.nf]⟩,
⟨1, 8, .oth, [.nf]⟩,
⟨1, 8, .oth, [.nf]⟩,
⟨1, 8, .oth, [.nf]⟩,
⟨1, 8, .oth, [.np]⟩,
⟨1, 8, .oth, [.nf]⟩,
⟨1, 8, .oth, [.nf]⟩,
⟨1, 8, .oth, [.nf]⟩,
⟨1, 8, .oth, [.nf]⟩,
⟨4, 40, .st [(0, 17), (1, 17), (2, 17), (3, 9)], [.np, .np, .np, .s]⟩,
⟨4, 40, .st [(0, 17), (1, 17), (2, 17), (3, 9)], [.np, .np, .np, .s]⟩,
⟨0, 0, .arr 0 16, []⟩,
⟨0, 0, .st [(0, 210)], []⟩,
⟨0, 0, .st [(0, 210)], []⟩,
⟨1, 8, .oth, [.nf]⟩,
⟨1, 4, .int .u32, [.i .u32]⟩,
⟨1, 1, .int .u8, [.i .u8]⟩,
⟨1, 1, .int .u8, [.i .u8]⟩,
⟨1, 8, .oth, [.nf]⟩,
⟨1, 8, .oth, [.np]⟩,
⟨1, 4, .int .i32, [.i .i32]⟩,
⟨1, 4, .int .i32, [.i .i32]⟩,
⟨11, 48, .st [(0, 12), (1, 12), (2, 214), (3, 215), (4, 5), (5, 5), (6, 216), (7, 217), (8, 218), (9, 219), (10, 220)], [.i .u64, .i .u64, .i .u32, .i .u8, .i .u8, .i .u8, .i .u8, .nf, .np, .i .i32, .i .i32]⟩,
⟨11, 48, .st [(0, 12), (1, 12), (2, 214), (3, 215), (4, 5), (5, 5), (6, 216), (7, 217), (8, 218), (9, 219), (10, 220)], [.i .u64, .i .u64, .i .u32, .i .u8, .i .u8, .i .u8, .i .u8, .nf, .np, .i .i32, .i .i32]⟩,
⟨1, 8, .oth, [.np]⟩]
theorem TTok : TOk Try.prog TT := by unfold TOk; kernel_rfl
theorem mix : Try.prog.follows .mixedOrders = true := by kernel_rfl
structure S_mount_Mount where
  fAt : Int
  fRoot : Int
def eS_mount_Mount (x : S_mount_Mount) : PV := .agg [.v (.int .i64 x.fAt), .v (.int .i64 x.fRoot)]
def eqS_mount_Mount (x y : S_mount_Mount) : Bool := ((x.fAt == y.fAt) && ((x.fRoot == y.fRoot) && true))
theorem eqS_mount_Mount_ok (x y : S_mount_Mount) : EqA Try.prog 78 [((.int .i64 x.fAt)), ((.int .i64 x.fRoot))] [((.int .i64 y.fAt)), ((.int .i64 y.fRoot))] (eqS_mount_Mount x y) := eqA_of TTok (by kernel_rfl) (by kernel_rfl) (by kernel_rfl)
/- ringhall/mount.inode -/
def G_mount_inode (n : Nat) (v_n10 : Int) : Option (Bool) :=
  if v_n10 ≥ 1 then
   some (decide (v_n10 ≤ 32))
  else
   some false
theorem G_mount_inode_ok (n : Nat) (v_n10 : Int) (r : Bool) (h : G_mount_inode n v_n10 = some r) : Ret Try.prog 112 [(eI .i64) v_n10] (eB r) := by
  refine ret_run (n := 9) (fn := Try.f112) (c := bodyOf Try.f112) (by kernel_rfl) (by kernel_rfl) (by kernel_rfl) (by kernel_rfl) ?_
  have hF : KC 9 (FinR Try.prog Try.f112 (eB r)) := FinR.kc' (by kernel_rfl)
  unfold G_mount_inode at h
  by_cases h4 : v_n10 ≥ 1
  · rw [if_pos h4] at h
    obtain rfl := Option.some.inj h
    exact pend_sound TTok mix 5 (hs := [.t true, .c]) (by kernel_rfl) (by kernel_rfl) (by kernel_rfl) (.cons (dt h4) .nil)
  · rw [if_neg h4] at h
    obtain rfl := Option.some.inj h
    exact pend_sound TTok mix 5 (hs := [.t false, .c]) (by kernel_rfl) (by kernel_rfl) (by kernel_rfl) (.cons (df h4) .nil)
inductive G_slices_IndexFunc_mount_Mount_mount_Mount_L1_R where
  | x0 (v_x24 : Int)
  | x1 
def G_slices_IndexFunc_mount_Mount_mount_Mount_L1_ex : G_slices_IndexFunc_mount_Mount_mount_Mount_L1_R → Ex
  | .x0 _ => .ret
  | .x1  => .exit 0
def G_slices_IndexFunc_mount_Mount_mount_Mount_L1_st (v_s17 : (List S_mount_Mount)) (v_f18 : (S_mount_Mount → Option (Bool))) (v_f18_g : FuncId) (v_f18_c : (List PV)) : G_slices_IndexFunc_mount_Mount_mount_Mount_L1_R → PS
  | .x0 v_x24 => ⟨[dd, dd, dd, dd, .d (.v (.int .i64 v_x24)), dd, dd, dd, dd, dd, dd, dd, dd, dd, dd, dd, dd, dd, dd], []⟩
  | .x1  => ⟨[dd, dd, dd, dd, dd, dd, dd, dd, dd, dd, dd, dd, dd, dd, dd, dd, dd, dd, dd], []⟩
def G_slices_IndexFunc_mount_Mount_mount_Mount_L1_hd (v_s17 : (List S_mount_Mount)) (v_f18 : (S_mount_Mount → Option (Bool))) (v_f18_g : FuncId) (v_f18_c : (List PV)) (v_x19 : Int) : PS := ⟨[.d (.sl (v_s17.map eS_mount_Mount)), .d (.clo v_f18_g v_f18_c), dd, dd, dd, dd, dd, .d (.v (.int .i64 (v_s17.length : Int))), .d (.v (.int .i64 v_x19)), dd, dd, dd, dd, dd, dd, dd, dd, dd, dd], []⟩
def G_slices_IndexFunc_mount_Mount_mount_Mount_L1 (n : Nat) (v_s17 : (List S_mount_Mount)) (v_f18 : (S_mount_Mount → Option (Bool))) : Nat → Int → Option G_slices_IndexFunc_mount_Mount_mount_Mount_L1_R
  | 0, _ => none
  | k + 1, v_x19 =>
    if v_x19 < (v_s17.length : Int) then
     (getI v_s17 v_x19).bind fun (v_y22 : S_mount_Mount) =>
     (v_f18 v_y22).bind fun (v_r23 : (Bool)) =>
     if v_r23 = true then
      some (.x0 v_x19)
     else
      G_slices_IndexFunc_mount_Mount_mount_Mount_L1 n v_s17 v_f18 k (wi .i64 (v_x19 + 1))
    else
     some (.x1 )
theorem G_slices_IndexFunc_mount_Mount_mount_Mount_L1_ok {Fi : Ex → PS → Prop} (hF : KC 19 Fi) (ks : List Fr) (n : Nat) (v_s17 : (List S_mount_Mount)) (v_f18 : (S_mount_Mount → Option (Bool))) (v_f18_g : FuncId) (v_f18_c : (List PV)) (v_f18_h : ∀ (x0 : S_mount_Mount) (r : Bool), v_f18 x0 = some r → Ret Try.prog v_f18_g ([eS_mount_Mount x0] ++ v_f18_c) (eB r)) : ∀ (k : Nat) (v_x19 : Int) (o : G_slices_IndexFunc_mount_Mount_mount_Mount_L1_R), G_slices_IndexFunc_mount_Mount_mount_Mount_L1 n v_s17 v_f18 k v_x19 = some o → RunE Try.prog 19 Fi ks (G_slices_IndexFunc_mount_Mount_mount_Mount_L1_ex o) (G_slices_IndexFunc_mount_Mount_mount_Mount_L1_st v_s17 v_f18 v_f18_g v_f18_c o) → RunE Try.prog 19 Fi (.l k (cP (cB (cR (cL (cR (bodyOf Try.f45)))))) :: ks) .normal (G_slices_IndexFunc_mount_Mount_mount_Mount_L1_hd v_s17 v_f18 v_f18_g v_f18_c v_x19)
  | 0, v_x19, o, h, q => by rw [G_slices_IndexFunc_mount_Mount_mount_Mount_L1] at h; cases h
  | k + 1, v_x19, o, h, q => by
    rw [G_slices_IndexFunc_mount_Mount_mount_Mount_L1] at h
    by_cases h12 : v_x19 < (v_s17.length : Int)
    · rw [if_pos h12] at h
      obtain ⟨v_y22, h16, h⟩ := bind_some h
      obtain ⟨v_r23, h17, h⟩ := bind_some h
      by_cases h18 : v_r23 = true
      · rw [if_pos h18] at h
        cases h
        exact pkk_sound TTok mix hF 19 (hs := [.t true, .y (eS_mount_Mount v_y22), .r (eB v_r23), .t true]) (ts := []) (s := []) (l := [4]) (by kernel_rfl) (by kernel_rfl) (.cons (dt h12) (.cons (getI_ob (f := eS_mount_Mount) h16) (.cons (v_f18_h v_y22 _ h17) (.cons h18 .nil)))) q
      · rw [if_neg h18] at h
        exact pkk_sound TTok mix hF 16 (hs := [.t true, .y (eS_mount_Mount v_y22), .r (eB v_r23), .t false]) (ts := []) (s := []) (l := [0, 1, 7, 8]) (by kernel_rfl) (by kernel_rfl) (.cons (dt h12) (.cons (getI_ob (f := eS_mount_Mount) h16) (.cons (v_f18_h v_y22 _ h17) (.cons (vf h18) .nil)))) (G_slices_IndexFunc_mount_Mount_mount_Mount_L1_ok hF ks n v_s17 v_f18 v_f18_g v_f18_c v_f18_h k (wi .i64 (v_x19 + 1)) _ h q)
    · rw [if_neg h12] at h
      cases h
      exact pkk_sound TTok mix hF 8 (hs := [.t false]) (ts := []) (s := []) (l := []) (by kernel_rfl) (by kernel_rfl) (.cons (df h12) .nil) q
/- slices.IndexFunc[[]ringhall/mount.Mount,ringhall/mount.Mount] -/
def G_slices_IndexFunc_mount_Mount_mount_Mount (n : Nat) (v_s17 : (List S_mount_Mount)) (v_f18 : (S_mount_Mount → Option (Bool))) : Option (Int) :=
  (G_slices_IndexFunc_mount_Mount_mount_Mount_L1 n v_s17 v_f18 n 0).bind fun v_o25 => match v_o25 with
  | .x0 v_z26 =>
    some v_z26
  | .x1  =>
    some (-1)
theorem G_slices_IndexFunc_mount_Mount_mount_Mount_ok (n : Nat) (v_s17 : (List S_mount_Mount)) (v_f18 : (S_mount_Mount → Option (Bool))) (v_f18_g : FuncId) (v_f18_c : List PV) (v_f18_h : ∀ (x0 : S_mount_Mount) (r : Bool), v_f18 x0 = some r → Ret Try.prog v_f18_g ([eS_mount_Mount x0] ++ v_f18_c) (eB r)) (r : Int) (h : G_slices_IndexFunc_mount_Mount_mount_Mount n v_s17 v_f18 = some r) : Ret Try.prog 45 [(eL eS_mount_Mount) v_s17, (.clo v_f18_g v_f18_c)] ((eI .i64) r) := by
  refine ret_run (n := 19) (fn := Try.f45) (c := bodyOf Try.f45) (by kernel_rfl) (by kernel_rfl) (by kernel_rfl) (by kernel_rfl) ?_
  have hF : KC 19 (FinR Try.prog Try.f45 ((eI .i64) r)) := FinR.kc' (by kernel_rfl)
  unfold G_slices_IndexFunc_mount_Mount_mount_Mount at h
  obtain ⟨v_o25, h19, h⟩ := bind_some h
  refine pkk_sound TTok mix hF 7 (hs := [.u (.d (.v (.int .i64 (v_s17.length : Int)))), .n n]) (ts := []) (s := []) (l := [0, 1, 7, 8]) (by kernel_rfl) (by kernel_rfl) (.cons (len_ob (f := eS_mount_Mount) (l := v_s17)) .nil) (G_slices_IndexFunc_mount_Mount_mount_Mount_L1_ok hF (.b 0 :: .s (cR (cR (bodyOf Try.f45))) :: []) n v_s17 v_f18 v_f18_g v_f18_c v_f18_h n 0 _ h19 ?_)
  cases v_o25 with
  | x0 v_z26 =>
    dsimp only at h
    obtain rfl := Option.some.inj h
    exact pend_sound TTok mix 2 (hs := []) (by kernel_rfl) (by kernel_rfl) (by kernel_rfl) .nil
  | x1  =>
    dsimp only at h
    obtain rfl := Option.some.inj h
    exact pend_sound TTok mix 4 (hs := []) (by kernel_rfl) (by kernel_rfl) (by kernel_rfl) .nil
/- ringhall/mount.find$1 -/
def G_mount_find_1 (n : Nat) (v_m27 : S_mount_Mount) (v_c28 : Int) : Option (Bool) :=
  some (v_m27.fAt == v_c28)
theorem G_mount_find_1_ok (n : Nat) (v_m27 : S_mount_Mount) (v_c28 : Int) (r : Bool) (h : G_mount_find_1 n v_m27 v_c28 = some r) : Ret Try.prog 141 [eS_mount_Mount v_m27, .iptr [.v (.int .i64 v_c28)] 0] (eB r) := by
  refine ret_run (n := 8) (fn := Try.f141) (c := bodyOf Try.f141) (by kernel_rfl) (by kernel_rfl) (by kernel_rfl) (by kernel_rfl) ?_
  have hF : KC 8 (FinR Try.prog Try.f141 (eB r)) := FinR.kc' (by kernel_rfl)
  unfold G_mount_find_1 at h
  obtain rfl := Option.some.inj h
  exact pend_sound TTok mix 5 (hs := [.c, .c]) (by kernel_rfl) (by kernel_rfl) (by kernel_rfl) .nil
/- ringhall/mount.find -/
def G_mount_find (n : Nat) (v_l15 : (List S_mount_Mount)) (v_at16 : Int) : Option (Int) :=
  (G_slices_IndexFunc_mount_Mount_mount_Mount n v_l15 (fun (y0 : S_mount_Mount) => G_mount_find_1 n y0 v_at16)).bind fun (v_r29 : (Int)) =>
  some v_r29
theorem G_mount_find_ok (n : Nat) (v_l15 : (List S_mount_Mount)) (v_at16 : Int) (r : Int) (h : G_mount_find n v_l15 v_at16 = some r) : Ret Try.prog 114 [(eL eS_mount_Mount) v_l15, (eI .i64) v_at16] ((eI .i64) r) := by
  refine ret_run (n := 8) (fn := Try.f114) (c := bodyOf Try.f114) (by kernel_rfl) (by kernel_rfl) (by kernel_rfl) (by kernel_rfl) ?_
  have hF : KC 8 (FinR Try.prog Try.f114 ((eI .i64) r)) := FinR.kc' (by kernel_rfl)
  unfold G_mount_find at h
  obtain ⟨v_r29, h20, h⟩ := bind_some h
  obtain rfl := Option.some.inj h
  exact pend_sound TTok mix 5 (hs := [.c, .r ((eI .i64) v_r29)]) (by kernel_rfl) (by kernel_rfl) (by kernel_rfl) (.cons (G_slices_IndexFunc_mount_Mount_mount_Mount_ok n v_l15 (fun (y0 : S_mount_Mount) => G_mount_find_1 n y0 v_at16) 141 [.iptr [.v (.int .i64 v_at16)] 0] (fun y0 r h => G_mount_find_1_ok n y0 v_at16 r h) _ h20) .nil)
inductive G_mount_down_L1_R where
  | x0 (v_x51 : Int) (v_x52 : Bool)
  | x1 
def G_mount_down_L1_ex : G_mount_down_L1_R → Ex
  | .x0 _ _ => .ret
  | .x1  => .exit 0
def G_mount_down_L1_st (v_l44 : (List S_mount_Mount)) : G_mount_down_L1_R → PS
  | .x0 v_x51 v_x52 => ⟨[dd, dd, dd, dd, .d (.v (.int .i64 v_x51)), .d (.v (.bool v_x52)), dd, dd, dd, dd, dd, dd, dd, dd, dd, dd, dd, dd, dd, dd, dd, dd, dd, dd], []⟩
  | .x1  => ⟨[dd, dd, dd, dd, dd, dd, dd, dd, dd, dd, dd, dd, dd, dd, dd, dd, dd, dd, dd, dd, dd, dd, dd, dd], []⟩
def G_mount_down_L1_hd (v_l44 : (List S_mount_Mount)) (v_n46 : Int) (v_x47 : Int) : PS := ⟨[.d (.sl (v_l44.map eS_mount_Mount)), .d (.v (.int .i64 v_n46)), dd, dd, dd, dd, dd, dd, dd, .d (.v (.int .i64 (wi .i64 ((v_l44.length : Int) + 1)))), .d (.v (.int .i64 v_x47)), dd, dd, dd, dd, dd, dd, dd, dd, dd, dd, dd, dd, dd], []⟩
def G_mount_down_L1 (n : Nat) (v_l44 : (List S_mount_Mount)) : Nat → Int → Int → Option G_mount_down_L1_R
  | 0, _, _ => none
  | k + 1, v_n46, v_x47 =>
    if v_x47 < (wi .i64 ((v_l44.length : Int) + 1)) then
     (G_mount_find n v_l44 v_n46).bind fun (v_r50 : (Int)) =>
     if v_r50 < 0 then
      some (.x0 v_n46 true)
     else
      (getI v_l44 v_r50).bind fun (v_y53 : S_mount_Mount) =>
      G_mount_down_L1 n v_l44 k v_y53.fRoot (wi .i64 (v_x47 + 1))
    else
     some (.x1 )
theorem G_mount_down_L1_ok {Fi : Ex → PS → Prop} (hF : KC 24 Fi) (ks : List Fr) (n : Nat) (v_l44 : (List S_mount_Mount))  : ∀ (k : Nat) (v_n46 : Int) (v_x47 : Int) (o : G_mount_down_L1_R), G_mount_down_L1 n v_l44 k v_n46 v_x47 = some o → RunE Try.prog 24 Fi ks (G_mount_down_L1_ex o) (G_mount_down_L1_st v_l44 o) → RunE Try.prog 24 Fi (.l k (cP (cB (cR (cL (cR (bodyOf Try.f113)))))) :: ks) .normal (G_mount_down_L1_hd v_l44 v_n46 v_x47)
  | 0, v_n46, v_x47, o, h, q => by rw [G_mount_down_L1] at h; cases h
  | k + 1, v_n46, v_x47, o, h, q => by
    rw [G_mount_down_L1] at h
    by_cases h36 : v_x47 < (wi .i64 ((v_l44.length : Int) + 1))
    · rw [if_pos h36] at h
      obtain ⟨v_r50, h41, h⟩ := bind_some h
      by_cases h43 : v_r50 < 0
      · rw [if_pos h43] at h
        cases h
        exact pkk_sound TTok mix hF 21 (hs := [.t true, .r ((eI .i64) v_r50), .t true]) (ts := []) (s := []) (l := [4, 5]) (by kernel_rfl) (by kernel_rfl) (.cons (dt h36) (.cons (G_mount_find_ok n v_l44 v_n46 _ h41) (.cons (dt h43) .nil))) q
      · rw [if_neg h43] at h
        obtain ⟨v_y53, h44, h⟩ := bind_some h
        exact pkk_sound TTok mix hF 18 (hs := [.t true, .r ((eI .i64) v_r50), .t false, .y (eS_mount_Mount v_y53), .c]) (ts := []) (s := []) (l := [0, 1, 9, 10]) (by kernel_rfl) (by kernel_rfl) (.cons (dt h36) (.cons (G_mount_find_ok n v_l44 v_n46 _ h41) (.cons (df h43) (.cons (getI_ob (f := eS_mount_Mount) h44) .nil)))) (G_mount_down_L1_ok hF ks n v_l44 k v_y53.fRoot (wi .i64 (v_x47 + 1)) _ h q)
    · rw [if_neg h36] at h
      cases h
      exact pkk_sound TTok mix hF 8 (hs := [.t false]) (ts := []) (s := []) (l := []) (by kernel_rfl) (by kernel_rfl) (.cons (df h36) .nil) q
/- ringhall/mount.down -/
def G_mount_down (n : Nat) (v_l44 : (List S_mount_Mount)) (v_n45 : Int) : Option (Int × Bool) :=
  (G_mount_down_L1 n v_l44 n v_n45 0).bind fun v_o54 => match v_o54 with
  | .x0 v_z55 v_z56 =>
    some (v_z55, v_z56)
  | .x1  =>
    some (0, false)
theorem G_mount_down_ok (n : Nat) (v_l44 : (List S_mount_Mount)) (v_n45 : Int) (r : Int × Bool) (h : G_mount_down n v_l44 v_n45 = some r) : Ret Try.prog 113 [(eL eS_mount_Mount) v_l44, (eI .i64) v_n45] (.tup [(eI .i64) r.1, eB r.2]) := by
  refine ret_run (n := 24) (fn := Try.f113) (c := bodyOf Try.f113) (by kernel_rfl) (by kernel_rfl) (by kernel_rfl) (by kernel_rfl) ?_
  have hF : KC 24 (FinR Try.prog Try.f113 (.tup [(eI .i64) r.1, eB r.2])) := FinR.kc' (by kernel_rfl)
  unfold G_mount_down at h
  obtain ⟨v_o54, h45, h⟩ := bind_some h
  refine pkk_sound TTok mix hF 7 (hs := [.u (.d (.v (.int .i64 (v_l44.length : Int)))), .n n]) (ts := []) (s := []) (l := [0, 1, 9, 10]) (by kernel_rfl) (by kernel_rfl) (.cons (len_ob (f := eS_mount_Mount) (l := v_l44)) .nil) (G_mount_down_L1_ok hF (.b 0 :: .s (cR (cR (bodyOf Try.f113))) :: []) n v_l44 n v_n45 0 _ h45 ?_)
  cases v_o54 with
  | x0 v_z55 v_z56 =>
    dsimp only at h
    obtain rfl := Option.some.inj h
    exact pend_sound TTok mix 2 (hs := []) (by kernel_rfl) (by kernel_rfl) (by kernel_rfl) .nil
  | x1  =>
    dsimp only at h
    obtain rfl := Option.some.inj h
    exact pend_sound TTok mix 4 (hs := []) (by kernel_rfl) (by kernel_rfl) (by kernel_rfl) .nil
inductive G_mount_Check_L1_R where
  | x0 (v_x35 : Int)
  | x1 
def G_mount_Check_L1_ex : G_mount_Check_L1_R → Ex
  | .x0 _ => .ret
  | .x1  => .exit 0
def G_mount_Check_L1_st (v_l7 : (List S_mount_Mount)) : G_mount_Check_L1_R → PS
  | .x0 v_x35 => ⟨[dd, dd, .d (.v (.int .i64 v_x35)), dd, dd, dd, dd, dd, dd, dd, dd, dd, dd, dd, dd, dd, dd, dd, dd, dd, dd, dd, dd, dd, dd, dd, dd, dd, dd, dd, dd, dd, dd, dd, dd, dd, dd, dd, dd, dd, dd, dd, dd, dd, dd, dd, dd, dd, dd, dd, dd, dd], []⟩
  | .x1  => ⟨[.d (.sl (v_l7.map eS_mount_Mount)), dd, dd, dd, dd, dd, dd, dd, dd, dd, dd, dd, dd, dd, dd, dd, dd, dd, dd, dd, dd, dd, dd, dd, dd, dd, dd, dd, dd, dd, dd, dd, dd, dd, dd, dd, dd, dd, dd, dd, dd, dd, dd, dd, dd, dd, dd, dd, dd, dd, dd, dd], []⟩
def G_mount_Check_L1_hd (v_l7 : (List S_mount_Mount)) (v_x8 : Int) : PS := ⟨[.d (.sl (v_l7.map eS_mount_Mount)), dd, dd, dd, dd, dd, dd, dd, dd, dd, dd, dd, .d (.sl (v_l7.map eS_mount_Mount)), .d (.v (.int .i64 (v_l7.length : Int))), .d (.v (.int .i64 v_x8)), dd, dd, dd, dd, dd, dd, dd, dd, dd, dd, dd, dd, dd, dd, dd, dd, dd, dd, dd, dd, dd, dd, dd, dd, dd, dd, dd, dd, dd, dd, dd, dd, dd, dd, dd, dd, dd], []⟩
def G_mount_Check_L1 (n : Nat) (v_l7 : (List S_mount_Mount)) : Nat → Int → Option G_mount_Check_L1_R
  | 0, _ => none
  | k + 1, v_x8 =>
    if v_x8 < (v_l7.length : Int) then
     (getI v_l7 v_x8).bind fun (v_y31 : S_mount_Mount) =>
     (G_mount_inode n v_y31.fAt).bind fun (v_r34 : (Bool)) =>
     if v_r34 = true then
      (G_mount_inode n v_y31.fRoot).bind fun (v_r36 : (Bool)) =>
      if v_r36 = true then
       (G_mount_find n v_l7 v_y31.fAt).bind fun (v_r38 : (Int)) =>
       if v_r38 < v_x8 then
        some (.x0 5)
       else
        G_mount_Check_L1 n v_l7 k (wi .i64 (v_x8 + 1))
      else
       some (.x0 1)
     else
      some (.x0 1)
    else
     some (.x1 )
theorem G_mount_Check_L1_ok {Fi : Ex → PS → Prop} (hF : KC 52 Fi) (ks : List Fr) (n : Nat) (v_l7 : (List S_mount_Mount))  : ∀ (k : Nat) (v_x8 : Int) (o : G_mount_Check_L1_R), G_mount_Check_L1 n v_l7 k v_x8 = some o → RunE Try.prog 52 Fi ks (G_mount_Check_L1_ex o) (G_mount_Check_L1_st v_l7 o) → RunE Try.prog 52 Fi (.l k (cP (cB (cR (cL (cR (cR (bodyOf Try.f44))))))) :: ks) .normal (G_mount_Check_L1_hd v_l7 v_x8)
  | 0, v_x8, o, h, q => by rw [G_mount_Check_L1] at h; cases h
  | k + 1, v_x8, o, h, q => by
    rw [G_mount_Check_L1] at h
    by_cases h2 : v_x8 < (v_l7.length : Int)
    · rw [if_pos h2] at h
      obtain ⟨v_y31, h23, h⟩ := bind_some h
      obtain ⟨v_r34, h27, h⟩ := bind_some h
      by_cases h28 : v_r34 = true
      · rw [if_pos h28] at h
        obtain ⟨v_r36, h29, h⟩ := bind_some h
        by_cases h30 : v_r36 = true
        · rw [if_pos h30] at h
          obtain ⟨v_r38, h31, h⟩ := bind_some h
          by_cases h32 : v_r38 < v_x8
          · rw [if_pos h32] at h
            cases h
            exact pkk_sound TTok mix hF 24 (hs := [.t true, .y (eS_mount_Mount v_y31), .c, .c, .r (eB v_r34), .t false, .c, .c, .c, .r (eB v_r36), .c, .t false, .c, .r ((eI .i64) v_r38), .t true]) (ts := []) (s := []) (l := [2]) (by kernel_rfl) (by kernel_rfl) (.cons (dt h2) (.cons (getI_ob (f := eS_mount_Mount) h23) (.cons (show 0 + 2 ≤ 2 by decide) (.cons (G_mount_inode_ok n v_y31.fAt _ h27) (.cons (bnf h28) (.cons (G_mount_inode_ok n v_y31.fRoot _ h29) (.cons (bnf h30) (.cons (G_mount_find_ok n v_l7 v_y31.fAt _ h31) (.cons (dt h32) .nil))))))))) q
          · rw [if_neg h32] at h
            exact pkk_sound TTok mix hF 21 (hs := [.t true, .y (eS_mount_Mount v_y31), .c, .c, .r (eB v_r34), .t false, .c, .c, .c, .r (eB v_r36), .c, .t false, .c, .r ((eI .i64) v_r38), .t false]) (ts := []) (s := []) (l := [0, 12, 13, 14]) (by kernel_rfl) (by kernel_rfl) (.cons (dt h2) (.cons (getI_ob (f := eS_mount_Mount) h23) (.cons (show 0 + 2 ≤ 2 by decide) (.cons (G_mount_inode_ok n v_y31.fAt _ h27) (.cons (bnf h28) (.cons (G_mount_inode_ok n v_y31.fRoot _ h29) (.cons (bnf h30) (.cons (G_mount_find_ok n v_l7 v_y31.fAt _ h31) (.cons (df h32) .nil))))))))) (G_mount_Check_L1_ok hF ks n v_l7 k (wi .i64 (v_x8 + 1)) _ h q)
        · rw [if_neg h30] at h
          cases h
          exact pkk_sound TTok mix hF 21 (hs := [.t true, .y (eS_mount_Mount v_y31), .c, .c, .r (eB v_r34), .t false, .c, .c, .c, .r (eB v_r36), .c, .t true]) (ts := []) (s := []) (l := [2]) (by kernel_rfl) (by kernel_rfl) (.cons (dt h2) (.cons (getI_ob (f := eS_mount_Mount) h23) (.cons (show 0 + 2 ≤ 2 by decide) (.cons (G_mount_inode_ok n v_y31.fAt _ h27) (.cons (bnf h28) (.cons (G_mount_inode_ok n v_y31.fRoot _ h29) (.cons (bnt (vf h30)) .nil))))))) q
      · rw [if_neg h28] at h
        cases h
        exact pkk_sound TTok mix hF 21 (hs := [.t true, .y (eS_mount_Mount v_y31), .c, .c, .r (eB v_r34), .t true, .c, .c, .c, .c]) (ts := []) (s := []) (l := [2]) (by kernel_rfl) (by kernel_rfl) (.cons (dt h2) (.cons (getI_ob (f := eS_mount_Mount) h23) (.cons (show 0 + 2 ≤ 2 by decide) (.cons (G_mount_inode_ok n v_y31.fAt _ h27) (.cons (bnt (vf h28)) .nil))))) q
    · rw [if_neg h2] at h
      cases h
      exact pkk_sound TTok mix hF 8 (hs := [.t false]) (ts := []) (s := []) (l := [0]) (by kernel_rfl) (by kernel_rfl) (.cons (df h2) .nil) q
inductive G_mount_Check_L2_R where
  | x0 (v_x60 : Int)
  | x1 
def G_mount_Check_L2_ex : G_mount_Check_L2_R → Ex
  | .x0 _ => .ret
  | .x1  => .exit 2
def G_mount_Check_L2_st (v_l7 : (List S_mount_Mount)) : G_mount_Check_L2_R → PS
  | .x0 v_x60 => ⟨[dd, dd, .d (.v (.int .i64 v_x60)), dd, dd, dd, dd, dd, dd, dd, dd, dd, dd, dd, dd, dd, dd, dd, dd, dd, dd, dd, dd, dd, dd, dd, dd, dd, dd, dd, dd, dd, dd, dd, dd, dd, dd, dd, dd, dd, dd, dd, dd, dd, dd, dd, dd, dd, dd, dd, dd, dd], []⟩
  | .x1  => ⟨[dd, dd, dd, dd, dd, dd, dd, dd, dd, dd, dd, dd, dd, dd, dd, dd, dd, dd, dd, dd, dd, dd, dd, dd, dd, dd, dd, dd, dd, dd, dd, dd, dd, dd, dd, dd, dd, dd, dd, dd, dd, dd, dd, dd, dd, dd, dd, dd, dd, dd, dd, dd], []⟩
def G_mount_Check_L2_hd (v_l7 : (List S_mount_Mount)) (v_x42 : Int) : PS := ⟨[.d (.sl (v_l7.map eS_mount_Mount)), dd, dd, dd, dd, dd, dd, dd, dd, dd, dd, dd, dd, dd, dd, dd, dd, dd, dd, dd, dd, dd, dd, dd, dd, dd, dd, dd, dd, dd, dd, dd, dd, dd, dd, dd, .d (.sl (v_l7.map eS_mount_Mount)), .d (.v (.int .i64 (v_l7.length : Int))), .d (.v (.int .i64 v_x42)), dd, dd, dd, dd, dd, dd, dd, dd, dd, dd, dd, dd, dd], []⟩
def G_mount_Check_L2 (n : Nat) (v_l7 : (List S_mount_Mount)) : Nat → Int → Option G_mount_Check_L2_R
  | 0, _ => none
  | k + 1, v_x42 =>
    if v_x42 < (v_l7.length : Int) then
     (getI v_l7 v_x42).bind fun (v_y58 : S_mount_Mount) =>
     (G_mount_down n v_l7 v_y58.fAt).bind fun (v_r59 : (Int × Bool)) =>
     if v_r59.2 = true then
      G_mount_Check_L2 n v_l7 k (wi .i64 (v_x42 + 1))
     else
      some (.x0 14)
    else
     some (.x1 )
theorem G_mount_Check_L2_ok {Fi : Ex → PS → Prop} (hF : KC 52 Fi) (ks : List Fr) (n : Nat) (v_l7 : (List S_mount_Mount))  : ∀ (k : Nat) (v_x42 : Int) (o : G_mount_Check_L2_R), G_mount_Check_L2 n v_l7 k v_x42 = some o → RunE Try.prog 52 Fi ks (G_mount_Check_L2_ex o) (G_mount_Check_L2_st v_l7 o) → RunE Try.prog 52 Fi (.l k (cP (cB (cR (cL (cR (cR (cR (bodyOf Try.f44)))))))) :: ks) .normal (G_mount_Check_L2_hd v_l7 v_x42)
  | 0, v_x42, o, h, q => by rw [G_mount_Check_L2] at h; cases h
  | k + 1, v_x42, o, h, q => by
    rw [G_mount_Check_L2] at h
    by_cases h34 : v_x42 < (v_l7.length : Int)
    · rw [if_pos h34] at h
      obtain ⟨v_y58, h48, h⟩ := bind_some h
      obtain ⟨v_r59, h49, h⟩ := bind_some h
      by_cases h50 : v_r59.2 = true
      · rw [if_pos h50] at h
        exact pkk_sound TTok mix hF 18 (hs := [.t true, .y (eS_mount_Mount v_y58), .c, .c, .r (.tup [(eI .i64) v_r59.1, eB v_r59.2]), .t false]) (ts := []) (s := []) (l := [0, 36, 37, 38]) (by kernel_rfl) (by kernel_rfl) (.cons (dt h34) (.cons (getI_ob (f := eS_mount_Mount) h48) (.cons (show 0 + 2 ≤ 2 by decide) (.cons (G_mount_down_ok n v_l7 v_y58.fAt _ h49) (.cons (bnf h50) .nil))))) (G_mount_Check_L2_ok hF ks n v_l7 k (wi .i64 (v_x42 + 1)) _ h q)
      · rw [if_neg h50] at h
        cases h
        exact pkk_sound TTok mix hF 21 (hs := [.t true, .y (eS_mount_Mount v_y58), .c, .c, .r (.tup [(eI .i64) v_r59.1, eB v_r59.2]), .t true]) (ts := []) (s := []) (l := [2]) (by kernel_rfl) (by kernel_rfl) (.cons (dt h34) (.cons (getI_ob (f := eS_mount_Mount) h48) (.cons (show 0 + 2 ≤ 2 by decide) (.cons (G_mount_down_ok n v_l7 v_y58.fAt _ h49) (.cons (bnt (vf h50)) .nil))))) q
    · rw [if_neg h34] at h
      cases h
      exact pkk_sound TTok mix hF 8 (hs := [.t false]) (ts := []) (s := []) (l := []) (by kernel_rfl) (by kernel_rfl) (.cons (df h34) .nil) q
/- ringhall/mount.Check -/
def G_mount_Check (n : Nat) (v_l7 : (List S_mount_Mount)) : Option (Int) :=
  if (v_l7.length : Int) > 8 then
   some 2
  else
   (G_mount_Check_L1 n v_l7 n 0).bind fun v_o40 => match v_o40 with
   | .x0 v_z41 =>
     some v_z41
   | .x1  =>
     (G_mount_Check_L2 n v_l7 n 0).bind fun v_o61 => match v_o61 with
     | .x0 v_z62 =>
       some v_z62
     | .x1  =>
       some 0
theorem G_mount_Check_ok (n : Nat) (v_l7 : (List S_mount_Mount)) (r : Int) (h : G_mount_Check n v_l7 = some r) : Ret Try.prog 44 [(eL eS_mount_Mount) v_l7] ((eI .i64) r) := by
  refine ret_run (n := 52) (fn := Try.f44) (c := bodyOf Try.f44) (by kernel_rfl) (by kernel_rfl) (by kernel_rfl) (by kernel_rfl) ?_
  have hF : KC 52 (FinR Try.prog Try.f44 ((eI .i64) r)) := FinR.kc' (by kernel_rfl)
  unfold G_mount_Check at h
  by_cases h1 : (v_l7.length : Int) > 8
  · rw [if_pos h1] at h
    obtain rfl := Option.some.inj h
    exact pend_sound TTok mix 10 (hs := [.u (.d (.v (.int .i64 (v_l7.length : Int)))), .t true]) (by kernel_rfl) (by kernel_rfl) (by kernel_rfl) (.cons (len_ob (f := eS_mount_Mount) (l := v_l7)) (.cons (dt h1) .nil))
  · rw [if_neg h1] at h
    obtain ⟨v_o40, h33, h⟩ := bind_some h
    refine pkk_sound TTok mix hF 12 (hs := [.u (.d (.v (.int .i64 (v_l7.length : Int)))), .t false, .u (.d (.v (.int .i64 (v_l7.length : Int)))), .n n]) (ts := []) (s := []) (l := [0, 12, 13, 14]) (by kernel_rfl) (by kernel_rfl) (.cons (len_ob (f := eS_mount_Mount) (l := v_l7)) (.cons (df h1) (.cons (len_ob (f := eS_mount_Mount) (l := v_l7)) .nil))) (G_mount_Check_L1_ok hF (.b 0 :: .s (cR (cR (cR (bodyOf Try.f44)))) :: []) n v_l7 n 0 _ h33 ?_)
    cases v_o40 with
    | x0 v_z41 =>
      dsimp only at h
      obtain rfl := Option.some.inj h
      exact pend_sound TTok mix 2 (hs := []) (by kernel_rfl) (by kernel_rfl) (by kernel_rfl) .nil
    | x1  =>
      dsimp only at h
      obtain ⟨v_o61, h51, h⟩ := bind_some h
      refine pkk_sound TTok mix hF 6 (hs := [.u (.d (.v (.int .i64 (v_l7.length : Int)))), .n n]) (ts := []) (s := []) (l := [0, 36, 37, 38]) (by kernel_rfl) (by kernel_rfl) (.cons (len_ob (f := eS_mount_Mount) (l := v_l7)) .nil) (G_mount_Check_L2_ok hF (.b 2 :: .s (cR (cR (cR (cR (bodyOf Try.f44))))) :: []) n v_l7 n 0 _ h51 ?_)
      cases v_o61 with
      | x0 v_z62 =>
        dsimp only at h
        obtain rfl := Option.some.inj h
        exact pend_sound TTok mix 2 (hs := []) (by kernel_rfl) (by kernel_rfl) (by kernel_rfl) .nil
      | x1  =>
        dsimp only at h
        obtain rfl := Option.some.inj h
        exact pend_sound TTok mix 4 (hs := []) (by kernel_rfl) (by kernel_rfl) (by kernel_rfl) .nil
/- ringhall/mount.Down -/
def G_mount_Down (n : Nat) (v_l5 : (List S_mount_Mount)) (v_n6 : Int) : Option (Int × Int) :=
  (G_mount_Check n v_l5).bind fun (v_r63 : (Int)) =>
  if v_r63 = 0 then
   (G_mount_inode n v_n6).bind fun (v_r64 : (Bool)) =>
   if v_r64 = true then
    (G_mount_down n v_l5 v_n6).bind fun (v_r65 : (Int × Bool)) =>
    some (v_r65.1, 0)
   else
    some (0, 1)
  else
   some (0, v_r63)
theorem G_mount_Down_ok (n : Nat) (v_l5 : (List S_mount_Mount)) (v_n6 : Int) (r : Int × Int) (h : G_mount_Down n v_l5 v_n6 = some r) : Ret Try.prog 39 [(eL eS_mount_Mount) v_l5, (eI .i64) v_n6] (.tup [(eI .i64) r.1, (eI .i64) r.2]) := by
  refine ret_run (n := 22) (fn := Try.f39) (c := bodyOf Try.f39) (by kernel_rfl) (by kernel_rfl) (by kernel_rfl) (by kernel_rfl) ?_
  have hF : KC 22 (FinR Try.prog Try.f39 (.tup [(eI .i64) r.1, (eI .i64) r.2])) := FinR.kc' (by kernel_rfl)
  unfold G_mount_Down at h
  obtain ⟨v_r63, h52, h⟩ := bind_some h
  by_cases h54 : v_r63 = 0
  · rw [if_pos h54] at h
    obtain ⟨v_r64, h55, h⟩ := bind_some h
    by_cases h56 : v_r64 = true
    · rw [if_pos h56] at h
      obtain ⟨v_r65, h57, h⟩ := bind_some h
      obtain rfl := Option.some.inj h
      exact pend_sound TTok mix 19 (hs := [.r ((eI .i64) v_r63), .t false, .r (eB v_r64), .t false, .r (.tup [(eI .i64) v_r65.1, eB v_r65.2])]) (by kernel_rfl) (by kernel_rfl) (by kernel_rfl) (.cons (G_mount_Check_ok n v_l5 _ h52) (.cons (nf h54) (.cons (G_mount_inode_ok n v_n6 _ h55) (.cons (bnf h56) (.cons (G_mount_down_ok n v_l5 v_n6 _ h57) .nil)))))
    · rw [if_neg h56] at h
      obtain rfl := Option.some.inj h
      exact pend_sound TTok mix 17 (hs := [.r ((eI .i64) v_r63), .t false, .r (eB v_r64), .t true]) (by kernel_rfl) (by kernel_rfl) (by kernel_rfl) (.cons (G_mount_Check_ok n v_l5 _ h52) (.cons (nf h54) (.cons (G_mount_inode_ok n v_n6 _ h55) (.cons (bnt (vf h56)) .nil))))
  · rw [if_neg h54] at h
    obtain rfl := Option.some.inj h
    exact pend_sound TTok mix 12 (hs := [.r ((eI .i64) v_r63), .t true]) (by kernel_rfl) (by kernel_rfl) (by kernel_rfl) (.cons (G_mount_Check_ok n v_l5 _ h52) (.cons (nt h54) .nil))
/- slices.Clone[[]ringhall/mount.Mount,ringhall/mount.Mount] -/
def G_slices_Clone_mount_Mount_mount_Mount_A (n : Nat) (v_c71 : Nat) : Option ((List S_mount_Mount)) :=
  some ([] : List S_mount_Mount)
theorem G_slices_Clone_mount_Mount_mount_Mount_A_ok (n : Nat) (v_c71 : Nat) (r : (List S_mount_Mount)) (h : G_slices_Clone_mount_Mount_mount_Mount_A n v_c71 = some r) : RetH Try.prog 50 [.d (.v (.slice none 0 v_c71))] [] (.srf 0) [.row 78 2 (r.map eS_mount_Mount)] := by
  refine retH_run (n := 8) (fn := Try.f50) (c := bodyOf Try.f50) (by kernel_rfl) (by kernel_rfl) (by kernel_rfl) (by kernel_rfl) ?_
  have hF : KC 8 (FinH Try.prog Try.f50 [] (.srf 0) [.row 78 2 (r.map eS_mount_Mount)]) := FinH.kc' (by kernel_rfl)
  unfold G_slices_Clone_mount_Mount_mount_Mount_A at h
  obtain rfl := Option.some.inj h
  exact pendH_sound TTok mix 11 (hs := [.c, .dl 4, .th 2 78 2]) [12] (by kernel_rfl) (by kernel_rfl) (by kernel_rfl) .nil
/- slices.Clone[[]ringhall/mount.Mount,ringhall/mount.Mount] -/
def G_slices_Clone_mount_Mount_mount_Mount_B (n : Nat) (v_a72 : Addr) (v_c73 : Nat) : Option ((List S_mount_Mount)) :=
  (app 16 ([] : List S_mount_Mount) ([] : (List S_mount_Mount))).bind fun (v_a74 : (List S_mount_Mount)) =>
  some v_a74
theorem G_slices_Clone_mount_Mount_mount_Mount_B_ok (n : Nat) (v_a72 : Addr) (v_c73 : Nat) (r : (List S_mount_Mount)) (h : G_slices_Clone_mount_Mount_mount_Mount_B n v_a72 v_c73 = some r) : RetH Try.prog 50 [.d (.v (.slice (some v_a72) 0 v_c73))] [] (.srf 0) [.row 78 2 (r.map eS_mount_Mount)] := by
  refine retH_run (n := 8) (fn := Try.f50) (c := bodyOf Try.f50) (by kernel_rfl) (by kernel_rfl) (by kernel_rfl) (by kernel_rfl) ?_
  have hF : KC 8 (FinH Try.prog Try.f50 [] (.srf 0) [.row 78 2 (r.map eS_mount_Mount)]) := FinH.kc' (by kernel_rfl)
  unfold G_slices_Clone_mount_Mount_mount_Mount_B at h
  obtain ⟨v_a74, h62, h⟩ := bind_some h
  obtain rfl := Option.some.inj h
  exact pendH_sound TTok mix 10 (hs := [.c, .w (([] : List S_mount_Mount).map eS_mount_Mount), .w (v_a74.map eS_mount_Mount)]) [15] (by kernel_rfl) (by kernel_rfl) (by kernel_rfl) (.cons (Eq.refl (([] : List S_mount_Mount).map eS_mount_Mount)) (.cons (app_ob (f := eS_mount_Mount) (s := 2) h62 (fun _ => rfl)).1 (.cons (app_ob (f := eS_mount_Mount) (s := 2) h62 (fun _ => rfl)).2.1 (.cons (app_ob (f := eS_mount_Mount) (s := 2) h62 (fun _ => rfl)).2.2.1 (.cons (app_ob (f := eS_mount_Mount) (s := 2) h62 (fun _ => rfl)).2.2.2 .nil)))))
/- slices.Clone[[]ringhall/mount.Mount,ringhall/mount.Mount] -/
def G_slices_Clone_mount_Mount_mount_Mount_C (n : Nat) (v_y75 : S_mount_Mount) (v_ys76 : (List S_mount_Mount)) : Option ((List S_mount_Mount)) :=
  (app 16 ([] : List S_mount_Mount) (v_y75 :: v_ys76)).bind fun (v_a77 : (List S_mount_Mount)) =>
  some v_a77
theorem G_slices_Clone_mount_Mount_mount_Mount_C_ok (n : Nat) (v_y75 : S_mount_Mount) (v_ys76 : (List S_mount_Mount)) (r : (List S_mount_Mount)) (h : G_slices_Clone_mount_Mount_mount_Mount_C n v_y75 v_ys76 = some r) : RetH Try.prog 50 [.d (.sl (eS_mount_Mount v_y75 :: v_ys76.map eS_mount_Mount))] [] (.srf 0) [.row 78 2 (r.map eS_mount_Mount)] := by
  refine retH_run (n := 8) (fn := Try.f50) (c := bodyOf Try.f50) (by kernel_rfl) (by kernel_rfl) (by kernel_rfl) (by kernel_rfl) ?_
  have hF : KC 8 (FinH Try.prog Try.f50 [] (.srf 0) [.row 78 2 (r.map eS_mount_Mount)]) := FinH.kc' (by kernel_rfl)
  unfold G_slices_Clone_mount_Mount_mount_Mount_C at h
  obtain ⟨v_a77, h63, h⟩ := bind_some h
  obtain rfl := Option.some.inj h
  exact pendH_sound TTok mix 10 (hs := [.c, .w (([] : List S_mount_Mount).map eS_mount_Mount), .w (v_a77.map eS_mount_Mount)]) [15] (by kernel_rfl) (by kernel_rfl) (by kernel_rfl) (.cons (Eq.refl (([] : List S_mount_Mount).map eS_mount_Mount)) (.cons (app_ob (f := eS_mount_Mount) (s := 2) h63 (fun _ => rfl)).1 (.cons (app_ob (f := eS_mount_Mount) (s := 2) h63 (fun _ => rfl)).2.1 (.cons (app_ob (f := eS_mount_Mount) (s := 2) h63 (fun _ => rfl)).2.2.1 (.cons (app_ob (f := eS_mount_Mount) (s := 2) h63 (fun _ => rfl)).2.2.2 .nil)))))
def G_slices_Clone_mount_Mount_mount_Mount (n : Nat) (xs : (List S_mount_Mount)) : Option (List S_mount_Mount) := app 16 [] xs
theorem G_slices_Clone_mount_Mount_mount_Mount_ok (n : Nat) (xs : (List S_mount_Mount)) (r : (List S_mount_Mount)) (h : G_slices_Clone_mount_Mount_mount_Mount n xs = some r) : RetH Try.prog 50 [.d (.sl (xs.map eS_mount_Mount))] [] (.srf 0) [.row 78 2 (r.map eS_mount_Mount)] := by
  unfold G_slices_Clone_mount_Mount_mount_Mount at h
  have e : app 16 ([] : (List S_mount_Mount)) [] = some [] := by simp [app]
  cases xs with
  | nil =>
    rw [e] at h; obtain rfl := Option.some.inj h
    exact clone_nil (fun c => G_slices_Clone_mount_Mount_mount_Mount_A_ok n c _ (by unfold G_slices_Clone_mount_Mount_mount_Mount_A; rfl)) (fun a c => G_slices_Clone_mount_Mount_mount_Mount_B_ok n a c _ (by unfold G_slices_Clone_mount_Mount_mount_Mount_B; rw [e]; rfl))
  | cons y ys => exact G_slices_Clone_mount_Mount_mount_Mount_C_ok n y ys _ (by unfold G_slices_Clone_mount_Mount_mount_Mount_C; rw [h]; rfl)
/- ringhall/mount.Add -/
def G_mount_Add (n : Nat) (v_l67 : (List S_mount_Mount)) (v_at68 : Int) (v_root69 : Int) : Option ((List S_mount_Mount) × Int) :=
  (G_mount_Check n v_l67).bind fun (v_r70 : (Int)) =>
  if v_r70 = 0 then
   (G_slices_Clone_mount_Mount_mount_Mount n v_l67).bind fun (v_r78 : ((List S_mount_Mount))) =>
   (app 16 v_r78 ([(S_mount_Mount.mk v_at68 v_root69)])).bind fun (v_a79 : (List S_mount_Mount)) =>
   (G_mount_Check n v_a79).bind fun (v_r80 : (Int)) =>
   if v_r80 = 0 then
    some (v_a79, 0)
   else
    if v_r80 = 2 then
     some (([] : (List S_mount_Mount)), 6)
    else
     some (([] : (List S_mount_Mount)), v_r80)
  else
   some (([] : (List S_mount_Mount)), v_r70)
theorem G_mount_Add_ok (n : Nat) (v_l67 : (List S_mount_Mount)) (v_at68 : Int) (v_root69 : Int) (r : (List S_mount_Mount) × Int) (h : G_mount_Add n v_l67 v_at68 v_root69 = some r) : Ret Try.prog 40 [(eL eS_mount_Mount) v_l67, (eI .i64) v_at68, (eI .i64) v_root69] (.tup [(eL eS_mount_Mount) r.1, (eI .i64) r.2]) := by
  refine ret_run (n := 31) (fn := Try.f40) (c := bodyOf Try.f40) (by kernel_rfl) (by kernel_rfl) (by kernel_rfl) (by kernel_rfl) ?_
  have hF : KC 31 (FinR Try.prog Try.f40 (.tup [(eL eS_mount_Mount) r.1, (eI .i64) r.2])) := FinR.kc' (by kernel_rfl)
  unfold G_mount_Add at h
  obtain ⟨v_r70, h59, h⟩ := bind_some h
  by_cases h61 : v_r70 = 0
  · rw [if_pos h61] at h
    obtain ⟨v_r78, h64, h⟩ := bind_some h
    obtain ⟨v_a79, h65, h⟩ := bind_some h
    obtain ⟨v_r80, h66, h⟩ := bind_some h
    by_cases h69 : v_r80 = 0
    · rw [if_pos h69] at h
      obtain rfl := Option.some.inj h
      exact pend_sound TTok mix 21 (hs := [.r ((eI .i64) v_r70), .t false, .h [] [] [.row 78 2 (v_r78.map eS_mount_Mount)] (.srf 0), .bd, .w (v_a79.map eS_mount_Mount), .c, .r ((eI .i64) v_r80), .t false]) (by kernel_rfl) (by kernel_rfl) (by kernel_rfl) (.cons (G_mount_Check_ok n v_l67 _ h59) (.cons (nf h61) (.cons (G_slices_Clone_mount_Mount_mount_Mount_ok n v_l67 _ h64) (.cons (app_ob (f := eS_mount_Mount) (s := 2) h65 (fun _ => rfl)).1 (.cons (app_ob (f := eS_mount_Mount) (s := 2) h65 (fun _ => rfl)).2.1 (.cons (app_ob (f := eS_mount_Mount) (s := 2) h65 (fun _ => rfl)).2.2.1 (.cons (app_ob (f := eS_mount_Mount) (s := 2) h65 (fun _ => rfl)).2.2.2 (.cons (G_mount_Check_ok n v_a79 _ h66) (.cons (nf h69) .nil)))))))))
    · rw [if_neg h69] at h
      by_cases h70 : v_r80 = 2
      · rw [if_pos h70] at h
        obtain rfl := Option.some.inj h
        exact pend_sound TTok mix 26 (hs := [.r ((eI .i64) v_r70), .t false, .h [] [] [.row 78 2 (v_r78.map eS_mount_Mount)] (.srf 0), .bd, .w (v_a79.map eS_mount_Mount), .c, .r ((eI .i64) v_r80), .t true, .t true]) (by kernel_rfl) (by kernel_rfl) (by kernel_rfl) (.cons (G_mount_Check_ok n v_l67 _ h59) (.cons (nf h61) (.cons (G_slices_Clone_mount_Mount_mount_Mount_ok n v_l67 _ h64) (.cons (app_ob (f := eS_mount_Mount) (s := 2) h65 (fun _ => rfl)).1 (.cons (app_ob (f := eS_mount_Mount) (s := 2) h65 (fun _ => rfl)).2.1 (.cons (app_ob (f := eS_mount_Mount) (s := 2) h65 (fun _ => rfl)).2.2.1 (.cons (app_ob (f := eS_mount_Mount) (s := 2) h65 (fun _ => rfl)).2.2.2 (.cons (G_mount_Check_ok n v_a79 _ h66) (.cons (nt h69) (.cons (bt h70) .nil))))))))))
      · rw [if_neg h70] at h
        obtain rfl := Option.some.inj h
        exact pend_sound TTok mix 26 (hs := [.r ((eI .i64) v_r70), .t false, .h [] [] [.row 78 2 (v_r78.map eS_mount_Mount)] (.srf 0), .bd, .w (v_a79.map eS_mount_Mount), .c, .r ((eI .i64) v_r80), .t true, .t false]) (by kernel_rfl) (by kernel_rfl) (by kernel_rfl) (.cons (G_mount_Check_ok n v_l67 _ h59) (.cons (nf h61) (.cons (G_slices_Clone_mount_Mount_mount_Mount_ok n v_l67 _ h64) (.cons (app_ob (f := eS_mount_Mount) (s := 2) h65 (fun _ => rfl)).1 (.cons (app_ob (f := eS_mount_Mount) (s := 2) h65 (fun _ => rfl)).2.1 (.cons (app_ob (f := eS_mount_Mount) (s := 2) h65 (fun _ => rfl)).2.2.1 (.cons (app_ob (f := eS_mount_Mount) (s := 2) h65 (fun _ => rfl)).2.2.2 (.cons (G_mount_Check_ok n v_a79 _ h66) (.cons (nt h69) (.cons (bf h70) .nil))))))))))
  · rw [if_neg h61] at h
    obtain rfl := Option.some.inj h
    exact pend_sound TTok mix 12 (hs := [.r ((eI .i64) v_r70), .t true]) (by kernel_rfl) (by kernel_rfl) (by kernel_rfl) (.cons (G_mount_Check_ok n v_l67 _ h59) (.cons (nt h61) .nil))
/- slices.Delete[[]ringhall/mount.Mount,ringhall/mount.Mount] -/
def G_slices_Delete_mount_Mount_mount_Mount_h (n : Nat) (v_s87 : (List S_mount_Mount)) (v_i88 : Int) (v_j89 : Int) : Option ((List S_mount_Mount)) :=
  if (0 ≤ v_i88 ∧ v_i88 ≤ v_j89 ∧ v_j89 ≤ (v_s87.length : Int) ∧ (v_s87.length : Int) ≤ (v_s87.length : Int)) then
   if v_i88 = v_j89 then
    some v_s87
   else
    if (0 ≤ v_i88 ∧ v_i88 ≤ (v_s87.length : Int)) then
     if (0 ≤ v_j89 ∧ v_j89 ≤ (v_s87.length : Int)) then
      if v_i88.toNat ≤ v_j89.toNat ∧ v_j89.toNat ≤ v_s87.length ∧ v_s87.length ≤ v_s87.length then
       if (0 ≤ (((v_i88.toNat + (v_s87.length - v_j89.toNat)) : Nat) : Int) ∧ (((v_i88.toNat + (v_s87.length - v_j89.toNat)) : Nat) : Int) ≤ (v_s87.length : Int) ∧ (v_s87.length : Int) ≤ ((delR v_s87 v_i88.toNat v_j89.toNat v_s87.length).length : Int)) then
        if ((v_i88.toNat + (v_s87.length - v_j89.toNat)) : Nat) ≤ v_s87.length ∧ v_s87.length ≤ (delR v_s87 v_i88.toNat v_j89.toNat v_s87.length).length then
         if (v_i88.toNat + (v_s87.length - v_j89.toNat)) ≤ (clrR (delR v_s87 v_i88.toNat v_j89.toNat v_s87.length) ((v_i88.toNat + (v_s87.length - v_j89.toNat)) : Nat) v_s87.length (S_mount_Mount.mk 0 0)).length then
          some ((clrR (delR v_s87 v_i88.toNat v_j89.toNat v_s87.length) ((v_i88.toNat + (v_s87.length - v_j89.toNat)) : Nat) v_s87.length (S_mount_Mount.mk 0 0)).take (v_i88.toNat + (v_s87.length - v_j89.toNat)))
         else none
        else none
       else none
      else none
     else none
    else none
  else none
theorem G_slices_Delete_mount_Mount_mount_Mount_h_ok (n : Nat) (v_s87 : (List S_mount_Mount)) (v_i88 : Int) (v_j89 : Int) (r : (List S_mount_Mount)) (h : G_slices_Delete_mount_Mount_mount_Mount_h n v_s87 v_i88 v_j89 = some r) : RetH Try.prog 115 [.srf 0, .d ((eI .i64) v_i88), .d ((eI .i64) v_j89)] [.row 78 2 (v_s87.map eS_mount_Mount)] (.srf 1) [.none, .row 78 2 (r.map eS_mount_Mount)] := by
  refine retH_run (n := 33) (fn := Try.f115) (c := bodyOf Try.f115) (by kernel_rfl) (by kernel_rfl) (by kernel_rfl) (by kernel_rfl) ?_
  have hF : KC 33 (FinH Try.prog Try.f115 [.row 78 2 (v_s87.map eS_mount_Mount)] (.srf 1) [.none, .row 78 2 (r.map eS_mount_Mount)]) := FinH.kc' (by kernel_rfl)
  unfold G_slices_Delete_mount_Mount_mount_Mount_h at h
  by_cases h78 : (0 ≤ v_i88 ∧ v_i88 ≤ v_j89 ∧ v_j89 ≤ (v_s87.length : Int) ∧ (v_s87.length : Int) ≤ (v_s87.length : Int))
  · rw [if_pos h78] at h
    by_cases h79 : v_i88 = v_j89
    · rw [if_pos h79] at h
      obtain rfl := Option.some.inj h
      exact pendH_sound TTok mix 13 (hs := [.u (.d (.v (.int .i64 (v_s87.length : Int)))), .e 20 [0] (dd) [], .t true, .dl 4, .mv 0]) [0, 38] (by kernel_rfl) (by kernel_rfl) (by kernel_rfl) (.cons (len_ob (f := eS_mount_Mount) (l := v_s87)) (.cons (xs111 (P := Try.prog) (T := TT) (f := eS_mount_Mount) (t := 69) (e := 78) (s := 2) (l := 0) (L := v_s87) (x := (.tmp 8)) (lo := (.tmp 9)) (hi := (.tmp 10)) (mx := (.tmp 12)) (a := v_i88) (ka := .i64) (b := v_j89) (kb := .i64) (c := (v_s87.length : Int)) (kc := .i64) (by kernel_rfl) h78) (.cons (bt h79) .nil)))
    · rw [if_neg h79] at h
      by_cases h80 : (0 ≤ v_i88 ∧ v_i88 ≤ (v_s87.length : Int))
      · rw [if_pos h80] at h
        by_cases h81 : (0 ≤ v_j89 ∧ v_j89 ≤ (v_s87.length : Int))
        · rw [if_pos h81] at h
          by_cases h82 : v_i88.toNat ≤ v_j89.toNat ∧ v_j89.toNat ≤ v_s87.length ∧ v_s87.length ≤ v_s87.length
          · rw [if_pos h82] at h
            by_cases h83 : (0 ≤ (((v_i88.toNat + (v_s87.length - v_j89.toNat)) : Nat) : Int) ∧ (((v_i88.toNat + (v_s87.length - v_j89.toNat)) : Nat) : Int) ≤ (v_s87.length : Int) ∧ (v_s87.length : Int) ≤ ((delR v_s87 v_i88.toNat v_j89.toNat v_s87.length).length : Int))
            · rw [if_pos h83] at h
              by_cases h84 : ((v_i88.toNat + (v_s87.length - v_j89.toNat)) : Nat) ≤ v_s87.length ∧ v_s87.length ≤ (delR v_s87 v_i88.toNat v_j89.toNat v_s87.length).length
              · rw [if_pos h84] at h
                by_cases h85 : (v_i88.toNat + (v_s87.length - v_j89.toNat)) ≤ (clrR (delR v_s87 v_i88.toNat v_j89.toNat v_s87.length) ((v_i88.toNat + (v_s87.length - v_j89.toNat)) : Nat) v_s87.length (S_mount_Mount.mk 0 0)).length
                · rw [if_pos h85] at h
                  obtain rfl := Option.some.inj h
                  exact pendH_sound TTok mix 18 (hs := [.u (.d (.v (.int .i64 (v_s87.length : Int)))), .e 20 [0] (dd) [], .t false, .u (.d (.v (.int .i64 (v_s87.length : Int)))), .e 47 [0] (.ssl 0 0 v_i88.toNat 2) [], .e 56 [0] (.ssl 0 v_j89.toNat v_s87.length 2) [], .e 59 [0] (.ssl 0 0 (v_i88.toNat + (v_s87.length - v_j89.toNat)) 2) [(0, .row 78 2 ((delR v_s87 v_i88.toNat v_j89.toNat v_s87.length).map eS_mount_Mount))], .e 71 [] (.d (.v (.int .i64 (((v_i88.toNat + (v_s87.length - v_j89.toNat)) : Nat) : Int)))) [], .e 77 [0] (.ssl 0 ((v_i88.toNat + (v_s87.length - v_j89.toNat)) : Nat) v_s87.length 2) [], .e 80 [0] (dd) [(0, .row 78 2 ((clrR (delR v_s87 v_i88.toNat v_j89.toNat v_s87.length) ((v_i88.toNat + (v_s87.length - v_j89.toNat)) : Nat) v_s87.length (S_mount_Mount.mk 0 0)).map eS_mount_Mount))], .e 83 [0, 83] (.srf 83) [(0, .none), (83, .row 78 2 (((clrR (delR v_s87 v_i88.toNat v_j89.toNat v_s87.length) ((v_i88.toNat + (v_s87.length - v_j89.toNat)) : Nat) v_s87.length (S_mount_Mount.mk 0 0)).take (v_i88.toNat + (v_s87.length - v_j89.toNat))).map eS_mount_Mount))]]) [0, 83] (by kernel_rfl) (by kernel_rfl) (by kernel_rfl) (.cons (len_ob (f := eS_mount_Mount) (l := v_s87)) (.cons (xs111 (P := Try.prog) (T := TT) (f := eS_mount_Mount) (t := 69) (e := 78) (s := 2) (l := 0) (L := v_s87) (x := (.tmp 8)) (lo := (.tmp 9)) (hi := (.tmp 10)) (mx := (.tmp 12)) (a := v_i88) (ka := .i64) (b := v_j89) (kb := .i64) (c := (v_s87.length : Int)) (kc := .i64) (by kernel_rfl) h78) (.cons (bf h79) (.cons (len_ob (f := eS_mount_Mount) (l := v_s87)) (.cons (xs01 (P := Try.prog) (T := TT) (f := eS_mount_Mount) (t := 69) (e := 78) (s := 2) (l := 0) (L := v_s87) (x := (.tmp 20)) (hi := (.tmp 21)) (b := v_i88) (kb := .i64) (by kernel_rfl) h80) (.cons (xs10 (P := Try.prog) (T := TT) (f := eS_mount_Mount) (t := 69) (e := 78) (s := 2) (l := 0) (L := v_s87) (x := (.tmp 23)) (lo := (.tmp 24)) (a := v_j89) (ka := .i64) (by kernel_rfl) h81) (.cons (xapp (ti := ⟨2, 16, .st [(0, 3), (1, 3)], [.i .i64, .i .i64]⟩) (P := Try.prog) (T := TT) (f := eS_mount_Mount) (t := 69) (e := 78) (s := 2) (l := 0) (i := v_i88.toNat) (j := v_j89.toNat) (q := v_s87.length) (L := v_s87) (x := (.tmp 22)) (y := (.tmp 25)) (by kernel_rfl) (by kernel_rfl) h82) (.cons (xlen (P := Try.prog) (T := TT) (t := 69) (e := 78) (s := 2) (l := 0) (i := 0) (j := (v_i88.toNat + (v_s87.length - v_j89.toNat))) (x := (.tmp 28)) (by kernel_rfl)) (.cons (xt11 (P := Try.prog) (T := TT) (f := eS_mount_Mount) (t := 69) (e := 78) (s := 2) (l := 0) (L := (delR v_s87 v_i88.toNat v_j89.toNat v_s87.length)) (x := (.tmp 27)) (lo := (.tmp 29)) (hi := (.tmp 30)) (a := (((v_i88.toNat + (v_s87.length - v_j89.toNat)) : Nat) : Int)) (ka := .i64) (b := (v_s87.length : Int)) (kb := .i64) (i := (v_i88.toNat + (v_s87.length - v_j89.toNat))) (by kernel_rfl) h83) (.cons (xclr (ti := ⟨2, 16, .st [(0, 3), (1, 3)], [.i .i64, .i .i64]⟩) (P := Try.prog) (T := TT) (f := eS_mount_Mount) (t := 69) (e := 78) (s := 2) (l := 0) (i := ((v_i88.toNat + (v_s87.length - v_j89.toNat)) : Nat)) (j := v_s87.length) (z := (S_mount_Mount.mk 0 0)) (L := (delR v_s87 v_i88.toNat v_j89.toNat v_s87.length)) (x := (.tmp 31)) (p := .agg [.v (.int .i64 0), .v (.int .i64 0)]) (by kernel_rfl) (by kernel_rfl) (by kernel_rfl) (by kernel_rfl) (by decide) rfl h84) (.cons (xmv (P := Try.prog) (T := TT) (f := eS_mount_Mount) (e := 78) (s := 2) (l := 0) (nl := 83) (L := (clrR (delR v_s87 v_i88.toNat v_j89.toNat v_s87.length) ((v_i88.toNat + (v_s87.length - v_j89.toNat)) : Nat) v_s87.length (S_mount_Mount.mk 0 0))) (i := (v_i88.toNat + (v_s87.length - v_j89.toNat))) (x := (.tmp 0)) h85) .nil)))))))))))
                · rw [if_neg h85] at h; cases h
              · rw [if_neg h84] at h; cases h
            · rw [if_neg h83] at h; cases h
          · rw [if_neg h82] at h; cases h
        · rw [if_neg h81] at h; cases h
      · rw [if_neg h80] at h; cases h
  · rw [if_neg h78] at h; cases h
/- ringhall/mount.Out -/
def G_mount_Out (n : Nat) (v_l82 : (List S_mount_Mount)) (v_at83 : Int) : Option ((List S_mount_Mount) × Int) :=
  (G_mount_Check n v_l82).bind fun (v_r84 : (Int)) =>
  if v_r84 = 0 then
   (G_mount_find n v_l82 v_at83).bind fun (v_r85 : (Int)) =>
   if v_r85 < 0 then
    some (([] : (List S_mount_Mount)), 4)
   else
    (G_slices_Clone_mount_Mount_mount_Mount n v_l82).bind fun (v_r86 : ((List S_mount_Mount))) =>
    (G_slices_Delete_mount_Mount_mount_Mount_h n v_r86 v_r85 (wi .i64 (v_r85 + 1))).bind fun (v_r90 : ((List S_mount_Mount))) =>
    some (v_r90, 0)
  else
   some (([] : (List S_mount_Mount)), v_r84)
theorem G_mount_Out_ok (n : Nat) (v_l82 : (List S_mount_Mount)) (v_at83 : Int) (r : (List S_mount_Mount) × Int) (h : G_mount_Out n v_l82 v_at83 = some r) : Ret Try.prog 41 [(eL eS_mount_Mount) v_l82, (eI .i64) v_at83] (.tup [(eL eS_mount_Mount) r.1, (eI .i64) r.2]) := by
  refine ret_run (n := 24) (fn := Try.f41) (c := bodyOf Try.f41) (by kernel_rfl) (by kernel_rfl) (by kernel_rfl) (by kernel_rfl) ?_
  have hF : KC 24 (FinR Try.prog Try.f41 (.tup [(eL eS_mount_Mount) r.1, (eI .i64) r.2])) := FinR.kc' (by kernel_rfl)
  unfold G_mount_Out at h
  obtain ⟨v_r84, h72, h⟩ := bind_some h
  by_cases h74 : v_r84 = 0
  · rw [if_pos h74] at h
    obtain ⟨v_r85, h75, h⟩ := bind_some h
    by_cases h76 : v_r85 < 0
    · rw [if_pos h76] at h
      obtain rfl := Option.some.inj h
      exact pend_sound TTok mix 19 (hs := [.r ((eI .i64) v_r84), .t false, .r ((eI .i64) v_r85), .t true]) (by kernel_rfl) (by kernel_rfl) (by kernel_rfl) (.cons (G_mount_Check_ok n v_l82 _ h72) (.cons (nf h74) (.cons (G_mount_find_ok n v_l82 v_at83 _ h75) (.cons (dt h76) .nil))))
    · rw [if_neg h76] at h
      obtain ⟨v_r86, h77, h⟩ := bind_some h
      obtain ⟨v_r90, h86, h⟩ := bind_some h
      obtain rfl := Option.some.inj h
      exact pend_sound TTok mix 19 (hs := [.r ((eI .i64) v_r84), .t false, .r ((eI .i64) v_r85), .t false, .h [] [] [.row 78 2 (v_r86.map eS_mount_Mount)] (.srf 0), .h [42] [] [.none, .row 78 2 (v_r90.map eS_mount_Mount)] (.srf 1)]) (by kernel_rfl) (by kernel_rfl) (by kernel_rfl) (.cons (G_mount_Check_ok n v_l82 _ h72) (.cons (nf h74) (.cons (G_mount_find_ok n v_l82 v_at83 _ h75) (.cons (df h76) (.cons (G_slices_Clone_mount_Mount_mount_Mount_ok n v_l82 _ h77) (.cons (G_slices_Delete_mount_Mount_mount_Mount_h_ok n v_r86 v_r85 (wi .i64 (v_r85 + 1)) _ h86) .nil))))))
  · rw [if_neg h74] at h
    obtain rfl := Option.some.inj h
    exact pend_sound TTok mix 12 (hs := [.r ((eI .i64) v_r84), .t true]) (by kernel_rfl) (by kernel_rfl) (by kernel_rfl) (.cons (G_mount_Check_ok n v_l82 _ h72) (.cons (nt h74) .nil))
inductive G_mount_Seen_L1_R where
  | x0 (v_w103 : (List Int))
def G_mount_Seen_L1_ex : G_mount_Seen_L1_R → Ex
  | .x0 _ => .exit 0
def G_mount_Seen_L1_st (v_l92 : (List S_mount_Mount)) (v_n93 : Int) : G_mount_Seen_L1_R → PS
  | .x0 v_w103 => ⟨[dd, dd, dd, dd, dd, dd, dd, dd, .srf 0, dd, dd, dd, dd, dd, dd, dd, dd, dd, dd, dd, dd, dd, dd, dd, dd, dd, dd, dd, dd, dd, dd, dd, dd, dd, dd, dd, dd, dd, dd], [.row 3 1 (v_w103.map (eI .i64))]⟩
def G_mount_Seen_L1_hd (v_l92 : (List S_mount_Mount)) (v_n93 : Int) (v_k95 : Int) (v_w96 : (List Int)) : PS := ⟨[.d (.sl (v_l92.map eS_mount_Mount)), .d (.v (.int .i64 v_n93)), dd, dd, dd, dd, dd, dd, .srf 0, .d (.v (.int .i64 v_k95)), dd, dd, dd, dd, dd, dd, dd, dd, dd, dd, dd, dd, dd, dd, dd, dd, dd, dd, dd, dd, dd, dd, dd, dd, dd, dd, dd, dd, dd], [.row 3 1 (v_w96.map (eI .i64))]⟩
def G_mount_Seen_L1 (n : Nat) (v_l92 : (List S_mount_Mount)) (v_n93 : Int) : Nat → Int → (List Int) → Option G_mount_Seen_L1_R
  | 0, _, _ => none
  | k + 1, v_k95, v_w96 =>
    if v_k95 ≤ 32 then
     (G_mount_down n v_l92 v_k95).bind fun (v_r100 : (Int × Bool)) =>
     if v_r100.1 = v_n93 then
      (app 8 v_w96 ([v_k95])).bind fun (v_a102 : (List Int)) =>
      G_mount_Seen_L1 n v_l92 v_n93 k (wi .i64 (v_k95 + 1)) v_a102
     else
      G_mount_Seen_L1 n v_l92 v_n93 k (wi .i64 (v_k95 + 1)) v_w96
    else
     some (.x0 v_w96)
theorem G_mount_Seen_L1_ok {Fi : Ex → PS → Prop} (hF : KC 39 Fi) (ks : List Fr) (n : Nat) (v_l92 : (List S_mount_Mount)) (v_n93 : Int)  : ∀ (k : Nat) (v_k95 : Int) (v_w96 : (List Int)) (o : G_mount_Seen_L1_R), G_mount_Seen_L1 n v_l92 v_n93 k v_k95 v_w96 = some o → RunE Try.prog 39 Fi ks (G_mount_Seen_L1_ex o) (G_mount_Seen_L1_st v_l92 v_n93 o) → RunE Try.prog 39 Fi (.l k (cP (cB (cR (cL (cR (cR (cR (bodyOf Try.f42)))))))) :: ks) .normal (G_mount_Seen_L1_hd v_l92 v_n93 v_k95 v_w96)
  | 0, v_k95, v_w96, o, h, q => by rw [G_mount_Seen_L1] at h; cases h
  | k + 1, v_k95, v_w96, o, h, q => by
    rw [G_mount_Seen_L1] at h
    by_cases h91 : v_k95 ≤ 32
    · rw [if_pos h91] at h
      obtain ⟨v_r100, h97, h⟩ := bind_some h
      by_cases h100 : v_r100.1 = v_n93
      · rw [if_pos h100] at h
        obtain ⟨v_a102, h101, h⟩ := bind_some h
        exact pkk_sound TTok mix hF 16 (hs := [.t true, .r (.tup [(eI .i64) v_r100.1, eB v_r100.2]), .t true, .bd, .w (v_a102.map (eI .i64))]) (ts := []) (s := [49]) (l := [0, 1, 8, 9]) (by kernel_rfl) (by kernel_rfl) (.cons (dt h91) (.cons (G_mount_down_ok n v_l92 v_k95 _ h97) (.cons (bt h100) (.cons (app_ob (f := (eI .i64)) (s := 1) h101 (fun _ => rfl)).1 (.cons (app_ob (f := (eI .i64)) (s := 1) h101 (fun _ => rfl)).2.1 (.cons (app_ob (f := (eI .i64)) (s := 1) h101 (fun _ => rfl)).2.2.1 (.cons (app_ob (f := (eI .i64)) (s := 1) h101 (fun _ => rfl)).2.2.2 .nil))))))) (G_mount_Seen_L1_ok hF ks n v_l92 v_n93 k (wi .i64 (v_k95 + 1)) v_a102 _ h q)
      · rw [if_neg h100] at h
        exact pkk_sound TTok mix hF 16 (hs := [.t true, .r (.tup [(eI .i64) v_r100.1, eB v_r100.2]), .t false]) (ts := []) (s := [0]) (l := [0, 1, 8, 9]) (by kernel_rfl) (by kernel_rfl) (.cons (dt h91) (.cons (G_mount_down_ok n v_l92 v_k95 _ h97) (.cons (bf h100) .nil))) (G_mount_Seen_L1_ok hF ks n v_l92 v_n93 k (wi .i64 (v_k95 + 1)) v_w96 _ h q)
    · rw [if_neg h91] at h
      cases h
      exact pkk_sound TTok mix hF 8 (hs := [.t false]) (ts := []) (s := [0]) (l := [8]) (by kernel_rfl) (by kernel_rfl) (.cons (df h91) .nil) q
/- ringhall/mount.Seen -/
def G_mount_Seen (n : Nat) (v_l92 : (List S_mount_Mount)) (v_n93 : Int) : Option ((List Int) × Int) :=
  (G_mount_Down n v_l92 v_n93).bind fun (v_r94 : (Int × Int)) =>
  if v_r94.2 = 0 then
   (G_mount_Seen_L1 n v_l92 v_n93 n 1 ([] : List Int)).bind fun v_o104 => match v_o104 with
   | .x0 v_z105 =>
     some (v_z105, 0)
  else
   some (([] : (List Int)), v_r94.2)
theorem G_mount_Seen_ok (n : Nat) (v_l92 : (List S_mount_Mount)) (v_n93 : Int) (r : (List Int) × Int) (h : G_mount_Seen n v_l92 v_n93 = some r) : Ret Try.prog 42 [(eL eS_mount_Mount) v_l92, (eI .i64) v_n93] (.tup [(eL (eI .i64)) r.1, (eI .i64) r.2]) := by
  refine ret_run (n := 39) (fn := Try.f42) (c := bodyOf Try.f42) (by kernel_rfl) (by kernel_rfl) (by kernel_rfl) (by kernel_rfl) ?_
  have hF : KC 39 (FinR Try.prog Try.f42 (.tup [(eL (eI .i64)) r.1, (eI .i64) r.2])) := FinR.kc' (by kernel_rfl)
  unfold G_mount_Seen at h
  obtain ⟨v_r94, h88, h⟩ := bind_some h
  by_cases h90 : v_r94.2 = 0
  · rw [if_pos h90] at h
    obtain ⟨v_o104, h102, h⟩ := bind_some h
    refine pkk_sound TTok mix hF 16 (hs := [.r (.tup [(eI .i64) v_r94.1, (eI .i64) v_r94.2]), .t false, .n n]) (ts := [(8, 3, 1)]) (s := [42]) (l := [0, 1, 8, 9]) (by kernel_rfl) (by kernel_rfl) (.cons (G_mount_Down_ok n v_l92 v_n93 _ h88) (.cons (nf h90) .nil)) (G_mount_Seen_L1_ok hF (.b 0 :: .s (cR (cR (cR (cR (bodyOf Try.f42))))) :: []) n v_l92 v_n93 n 1 ([] : List Int) _ h102 ?_)
    cases v_o104 with
    | x0 v_z105 =>
      dsimp only at h
      obtain rfl := Option.some.inj h
      exact pend_sound TTok mix 4 (hs := []) (by kernel_rfl) (by kernel_rfl) (by kernel_rfl) .nil
  · rw [if_neg h90] at h
    obtain rfl := Option.some.inj h
    exact pend_sound TTok mix 12 (hs := [.r (.tup [(eI .i64) v_r94.1, (eI .i64) v_r94.2]), .t true]) (by kernel_rfl) (by kernel_rfl) (by kernel_rfl) (.cons (G_mount_Down_ok n v_l92 v_n93 _ h88) (.cons (nt h90) .nil))
inductive G_slices_Index_int_int_L1_R where
  | x0 (v_x146 : Int)
  | x1 
def G_slices_Index_int_int_L1_ex : G_slices_Index_int_int_L1_R → Ex
  | .x0 _ => .ret
  | .x1  => .exit 0
def G_slices_Index_int_int_L1_st (v_s141 : (List Int)) (v_v142 : Int) : G_slices_Index_int_int_L1_R → PS
  | .x0 v_x146 => ⟨[dd, dd, dd, dd, .d (.v (.int .i64 v_x146)), dd, dd, dd, dd, dd, dd, dd, dd, dd, dd, dd, dd, dd, dd], []⟩
  | .x1  => ⟨[dd, dd, dd, dd, dd, dd, dd, dd, dd, dd, dd, dd, dd, dd, dd, dd, dd, dd, dd], []⟩
def G_slices_Index_int_int_L1_hd (v_s141 : (List Int)) (v_v142 : Int) (v_x143 : Int) : PS := ⟨[.d (.sl (v_s141.map (eI .i64))), .d (.v (.int .i64 v_v142)), dd, dd, dd, dd, dd, .d (.v (.int .i64 (v_s141.length : Int))), .d (.v (.int .i64 v_x143)), dd, dd, dd, dd, dd, dd, dd, dd, dd, dd], []⟩
def G_slices_Index_int_int_L1 (n : Nat) (v_s141 : (List Int)) (v_v142 : Int) : Nat → Int → Option G_slices_Index_int_int_L1_R
  | 0, _ => none
  | k + 1, v_x143 =>
    if v_x143 < (v_s141.length : Int) then
     (getI v_s141 v_x143).bind fun (v_y145 : Int) =>
     if v_v142 = v_y145 then
      some (.x0 v_x143)
     else
      G_slices_Index_int_int_L1 n v_s141 v_v142 k (wi .i64 (v_x143 + 1))
    else
     some (.x1 )
theorem G_slices_Index_int_int_L1_ok {Fi : Ex → PS → Prop} (hF : KC 19 Fi) (ks : List Fr) (n : Nat) (v_s141 : (List Int)) (v_v142 : Int)  : ∀ (k : Nat) (v_x143 : Int) (o : G_slices_Index_int_int_L1_R), G_slices_Index_int_int_L1 n v_s141 v_v142 k v_x143 = some o → RunE Try.prog 19 Fi ks (G_slices_Index_int_int_L1_ex o) (G_slices_Index_int_int_L1_st v_s141 v_v142 o) → RunE Try.prog 19 Fi (.l k (cP (cB (cR (cL (cR (bodyOf Try.f102)))))) :: ks) .normal (G_slices_Index_int_int_L1_hd v_s141 v_v142 v_x143)
  | 0, v_x143, o, h, q => by rw [G_slices_Index_int_int_L1] at h; cases h
  | k + 1, v_x143, o, h, q => by
    rw [G_slices_Index_int_int_L1] at h
    by_cases h127 : v_x143 < (v_s141.length : Int)
    · rw [if_pos h127] at h
      obtain ⟨v_y145, h130, h⟩ := bind_some h
      by_cases h131 : v_v142 = v_y145
      · rw [if_pos h131] at h
        cases h
        exact pkk_sound TTok mix hF 19 (hs := [.t true, .y ((eI .i64) v_y145), .c, .t true]) (ts := []) (s := []) (l := [4]) (by kernel_rfl) (by kernel_rfl) (.cons (dt h127) (.cons (getI_ob (f := (eI .i64)) h130) (.cons (bt h131) .nil))) q
      · rw [if_neg h131] at h
        exact pkk_sound TTok mix hF 16 (hs := [.t true, .y ((eI .i64) v_y145), .c, .t false]) (ts := []) (s := []) (l := [0, 1, 7, 8]) (by kernel_rfl) (by kernel_rfl) (.cons (dt h127) (.cons (getI_ob (f := (eI .i64)) h130) (.cons (bf h131) .nil))) (G_slices_Index_int_int_L1_ok hF ks n v_s141 v_v142 k (wi .i64 (v_x143 + 1)) _ h q)
    · rw [if_neg h127] at h
      cases h
      exact pkk_sound TTok mix hF 8 (hs := [.t false]) (ts := []) (s := []) (l := []) (by kernel_rfl) (by kernel_rfl) (.cons (df h127) .nil) q
/- slices.Index[[]int,int] -/
def G_slices_Index_int_int (n : Nat) (v_s141 : (List Int)) (v_v142 : Int) : Option (Int) :=
  (G_slices_Index_int_int_L1 n v_s141 v_v142 n 0).bind fun v_o147 => match v_o147 with
  | .x0 v_z148 =>
    some v_z148
  | .x1  =>
    some (-1)
theorem G_slices_Index_int_int_ok (n : Nat) (v_s141 : (List Int)) (v_v142 : Int) (r : Int) (h : G_slices_Index_int_int n v_s141 v_v142 = some r) : Ret Try.prog 102 [(eL (eI .i64)) v_s141, (eI .i64) v_v142] ((eI .i64) r) := by
  refine ret_run (n := 19) (fn := Try.f102) (c := bodyOf Try.f102) (by kernel_rfl) (by kernel_rfl) (by kernel_rfl) (by kernel_rfl) ?_
  have hF : KC 19 (FinR Try.prog Try.f102 ((eI .i64) r)) := FinR.kc' (by kernel_rfl)
  unfold G_slices_Index_int_int at h
  obtain ⟨v_o147, h132, h⟩ := bind_some h
  refine pkk_sound TTok mix hF 7 (hs := [.u (.d (.v (.int .i64 (v_s141.length : Int)))), .n n]) (ts := []) (s := []) (l := [0, 1, 7, 8]) (by kernel_rfl) (by kernel_rfl) (.cons (len_ob (f := (eI .i64)) (l := v_s141)) .nil) (G_slices_Index_int_int_L1_ok hF (.b 0 :: .s (cR (cR (bodyOf Try.f102))) :: []) n v_s141 v_v142 n 0 _ h132 ?_)
  cases v_o147 with
  | x0 v_z148 =>
    dsimp only at h
    obtain rfl := Option.some.inj h
    exact pend_sound TTok mix 2 (hs := []) (by kernel_rfl) (by kernel_rfl) (by kernel_rfl) .nil
  | x1  =>
    dsimp only at h
    obtain rfl := Option.some.inj h
    exact pend_sound TTok mix 4 (hs := []) (by kernel_rfl) (by kernel_rfl) (by kernel_rfl) .nil
/- slices.Contains[[]int,int] -/
def G_slices_Contains_int_int (n : Nat) (v_s139 : (List Int)) (v_v140 : Int) : Option (Bool) :=
  (G_slices_Index_int_int n v_s139 v_v140).bind fun (v_r149 : (Int)) =>
  some (decide (v_r149 ≥ 0))
theorem G_slices_Contains_int_int_ok (n : Nat) (v_s139 : (List Int)) (v_v140 : Int) (r : Bool) (h : G_slices_Contains_int_int n v_s139 v_v140 = some r) : Ret Try.prog 24 [(eL (eI .i64)) v_s139, (eI .i64) v_v140] (eB r) := by
  refine ret_run (n := 9) (fn := Try.f24) (c := bodyOf Try.f24) (by kernel_rfl) (by kernel_rfl) (by kernel_rfl) (by kernel_rfl) ?_
  have hF : KC 9 (FinR Try.prog Try.f24 (eB r)) := FinR.kc' (by kernel_rfl)
  unfold G_slices_Contains_int_int at h
  obtain ⟨v_r149, h133, h⟩ := bind_some h
  obtain rfl := Option.some.inj h
  exact pend_sound TTok mix 5 (hs := [.r ((eI .i64) v_r149)]) (by kernel_rfl) (by kernel_rfl) (by kernel_rfl) (.cons (G_slices_Index_int_int_ok n v_s139 v_v140 _ h133) .nil)
inductive G_slices_IndexFunc_2_int_2_int_L1_R where
  | x0 (v_x159 : Int)
  | x1 
def G_slices_IndexFunc_2_int_2_int_L1_ex : G_slices_IndexFunc_2_int_2_int_L1_R → Ex
  | .x0 _ => .ret
  | .x1  => .exit 0
def G_slices_IndexFunc_2_int_2_int_L1_st (v_s152 : (List (Fin 2 → Int))) (v_f153 : ((Fin 2 → Int) → Option (Bool))) (v_f153_g : FuncId) (v_f153_c : (List PV)) : G_slices_IndexFunc_2_int_2_int_L1_R → PS
  | .x0 v_x159 => ⟨[dd, dd, dd, dd, .d (.v (.int .i64 v_x159)), dd, dd, dd, dd, dd, dd, dd, dd, dd, dd, dd, dd, dd, dd], []⟩
  | .x1  => ⟨[dd, dd, dd, dd, dd, dd, dd, dd, dd, dd, dd, dd, dd, dd, dd, dd, dd, dd, dd], []⟩
def G_slices_IndexFunc_2_int_2_int_L1_hd (v_s152 : (List (Fin 2 → Int))) (v_f153 : ((Fin 2 → Int) → Option (Bool))) (v_f153_g : FuncId) (v_f153_c : (List PV)) (v_x154 : Int) : PS := ⟨[.d (.sl (v_s152.map (fun x => PV.agg [.v (.int .i64 (x 0)), .v (.int .i64 (x 1))]))), .d (.clo v_f153_g v_f153_c), dd, dd, dd, dd, dd, .d (.v (.int .i64 (v_s152.length : Int))), .d (.v (.int .i64 v_x154)), dd, dd, dd, dd, dd, dd, dd, dd, dd, dd], []⟩
def G_slices_IndexFunc_2_int_2_int_L1 (n : Nat) (v_s152 : (List (Fin 2 → Int))) (v_f153 : ((Fin 2 → Int) → Option (Bool))) : Nat → Int → Option G_slices_IndexFunc_2_int_2_int_L1_R
  | 0, _ => none
  | k + 1, v_x154 =>
    if v_x154 < (v_s152.length : Int) then
     (getI v_s152 v_x154).bind fun (v_y157 : (Fin 2 → Int)) =>
     (v_f153 v_y157).bind fun (v_r158 : (Bool)) =>
     if v_r158 = true then
      some (.x0 v_x154)
     else
      G_slices_IndexFunc_2_int_2_int_L1 n v_s152 v_f153 k (wi .i64 (v_x154 + 1))
    else
     some (.x1 )
theorem G_slices_IndexFunc_2_int_2_int_L1_ok {Fi : Ex → PS → Prop} (hF : KC 19 Fi) (ks : List Fr) (n : Nat) (v_s152 : (List (Fin 2 → Int))) (v_f153 : ((Fin 2 → Int) → Option (Bool))) (v_f153_g : FuncId) (v_f153_c : (List PV)) (v_f153_h : ∀ (x0 : (Fin 2 → Int)) (r : Bool), v_f153 x0 = some r → Ret Try.prog v_f153_g ([(fun x => PV.agg [.v (.int .i64 (x 0)), .v (.int .i64 (x 1))]) x0] ++ v_f153_c) (eB r)) : ∀ (k : Nat) (v_x154 : Int) (o : G_slices_IndexFunc_2_int_2_int_L1_R), G_slices_IndexFunc_2_int_2_int_L1 n v_s152 v_f153 k v_x154 = some o → RunE Try.prog 19 Fi ks (G_slices_IndexFunc_2_int_2_int_L1_ex o) (G_slices_IndexFunc_2_int_2_int_L1_st v_s152 v_f153 v_f153_g v_f153_c o) → RunE Try.prog 19 Fi (.l k (cP (cB (cR (cL (cR (bodyOf Try.f117)))))) :: ks) .normal (G_slices_IndexFunc_2_int_2_int_L1_hd v_s152 v_f153 v_f153_g v_f153_c v_x154)
  | 0, v_x154, o, h, q => by rw [G_slices_IndexFunc_2_int_2_int_L1] at h; cases h
  | k + 1, v_x154, o, h, q => by
    rw [G_slices_IndexFunc_2_int_2_int_L1] at h
    by_cases h137 : v_x154 < (v_s152.length : Int)
    · rw [if_pos h137] at h
      obtain ⟨v_y157, h141, h⟩ := bind_some h
      obtain ⟨v_r158, h142, h⟩ := bind_some h
      by_cases h143 : v_r158 = true
      · rw [if_pos h143] at h
        cases h
        exact pkk_sound TTok mix hF 19 (hs := [.t true, .y ((fun x => PV.agg [.v (.int .i64 (x 0)), .v (.int .i64 (x 1))]) v_y157), .r (eB v_r158), .t true]) (ts := []) (s := []) (l := [4]) (by kernel_rfl) (by kernel_rfl) (.cons (dt h137) (.cons (getI_ob (f := (fun x => PV.agg [.v (.int .i64 (x 0)), .v (.int .i64 (x 1))])) h141) (.cons (v_f153_h v_y157 _ h142) (.cons h143 .nil)))) q
      · rw [if_neg h143] at h
        exact pkk_sound TTok mix hF 16 (hs := [.t true, .y ((fun x => PV.agg [.v (.int .i64 (x 0)), .v (.int .i64 (x 1))]) v_y157), .r (eB v_r158), .t false]) (ts := []) (s := []) (l := [0, 1, 7, 8]) (by kernel_rfl) (by kernel_rfl) (.cons (dt h137) (.cons (getI_ob (f := (fun x => PV.agg [.v (.int .i64 (x 0)), .v (.int .i64 (x 1))])) h141) (.cons (v_f153_h v_y157 _ h142) (.cons (vf h143) .nil)))) (G_slices_IndexFunc_2_int_2_int_L1_ok hF ks n v_s152 v_f153 v_f153_g v_f153_c v_f153_h k (wi .i64 (v_x154 + 1)) _ h q)
    · rw [if_neg h137] at h
      cases h
      exact pkk_sound TTok mix hF 8 (hs := [.t false]) (ts := []) (s := []) (l := []) (by kernel_rfl) (by kernel_rfl) (.cons (df h137) .nil) q
/- slices.IndexFunc[[][2]int,[2]int] -/
def G_slices_IndexFunc_2_int_2_int (n : Nat) (v_s152 : (List (Fin 2 → Int))) (v_f153 : ((Fin 2 → Int) → Option (Bool))) : Option (Int) :=
  (G_slices_IndexFunc_2_int_2_int_L1 n v_s152 v_f153 n 0).bind fun v_o160 => match v_o160 with
  | .x0 v_z161 =>
    some v_z161
  | .x1  =>
    some (-1)
theorem G_slices_IndexFunc_2_int_2_int_ok (n : Nat) (v_s152 : (List (Fin 2 → Int))) (v_f153 : ((Fin 2 → Int) → Option (Bool))) (v_f153_g : FuncId) (v_f153_c : List PV) (v_f153_h : ∀ (x0 : (Fin 2 → Int)) (r : Bool), v_f153 x0 = some r → Ret Try.prog v_f153_g ([(fun x => PV.agg [.v (.int .i64 (x 0)), .v (.int .i64 (x 1))]) x0] ++ v_f153_c) (eB r)) (r : Int) (h : G_slices_IndexFunc_2_int_2_int n v_s152 v_f153 = some r) : Ret Try.prog 117 [(eL (fun x => PV.agg [.v (.int .i64 (x 0)), .v (.int .i64 (x 1))])) v_s152, (.clo v_f153_g v_f153_c)] ((eI .i64) r) := by
  refine ret_run (n := 19) (fn := Try.f117) (c := bodyOf Try.f117) (by kernel_rfl) (by kernel_rfl) (by kernel_rfl) (by kernel_rfl) ?_
  have hF : KC 19 (FinR Try.prog Try.f117 ((eI .i64) r)) := FinR.kc' (by kernel_rfl)
  unfold G_slices_IndexFunc_2_int_2_int at h
  obtain ⟨v_o160, h144, h⟩ := bind_some h
  refine pkk_sound TTok mix hF 7 (hs := [.u (.d (.v (.int .i64 (v_s152.length : Int)))), .n n]) (ts := []) (s := []) (l := [0, 1, 7, 8]) (by kernel_rfl) (by kernel_rfl) (.cons (len_ob (f := (fun x => PV.agg [.v (.int .i64 (x 0)), .v (.int .i64 (x 1))])) (l := v_s152)) .nil) (G_slices_IndexFunc_2_int_2_int_L1_ok hF (.b 0 :: .s (cR (cR (bodyOf Try.f117))) :: []) n v_s152 v_f153 v_f153_g v_f153_c v_f153_h n 0 _ h144 ?_)
  cases v_o160 with
  | x0 v_z161 =>
    dsimp only at h
    obtain rfl := Option.some.inj h
    exact pend_sound TTok mix 2 (hs := []) (by kernel_rfl) (by kernel_rfl) (by kernel_rfl) .nil
  | x1  =>
    dsimp only at h
    obtain rfl := Option.some.inj h
    exact pend_sound TTok mix 4 (hs := []) (by kernel_rfl) (by kernel_rfl) (by kernel_rfl) .nil
/- ringhall/ringref5.DownOf$1 -/
def G_ringref5_DownOf_1 (n : Nat) (v_m162 : (Fin 2 → Int)) (v_c163 : Int) : Option (Bool) :=
  some ((v_m162 0) == v_c163)
theorem G_ringref5_DownOf_1_ok (n : Nat) (v_m162 : (Fin 2 → Int)) (v_c163 : Int) (r : Bool) (h : G_ringref5_DownOf_1 n v_m162 v_c163 = some r) : Ret Try.prog 118 [(fun x => PV.agg [.v (.int .i64 (x 0)), .v (.int .i64 (x 1))]) v_m162, .iptr [.v (.int .i64 v_c163)] 0] (eB r) := by
  refine ret_run (n := 8) (fn := Try.f118) (c := bodyOf Try.f118) (by kernel_rfl) (by kernel_rfl) (by kernel_rfl) (by kernel_rfl) ?_
  have hF : KC 8 (FinR Try.prog Try.f118 (eB r)) := FinR.kc' (by kernel_rfl)
  unfold G_ringref5_DownOf_1 at h
  obtain rfl := Option.some.inj h
  exact pend_sound TTok mix 5 (hs := [.c, .c]) (by kernel_rfl) (by kernel_rfl) (by kernel_rfl) (.cons (show (0 : Int) ≤ 0 ∧ (0 : Int) < 2 by decide) .nil)
inductive G_ringref5_DownOf_L1_R where
  | x0 (v_x178 : Int)
  | x1 
def G_ringref5_DownOf_L1_ex : G_ringref5_DownOf_L1_R → Ex
  | .x0 _ => .ret
  | .x1  => .exit 0
def G_ringref5_DownOf_L1_st (v_l136 : (List (Fin 2 → Int))) : G_ringref5_DownOf_L1_R → PS
  | .x0 v_x178 => ⟨[dd, dd, dd, dd, .d (.v (.int .i64 v_x178)), dd, dd, dd, dd, dd, dd, dd, dd, dd, dd, dd, dd, dd, dd, dd, dd, dd, dd, dd, dd, dd, dd], []⟩
  | .x1  => ⟨[dd, dd, dd, dd, dd, dd, dd, dd, dd, dd, dd, dd, dd, dd, dd, dd, dd, dd, dd, dd, dd, dd, dd, dd, dd, dd, dd], []⟩
def G_ringref5_DownOf_L1_hd (v_l136 : (List (Fin 2 → Int))) (v_b170 : Int) (v_w171 : (List Int)) : PS := ⟨[.d (.sl (v_l136.map (fun x => PV.agg [.v (.int .i64 (x 0)), .v (.int .i64 (x 1))]))), dd, dd, .ref 0 0, dd, .srf 1, dd, dd, dd, dd, dd, dd, dd, dd, dd, dd, dd, dd, dd, dd, dd, dd, dd, dd, dd, dd, dd], [.box [.d (.v (.int .i64 v_b170))], .row 3 1 (v_w171.map (eI .i64))]⟩
def G_ringref5_DownOf_L1 (n : Nat) (v_l136 : (List (Fin 2 → Int))) : Nat → Int → (List Int) → Option G_ringref5_DownOf_L1_R
  | 0, _, _ => none
  | k + 1, v_b170, v_w171 =>
    (G_slices_Contains_int_int n v_w171 v_b170).bind fun (v_r172 : (Bool)) =>
    if v_r172 = true then
     some (.x1 )
    else
     (app 8 v_w171 ([v_b170])).bind fun (v_a176 : (List Int)) =>
     (G_slices_IndexFunc_2_int_2_int n v_l136 (fun (y0 : (Fin 2 → Int)) => G_ringref5_DownOf_1 n y0 v_b170)).bind fun (v_r177 : (Int)) =>
     if v_r177 < 0 then
      some (.x0 v_b170)
     else
      (getI v_l136 v_r177).bind fun (v_y179 : (Fin 2 → Int)) =>
      G_ringref5_DownOf_L1 n v_l136 k (v_y179 1) v_a176
theorem G_ringref5_DownOf_L1_ok {Fi : Ex → PS → Prop} (hF : KC 27 Fi) (ks : List Fr) (n : Nat) (v_l136 : (List (Fin 2 → Int)))  : ∀ (k : Nat) (v_b170 : Int) (v_w171 : (List Int)) (o : G_ringref5_DownOf_L1_R), G_ringref5_DownOf_L1 n v_l136 k v_b170 v_w171 = some o → RunE Try.prog 27 Fi ks (G_ringref5_DownOf_L1_ex o) (G_ringref5_DownOf_L1_st v_l136 o) → RunE Try.prog 27 Fi (.l k (cP (cB (cL (cR (cR (bodyOf Try.f51)))))) :: ks) .normal (G_ringref5_DownOf_L1_hd v_l136 v_b170 v_w171)
  | 0, v_b170, v_w171, o, h, q => by rw [G_ringref5_DownOf_L1] at h; cases h
  | k + 1, v_b170, v_w171, o, h, q => by
    rw [G_ringref5_DownOf_L1] at h
    obtain ⟨v_r172, h152, h⟩ := bind_some h
    by_cases h153 : v_r172 = true
    · rw [if_pos h153] at h
      cases h
      exact pkk_sound TTok mix hF 8 (hs := [.c, .c, .r (eB v_r172), .t false]) (ts := []) (s := []) (l := []) (by kernel_rfl) (by kernel_rfl) (.cons (G_slices_Contains_int_int_ok n v_w171 v_b170 _ h152) (.cons (bnf h153) .nil)) q
    · rw [if_neg h153] at h
      obtain ⟨v_a176, h158, h⟩ := bind_some h
      obtain ⟨v_r177, h159, h⟩ := bind_some h
      by_cases h160 : v_r177 < 0
      · rw [if_pos h160] at h
        cases h
        exact pkk_sound TTok mix hF 21 (hs := [.c, .c, .r (eB v_r172), .t true, .c, .bd, .w (v_a176.map (eI .i64)), .c, .r ((eI .i64) v_r177), .t true, .c]) (ts := []) (s := []) (l := [4]) (by kernel_rfl) (by kernel_rfl) (.cons (G_slices_Contains_int_int_ok n v_w171 v_b170 _ h152) (.cons (bnt (vf h153)) (.cons (app_ob (f := (eI .i64)) (s := 1) h158 (fun _ => rfl)).1 (.cons (app_ob (f := (eI .i64)) (s := 1) h158 (fun _ => rfl)).2.1 (.cons (app_ob (f := (eI .i64)) (s := 1) h158 (fun _ => rfl)).2.2.1 (.cons (app_ob (f := (eI .i64)) (s := 1) h158 (fun _ => rfl)).2.2.2 (.cons (G_slices_IndexFunc_2_int_2_int_ok n v_l136 (fun (y0 : (Fin 2 → Int)) => G_ringref5_DownOf_1 n y0 v_b170) 118 [.iptr [.v (.int .i64 v_b170)] 0] (fun y0 r h => G_ringref5_DownOf_1_ok n y0 v_b170 r h) _ h159) (.cons (dt h160) .nil)))))))) q
      · rw [if_neg h160] at h
        obtain ⟨v_y179, h161, h⟩ := bind_some h
        exact pkk_sound TTok mix hF 18 (hs := [.c, .c, .r (eB v_r172), .t true, .c, .bd, .w (v_a176.map (eI .i64)), .c, .r ((eI .i64) v_r177), .t false, .y ((fun x => PV.agg [.v (.int .i64 (x 0)), .v (.int .i64 (x 1))]) v_y179), .c, .c]) (ts := []) (s := [0, 23]) (l := [0, 3, 5]) (by kernel_rfl) (by kernel_rfl) (.cons (G_slices_Contains_int_int_ok n v_w171 v_b170 _ h152) (.cons (bnt (vf h153)) (.cons (app_ob (f := (eI .i64)) (s := 1) h158 (fun _ => rfl)).1 (.cons (app_ob (f := (eI .i64)) (s := 1) h158 (fun _ => rfl)).2.1 (.cons (app_ob (f := (eI .i64)) (s := 1) h158 (fun _ => rfl)).2.2.1 (.cons (app_ob (f := (eI .i64)) (s := 1) h158 (fun _ => rfl)).2.2.2 (.cons (G_slices_IndexFunc_2_int_2_int_ok n v_l136 (fun (y0 : (Fin 2 → Int)) => G_ringref5_DownOf_1 n y0 v_b170) 118 [.iptr [.v (.int .i64 v_b170)] 0] (fun y0 r h => G_ringref5_DownOf_1_ok n y0 v_b170 r h) _ h159) (.cons (df h160) (.cons (getI_ob (f := (fun x => PV.agg [.v (.int .i64 (x 0)), .v (.int .i64 (x 1))])) h161) (.cons (show (0 : Int) ≤ 1 ∧ (1 : Int) < 2 by decide) (.cons (show 0 + 1 ≤ 1 by decide) .nil))))))))))) (G_ringref5_DownOf_L1_ok hF ks n v_l136 k (v_y179 1) v_a176 _ h q)
/- ringhall/ringref5.DownOf -/
def G_ringref5_DownOf (n : Nat) (v_l136 : (List (Fin 2 → Int))) (v_n137 : Int) : Option (Int) :=
  (G_ringref5_DownOf_L1 n v_l136 n v_n137 ([] : List Int)).bind fun v_o180 => match v_o180 with
  | .x0 v_z181 =>
    some v_z181
  | .x1  =>
    some 0
theorem G_ringref5_DownOf_ok (n : Nat) (v_l136 : (List (Fin 2 → Int))) (v_n137 : Int) (r : Int) (h : G_ringref5_DownOf n v_l136 v_n137 = some r) : Ret Try.prog 51 [(eL (fun x => PV.agg [.v (.int .i64 (x 0)), .v (.int .i64 (x 1))])) v_l136, (eI .i64) v_n137] ((eI .i64) r) := by
  refine ret_run (n := 27) (fn := Try.f51) (c := bodyOf Try.f51) (by kernel_rfl) (by kernel_rfl) (by kernel_rfl) (by kernel_rfl) ?_
  have hF : KC 27 (FinR Try.prog Try.f51 ((eI .i64) r)) := FinR.kc' (by kernel_rfl)
  unfold G_ringref5_DownOf at h
  obtain ⟨v_o180, h162, h⟩ := bind_some h
  refine pkk_sound TTok mix hF 7 (hs := [.w (([] : List Int).map (eI .i64)), .n n]) (ts := []) (s := [0, 6]) (l := [0, 3, 5]) (by kernel_rfl) (by kernel_rfl) (.cons (Eq.refl (([] : List Int).map (eI .i64))) .nil) (G_ringref5_DownOf_L1_ok hF (.b 0 :: .s (cR (cR (cR (bodyOf Try.f51)))) :: []) n v_l136 n v_n137 ([] : List Int) _ h162 ?_)
  cases v_o180 with
  | x0 v_z181 =>
    dsimp only at h
    obtain rfl := Option.some.inj h
    exact pend_sound TTok mix 2 (hs := []) (by kernel_rfl) (by kernel_rfl) (by kernel_rfl) .nil
  | x1  =>
    dsimp only at h
    obtain rfl := Option.some.inj h
    exact pend_sound TTok mix 4 (hs := []) (by kernel_rfl) (by kernel_rfl) (by kernel_rfl) .nil
inductive G_ringref5_MountErr_C1_R where
  | x0 (v_x119 : Bool)
def G_ringref5_MountErr_C1_ex : G_ringref5_MountErr_C1_R → Ex
  | .x0 _ => .normal
def G_ringref5_MountErr_C1_st (v_l116 : (List (Fin 2 → Int))) (v_x117 : Int) (v_y118 : (Fin 2 → Int)) : G_ringref5_MountErr_C1_R → PS
  | .x0 v_x119 => ⟨[.d (.sl (v_l116.map (fun x => PV.agg [.v (.int .i64 (x 0)), .v (.int .i64 (x 1))]))), dd, dd, .d (.v (.int .i64 v_x117)), .ref 0 0, dd, dd, dd, dd, dd, dd, dd, .d (.sl (v_l116.map (fun x => PV.agg [.v (.int .i64 (x 0)), .v (.int .i64 (x 1))]))), .d (.v (.int .i64 (v_l116.length : Int))), .d (.v (.int .i64 v_x117)), dd, dd, dd, dd, dd, dd, dd, dd, dd, dd, dd, dd, dd, dd, dd, dd, dd, .d (.v (.bool v_x119)), dd, dd, dd, dd, dd, dd, dd, dd, dd, dd, dd, dd, dd, dd, dd, dd, dd, dd, dd, dd, dd, dd, dd, dd, dd, dd, dd], [.box [.d (.v (.int .i64 (v_y118 0))), .d (.v (.int .i64 (v_y118 1)))]]⟩
def G_ringref5_MountErr_C1_hd (v_l116 : (List (Fin 2 → Int))) (v_x117 : Int) (v_y118 : (Fin 2 → Int))  : PS := ⟨[.d (.sl (v_l116.map (fun x => PV.agg [.v (.int .i64 (x 0)), .v (.int .i64 (x 1))]))), dd, dd, .d (.v (.int .i64 v_x117)), .ref 0 0, dd, dd, dd, dd, dd, dd, dd, .d (.sl (v_l116.map (fun x => PV.agg [.v (.int .i64 (x 0)), .v (.int .i64 (x 1))]))), .d (.v (.int .i64 (v_l116.length : Int))), .d (.v (.int .i64 v_x117)), dd, dd, dd, dd, dd, dd, dd, dd, dd, dd, dd, dd, dd, dd, dd, dd, dd, dd, dd, dd, dd, dd, dd, dd, dd, dd, dd, dd, dd, dd, dd, dd, dd, dd, dd, dd, dd, dd, dd, dd, dd, dd, dd, dd, dd], [.box [.d (.v (.int .i64 (v_y118 0))), .d (.v (.int .i64 (v_y118 1)))]]⟩
def G_ringref5_MountErr_C1 (n : Nat) (v_l116 : (List (Fin 2 → Int))) (v_x117 : Int) (v_y118 : (Fin 2 → Int)) : Option G_ringref5_MountErr_C1_R :=
  if (minI (v_y118 0) (v_y118 1)) < 1 then
   some (.x0 true)
  else
   some (.x0 (decide ((maxI (v_y118 0) (v_y118 1)) > 32)))
theorem G_ringref5_MountErr_C1_ok {Fi : Ex → PS → Prop} (hF : KC 60 Fi) (ks : List Fr) (n : Nat) (v_l116 : (List (Fin 2 → Int))) (v_x117 : Int) (v_y118 : (Fin 2 → Int))  (o : G_ringref5_MountErr_C1_R) (h : G_ringref5_MountErr_C1 n v_l116 v_x117 v_y118 = some o) (q : RunE Try.prog 60 Fi ks (G_ringref5_MountErr_C1_ex o) (G_ringref5_MountErr_C1_st v_l116 v_x117 v_y118 o)) : RunE Try.prog 60 Fi (.s (cL (cL (cR (cB (cL (cR (cR (cP (cB (cR (cL (cR (cR (bodyOf Try.f43)))))))))))))) :: ks) .normal (G_ringref5_MountErr_C1_hd v_l116 v_x117 v_y118) := by
  unfold G_ringref5_MountErr_C1 at h
  by_cases h114 : (minI (v_y118 0) (v_y118 1)) < 1
  · rw [if_pos h114] at h
    cases h
    exact pkk_sound TTok mix hF 1 (hs := [.c, .c, .t true, .c, .c, .c, .c, .c]) (ts := []) (s := [0]) (l := [0, 3, 4, 12, 13, 14, 32]) (by kernel_rfl) (by kernel_rfl) (.cons (show (0 : Int) ≤ 0 ∧ (0 : Int) < 2 by decide) (.cons (show (0 : Int) ≤ 1 ∧ (1 : Int) < 2 by decide) (.cons (dt h114) .nil))) q
  · rw [if_neg h114] at h
    cases h
    exact pkk_sound TTok mix hF 1 (hs := [.c, .c, .t false, .c, .c, .c, .c, .c, .c, .c]) (ts := []) (s := [0]) (l := [0, 3, 4, 12, 13, 14, 32]) (by kernel_rfl) (by kernel_rfl) (.cons (show (0 : Int) ≤ 0 ∧ (0 : Int) < 2 by decide) (.cons (show (0 : Int) ≤ 1 ∧ (1 : Int) < 2 by decide) (.cons (df h114) (.cons (show (0 : Int) ≤ 0 ∧ (0 : Int) < 2 by decide) (.cons (show (0 : Int) ≤ 1 ∧ (1 : Int) < 2 by decide) .nil))))) q
inductive G_ringref5_MountErr_L2_R where
  | x0 (v_x128 : Int)
  | x1 
def G_ringref5_MountErr_L2_ex : G_ringref5_MountErr_L2_R → Ex
  | .x0 _ => .ret
  | .x1  => .exit 2
def G_ringref5_MountErr_L2_st (v_l116 : (List (Fin 2 → Int))) (v_x117 : Int) (v_s124 : (List (Fin 2 → Int))) (v_y118 : (Fin 2 → Int)) : G_ringref5_MountErr_L2_R → PS
  | .x0 v_x128 => ⟨[dd, dd, .d (.v (.int .i64 v_x128)), dd, dd, dd, dd, dd, dd, dd, dd, dd, dd, dd, dd, dd, dd, dd, dd, dd, dd, dd, dd, dd, dd, dd, dd, dd, dd, dd, dd, dd, dd, dd, dd, dd, dd, dd, dd, dd, dd, dd, dd, dd, dd, dd, dd, dd, dd, dd, dd, dd, dd, dd, dd, dd, dd, dd, dd, dd], []⟩
  | .x1  => ⟨[.d (.sl (v_l116.map (fun x => PV.agg [.v (.int .i64 (x 0)), .v (.int .i64 (x 1))]))), dd, dd, dd, dd, dd, dd, dd, dd, dd, dd, dd, .d (.sl (v_l116.map (fun x => PV.agg [.v (.int .i64 (x 0)), .v (.int .i64 (x 1))]))), .d (.v (.int .i64 (v_l116.length : Int))), .d (.v (.int .i64 v_x117)), dd, dd, dd, dd, dd, dd, dd, dd, dd, dd, dd, dd, dd, dd, dd, dd, dd, dd, dd, dd, dd, dd, dd, dd, dd, dd, dd, dd, dd, dd, dd, dd, dd, dd, dd, dd, dd, dd, dd, dd, dd, dd, dd, dd, dd], []⟩
def G_ringref5_MountErr_L2_hd (v_l116 : (List (Fin 2 → Int))) (v_x117 : Int) (v_s124 : (List (Fin 2 → Int))) (v_y118 : (Fin 2 → Int)) (v_x125 : Int) : PS := ⟨[.d (.sl (v_l116.map (fun x => PV.agg [.v (.int .i64 (x 0)), .v (.int .i64 (x 1))]))), dd, dd, dd, .ref 0 0, dd, dd, dd, dd, dd, dd, dd, .d (.sl (v_l116.map (fun x => PV.agg [.v (.int .i64 (x 0)), .v (.int .i64 (x 1))]))), .d (.v (.int .i64 (v_l116.length : Int))), .d (.v (.int .i64 v_x117)), dd, dd, dd, dd, dd, dd, dd, dd, dd, dd, dd, dd, dd, dd, dd, dd, dd, dd, dd, dd, .d (.sl (v_s124.map (fun x => PV.agg [.v (.int .i64 (x 0)), .v (.int .i64 (x 1))]))), .d (.v (.int .i64 (v_s124.length : Int))), .d (.v (.int .i64 v_x125)), dd, dd, dd, dd, dd, dd, dd, dd, dd, dd, dd, dd, dd, dd, dd, dd, dd, dd, dd, dd, dd, dd], [.box [.d (.v (.int .i64 (v_y118 0))), .d (.v (.int .i64 (v_y118 1)))]]⟩
def G_ringref5_MountErr_L2 (n : Nat) (v_l116 : (List (Fin 2 → Int))) (v_x117 : Int) (v_s124 : (List (Fin 2 → Int))) (v_y118 : (Fin 2 → Int)) : Nat → Int → Option G_ringref5_MountErr_L2_R
  | 0, _ => none
  | k + 1, v_x125 =>
    if v_x125 < (v_s124.length : Int) then
     (getI v_s124 v_x125).bind fun (v_y127 : (Fin 2 → Int)) =>
     if (v_y127 0) = (v_y118 0) then
      some (.x0 5)
     else
      G_ringref5_MountErr_L2 n v_l116 v_x117 v_s124 v_y118 k (wi .i64 (v_x125 + 1))
    else
     some (.x1 )
theorem G_ringref5_MountErr_L2_ok {Fi : Ex → PS → Prop} (hF : KC 60 Fi) (ks : List Fr) (n : Nat) (v_l116 : (List (Fin 2 → Int))) (v_x117 : Int) (v_s124 : (List (Fin 2 → Int))) (v_y118 : (Fin 2 → Int))  : ∀ (k : Nat) (v_x125 : Int) (o : G_ringref5_MountErr_L2_R), G_ringref5_MountErr_L2 n v_l116 v_x117 v_s124 v_y118 k v_x125 = some o → RunE Try.prog 60 Fi ks (G_ringref5_MountErr_L2_ex o) (G_ringref5_MountErr_L2_st v_l116 v_x117 v_s124 v_y118 o) → RunE Try.prog 60 Fi (.l k (cP (cB (cR (cR (cR (cB (cL (cR (cR (cP (cB (cR (cL (cR (cR (bodyOf Try.f43)))))))))))))))) :: ks) .normal (G_ringref5_MountErr_L2_hd v_l116 v_x117 v_s124 v_y118 v_x125)
  | 0, v_x125, o, h, q => by rw [G_ringref5_MountErr_L2] at h; cases h
  | k + 1, v_x125, o, h, q => by
    rw [G_ringref5_MountErr_L2] at h
    by_cases h118 : v_x125 < (v_s124.length : Int)
    · rw [if_pos h118] at h
      obtain ⟨v_y127, h121, h⟩ := bind_some h
      by_cases h122 : (v_y127 0) = (v_y118 0)
      · rw [if_pos h122] at h
        cases h
        exact pkk_sound TTok mix hF 19 (hs := [.t true, .y ((fun x => PV.agg [.v (.int .i64 (x 0)), .v (.int .i64 (x 1))]) v_y127), .c, .c, .c, .t true]) (ts := []) (s := []) (l := [2]) (by kernel_rfl) (by kernel_rfl) (.cons (dt h118) (.cons (getI_ob (f := (fun x => PV.agg [.v (.int .i64 (x 0)), .v (.int .i64 (x 1))])) h121) (.cons (show 0 + 2 ≤ 2 by decide) (.cons (show (0 : Int) ≤ 0 ∧ (0 : Int) < 2 by decide) (.cons (show (0 : Int) ≤ 0 ∧ (0 : Int) < 2 by decide) (.cons (bt h122) .nil)))))) q
      · rw [if_neg h122] at h
        exact pkk_sound TTok mix hF 16 (hs := [.t true, .y ((fun x => PV.agg [.v (.int .i64 (x 0)), .v (.int .i64 (x 1))]) v_y127), .c, .c, .c, .t false]) (ts := []) (s := [0]) (l := [0, 4, 12, 13, 14, 35, 36, 37]) (by kernel_rfl) (by kernel_rfl) (.cons (dt h118) (.cons (getI_ob (f := (fun x => PV.agg [.v (.int .i64 (x 0)), .v (.int .i64 (x 1))])) h121) (.cons (show 0 + 2 ≤ 2 by decide) (.cons (show (0 : Int) ≤ 0 ∧ (0 : Int) < 2 by decide) (.cons (show (0 : Int) ≤ 0 ∧ (0 : Int) < 2 by decide) (.cons (bf h122) .nil)))))) (G_ringref5_MountErr_L2_ok hF ks n v_l116 v_x117 v_s124 v_y118 k (wi .i64 (v_x125 + 1)) _ h q)
    · rw [if_neg h118] at h
      cases h
      exact pkk_sound TTok mix hF 8 (hs := [.t false]) (ts := []) (s := []) (l := [0, 12, 13, 14]) (by kernel_rfl) (by kernel_rfl) (.cons (df h118) .nil) q
inductive G_ringref5_MountErr_L3_R where
  | x0 (v_x123 : Int)
  | x1 
def G_ringref5_MountErr_L3_ex : G_ringref5_MountErr_L3_R → Ex
  | .x0 _ => .ret
  | .x1  => .exit 0
def G_ringref5_MountErr_L3_st (v_l116 : (List (Fin 2 → Int))) : G_ringref5_MountErr_L3_R → PS
  | .x0 v_x123 => ⟨[dd, dd, .d (.v (.int .i64 v_x123)), dd, dd, dd, dd, dd, dd, dd, dd, dd, dd, dd, dd, dd, dd, dd, dd, dd, dd, dd, dd, dd, dd, dd, dd, dd, dd, dd, dd, dd, dd, dd, dd, dd, dd, dd, dd, dd, dd, dd, dd, dd, dd, dd, dd, dd, dd, dd, dd, dd, dd, dd, dd, dd, dd, dd, dd, dd], []⟩
  | .x1  => ⟨[.d (.sl (v_l116.map (fun x => PV.agg [.v (.int .i64 (x 0)), .v (.int .i64 (x 1))]))), dd, dd, dd, dd, dd, dd, dd, dd, dd, dd, dd, dd, dd, dd, dd, dd, dd, dd, dd, dd, dd, dd, dd, dd, dd, dd, dd, dd, dd, dd, dd, dd, dd, dd, dd, dd, dd, dd, dd, dd, dd, dd, dd, dd, dd, dd, dd, dd, dd, dd, dd, dd, dd, dd, dd, dd, dd, dd, dd], []⟩
def G_ringref5_MountErr_L3_hd (v_l116 : (List (Fin 2 → Int))) (v_x117 : Int) : PS := ⟨[.d (.sl (v_l116.map (fun x => PV.agg [.v (.int .i64 (x 0)), .v (.int .i64 (x 1))]))), dd, dd, dd, dd, dd, dd, dd, dd, dd, dd, dd, .d (.sl (v_l116.map (fun x => PV.agg [.v (.int .i64 (x 0)), .v (.int .i64 (x 1))]))), .d (.v (.int .i64 (v_l116.length : Int))), .d (.v (.int .i64 v_x117)), dd, dd, dd, dd, dd, dd, dd, dd, dd, dd, dd, dd, dd, dd, dd, dd, dd, dd, dd, dd, dd, dd, dd, dd, dd, dd, dd, dd, dd, dd, dd, dd, dd, dd, dd, dd, dd, dd, dd, dd, dd, dd, dd, dd, dd], []⟩
def G_ringref5_MountErr_L3 (n : Nat) (v_l116 : (List (Fin 2 → Int))) : Nat → Int → Option G_ringref5_MountErr_L3_R
  | 0, _ => none
  | k + 1, v_x117 =>
    if v_x117 < (v_l116.length : Int) then
     (getI v_l116 v_x117).bind fun (v_y118 : (Fin 2 → Int)) =>
     (G_ringref5_MountErr_C1 n v_l116 v_x117 v_y118).bind fun v_o121 => match v_o121 with
     | .x0 v_z122 =>
       if v_z122 = true then
        some (.x0 1)
       else
        (sub v_l116 0 v_x117).bind fun (v_s124 : (List (Fin 2 → Int))) =>
        (G_ringref5_MountErr_L2 n v_l116 v_x117 v_s124 v_y118 n 0).bind fun v_o129 => match v_o129 with
        | .x0 v_z130 =>
          some (.x0 v_z130)
        | .x1  =>
          G_ringref5_MountErr_L3 n v_l116 k (wi .i64 (v_x117 + 1))
    else
     some (.x1 )
theorem G_ringref5_MountErr_L3_ok {Fi : Ex → PS → Prop} (hF : KC 60 Fi) (ks : List Fr) (n : Nat) (v_l116 : (List (Fin 2 → Int)))  : ∀ (k : Nat) (v_x117 : Int) (o : G_ringref5_MountErr_L3_R), G_ringref5_MountErr_L3 n v_l116 k v_x117 = some o → RunE Try.prog 60 Fi ks (G_ringref5_MountErr_L3_ex o) (G_ringref5_MountErr_L3_st v_l116 o) → RunE Try.prog 60 Fi (.l k (cP (cB (cR (cL (cR (cR (bodyOf Try.f43))))))) :: ks) .normal (G_ringref5_MountErr_L3_hd v_l116 v_x117)
  | 0, v_x117, o, h, q => by rw [G_ringref5_MountErr_L3] at h; cases h
  | k + 1, v_x117, o, h, q => by
    rw [G_ringref5_MountErr_L3] at h
    by_cases h111 : v_x117 < (v_l116.length : Int)
    · rw [if_pos h111] at h
      obtain ⟨v_y118, h112, h⟩ := bind_some h
      obtain ⟨v_o121, h115, h⟩ := bind_some h
      refine pkk_sound TTok mix hF 12 (hs := [.t true, .y ((fun x => PV.agg [.v (.int .i64 (x 0)), .v (.int .i64 (x 1))]) v_y118), .c]) (ts := []) (s := [12]) (l := [0, 3, 4, 12, 13, 14]) (by kernel_rfl) (by kernel_rfl) (.cons (dt h111) (.cons (getI_ob (f := (fun x => PV.agg [.v (.int .i64 (x 0)), .v (.int .i64 (x 1))])) h112) (.cons (show 0 + 2 ≤ 2 by decide) .nil))) (G_ringref5_MountErr_C1_ok hF (.s (cR (cL (cR (cB (cL (cR (cR (cP (cB (cR (cL (cR (cR (bodyOf Try.f43)))))))))))))) :: .s (cR (cR (cB (cL (cR (cR (cP (cB (cR (cL (cR (cR (bodyOf Try.f43))))))))))))) :: .b 1 :: .s (cR (cR (cR (cP (cB (cR (cL (cR (cR (bodyOf Try.f43)))))))))) :: .l k (cP (cB (cR (cL (cR (cR (bodyOf Try.f43))))))) :: ks) n v_l116 v_x117 v_y118 _ h115 ?_)
      cases v_o121 with
      | x0 v_z122 =>
        dsimp only at h
        by_cases h116 : v_z122 = true
        · rw [if_pos h116] at h
          cases h
          exact pkk_sound TTok mix hF 8 (hs := [.t true]) (ts := []) (s := []) (l := [2]) (by kernel_rfl) (by kernel_rfl) (.cons h116 .nil) q
        · rw [if_neg h116] at h
          obtain ⟨v_s124, h117, h⟩ := bind_some h
          obtain ⟨v_o129, h123, h⟩ := bind_some h
          refine pkk_sound TTok mix hF 6 (hs := [.t false, .w (v_s124.map (fun x => PV.agg [.v (.int .i64 (x 0)), .v (.int .i64 (x 1))])), .u (.d (.v (.int .i64 (v_s124.length : Int)))), .n n]) (ts := []) (s := [0]) (l := [0, 4, 12, 13, 14, 35, 36, 37]) (by kernel_rfl) (by kernel_rfl) (.cons (vf h116) (.cons (sub_ob (f := (fun x => PV.agg [.v (.int .i64 (x 0)), .v (.int .i64 (x 1))])) (s := 2) h117 (fun _ => rfl)).1 (.cons (sub_ob (f := (fun x => PV.agg [.v (.int .i64 (x 0)), .v (.int .i64 (x 1))])) (s := 2) h117 (fun _ => rfl)).2.1 (.cons (sub_ob (f := (fun x => PV.agg [.v (.int .i64 (x 0)), .v (.int .i64 (x 1))])) (s := 2) h117 (fun _ => rfl)).2.2.1 (.cons (sub_ob (f := (fun x => PV.agg [.v (.int .i64 (x 0)), .v (.int .i64 (x 1))])) (s := 2) h117 (fun _ => rfl)).2.2.2.1 (.cons (sub_ob (f := (fun x => PV.agg [.v (.int .i64 (x 0)), .v (.int .i64 (x 1))])) (s := 2) h117 (fun _ => rfl)).2.2.2.2 (.cons (len_ob (f := (fun x => PV.agg [.v (.int .i64 (x 0)), .v (.int .i64 (x 1))])) (l := v_s124)) .nil))))))) (G_ringref5_MountErr_L2_ok hF (.b 2 :: .b 1 :: .s (cR (cR (cR (cP (cB (cR (cL (cR (cR (bodyOf Try.f43)))))))))) :: .l k (cP (cB (cR (cL (cR (cR (bodyOf Try.f43))))))) :: ks) n v_l116 v_x117 v_s124 v_y118 n 0 _ h123 ?_)
          cases v_o129 with
          | x0 v_z130 =>
            dsimp only at h
            cases h
            exact pkk_sound TTok mix hF 4 (hs := []) (ts := []) (s := []) (l := [2]) (by kernel_rfl) (by kernel_rfl) .nil q
          | x1  =>
            dsimp only at h
            exact pkk_sound TTok mix hF 3 (hs := []) (ts := []) (s := []) (l := [0, 12, 13, 14]) (by kernel_rfl) (by kernel_rfl) .nil (G_ringref5_MountErr_L3_ok hF ks n v_l116 k (wi .i64 (v_x117 + 1)) _ h q)
    · rw [if_neg h111] at h
      cases h
      exact pkk_sound TTok mix hF 8 (hs := [.t false]) (ts := []) (s := []) (l := [0]) (by kernel_rfl) (by kernel_rfl) (.cons (df h111) .nil) q
inductive G_ringref5_MountErr_L4_R where
  | x0 (v_x185 : Int)
  | x1 
def G_ringref5_MountErr_L4_ex : G_ringref5_MountErr_L4_R → Ex
  | .x0 _ => .ret
  | .x1  => .exit 4
def G_ringref5_MountErr_L4_st (v_l116 : (List (Fin 2 → Int))) : G_ringref5_MountErr_L4_R → PS
  | .x0 v_x185 => ⟨[dd, dd, .d (.v (.int .i64 v_x185)), dd, dd, dd, dd, dd, dd, dd, dd, dd, dd, dd, dd, dd, dd, dd, dd, dd, dd, dd, dd, dd, dd, dd, dd, dd, dd, dd, dd, dd, dd, dd, dd, dd, dd, dd, dd, dd, dd, dd, dd, dd, dd, dd, dd, dd, dd, dd, dd, dd, dd, dd, dd, dd, dd, dd, dd, dd], []⟩
  | .x1  => ⟨[dd, dd, dd, dd, dd, dd, dd, dd, dd, dd, dd, dd, dd, dd, dd, dd, dd, dd, dd, dd, dd, dd, dd, dd, dd, dd, dd, dd, dd, dd, dd, dd, dd, dd, dd, dd, dd, dd, dd, dd, dd, dd, dd, dd, dd, dd, dd, dd, dd, dd, dd, dd, dd, dd, dd, dd, dd, dd, dd, dd], []⟩
def G_ringref5_MountErr_L4_hd (v_l116 : (List (Fin 2 → Int))) (v_x134 : Int) : PS := ⟨[.d (.sl (v_l116.map (fun x => PV.agg [.v (.int .i64 (x 0)), .v (.int .i64 (x 1))]))), dd, dd, dd, dd, dd, dd, dd, dd, dd, dd, dd, dd, dd, dd, dd, dd, dd, dd, dd, dd, dd, dd, dd, dd, dd, dd, dd, dd, dd, dd, dd, dd, dd, dd, dd, dd, dd, dd, dd, dd, dd, dd, dd, dd, dd, dd, dd, .d (.sl (v_l116.map (fun x => PV.agg [.v (.int .i64 (x 0)), .v (.int .i64 (x 1))]))), .d (.v (.int .i64 (v_l116.length : Int))), .d (.v (.int .i64 v_x134)), dd, dd, dd, dd, dd, dd, dd, dd, dd], []⟩
def G_ringref5_MountErr_L4 (n : Nat) (v_l116 : (List (Fin 2 → Int))) : Nat → Int → Option G_ringref5_MountErr_L4_R
  | 0, _ => none
  | k + 1, v_x134 =>
    if v_x134 < (v_l116.length : Int) then
     (getI v_l116 v_x134).bind fun (v_y183 : (Fin 2 → Int)) =>
     (G_ringref5_DownOf n v_l116 (v_y183 0)).bind fun (v_r184 : (Int)) =>
     if v_r184 = 0 then
      some (.x0 14)
     else
      G_ringref5_MountErr_L4 n v_l116 k (wi .i64 (v_x134 + 1))
    else
     some (.x1 )
theorem G_ringref5_MountErr_L4_ok {Fi : Ex → PS → Prop} (hF : KC 60 Fi) (ks : List Fr) (n : Nat) (v_l116 : (List (Fin 2 → Int)))  : ∀ (k : Nat) (v_x134 : Int) (o : G_ringref5_MountErr_L4_R), G_ringref5_MountErr_L4 n v_l116 k v_x134 = some o → RunE Try.prog 60 Fi ks (G_ringref5_MountErr_L4_ex o) (G_ringref5_MountErr_L4_st v_l116 o) → RunE Try.prog 60 Fi (.l k (cP (cB (cR (cL (cR (cR (cR (bodyOf Try.f43)))))))) :: ks) .normal (G_ringref5_MountErr_L4_hd v_l116 v_x134)
  | 0, v_x134, o, h, q => by rw [G_ringref5_MountErr_L4] at h; cases h
  | k + 1, v_x134, o, h, q => by
    rw [G_ringref5_MountErr_L4] at h
    by_cases h125 : v_x134 < (v_l116.length : Int)
    · rw [if_pos h125] at h
      obtain ⟨v_y183, h165, h⟩ := bind_some h
      obtain ⟨v_r184, h166, h⟩ := bind_some h
      by_cases h167 : v_r184 = 0
      · rw [if_pos h167] at h
        cases h
        exact pkk_sound TTok mix hF 19 (hs := [.t true, .y ((fun x => PV.agg [.v (.int .i64 (x 0)), .v (.int .i64 (x 1))]) v_y183), .c, .c, .r ((eI .i64) v_r184), .t true]) (ts := []) (s := []) (l := [2]) (by kernel_rfl) (by kernel_rfl) (.cons (dt h125) (.cons (getI_ob (f := (fun x => PV.agg [.v (.int .i64 (x 0)), .v (.int .i64 (x 1))])) h165) (.cons (show 0 + 2 ≤ 2 by decide) (.cons (show (0 : Int) ≤ 0 ∧ (0 : Int) < 2 by decide) (.cons (G_ringref5_DownOf_ok n v_l116 (v_y183 0) _ h166) (.cons (bt h167) .nil)))))) q
      · rw [if_neg h167] at h
        exact pkk_sound TTok mix hF 16 (hs := [.t true, .y ((fun x => PV.agg [.v (.int .i64 (x 0)), .v (.int .i64 (x 1))]) v_y183), .c, .c, .r ((eI .i64) v_r184), .t false]) (ts := []) (s := []) (l := [0, 48, 49, 50]) (by kernel_rfl) (by kernel_rfl) (.cons (dt h125) (.cons (getI_ob (f := (fun x => PV.agg [.v (.int .i64 (x 0)), .v (.int .i64 (x 1))])) h165) (.cons (show 0 + 2 ≤ 2 by decide) (.cons (show (0 : Int) ≤ 0 ∧ (0 : Int) < 2 by decide) (.cons (G_ringref5_DownOf_ok n v_l116 (v_y183 0) _ h166) (.cons (bf h167) .nil)))))) (G_ringref5_MountErr_L4_ok hF ks n v_l116 k (wi .i64 (v_x134 + 1)) _ h q)
    · rw [if_neg h125] at h
      cases h
      exact pkk_sound TTok mix hF 8 (hs := [.t false]) (ts := []) (s := []) (l := []) (by kernel_rfl) (by kernel_rfl) (.cons (df h125) .nil) q
/- ringhall/ringref5.MountErr -/
def G_ringref5_MountErr (n : Nat) (v_l116 : (List (Fin 2 → Int))) : Option (Int) :=
  if (v_l116.length : Int) > 8 then
   some 2
  else
   (G_ringref5_MountErr_L3 n v_l116 n 0).bind fun v_o132 => match v_o132 with
   | .x0 v_z133 =>
     some v_z133
   | .x1  =>
     (G_ringref5_MountErr_L4 n v_l116 n 0).bind fun v_o186 => match v_o186 with
     | .x0 v_z187 =>
       some v_z187
     | .x1  =>
       some 0
theorem G_ringref5_MountErr_ok (n : Nat) (v_l116 : (List (Fin 2 → Int))) (r : Int) (h : G_ringref5_MountErr n v_l116 = some r) : Ret Try.prog 43 [(eL (fun x => PV.agg [.v (.int .i64 (x 0)), .v (.int .i64 (x 1))])) v_l116] ((eI .i64) r) := by
  refine ret_run (n := 60) (fn := Try.f43) (c := bodyOf Try.f43) (by kernel_rfl) (by kernel_rfl) (by kernel_rfl) (by kernel_rfl) ?_
  have hF : KC 60 (FinR Try.prog Try.f43 ((eI .i64) r)) := FinR.kc' (by kernel_rfl)
  unfold G_ringref5_MountErr at h
  by_cases h110 : (v_l116.length : Int) > 8
  · rw [if_pos h110] at h
    obtain rfl := Option.some.inj h
    exact pend_sound TTok mix 10 (hs := [.u (.d (.v (.int .i64 (v_l116.length : Int)))), .t true]) (by kernel_rfl) (by kernel_rfl) (by kernel_rfl) (.cons (len_ob (f := (fun x => PV.agg [.v (.int .i64 (x 0)), .v (.int .i64 (x 1))])) (l := v_l116)) (.cons (dt h110) .nil))
  · rw [if_neg h110] at h
    obtain ⟨v_o132, h124, h⟩ := bind_some h
    refine pkk_sound TTok mix hF 12 (hs := [.u (.d (.v (.int .i64 (v_l116.length : Int)))), .t false, .u (.d (.v (.int .i64 (v_l116.length : Int)))), .n n]) (ts := []) (s := []) (l := [0, 12, 13, 14]) (by kernel_rfl) (by kernel_rfl) (.cons (len_ob (f := (fun x => PV.agg [.v (.int .i64 (x 0)), .v (.int .i64 (x 1))])) (l := v_l116)) (.cons (df h110) (.cons (len_ob (f := (fun x => PV.agg [.v (.int .i64 (x 0)), .v (.int .i64 (x 1))])) (l := v_l116)) .nil))) (G_ringref5_MountErr_L3_ok hF (.b 0 :: .s (cR (cR (cR (bodyOf Try.f43)))) :: []) n v_l116 n 0 _ h124 ?_)
    cases v_o132 with
    | x0 v_z133 =>
      dsimp only at h
      obtain rfl := Option.some.inj h
      exact pend_sound TTok mix 2 (hs := []) (by kernel_rfl) (by kernel_rfl) (by kernel_rfl) .nil
    | x1  =>
      dsimp only at h
      obtain ⟨v_o186, h168, h⟩ := bind_some h
      refine pkk_sound TTok mix hF 6 (hs := [.u (.d (.v (.int .i64 (v_l116.length : Int)))), .n n]) (ts := []) (s := []) (l := [0, 48, 49, 50]) (by kernel_rfl) (by kernel_rfl) (.cons (len_ob (f := (fun x => PV.agg [.v (.int .i64 (x 0)), .v (.int .i64 (x 1))])) (l := v_l116)) .nil) (G_ringref5_MountErr_L4_ok hF (.b 4 :: .s (cR (cR (cR (cR (bodyOf Try.f43))))) :: []) n v_l116 n 0 _ h168 ?_)
      cases v_o186 with
      | x0 v_z187 =>
        dsimp only at h
        obtain rfl := Option.some.inj h
        exact pend_sound TTok mix 2 (hs := []) (by kernel_rfl) (by kernel_rfl) (by kernel_rfl) .nil
      | x1  =>
        dsimp only at h
        obtain rfl := Option.some.inj h
        exact pend_sound TTok mix 4 (hs := []) (by kernel_rfl) (by kernel_rfl) (by kernel_rfl) .nil
/- ringhall/ringlaw5.MountSays$1 -/
def G_ringlaw5_MountSays_1 (n : Nat) (v_m206 : S_mount_Mount) (v_c207 : Int) : Option (Bool) :=
  some (v_m206.fAt == v_c207)
theorem G_ringlaw5_MountSays_1_ok (n : Nat) (v_m206 : S_mount_Mount) (v_c207 : Int) (r : Bool) (h : G_ringlaw5_MountSays_1 n v_m206 v_c207 = some r) : Ret Try.prog 46 [eS_mount_Mount v_m206, .iptr [.v (.int .i64 v_c207)] 0] (eB r) := by
  refine ret_run (n := 8) (fn := Try.f46) (c := bodyOf Try.f46) (by kernel_rfl) (by kernel_rfl) (by kernel_rfl) (by kernel_rfl) ?_
  have hF : KC 8 (FinR Try.prog Try.f46 (eB r)) := FinR.kc' (by kernel_rfl)
  unfold G_ringlaw5_MountSays_1 at h
  obtain rfl := Option.some.inj h
  exact pend_sound TTok mix 5 (hs := [.c, .c]) (by kernel_rfl) (by kernel_rfl) (by kernel_rfl) .nil
/- slices.Grow[[]ringhall/mount.Mount,ringhall/mount.Mount] -/
def G_slices_Grow_mount_Mount_mount_Mount_h (n : Nat) (v_n219 : Int) : Option ((List S_mount_Mount)) :=
  if v_n219 < 0 then
   none
  else
   if (wi .i64 (v_n219 - (wi .i64 (0 - 0)))) > 0 then
    (appZ 16 (S_mount_Mount.mk 0 0) (wi .i64 (v_n219 - (wi .i64 (0 - 0))))).bind fun (v_a222 : (List S_mount_Mount)) =>
    (sub v_a222 0 0).bind fun (v_s223 : (List S_mount_Mount)) =>
    some v_s223
   else
    some ([] : List S_mount_Mount)
theorem G_slices_Grow_mount_Mount_mount_Mount_h_ok (n : Nat) (v_n219 : Int) (r : (List S_mount_Mount)) (h : G_slices_Grow_mount_Mount_mount_Mount_h n v_n219 = some r) : RetH Try.prog 116 [.d vnil, .d ((eI .i64) v_n219)] [] (.srf 0) [.row 78 2 (r.map eS_mount_Mount)] := by
  refine retH_run (n := 27) (fn := Try.f116) (c := bodyOf Try.f116) (by kernel_rfl) (by kernel_rfl) (by kernel_rfl) (by kernel_rfl) ?_
  have hF : KC 27 (FinH Try.prog Try.f116 [] (.srf 0) [.row 78 2 (r.map eS_mount_Mount)]) := FinH.kc' (by kernel_rfl)
  unfold G_slices_Grow_mount_Mount_mount_Mount_h at h
  by_cases h209 : v_n219 < 0
  · rw [if_pos h209] at h
    cases h
  · rw [if_neg h209] at h
    by_cases h213 : (wi .i64 (v_n219 - (wi .i64 (0 - 0)))) > 0
    · rw [if_pos h213] at h
      obtain ⟨v_a222, h214, h⟩ := bind_some h
      obtain ⟨v_s223, h215, h⟩ := bind_some h
      obtain rfl := Option.some.inj h
      exact pendH_sound TTok mix 17 (hs := [.t false, .u (.d (.v (.int .i64 0))), .t true, .c, .w (v_a222.map eS_mount_Mount), .u (.d (.v (.int .i64 0))), .w (v_s223.map eS_mount_Mount)]) [63] (by kernel_rfl) (by kernel_rfl) (by kernel_rfl) (.cons (df h209) (.cons (Eq.refl (FV.d (.v (.int .i64 0)))) (.cons (dt h213) (.cons (Eq.refl (0 : Int)) (.cons (Eq.refl (0 : Int)) (.cons (appZ_ob (f := eS_mount_Mount) (p := .agg [.v (.int .i64 0), .v (.int .i64 0)]) h214 rfl).1 (.cons (appZ_ob (f := eS_mount_Mount) (p := .agg [.v (.int .i64 0), .v (.int .i64 0)]) h214 rfl).2.1 (.cons (appZ_ob (f := eS_mount_Mount) (p := .agg [.v (.int .i64 0), .v (.int .i64 0)]) h214 rfl).2.2.1 (.cons (appZ_ob (f := eS_mount_Mount) (p := .agg [.v (.int .i64 0), .v (.int .i64 0)]) h214 rfl).2.2.2 (.cons (Eq.refl (FV.d (.v (.int .i64 0)))) (.cons (Eq.refl (0 : Int)) (.cons (subR_ob (f := eS_mount_Mount) h215).1 (.cons (subR_ob (f := eS_mount_Mount) h215).2.1 (.cons (subR_ob (f := eS_mount_Mount) h215).2.2 .nil))))))))))))))
    · rw [if_neg h213] at h
      obtain rfl := Option.some.inj h
      exact pendH_sound TTok mix 18 (hs := [.t false, .u (.d (.v (.int .i64 0))), .t false, .dl 4, .th 4 78 2]) [45] (by kernel_rfl) (by kernel_rfl) (by kernel_rfl) (.cons (df h209) (.cons (Eq.refl (FV.d (.v (.int .i64 0)))) (.cons (df h213) .nil)))
inductive G_slices_Concat_mount_Mount_mount_Mount_h_L1_R where
  | x0 (v_size216 : Int)
def G_slices_Concat_mount_Mount_mount_Mount_h_L1_ex : G_slices_Concat_mount_Mount_mount_Mount_h_L1_R → Ex
  | .x0 _ => .exit 0
def G_slices_Concat_mount_Mount_mount_Mount_h_L1_st (v_slices211 : (List (List S_mount_Mount))) : G_slices_Concat_mount_Mount_mount_Mount_h_L1_R → PS
  | .x0 v_size216 => ⟨[.d (.sl (v_slices211.map (eL eS_mount_Mount))), dd, dd, .d (.v (.int .i64 v_size216)), dd, dd, dd, dd, dd, dd, dd, dd, dd, dd, dd, dd, dd, dd, dd, dd, dd, dd, dd, dd, dd, dd, dd, dd, dd, dd, dd, dd, dd, dd, dd, dd], []⟩
def G_slices_Concat_mount_Mount_mount_Mount_h_L1_hd (v_slices211 : (List (List S_mount_Mount))) (v_size212 : Int) (v_x213 : Int) : PS := ⟨[.d (.sl (v_slices211.map (eL eS_mount_Mount))), dd, dd, .d (.v (.int .i64 v_size212)), dd, dd, dd, dd, dd, .d (.sl (v_slices211.map (eL eS_mount_Mount))), .d (.v (.int .i64 (v_slices211.length : Int))), .d (.v (.int .i64 v_x213)), dd, dd, dd, dd, dd, dd, dd, dd, dd, dd, dd, dd, dd, dd, dd, dd, dd, dd, dd, dd, dd, dd, dd, dd], []⟩
def G_slices_Concat_mount_Mount_mount_Mount_h_L1 (n : Nat) (v_slices211 : (List (List S_mount_Mount))) : Nat → Int → Int → Option G_slices_Concat_mount_Mount_mount_Mount_h_L1_R
  | 0, _, _ => none
  | k + 1, v_size212, v_x213 =>
    if v_x213 < (v_slices211.length : Int) then
     (getI v_slices211 v_x213).bind fun (v_y215 : (List S_mount_Mount)) =>
     if (wi .i64 (v_size212 + (v_y215.length : Int))) < 0 then
      none
     else
      G_slices_Concat_mount_Mount_mount_Mount_h_L1 n v_slices211 k (wi .i64 (v_size212 + (v_y215.length : Int))) (wi .i64 (v_x213 + 1))
    else
     some (.x0 v_size212)
theorem G_slices_Concat_mount_Mount_mount_Mount_h_L1_ok {Fi : Ex → PS → Prop} (hF : KC 36 Fi) (ks : List Fr) (n : Nat) (v_slices211 : (List (List S_mount_Mount)))  : ∀ (k : Nat) (v_size212 : Int) (v_x213 : Int) (o : G_slices_Concat_mount_Mount_mount_Mount_h_L1_R), G_slices_Concat_mount_Mount_mount_Mount_h_L1 n v_slices211 k v_size212 v_x213 = some o → RunE Try.prog 36 Fi ks (G_slices_Concat_mount_Mount_mount_Mount_h_L1_ex o) (G_slices_Concat_mount_Mount_mount_Mount_h_L1_st v_slices211 o) → RunE Try.prog 36 Fi (.l k (cP (cB (cR (cL (cR (cR (bodyOf Try.f48))))))) :: ks) .normal (G_slices_Concat_mount_Mount_mount_Mount_h_L1_hd v_slices211 v_size212 v_x213)
  | 0, v_size212, v_x213, o, h, q => by rw [G_slices_Concat_mount_Mount_mount_Mount_h_L1] at h; cases h
  | k + 1, v_size212, v_x213, o, h, q => by
    rw [G_slices_Concat_mount_Mount_mount_Mount_h_L1] at h
    by_cases h203 : v_x213 < (v_slices211.length : Int)
    · rw [if_pos h203] at h
      obtain ⟨v_y215, h206, h⟩ := bind_some h
      by_cases h207 : (wi .i64 (v_size212 + (v_y215.length : Int))) < 0
      · rw [if_pos h207] at h
        cases h
      · rw [if_neg h207] at h
        exact pkk_sound TTok mix hF 18 (hs := [.t true, .y ((eL eS_mount_Mount) v_y215), .c, .u (.d (.v (.int .i64 (v_y215.length : Int)))), .t false]) (ts := []) (s := []) (l := [0, 3, 9, 10, 11]) (by kernel_rfl) (by kernel_rfl) (.cons (dt h203) (.cons (getI_ob (f := (eL eS_mount_Mount)) h206) (.cons (len_ob (f := eS_mount_Mount) (l := v_y215)) (.cons (df h207) .nil)))) (G_slices_Concat_mount_Mount_mount_Mount_h_L1_ok hF ks n v_slices211 k (wi .i64 (v_size212 + (v_y215.length : Int))) (wi .i64 (v_x213 + 1)) _ h q)
    · rw [if_neg h203] at h
      cases h
      exact pkk_sound TTok mix hF 8 (hs := [.t false]) (ts := []) (s := []) (l := [0, 3]) (by kernel_rfl) (by kernel_rfl) (.cons (df h203) .nil) q
inductive G_slices_Concat_mount_Mount_mount_Mount_h_L2_R where
  | x0 (v_w231 : (List S_mount_Mount))
def G_slices_Concat_mount_Mount_mount_Mount_h_L2_ex : G_slices_Concat_mount_Mount_mount_Mount_h_L2_R → Ex
  | .x0 _ => .exit 2
def G_slices_Concat_mount_Mount_mount_Mount_h_L2_st (v_slices211 : (List (List S_mount_Mount))) : G_slices_Concat_mount_Mount_mount_Mount_h_L2_R → PS
  | .x0 v_w231 => ⟨[dd, dd, dd, dd, dd, dd, .srf 0, dd, dd, dd, dd, dd, dd, dd, dd, dd, dd, dd, dd, dd, dd, dd, dd, dd, dd, dd, dd, dd, dd, dd, dd, dd, dd, dd, dd, dd], [.row 78 2 (v_w231.map eS_mount_Mount)]⟩
def G_slices_Concat_mount_Mount_mount_Mount_h_L2_hd (v_slices211 : (List (List S_mount_Mount))) (v_x225 : Int) (v_w226 : (List S_mount_Mount)) : PS := ⟨[dd, dd, dd, dd, dd, dd, .srf 0, dd, dd, dd, dd, dd, dd, dd, dd, dd, dd, dd, dd, dd, dd, dd, dd, dd, dd, .d (.sl (v_slices211.map (eL eS_mount_Mount))), .d (.v (.int .i64 (v_slices211.length : Int))), .d (.v (.int .i64 v_x225)), dd, dd, dd, dd, dd, dd, dd, dd], [.row 78 2 (v_w226.map eS_mount_Mount)]⟩
def G_slices_Concat_mount_Mount_mount_Mount_h_L2 (n : Nat) (v_slices211 : (List (List S_mount_Mount))) : Nat → Int → (List S_mount_Mount) → Option G_slices_Concat_mount_Mount_mount_Mount_h_L2_R
  | 0, _, _ => none
  | k + 1, v_x225, v_w226 =>
    if v_x225 < (v_slices211.length : Int) then
     (getI v_slices211 v_x225).bind fun (v_y229 : (List S_mount_Mount)) =>
     (app 16 v_w226 v_y229).bind fun (v_a230 : (List S_mount_Mount)) =>
     G_slices_Concat_mount_Mount_mount_Mount_h_L2 n v_slices211 k (wi .i64 (v_x225 + 1)) v_a230
    else
     some (.x0 v_w226)
theorem G_slices_Concat_mount_Mount_mount_Mount_h_L2_ok {Fi : Ex → PS → Prop} (hF : KC 36 Fi) (ks : List Fr) (n : Nat) (v_slices211 : (List (List S_mount_Mount)))  : ∀ (k : Nat) (v_x225 : Int) (v_w226 : (List S_mount_Mount)) (o : G_slices_Concat_mount_Mount_mount_Mount_h_L2_R), G_slices_Concat_mount_Mount_mount_Mount_h_L2 n v_slices211 k v_x225 v_w226 = some o → RunE Try.prog 36 Fi ks (G_slices_Concat_mount_Mount_mount_Mount_h_L2_ex o) (G_slices_Concat_mount_Mount_mount_Mount_h_L2_st v_slices211 o) → RunE Try.prog 36 Fi (.l k (cP (cB (cR (cL (cR (cR (cR (cR (bodyOf Try.f48))))))))) :: ks) .normal (G_slices_Concat_mount_Mount_mount_Mount_h_L2_hd v_slices211 v_x225 v_w226)
  | 0, v_x225, v_w226, o, h, q => by rw [G_slices_Concat_mount_Mount_mount_Mount_h_L2] at h; cases h
  | k + 1, v_x225, v_w226, o, h, q => by
    rw [G_slices_Concat_mount_Mount_mount_Mount_h_L2] at h
    by_cases h217 : v_x225 < (v_slices211.length : Int)
    · rw [if_pos h217] at h
      obtain ⟨v_y229, h220, h⟩ := bind_some h
      obtain ⟨v_a230, h221, h⟩ := bind_some h
      exact pkk_sound TTok mix hF 13 (hs := [.t true, .y ((eL eS_mount_Mount) v_y229), .c, .w (v_a230.map eS_mount_Mount)]) (ts := []) (s := [19]) (l := [6, 25, 26, 27]) (by kernel_rfl) (by kernel_rfl) (.cons (dt h217) (.cons (getI_ob (f := (eL eS_mount_Mount)) h220) (.cons (app_ob (f := eS_mount_Mount) (s := 2) h221 (fun _ => rfl)).1 (.cons (app_ob (f := eS_mount_Mount) (s := 2) h221 (fun _ => rfl)).2.1 (.cons (app_ob (f := eS_mount_Mount) (s := 2) h221 (fun _ => rfl)).2.2.1 (.cons (app_ob (f := eS_mount_Mount) (s := 2) h221 (fun _ => rfl)).2.2.2 .nil)))))) (G_slices_Concat_mount_Mount_mount_Mount_h_L2_ok hF ks n v_slices211 k (wi .i64 (v_x225 + 1)) v_a230 _ h q)
    · rw [if_neg h217] at h
      cases h
      exact pkk_sound TTok mix hF 8 (hs := [.t false]) (ts := []) (s := [0]) (l := [6]) (by kernel_rfl) (by kernel_rfl) (.cons (df h217) .nil) q
/- slices.Concat[[]ringhall/mount.Mount,ringhall/mount.Mount] -/
def G_slices_Concat_mount_Mount_mount_Mount_h (n : Nat) (v_slices211 : (List (List S_mount_Mount))) : Option ((List S_mount_Mount)) :=
  (G_slices_Concat_mount_Mount_mount_Mount_h_L1 n v_slices211 n 0 0).bind fun v_o217 => match v_o217 with
  | .x0 v_z218 =>
    (G_slices_Grow_mount_Mount_mount_Mount_h n v_z218).bind fun (v_r224 : ((List S_mount_Mount))) =>
    (G_slices_Concat_mount_Mount_mount_Mount_h_L2 n v_slices211 n 0 v_r224).bind fun v_o232 => match v_o232 with
    | .x0 v_z233 =>
      some v_z233
theorem G_slices_Concat_mount_Mount_mount_Mount_h_ok (n : Nat) (v_slices211 : (List (List S_mount_Mount))) (r : (List S_mount_Mount)) (h : G_slices_Concat_mount_Mount_mount_Mount_h n v_slices211 = some r) : RetH Try.prog 48 [.d ((eL (eL eS_mount_Mount)) v_slices211)] [] (.srf 0) [.row 78 2 (r.map eS_mount_Mount)] := by
  refine retH_run (n := 36) (fn := Try.f48) (c := bodyOf Try.f48) (by kernel_rfl) (by kernel_rfl) (by kernel_rfl) (by kernel_rfl) ?_
  have hF : KC 36 (FinH Try.prog Try.f48 [] (.srf 0) [.row 78 2 (r.map eS_mount_Mount)]) := FinH.kc' (by kernel_rfl)
  unfold G_slices_Concat_mount_Mount_mount_Mount_h at h
  obtain ⟨v_o217, h208, h⟩ := bind_some h
  refine pkk_sound TTok mix hF 9 (hs := [.u (.d (.v (.int .i64 (v_slices211.length : Int)))), .n n]) (ts := []) (s := []) (l := [0, 3, 9, 10, 11]) (by kernel_rfl) (by kernel_rfl) (.cons (len_ob (f := (eL eS_mount_Mount)) (l := v_slices211)) .nil) (G_slices_Concat_mount_Mount_mount_Mount_h_L1_ok hF (.b 0 :: .s (cR (cR (cR (bodyOf Try.f48)))) :: []) n v_slices211 n 0 0 _ h208 ?_)
  cases v_o217 with
  | x0 v_z218 =>
    dsimp only at h
    obtain ⟨v_r224, h216, h⟩ := bind_some h
    obtain ⟨v_o232, h222, h⟩ := bind_some h
    refine pkk_sound TTok mix hF 8 (hs := [.h [] [false] [.row 78 2 (v_r224.map eS_mount_Mount)] (.srf 0), .u (.d (.v (.int .i64 (v_slices211.length : Int)))), .n n]) (ts := []) (s := [3]) (l := [6, 25, 26, 27]) (by kernel_rfl) (by kernel_rfl) (.cons (G_slices_Grow_mount_Mount_mount_Mount_h_ok n v_z218 _ h216) (.cons (len_ob (f := (eL eS_mount_Mount)) (l := v_slices211)) .nil)) (G_slices_Concat_mount_Mount_mount_Mount_h_L2_ok hF (.b 2 :: .s (cR (cR (cR (cR (cR (bodyOf Try.f48)))))) :: []) n v_slices211 n 0 v_r224 _ h222 ?_)
    cases v_o232 with
    | x0 v_z233 =>
      dsimp only at h
      obtain rfl := Option.some.inj h
      exact pendH_sound TTok mix 4 (hs := []) [0] (by kernel_rfl) (by kernel_rfl) (by kernel_rfl) .nil
inductive G_slices_Equal_mount_Mount_mount_Mount_L1_R where
  | x0 (v_x242 : Bool)
  | x1 
def G_slices_Equal_mount_Mount_mount_Mount_L1_ex : G_slices_Equal_mount_Mount_mount_Mount_L1_R → Ex
  | .x0 _ => .ret
  | .x1  => .exit 0
def G_slices_Equal_mount_Mount_mount_Mount_L1_st (v_s235 : (List S_mount_Mount)) (v_s236 : (List S_mount_Mount)) : G_slices_Equal_mount_Mount_mount_Mount_L1_R → PS
  | .x0 v_x242 => ⟨[dd, dd, dd, dd, .d (.v (.bool v_x242)), dd, dd, dd, dd, dd, dd, dd, dd, dd, dd, dd, dd, dd, dd, dd, dd, dd, dd, dd, dd, dd], []⟩
  | .x1  => ⟨[dd, dd, dd, dd, dd, dd, dd, dd, dd, dd, dd, dd, dd, dd, dd, dd, dd, dd, dd, dd, dd, dd, dd, dd, dd, dd], []⟩
def G_slices_Equal_mount_Mount_mount_Mount_L1_hd (v_s235 : (List S_mount_Mount)) (v_s236 : (List S_mount_Mount)) (v_x237 : Int) : PS := ⟨[.d (.sl (v_s235.map eS_mount_Mount)), .d (.sl (v_s236.map eS_mount_Mount)), dd, dd, dd, dd, dd, dd, dd, dd, dd, dd, .d (.v (.int .i64 (v_s235.length : Int))), .d (.v (.int .i64 v_x237)), dd, dd, dd, dd, dd, dd, dd, dd, dd, dd, dd, dd], []⟩
def G_slices_Equal_mount_Mount_mount_Mount_L1 (n : Nat) (v_s235 : (List S_mount_Mount)) (v_s236 : (List S_mount_Mount)) : Nat → Int → Option G_slices_Equal_mount_Mount_mount_Mount_L1_R
  | 0, _ => none
  | k + 1, v_x237 =>
    if v_x237 < (v_s235.length : Int) then
     (getI v_s235 v_x237).bind fun (v_y240 : S_mount_Mount) =>
     (getI v_s236 v_x237).bind fun (v_y241 : S_mount_Mount) =>
     if (eqRes .neq (eqS_mount_Mount v_y240 v_y241)) = true then
      some (.x0 false)
     else
      G_slices_Equal_mount_Mount_mount_Mount_L1 n v_s235 v_s236 k (wi .i64 (v_x237 + 1))
    else
     some (.x1 )
theorem G_slices_Equal_mount_Mount_mount_Mount_L1_ok {Fi : Ex → PS → Prop} (hF : KC 26 Fi) (ks : List Fr) (n : Nat) (v_s235 : (List S_mount_Mount)) (v_s236 : (List S_mount_Mount))  : ∀ (k : Nat) (v_x237 : Int) (o : G_slices_Equal_mount_Mount_mount_Mount_L1_R), G_slices_Equal_mount_Mount_mount_Mount_L1 n v_s235 v_s236 k v_x237 = some o → RunE Try.prog 26 Fi ks (G_slices_Equal_mount_Mount_mount_Mount_L1_ex o) (G_slices_Equal_mount_Mount_mount_Mount_L1_st v_s235 v_s236 o) → RunE Try.prog 26 Fi (.l k (cP (cB (cR (cL (cR (cR (bodyOf Try.f47))))))) :: ks) .normal (G_slices_Equal_mount_Mount_mount_Mount_L1_hd v_s235 v_s236 v_x237)
  | 0, v_x237, o, h, q => by rw [G_slices_Equal_mount_Mount_mount_Mount_L1] at h; cases h
  | k + 1, v_x237, o, h, q => by
    rw [G_slices_Equal_mount_Mount_mount_Mount_L1] at h
    by_cases h225 : v_x237 < (v_s235.length : Int)
    · rw [if_pos h225] at h
      obtain ⟨v_y240, h229, h⟩ := bind_some h
      obtain ⟨v_y241, h230, h⟩ := bind_some h
      by_cases h231 : (eqRes .neq (eqS_mount_Mount v_y240 v_y241)) = true
      · rw [if_pos h231] at h
        cases h
        exact pkk_sound TTok mix hF 19 (hs := [.t true, .y (eS_mount_Mount v_y240), .y (eS_mount_Mount v_y241), .q (eqS_mount_Mount v_y240 v_y241), .t true]) (ts := []) (s := []) (l := [4]) (by kernel_rfl) (by kernel_rfl) (.cons (dt h225) (.cons (getI_ob (f := eS_mount_Mount) h229) (.cons (getI_ob (f := eS_mount_Mount) h230) (.cons (eqS_mount_Mount_ok v_y240 v_y241) (.cons h231 .nil))))) q
      · rw [if_neg h231] at h
        exact pkk_sound TTok mix hF 16 (hs := [.t true, .y (eS_mount_Mount v_y240), .y (eS_mount_Mount v_y241), .q (eqS_mount_Mount v_y240 v_y241), .t false]) (ts := []) (s := []) (l := [0, 1, 12, 13]) (by kernel_rfl) (by kernel_rfl) (.cons (dt h225) (.cons (getI_ob (f := eS_mount_Mount) h229) (.cons (getI_ob (f := eS_mount_Mount) h230) (.cons (eqS_mount_Mount_ok v_y240 v_y241) (.cons (vf h231) .nil))))) (G_slices_Equal_mount_Mount_mount_Mount_L1_ok hF ks n v_s235 v_s236 k (wi .i64 (v_x237 + 1)) _ h q)
    · rw [if_neg h225] at h
      cases h
      exact pkk_sound TTok mix hF 8 (hs := [.t false]) (ts := []) (s := []) (l := []) (by kernel_rfl) (by kernel_rfl) (.cons (df h225) .nil) q
/- slices.Equal[[]ringhall/mount.Mount,ringhall/mount.Mount] -/
def G_slices_Equal_mount_Mount_mount_Mount (n : Nat) (v_s235 : (List S_mount_Mount)) (v_s236 : (List S_mount_Mount)) : Option (Bool) :=
  if (v_s235.length : Int) = (v_s236.length : Int) then
   (G_slices_Equal_mount_Mount_mount_Mount_L1 n v_s235 v_s236 n 0).bind fun v_o243 => match v_o243 with
   | .x0 v_z244 =>
     some v_z244
   | .x1  =>
     some true
  else
   some false
theorem G_slices_Equal_mount_Mount_mount_Mount_ok (n : Nat) (v_s235 : (List S_mount_Mount)) (v_s236 : (List S_mount_Mount)) (r : Bool) (h : G_slices_Equal_mount_Mount_mount_Mount n v_s235 v_s236 = some r) : Ret Try.prog 47 [(eL eS_mount_Mount) v_s235, (eL eS_mount_Mount) v_s236] (eB r) := by
  refine ret_run (n := 26) (fn := Try.f47) (c := bodyOf Try.f47) (by kernel_rfl) (by kernel_rfl) (by kernel_rfl) (by kernel_rfl) ?_
  have hF : KC 26 (FinR Try.prog Try.f47 (eB r)) := FinR.kc' (by kernel_rfl)
  unfold G_slices_Equal_mount_Mount_mount_Mount at h
  by_cases h224 : (v_s235.length : Int) = (v_s236.length : Int)
  · rw [if_pos h224] at h
    obtain ⟨v_o243, h232, h⟩ := bind_some h
    refine pkk_sound TTok mix hF 12 (hs := [.u (.d (.v (.int .i64 (v_s235.length : Int)))), .u (.d (.v (.int .i64 (v_s236.length : Int)))), .t false, .u (.d (.v (.int .i64 (v_s235.length : Int)))), .n n]) (ts := []) (s := []) (l := [0, 1, 12, 13]) (by kernel_rfl) (by kernel_rfl) (.cons (len_ob (f := eS_mount_Mount) (l := v_s235)) (.cons (len_ob (f := eS_mount_Mount) (l := v_s236)) (.cons (nf h224) (.cons (len_ob (f := eS_mount_Mount) (l := v_s235)) .nil)))) (G_slices_Equal_mount_Mount_mount_Mount_L1_ok hF (.b 0 :: .s (cR (cR (cR (bodyOf Try.f47)))) :: []) n v_s235 v_s236 n 0 _ h232 ?_)
    cases v_o243 with
    | x0 v_z244 =>
      dsimp only at h
      obtain rfl := Option.some.inj h
      exact pend_sound TTok mix 2 (hs := []) (by kernel_rfl) (by kernel_rfl) (by kernel_rfl) .nil
    | x1  =>
      dsimp only at h
      obtain rfl := Option.some.inj h
      exact pend_sound TTok mix 4 (hs := []) (by kernel_rfl) (by kernel_rfl) (by kernel_rfl) .nil
  · rw [if_neg h224] at h
    obtain rfl := Option.some.inj h
    exact pend_sound TTok mix 10 (hs := [.u (.d (.v (.int .i64 (v_s235.length : Int)))), .u (.d (.v (.int .i64 (v_s236.length : Int)))), .t true]) (by kernel_rfl) (by kernel_rfl) (by kernel_rfl) (.cons (len_ob (f := eS_mount_Mount) (l := v_s235)) (.cons (len_ob (f := eS_mount_Mount) (l := v_s236)) (.cons (nt h224) .nil)))
/- slices.Clone[[][2]int,[2]int] -/
def G_slices_Clone_2_int_2_int_A (n : Nat) (v_c267 : Nat) : Option ((List (Fin 2 → Int))) :=
  some ([] : List (Fin 2 → Int))
theorem G_slices_Clone_2_int_2_int_A_ok (n : Nat) (v_c267 : Nat) (r : (List (Fin 2 → Int))) (h : G_slices_Clone_2_int_2_int_A n v_c267 = some r) : RetH Try.prog 49 [.d (.v (.slice none 0 v_c267))] [] (.srf 0) [.row 79 2 (r.map (fun x => PV.agg [.v (.int .i64 (x 0)), .v (.int .i64 (x 1))]))] := by
  refine retH_run (n := 8) (fn := Try.f49) (c := bodyOf Try.f49) (by kernel_rfl) (by kernel_rfl) (by kernel_rfl) (by kernel_rfl) ?_
  have hF : KC 8 (FinH Try.prog Try.f49 [] (.srf 0) [.row 79 2 (r.map (fun x => PV.agg [.v (.int .i64 (x 0)), .v (.int .i64 (x 1))]))]) := FinH.kc' (by kernel_rfl)
  unfold G_slices_Clone_2_int_2_int_A at h
  obtain rfl := Option.some.inj h
  exact pendH_sound TTok mix 11 (hs := [.c, .dl 4, .th 2 79 2]) [12] (by kernel_rfl) (by kernel_rfl) (by kernel_rfl) .nil
/- slices.Clone[[][2]int,[2]int] -/
def G_slices_Clone_2_int_2_int_B (n : Nat) (v_a268 : Addr) (v_c269 : Nat) : Option ((List (Fin 2 → Int))) :=
  (app 16 ([] : List (Fin 2 → Int)) ([] : (List (Fin 2 → Int)))).bind fun (v_a270 : (List (Fin 2 → Int))) =>
  some v_a270
theorem G_slices_Clone_2_int_2_int_B_ok (n : Nat) (v_a268 : Addr) (v_c269 : Nat) (r : (List (Fin 2 → Int))) (h : G_slices_Clone_2_int_2_int_B n v_a268 v_c269 = some r) : RetH Try.prog 49 [.d (.v (.slice (some v_a268) 0 v_c269))] [] (.srf 0) [.row 79 2 (r.map (fun x => PV.agg [.v (.int .i64 (x 0)), .v (.int .i64 (x 1))]))] := by
  refine retH_run (n := 8) (fn := Try.f49) (c := bodyOf Try.f49) (by kernel_rfl) (by kernel_rfl) (by kernel_rfl) (by kernel_rfl) ?_
  have hF : KC 8 (FinH Try.prog Try.f49 [] (.srf 0) [.row 79 2 (r.map (fun x => PV.agg [.v (.int .i64 (x 0)), .v (.int .i64 (x 1))]))]) := FinH.kc' (by kernel_rfl)
  unfold G_slices_Clone_2_int_2_int_B at h
  obtain ⟨v_a270, h255, h⟩ := bind_some h
  obtain rfl := Option.some.inj h
  exact pendH_sound TTok mix 10 (hs := [.c, .w (([] : List (Fin 2 → Int)).map (fun x => PV.agg [.v (.int .i64 (x 0)), .v (.int .i64 (x 1))])), .w (v_a270.map (fun x => PV.agg [.v (.int .i64 (x 0)), .v (.int .i64 (x 1))]))]) [15] (by kernel_rfl) (by kernel_rfl) (by kernel_rfl) (.cons (Eq.refl (([] : List (Fin 2 → Int)).map (fun x => PV.agg [.v (.int .i64 (x 0)), .v (.int .i64 (x 1))]))) (.cons (app_ob (f := (fun x => PV.agg [.v (.int .i64 (x 0)), .v (.int .i64 (x 1))])) (s := 2) h255 (fun _ => rfl)).1 (.cons (app_ob (f := (fun x => PV.agg [.v (.int .i64 (x 0)), .v (.int .i64 (x 1))])) (s := 2) h255 (fun _ => rfl)).2.1 (.cons (app_ob (f := (fun x => PV.agg [.v (.int .i64 (x 0)), .v (.int .i64 (x 1))])) (s := 2) h255 (fun _ => rfl)).2.2.1 (.cons (app_ob (f := (fun x => PV.agg [.v (.int .i64 (x 0)), .v (.int .i64 (x 1))])) (s := 2) h255 (fun _ => rfl)).2.2.2 .nil)))))
/- slices.Clone[[][2]int,[2]int] -/
def G_slices_Clone_2_int_2_int_C (n : Nat) (v_y271 : (Fin 2 → Int)) (v_ys272 : (List (Fin 2 → Int))) : Option ((List (Fin 2 → Int))) :=
  (app 16 ([] : List (Fin 2 → Int)) (v_y271 :: v_ys272)).bind fun (v_a273 : (List (Fin 2 → Int))) =>
  some v_a273
theorem G_slices_Clone_2_int_2_int_C_ok (n : Nat) (v_y271 : (Fin 2 → Int)) (v_ys272 : (List (Fin 2 → Int))) (r : (List (Fin 2 → Int))) (h : G_slices_Clone_2_int_2_int_C n v_y271 v_ys272 = some r) : RetH Try.prog 49 [.d (.sl ((fun x => PV.agg [.v (.int .i64 (x 0)), .v (.int .i64 (x 1))]) v_y271 :: v_ys272.map (fun x => PV.agg [.v (.int .i64 (x 0)), .v (.int .i64 (x 1))])))] [] (.srf 0) [.row 79 2 (r.map (fun x => PV.agg [.v (.int .i64 (x 0)), .v (.int .i64 (x 1))]))] := by
  refine retH_run (n := 8) (fn := Try.f49) (c := bodyOf Try.f49) (by kernel_rfl) (by kernel_rfl) (by kernel_rfl) (by kernel_rfl) ?_
  have hF : KC 8 (FinH Try.prog Try.f49 [] (.srf 0) [.row 79 2 (r.map (fun x => PV.agg [.v (.int .i64 (x 0)), .v (.int .i64 (x 1))]))]) := FinH.kc' (by kernel_rfl)
  unfold G_slices_Clone_2_int_2_int_C at h
  obtain ⟨v_a273, h256, h⟩ := bind_some h
  obtain rfl := Option.some.inj h
  exact pendH_sound TTok mix 10 (hs := [.c, .w (([] : List (Fin 2 → Int)).map (fun x => PV.agg [.v (.int .i64 (x 0)), .v (.int .i64 (x 1))])), .w (v_a273.map (fun x => PV.agg [.v (.int .i64 (x 0)), .v (.int .i64 (x 1))]))]) [15] (by kernel_rfl) (by kernel_rfl) (by kernel_rfl) (.cons (Eq.refl (([] : List (Fin 2 → Int)).map (fun x => PV.agg [.v (.int .i64 (x 0)), .v (.int .i64 (x 1))]))) (.cons (app_ob (f := (fun x => PV.agg [.v (.int .i64 (x 0)), .v (.int .i64 (x 1))])) (s := 2) h256 (fun _ => rfl)).1 (.cons (app_ob (f := (fun x => PV.agg [.v (.int .i64 (x 0)), .v (.int .i64 (x 1))])) (s := 2) h256 (fun _ => rfl)).2.1 (.cons (app_ob (f := (fun x => PV.agg [.v (.int .i64 (x 0)), .v (.int .i64 (x 1))])) (s := 2) h256 (fun _ => rfl)).2.2.1 (.cons (app_ob (f := (fun x => PV.agg [.v (.int .i64 (x 0)), .v (.int .i64 (x 1))])) (s := 2) h256 (fun _ => rfl)).2.2.2 .nil)))))
def G_slices_Clone_2_int_2_int (n : Nat) (xs : (List (Fin 2 → Int))) : Option (List (Fin 2 → Int)) := app 16 [] xs
theorem G_slices_Clone_2_int_2_int_ok (n : Nat) (xs : (List (Fin 2 → Int))) (r : (List (Fin 2 → Int))) (h : G_slices_Clone_2_int_2_int n xs = some r) : RetH Try.prog 49 [.d (.sl (xs.map (fun x => PV.agg [.v (.int .i64 (x 0)), .v (.int .i64 (x 1))])))] [] (.srf 0) [.row 79 2 (r.map (fun x => PV.agg [.v (.int .i64 (x 0)), .v (.int .i64 (x 1))]))] := by
  unfold G_slices_Clone_2_int_2_int at h
  have e : app 16 ([] : (List (Fin 2 → Int))) [] = some [] := by simp [app]
  cases xs with
  | nil =>
    rw [e] at h; obtain rfl := Option.some.inj h
    exact clone_nil (fun c => G_slices_Clone_2_int_2_int_A_ok n c _ (by unfold G_slices_Clone_2_int_2_int_A; rfl)) (fun a c => G_slices_Clone_2_int_2_int_B_ok n a c _ (by unfold G_slices_Clone_2_int_2_int_B; rw [e]; rfl))
  | cons y ys => exact G_slices_Clone_2_int_2_int_C_ok n y ys _ (by unfold G_slices_Clone_2_int_2_int_C; rw [h]; rfl)
inductive G_slices_Equal_int_int_L1_R where
  | x0 (v_x325 : Bool)
  | x1 
def G_slices_Equal_int_int_L1_ex : G_slices_Equal_int_int_L1_R → Ex
  | .x0 _ => .ret
  | .x1  => .exit 0
def G_slices_Equal_int_int_L1_st (v_s318 : (List Int)) (v_s319 : (List Int)) : G_slices_Equal_int_int_L1_R → PS
  | .x0 v_x325 => ⟨[dd, dd, dd, dd, .d (.v (.bool v_x325)), dd, dd, dd, dd, dd, dd, dd, dd, dd, dd, dd, dd, dd, dd, dd, dd, dd, dd, dd, dd, dd], []⟩
  | .x1  => ⟨[dd, dd, dd, dd, dd, dd, dd, dd, dd, dd, dd, dd, dd, dd, dd, dd, dd, dd, dd, dd, dd, dd, dd, dd, dd, dd], []⟩
def G_slices_Equal_int_int_L1_hd (v_s318 : (List Int)) (v_s319 : (List Int)) (v_x320 : Int) : PS := ⟨[.d (.sl (v_s318.map (eI .i64))), .d (.sl (v_s319.map (eI .i64))), dd, dd, dd, dd, dd, dd, dd, dd, dd, dd, .d (.v (.int .i64 (v_s318.length : Int))), .d (.v (.int .i64 v_x320)), dd, dd, dd, dd, dd, dd, dd, dd, dd, dd, dd, dd], []⟩
def G_slices_Equal_int_int_L1 (n : Nat) (v_s318 : (List Int)) (v_s319 : (List Int)) : Nat → Int → Option G_slices_Equal_int_int_L1_R
  | 0, _ => none
  | k + 1, v_x320 =>
    if v_x320 < (v_s318.length : Int) then
     (getI v_s318 v_x320).bind fun (v_y323 : Int) =>
     (getI v_s319 v_x320).bind fun (v_y324 : Int) =>
     if v_y323 = v_y324 then
      G_slices_Equal_int_int_L1 n v_s318 v_s319 k (wi .i64 (v_x320 + 1))
     else
      some (.x0 false)
    else
     some (.x1 )
theorem G_slices_Equal_int_int_L1_ok {Fi : Ex → PS → Prop} (hF : KC 26 Fi) (ks : List Fr) (n : Nat) (v_s318 : (List Int)) (v_s319 : (List Int))  : ∀ (k : Nat) (v_x320 : Int) (o : G_slices_Equal_int_int_L1_R), G_slices_Equal_int_int_L1 n v_s318 v_s319 k v_x320 = some o → RunE Try.prog 26 Fi ks (G_slices_Equal_int_int_L1_ex o) (G_slices_Equal_int_int_L1_st v_s318 v_s319 o) → RunE Try.prog 26 Fi (.l k (cP (cB (cR (cL (cR (cR (bodyOf Try.f52))))))) :: ks) .normal (G_slices_Equal_int_int_L1_hd v_s318 v_s319 v_x320)
  | 0, v_x320, o, h, q => by rw [G_slices_Equal_int_int_L1] at h; cases h
  | k + 1, v_x320, o, h, q => by
    rw [G_slices_Equal_int_int_L1] at h
    by_cases h315 : v_x320 < (v_s318.length : Int)
    · rw [if_pos h315] at h
      obtain ⟨v_y323, h319, h⟩ := bind_some h
      obtain ⟨v_y324, h320, h⟩ := bind_some h
      by_cases h321 : v_y323 = v_y324
      · rw [if_pos h321] at h
        exact pkk_sound TTok mix hF 16 (hs := [.t true, .y ((eI .i64) v_y323), .c, .y ((eI .i64) v_y324), .c, .t false]) (ts := []) (s := []) (l := [0, 1, 12, 13]) (by kernel_rfl) (by kernel_rfl) (.cons (dt h315) (.cons (getI_ob (f := (eI .i64)) h319) (.cons (getI_ob (f := (eI .i64)) h320) (.cons (nf h321) .nil)))) (G_slices_Equal_int_int_L1_ok hF ks n v_s318 v_s319 k (wi .i64 (v_x320 + 1)) _ h q)
      · rw [if_neg h321] at h
        cases h
        exact pkk_sound TTok mix hF 19 (hs := [.t true, .y ((eI .i64) v_y323), .c, .y ((eI .i64) v_y324), .c, .t true]) (ts := []) (s := []) (l := [4]) (by kernel_rfl) (by kernel_rfl) (.cons (dt h315) (.cons (getI_ob (f := (eI .i64)) h319) (.cons (getI_ob (f := (eI .i64)) h320) (.cons (nt h321) .nil)))) q
    · rw [if_neg h315] at h
      cases h
      exact pkk_sound TTok mix hF 8 (hs := [.t false]) (ts := []) (s := []) (l := []) (by kernel_rfl) (by kernel_rfl) (.cons (df h315) .nil) q
/- slices.Equal[[]int,int] -/
def G_slices_Equal_int_int (n : Nat) (v_s318 : (List Int)) (v_s319 : (List Int)) : Option (Bool) :=
  if (v_s318.length : Int) = (v_s319.length : Int) then
   (G_slices_Equal_int_int_L1 n v_s318 v_s319 n 0).bind fun v_o326 => match v_o326 with
   | .x0 v_z327 =>
     some v_z327
   | .x1  =>
     some true
  else
   some false
theorem G_slices_Equal_int_int_ok (n : Nat) (v_s318 : (List Int)) (v_s319 : (List Int)) (r : Bool) (h : G_slices_Equal_int_int n v_s318 v_s319 = some r) : Ret Try.prog 52 [(eL (eI .i64)) v_s318, (eL (eI .i64)) v_s319] (eB r) := by
  refine ret_run (n := 26) (fn := Try.f52) (c := bodyOf Try.f52) (by kernel_rfl) (by kernel_rfl) (by kernel_rfl) (by kernel_rfl) ?_
  have hF : KC 26 (FinR Try.prog Try.f52 (eB r)) := FinR.kc' (by kernel_rfl)
  unfold G_slices_Equal_int_int at h
  by_cases h314 : (v_s318.length : Int) = (v_s319.length : Int)
  · rw [if_pos h314] at h
    obtain ⟨v_o326, h322, h⟩ := bind_some h
    refine pkk_sound TTok mix hF 12 (hs := [.u (.d (.v (.int .i64 (v_s318.length : Int)))), .u (.d (.v (.int .i64 (v_s319.length : Int)))), .t false, .u (.d (.v (.int .i64 (v_s318.length : Int)))), .n n]) (ts := []) (s := []) (l := [0, 1, 12, 13]) (by kernel_rfl) (by kernel_rfl) (.cons (len_ob (f := (eI .i64)) (l := v_s318)) (.cons (len_ob (f := (eI .i64)) (l := v_s319)) (.cons (nf h314) (.cons (len_ob (f := (eI .i64)) (l := v_s318)) .nil)))) (G_slices_Equal_int_int_L1_ok hF (.b 0 :: .s (cR (cR (cR (bodyOf Try.f52)))) :: []) n v_s318 v_s319 n 0 _ h322 ?_)
    cases v_o326 with
    | x0 v_z327 =>
      dsimp only at h
      obtain rfl := Option.some.inj h
      exact pend_sound TTok mix 2 (hs := []) (by kernel_rfl) (by kernel_rfl) (by kernel_rfl) .nil
    | x1  =>
      dsimp only at h
      obtain rfl := Option.some.inj h
      exact pend_sound TTok mix 4 (hs := []) (by kernel_rfl) (by kernel_rfl) (by kernel_rfl) .nil
  · rw [if_neg h314] at h
    obtain rfl := Option.some.inj h
    exact pend_sound TTok mix 10 (hs := [.u (.d (.v (.int .i64 (v_s318.length : Int)))), .u (.d (.v (.int .i64 (v_s319.length : Int)))), .t true]) (by kernel_rfl) (by kernel_rfl) (by kernel_rfl) (.cons (len_ob (f := (eI .i64)) (l := v_s318)) (.cons (len_ob (f := (eI .i64)) (l := v_s319)) (.cons (nt h314) .nil)))
inductive G_ringlaw5_MountSays_L1_R where
  | x0 (v_w113 : (List (Fin 2 → Int)))
def G_ringlaw5_MountSays_L1_ex : G_ringlaw5_MountSays_L1_R → Ex
  | .x0 _ => .exit 0
def G_ringlaw5_MountSays_L1_st (v_l1 : (List S_mount_Mount)) (v_n2 : Int) (v_root4 : Int) (v_r66 : (Int × Int)) (v_r81 : ((List S_mount_Mount) × Int)) (v_r91 : ((List S_mount_Mount) × Int)) (v_r106 : ((List Int) × Int)) (v_at3 : Int) : G_ringlaw5_MountSays_L1_R → PS
  | .x0 v_w113 => ⟨[.d (.sl (v_l1.map eS_mount_Mount)), .d (.v (.int .i64 v_n2)), dd, .d (.v (.int .i64 v_root4)), dd, dd, .ref 0 0, dd, dd, .d (.v (.int .i64 v_r66.1)), .d (.v (.int .i64 v_r66.2)), .d (.sl (v_r81.1.map eS_mount_Mount)), .d (.v (.int .i64 v_r81.2)), .d (.sl (v_r91.1.map eS_mount_Mount)), .d (.v (.int .i64 v_r91.2)), .d (.sl (v_r106.1.map (eI .i64))), .d (.v (.int .i64 v_r106.2)), .srf 1, dd, dd, dd, dd, dd, dd, dd, dd, dd, dd, dd, dd, dd, dd, dd, dd, dd, dd, dd, dd, dd, dd, dd, dd, dd, dd, dd, dd, dd, dd, dd, dd, dd, dd, dd, dd, dd, dd, dd, dd, dd, dd, dd, dd, dd, dd, dd, dd, dd, dd, dd, dd, dd, dd, dd, dd, dd, dd, dd, dd, dd, dd, dd, dd, dd, dd, dd, dd, dd, dd, dd, dd, dd, dd, dd, dd, dd, dd, dd, dd, dd, dd, dd, dd, dd, dd, dd, dd, dd, dd, dd, dd, dd, dd, dd, dd, dd, dd, dd, dd, dd, dd, dd, dd, dd, dd, dd, dd, dd, dd, dd, dd, dd, dd, dd, dd, dd, dd, dd, dd, dd, dd, dd, dd, dd, dd, dd, dd, dd, dd, dd, dd, dd, dd, dd, dd, dd, dd, dd, dd, dd, dd, dd, dd, dd, dd, dd, dd, dd, dd, dd, dd, dd, dd, dd, dd, dd, dd, dd, dd, dd, dd, dd, dd, dd, dd, dd, dd, dd, dd, dd, dd, dd, dd, dd, dd, dd, dd, dd, dd, dd, dd, dd, dd, dd, dd, dd, dd, dd, dd, dd, dd, dd, dd, dd, dd, dd, dd, dd, dd, dd, dd, dd, dd, dd, dd], [.box [.d (.v (.int .i64 v_at3))], .row 79 2 (v_w113.map (fun x => PV.agg [.v (.int .i64 (x 0)), .v (.int .i64 (x 1))]))]⟩
def G_ringlaw5_MountSays_L1_hd (v_l1 : (List S_mount_Mount)) (v_n2 : Int) (v_root4 : Int) (v_r66 : (Int × Int)) (v_r81 : ((List S_mount_Mount) × Int)) (v_r91 : ((List S_mount_Mount) × Int)) (v_r106 : ((List Int) × Int)) (v_at3 : Int) (v_x107 : Int) (v_w108 : (List (Fin 2 → Int))) : PS := ⟨[.d (.sl (v_l1.map eS_mount_Mount)), .d (.v (.int .i64 v_n2)), dd, .d (.v (.int .i64 v_root4)), dd, dd, .ref 0 0, dd, dd, .d (.v (.int .i64 v_r66.1)), .d (.v (.int .i64 v_r66.2)), .d (.sl (v_r81.1.map eS_mount_Mount)), .d (.v (.int .i64 v_r81.2)), .d (.sl (v_r91.1.map eS_mount_Mount)), .d (.v (.int .i64 v_r91.2)), .d (.sl (v_r106.1.map (eI .i64))), .d (.v (.int .i64 v_r106.2)), .srf 1, dd, dd, dd, dd, dd, dd, dd, dd, dd, dd, dd, dd, dd, dd, dd, dd, dd, dd, dd, dd, dd, dd, dd, dd, dd, dd, dd, dd, dd, dd, dd, .d (.sl (v_l1.map eS_mount_Mount)), .d (.v (.int .i64 (v_l1.length : Int))), .d (.v (.int .i64 v_x107)), dd, dd, dd, dd, dd, dd, dd, dd, dd, dd, dd, dd, dd, dd, dd, dd, dd, dd, dd, dd, dd, dd, dd, dd, dd, dd, dd, dd, dd, dd, dd, dd, dd, dd, dd, dd, dd, dd, dd, dd, dd, dd, dd, dd, dd, dd, dd, dd, dd, dd, dd, dd, dd, dd, dd, dd, dd, dd, dd, dd, dd, dd, dd, dd, dd, dd, dd, dd, dd, dd, dd, dd, dd, dd, dd, dd, dd, dd, dd, dd, dd, dd, dd, dd, dd, dd, dd, dd, dd, dd, dd, dd, dd, dd, dd, dd, dd, dd, dd, dd, dd, dd, dd, dd, dd, dd, dd, dd, dd, dd, dd, dd, dd, dd, dd, dd, dd, dd, dd, dd, dd, dd, dd, dd, dd, dd, dd, dd, dd, dd, dd, dd, dd, dd, dd, dd, dd, dd, dd, dd, dd, dd, dd, dd, dd, dd, dd, dd, dd, dd, dd, dd, dd, dd, dd, dd, dd, dd, dd, dd, dd, dd, dd, dd, dd, dd, dd, dd, dd, dd, dd, dd], [.box [.d (.v (.int .i64 v_at3))], .row 79 2 (v_w108.map (fun x => PV.agg [.v (.int .i64 (x 0)), .v (.int .i64 (x 1))]))]⟩
def G_ringlaw5_MountSays_L1 (n : Nat) (v_l1 : (List S_mount_Mount)) (v_n2 : Int) (v_root4 : Int) (v_r66 : (Int × Int)) (v_r81 : ((List S_mount_Mount) × Int)) (v_r91 : ((List S_mount_Mount) × Int)) (v_r106 : ((List Int) × Int)) (v_at3 : Int) : Nat → Int → (List (Fin 2 → Int)) → Option G_ringlaw5_MountSays_L1_R
  | 0, _, _ => none
  | k + 1, v_x107, v_w108 =>
    if v_x107 < (v_l1.length : Int) then
     (getI v_l1 v_x107).bind fun (v_y111 : S_mount_Mount) =>
     (app 16 v_w108 ([(fun i : Fin 2 => [v_y111.fAt, v_y111.fRoot].get i)])).bind fun (v_a112 : (List (Fin 2 → Int))) =>
     G_ringlaw5_MountSays_L1 n v_l1 v_n2 v_root4 v_r66 v_r81 v_r91 v_r106 v_at3 k (wi .i64 (v_x107 + 1)) v_a112
    else
     some (.x0 v_w108)
theorem G_ringlaw5_MountSays_L1_ok {Fi : Ex → PS → Prop} (hF : KC 224 Fi) (ks : List Fr) (n : Nat) (v_l1 : (List S_mount_Mount)) (v_n2 : Int) (v_root4 : Int) (v_r66 : (Int × Int)) (v_r81 : ((List S_mount_Mount) × Int)) (v_r91 : ((List S_mount_Mount) × Int)) (v_r106 : ((List Int) × Int)) (v_at3 : Int)  : ∀ (k : Nat) (v_x107 : Int) (v_w108 : (List (Fin 2 → Int))) (o : G_ringlaw5_MountSays_L1_R), G_ringlaw5_MountSays_L1 n v_l1 v_n2 v_root4 v_r66 v_r81 v_r91 v_r106 v_at3 k v_x107 v_w108 = some o → RunE Try.prog 224 Fi ks (G_ringlaw5_MountSays_L1_ex o) (G_ringlaw5_MountSays_L1_st v_l1 v_n2 v_root4 v_r66 v_r81 v_r91 v_r106 v_at3 o) → RunE Try.prog 224 Fi (.l k (cP (cB (cR (cL (cR (cR (cR (cR (cR (cR (bodyOf Try.f6))))))))))) :: ks) .normal (G_ringlaw5_MountSays_L1_hd v_l1 v_n2 v_root4 v_r66 v_r81 v_r91 v_r106 v_at3 v_x107 v_w108)
  | 0, v_x107, v_w108, o, h, q => by rw [G_ringlaw5_MountSays_L1] at h; cases h
  | k + 1, v_x107, v_w108, o, h, q => by
    rw [G_ringlaw5_MountSays_L1] at h
    by_cases h104 : v_x107 < (v_l1.length : Int)
    · rw [if_pos h104] at h
      obtain ⟨v_y111, h107, h⟩ := bind_some h
      obtain ⟨v_a112, h108, h⟩ := bind_some h
      exact pkk_sound TTok mix hF 13 (hs := [.t true, .y (eS_mount_Mount v_y111), .c, .c, .c, .bd, .w (v_a112.map (fun x => PV.agg [.v (.int .i64 (x 0)), .v (.int .i64 (x 1))]))]) (ts := []) (s := [0, 38]) (l := [0, 1, 3, 6, 9, 10, 11, 12, 13, 14, 15, 16, 17, 49, 50, 51]) (by kernel_rfl) (by kernel_rfl) (.cons (dt h104) (.cons (getI_ob (f := eS_mount_Mount) h107) (.cons (show 0 + 2 ≤ 2 by decide) (.cons (app_ob (f := (fun x => PV.agg [.v (.int .i64 (x 0)), .v (.int .i64 (x 1))])) (s := 2) h108 (fun _ => rfl)).1 (.cons (app_ob (f := (fun x => PV.agg [.v (.int .i64 (x 0)), .v (.int .i64 (x 1))])) (s := 2) h108 (fun _ => rfl)).2.1 (.cons (app_ob (f := (fun x => PV.agg [.v (.int .i64 (x 0)), .v (.int .i64 (x 1))])) (s := 2) h108 (fun _ => rfl)).2.2.1 (.cons (app_ob (f := (fun x => PV.agg [.v (.int .i64 (x 0)), .v (.int .i64 (x 1))])) (s := 2) h108 (fun _ => rfl)).2.2.2 .nil))))))) (G_ringlaw5_MountSays_L1_ok hF ks n v_l1 v_n2 v_root4 v_r66 v_r81 v_r91 v_r106 v_at3 k (wi .i64 (v_x107 + 1)) v_a112 _ h q)
    · rw [if_neg h104] at h
      cases h
      exact pkk_sound TTok mix hF 8 (hs := [.t false]) (ts := []) (s := [0, 1]) (l := [0, 1, 3, 6, 9, 10, 11, 12, 13, 14, 15, 16, 17]) (by kernel_rfl) (by kernel_rfl) (.cons (df h104) .nil) q
inductive G_ringlaw5_MountSays_C2_R where
  | x0 (v_x198 : Bool)
def G_ringlaw5_MountSays_C2_ex : G_ringlaw5_MountSays_C2_R → Ex
  | .x0 _ => .normal
def G_ringlaw5_MountSays_C2_st (v_r66 : (Int × Int)) (v_r81 : ((List S_mount_Mount) × Int)) (v_r91 : ((List S_mount_Mount) × Int)) (v_r106 : ((List Int) × Int)) (v_r188 : (Int)) : G_ringlaw5_MountSays_C2_R → PS
  | .x0 v_x198 => ⟨[dd, dd, dd, dd, dd, dd, dd, dd, .d (.v (.bool v_x198)), dd, dd, dd, dd, dd, dd, dd, dd, dd, dd, dd, dd, dd, dd, dd, dd, dd, dd, dd, dd, dd, dd, dd, dd, dd, dd, dd, dd, dd, dd, dd, dd, dd, dd, dd, dd, dd, dd, dd, dd, dd, dd, dd, dd, dd, dd, dd, dd, dd, dd, dd, dd, dd, dd, dd, dd, dd, dd, dd, dd, dd, dd, dd, dd, dd, dd, dd, dd, dd, dd, dd, dd, dd, dd, dd, dd, dd, dd, dd, dd, dd, dd, dd, dd, dd, dd, dd, dd, dd, dd, dd, dd, dd, dd, dd, dd, dd, dd, dd, dd, dd, dd, dd, dd, dd, dd, dd, dd, dd, dd, dd, dd, dd, dd, dd, dd, dd, dd, dd, dd, dd, dd, dd, dd, dd, dd, dd, dd, dd, dd, dd, dd, dd, dd, dd, dd, dd, dd, dd, dd, dd, dd, dd, dd, dd, dd, dd, dd, dd, dd, dd, dd, dd, dd, dd, dd, dd, dd, dd, dd, dd, dd, dd, dd, dd, dd, dd, dd, dd, dd, dd, dd, dd, dd, dd, dd, dd, dd, dd, dd, dd, dd, dd, dd, dd, dd, dd, dd, dd, dd, dd, dd, dd, dd, dd, dd, dd, dd, dd, dd, dd, dd, dd, dd, dd, dd, dd, dd, dd, dd, dd, dd, dd, dd, dd], []⟩
def G_ringlaw5_MountSays_C2_hd (v_r66 : (Int × Int)) (v_r81 : ((List S_mount_Mount) × Int)) (v_r91 : ((List S_mount_Mount) × Int)) (v_r106 : ((List Int) × Int)) (v_r188 : (Int))  : PS := ⟨[dd, dd, dd, dd, dd, dd, dd, dd, dd, .d (.v (.int .i64 v_r66.1)), .d (.v (.int .i64 v_r66.2)), .d (.sl (v_r81.1.map eS_mount_Mount)), .d (.v (.int .i64 v_r81.2)), .d (.sl (v_r91.1.map eS_mount_Mount)), .d (.v (.int .i64 v_r91.2)), .d (.sl (v_r106.1.map (eI .i64))), .d (.v (.int .i64 v_r106.2)), dd, dd, dd, .d (.v (.int .i64 v_r188)), dd, dd, dd, dd, dd, dd, dd, dd, dd, dd, dd, dd, dd, dd, dd, dd, dd, dd, dd, dd, dd, dd, dd, dd, dd, dd, dd, dd, dd, dd, dd, dd, dd, dd, dd, dd, dd, dd, dd, dd, dd, dd, dd, dd, dd, dd, dd, dd, dd, dd, dd, dd, dd, dd, dd, dd, dd, dd, dd, dd, dd, dd, dd, dd, dd, dd, dd, dd, dd, dd, dd, dd, dd, dd, dd, dd, dd, dd, dd, dd, dd, dd, dd, dd, dd, dd, dd, dd, dd, dd, dd, dd, dd, dd, dd, dd, dd, dd, dd, dd, dd, dd, dd, dd, dd, dd, dd, dd, dd, dd, dd, dd, dd, dd, dd, dd, dd, dd, dd, dd, dd, dd, dd, dd, dd, dd, dd, dd, dd, dd, dd, dd, dd, dd, dd, dd, dd, dd, dd, dd, dd, dd, dd, dd, dd, dd, dd, dd, dd, dd, dd, dd, dd, dd, dd, dd, dd, dd, dd, dd, dd, dd, dd, dd, dd, dd, dd, dd, dd, dd, dd, dd, dd, dd, dd, dd, dd, dd, dd, dd, dd, dd, dd, dd, dd, dd, dd, dd, dd, dd, dd, dd, dd, dd, dd, dd, dd, dd, dd, dd, dd, dd, dd], []⟩
def G_ringlaw5_MountSays_C2 (n : Nat) (v_r66 : (Int × Int)) (v_r81 : ((List S_mount_Mount) × Int)) (v_r91 : ((List S_mount_Mount) × Int)) (v_r106 : ((List Int) × Int)) (v_r188 : (Int)) : Option G_ringlaw5_MountSays_C2_R :=
  if v_r66.2 = v_r188 then
   if v_r81.2 = v_r188 then
    if v_r91.2 = v_r188 then
     if v_r106.2 = v_r188 then
      if v_r66.1 = 0 then
       some (.x0 ((wi .i64 ((wi .i64 ((v_r81.1.length : Int) + (v_r91.1.length : Int))) + (v_r106.1.length : Int))) == 0))
      else
       some (.x0 false)
     else
      some (.x0 false)
    else
     some (.x0 false)
   else
    some (.x0 false)
  else
   some (.x0 false)
theorem G_ringlaw5_MountSays_C2_ok {Fi : Ex → PS → Prop} (hF : KC 224 Fi) (ks : List Fr) (n : Nat) (v_r66 : (Int × Int)) (v_r81 : ((List S_mount_Mount) × Int)) (v_r91 : ((List S_mount_Mount) × Int)) (v_r106 : ((List Int) × Int)) (v_r188 : (Int))  (o : G_ringlaw5_MountSays_C2_R) (h : G_ringlaw5_MountSays_C2 n v_r66 v_r81 v_r91 v_r106 v_r188 = some o) (q : RunE Try.prog 224 Fi ks (G_ringlaw5_MountSays_C2_ex o) (G_ringlaw5_MountSays_C2_st v_r66 v_r81 v_r91 v_r106 v_r188 o)) : RunE Try.prog 224 Fi (.s (cL (cT (cR (cL (cR (cR (cR (cR (cR (cR (cR (cR (cR (bodyOf Try.f6)))))))))))))) :: ks) .normal (G_ringlaw5_MountSays_C2_hd v_r66 v_r81 v_r91 v_r106 v_r188) := by
  unfold G_ringlaw5_MountSays_C2 at h
  by_cases h190 : v_r66.2 = v_r188
  · rw [if_pos h190] at h
    by_cases h191 : v_r81.2 = v_r188
    · rw [if_pos h191] at h
      by_cases h192 : v_r91.2 = v_r188
      · rw [if_pos h192] at h
        by_cases h193 : v_r106.2 = v_r188
        · rw [if_pos h193] at h
          by_cases h194 : v_r66.1 = 0
          · rw [if_pos h194] at h
            cases h
            exact pkk_sound TTok mix hF 1 (hs := [.t true, .c, .c, .t true, .c, .c, .t true, .c, .c, .t true, .c, .t true, .c, .u (.d (.v (.int .i64 (v_r81.1.length : Int)))), .c, .c, .u (.d (.v (.int .i64 (v_r91.1.length : Int)))), .c, .c, .c, .u (.d (.v (.int .i64 (v_r106.1.length : Int)))), .c, .c]) (ts := []) (s := []) (l := [8]) (by kernel_rfl) (by kernel_rfl) (.cons (bt h190) (.cons (bt h191) (.cons (bt h192) (.cons (bt h193) (.cons (bt h194) (.cons (len_ob (f := eS_mount_Mount) (l := v_r81.1)) (.cons (len_ob (f := eS_mount_Mount) (l := v_r91.1)) (.cons (len_ob (f := (eI .i64)) (l := v_r106.1)) .nil)))))))) q
          · rw [if_neg h194] at h
            cases h
            exact pkk_sound TTok mix hF 1 (hs := [.t true, .c, .c, .t true, .c, .c, .t true, .c, .c, .t true, .c, .t false, .c, .c, .c, .c, .c, .c, .c, .c]) (ts := []) (s := []) (l := [8]) (by kernel_rfl) (by kernel_rfl) (.cons (bt h190) (.cons (bt h191) (.cons (bt h192) (.cons (bt h193) (.cons (bf h194) .nil))))) q
        · rw [if_neg h193] at h
          cases h
          exact pkk_sound TTok mix hF 1 (hs := [.t true, .c, .c, .t true, .c, .c, .t true, .c, .c, .t false, .c, .c, .c, .c, .c, .c, .c, .c, .c, .c]) (ts := []) (s := []) (l := [8]) (by kernel_rfl) (by kernel_rfl) (.cons (bt h190) (.cons (bt h191) (.cons (bt h192) (.cons (bf h193) .nil)))) q
      · rw [if_neg h192] at h
        cases h
        exact pkk_sound TTok mix hF 1 (hs := [.t true, .c, .c, .t true, .c, .c, .t false, .c, .c, .c, .c, .c, .c, .c, .c, .c, .c, .c, .c, .c]) (ts := []) (s := []) (l := [8]) (by kernel_rfl) (by kernel_rfl) (.cons (bt h190) (.cons (bt h191) (.cons (bf h192) .nil))) q
    · rw [if_neg h191] at h
      cases h
      exact pkk_sound TTok mix hF 1 (hs := [.t true, .c, .c, .t false, .c, .c, .c, .c, .c, .c, .c, .c, .c, .c, .c, .c, .c, .c, .c, .c]) (ts := []) (s := []) (l := [8]) (by kernel_rfl) (by kernel_rfl) (.cons (bt h190) (.cons (bf h191) .nil)) q
  · rw [if_neg h190] at h
    cases h
    exact pkk_sound TTok mix hF 1 (hs := [.t false, .c, .c, .c, .c, .c, .c, .c, .c, .c, .c, .c, .c, .c, .c, .c, .c, .c, .c, .c]) (ts := []) (s := []) (l := [8]) (by kernel_rfl) (by kernel_rfl) (.cons (bf h190) .nil) q
inductive G_ringlaw5_MountSays_C3_R where
  | x0 (v_x250 : Bool)
  | x1 (v_w252 : (List (Fin 2 → Int)))
def G_ringlaw5_MountSays_C3_ex : G_ringlaw5_MountSays_C3_R → Ex
  | .x0 _ => .ret
  | .x1 _ => .normal
def G_ringlaw5_MountSays_C3_st (v_l1 : (List S_mount_Mount)) (v_n2 : Int) (v_root4 : Int) (v_r66 : (Int × Int)) (v_r81 : ((List S_mount_Mount) × Int)) (v_r91 : ((List S_mount_Mount) × Int)) (v_r106 : ((List Int) × Int)) (v_r208 : (Int)) (v_at3 : Int) (v_z115 : (List (Fin 2 → Int))) : G_ringlaw5_MountSays_C3_R → PS
  | .x0 v_x250 => ⟨[dd, dd, dd, dd, dd, dd, dd, dd, .d (.v (.bool v_x250)), dd, dd, dd, dd, dd, dd, dd, dd, dd, dd, dd, dd, dd, dd, dd, dd, dd, dd, dd, dd, dd, dd, dd, dd, dd, dd, dd, dd, dd, dd, dd, dd, dd, dd, dd, dd, dd, dd, dd, dd, dd, dd, dd, dd, dd, dd, dd, dd, dd, dd, dd, dd, dd, dd, dd, dd, dd, dd, dd, dd, dd, dd, dd, dd, dd, dd, dd, dd, dd, dd, dd, dd, dd, dd, dd, dd, dd, dd, dd, dd, dd, dd, dd, dd, dd, dd, dd, dd, dd, dd, dd, dd, dd, dd, dd, dd, dd, dd, dd, dd, dd, dd, dd, dd, dd, dd, dd, dd, dd, dd, dd, dd, dd, dd, dd, dd, dd, dd, dd, dd, dd, dd, dd, dd, dd, dd, dd, dd, dd, dd, dd, dd, dd, dd, dd, dd, dd, dd, dd, dd, dd, dd, dd, dd, dd, dd, dd, dd, dd, dd, dd, dd, dd, dd, dd, dd, dd, dd, dd, dd, dd, dd, dd, dd, dd, dd, dd, dd, dd, dd, dd, dd, dd, dd, dd, dd, dd, dd, dd, dd, dd, dd, dd, dd, dd, dd, dd, dd, dd, dd, dd, dd, dd, dd, dd, dd, dd, dd, dd, dd, dd, dd, dd, dd, dd, dd, dd, dd, dd, dd, dd, dd, dd, dd, dd], []⟩
  | .x1 v_w252 => ⟨[.d (.sl (v_l1.map eS_mount_Mount)), .d (.v (.int .i64 v_n2)), dd, .d (.v (.int .i64 v_root4)), dd, dd, .ref 0 0, dd, dd, .d (.v (.int .i64 v_r66.1)), .d (.v (.int .i64 v_r66.2)), .d (.sl (v_r81.1.map eS_mount_Mount)), .d (.v (.int .i64 v_r81.2)), dd, dd, .d (.sl (v_r106.1.map (eI .i64))), .d (.v (.int .i64 v_r106.2)), .srf 1, dd, dd, dd, dd, dd, dd, dd, dd, dd, dd, dd, dd, dd, dd, dd, dd, dd, dd, dd, dd, dd, dd, dd, dd, dd, dd, dd, dd, dd, dd, dd, dd, dd, dd, dd, dd, dd, dd, dd, dd, dd, dd, dd, dd, dd, dd, dd, dd, dd, dd, dd, dd, dd, dd, dd, dd, dd, dd, dd, dd, dd, dd, dd, dd, dd, dd, dd, dd, dd, dd, dd, dd, dd, dd, dd, dd, dd, dd, dd, dd, dd, dd, dd, dd, dd, dd, dd, dd, dd, dd, dd, dd, dd, dd, dd, dd, dd, dd, dd, dd, dd, dd, dd, dd, dd, dd, dd, dd, dd, dd, dd, dd, dd, dd, dd, dd, dd, dd, dd, dd, dd, dd, dd, dd, dd, dd, dd, dd, dd, dd, dd, dd, dd, dd, dd, dd, dd, dd, dd, dd, dd, dd, dd, dd, dd, dd, dd, dd, dd, dd, dd, dd, dd, dd, dd, dd, dd, dd, dd, dd, dd, dd, dd, dd, dd, dd, dd, dd, dd, dd, dd, dd, dd, dd, dd, dd, dd, dd, dd, dd, dd, dd, dd, dd, dd, dd, dd, dd, dd, dd, dd, dd, dd, dd, dd, dd, dd, dd, dd, dd, dd, dd, dd, dd, dd, dd], [.box [.d (.v (.int .i64 v_at3))], .row 79 2 (v_w252.map (fun x => PV.agg [.v (.int .i64 (x 0)), .v (.int .i64 (x 1))]))]⟩
def G_ringlaw5_MountSays_C3_hd (v_l1 : (List S_mount_Mount)) (v_n2 : Int) (v_root4 : Int) (v_r66 : (Int × Int)) (v_r81 : ((List S_mount_Mount) × Int)) (v_r91 : ((List S_mount_Mount) × Int)) (v_r106 : ((List Int) × Int)) (v_r208 : (Int)) (v_at3 : Int) (v_z115 : (List (Fin 2 → Int)))  : PS := ⟨[.d (.sl (v_l1.map eS_mount_Mount)), .d (.v (.int .i64 v_n2)), dd, .d (.v (.int .i64 v_root4)), dd, dd, .ref 0 0, dd, dd, .d (.v (.int .i64 v_r66.1)), .d (.v (.int .i64 v_r66.2)), .d (.sl (v_r81.1.map eS_mount_Mount)), .d (.v (.int .i64 v_r81.2)), .d (.sl (v_r91.1.map eS_mount_Mount)), .d (.v (.int .i64 v_r91.2)), .d (.sl (v_r106.1.map (eI .i64))), .d (.v (.int .i64 v_r106.2)), .srf 1, dd, dd, dd, .d (.v (.int .i64 v_r208)), dd, dd, dd, dd, dd, dd, dd, dd, dd, dd, dd, dd, dd, dd, dd, dd, dd, dd, dd, dd, dd, dd, dd, dd, dd, dd, dd, dd, dd, dd, dd, dd, dd, dd, dd, dd, dd, dd, dd, dd, dd, dd, dd, dd, dd, dd, dd, dd, dd, dd, dd, dd, dd, dd, dd, dd, dd, dd, dd, dd, dd, dd, dd, dd, dd, dd, dd, dd, dd, dd, dd, dd, dd, dd, dd, dd, dd, dd, dd, dd, dd, dd, dd, dd, dd, dd, dd, .d (.v (.bool (decide (v_r208 < 0)))), dd, dd, dd, dd, dd, dd, dd, dd, dd, dd, dd, dd, dd, dd, dd, dd, dd, dd, dd, dd, dd, dd, dd, dd, dd, dd, dd, dd, dd, dd, dd, dd, dd, dd, dd, dd, dd, dd, dd, dd, dd, dd, dd, dd, dd, dd, dd, dd, dd, dd, dd, dd, dd, dd, dd, dd, dd, dd, dd, dd, dd, dd, dd, dd, dd, dd, dd, dd, dd, dd, dd, dd, dd, dd, dd, dd, dd, dd, dd, dd, dd, dd, dd, dd, dd, dd, dd, dd, dd, dd, dd, dd, dd, dd, dd, dd, dd, dd, dd, dd, dd, dd, dd, dd, dd, dd, dd, dd, dd, dd, dd, dd, dd, dd], [.box [.d (.v (.int .i64 v_at3))], .row 79 2 (v_z115.map (fun x => PV.agg [.v (.int .i64 (x 0)), .v (.int .i64 (x 1))]))]⟩
def G_ringlaw5_MountSays_C3 (n : Nat) (v_l1 : (List S_mount_Mount)) (v_n2 : Int) (v_root4 : Int) (v_r66 : (Int × Int)) (v_r81 : ((List S_mount_Mount) × Int)) (v_r91 : ((List S_mount_Mount) × Int)) (v_r106 : ((List Int) × Int)) (v_r208 : (Int)) (v_at3 : Int) (v_z115 : (List (Fin 2 → Int))) : Option G_ringlaw5_MountSays_C3_R :=
  if v_r208 < 0 then
   if v_r91.2 = 4 then
    if (v_r91.1.length : Int) > 0 then
     some (.x0 false)
    else
     some (.x1 v_z115)
   else
    some (.x0 false)
  else
   if v_r91.2 = 0 then
    (sub v_l1 0 v_r208).bind fun (v_s258 : (List S_mount_Mount)) =>
    (sub v_l1 (wi .i64 (v_r208 + 1)) (v_l1.length : Int)).bind fun (v_s259 : (List S_mount_Mount)) =>
    (G_slices_Concat_mount_Mount_mount_Mount_h n ([v_s258, v_s259])).bind fun (v_r260 : ((List S_mount_Mount))) =>
    (G_slices_Equal_mount_Mount_mount_Mount n v_r91.1 v_r260).bind fun (v_r261 : (Bool)) =>
    if v_r261 = true then
     some (.x1 v_z115)
    else
     some (.x0 false)
   else
    some (.x0 false)
theorem G_ringlaw5_MountSays_C3_ok {Fi : Ex → PS → Prop} (hF : KC 224 Fi) (ks : List Fr) (n : Nat) (v_l1 : (List S_mount_Mount)) (v_n2 : Int) (v_root4 : Int) (v_r66 : (Int × Int)) (v_r81 : ((List S_mount_Mount) × Int)) (v_r91 : ((List S_mount_Mount) × Int)) (v_r106 : ((List Int) × Int)) (v_r208 : (Int)) (v_at3 : Int) (v_z115 : (List (Fin 2 → Int)))  (o : G_ringlaw5_MountSays_C3_R) (h : G_ringlaw5_MountSays_C3 n v_l1 v_n2 v_root4 v_r66 v_r81 v_r91 v_r106 v_r208 v_at3 v_z115 = some o) (q : RunE Try.prog 224 Fi ks (G_ringlaw5_MountSays_C3_ex o) (G_ringlaw5_MountSays_C3_st v_l1 v_n2 v_root4 v_r66 v_r81 v_r91 v_r106 v_r208 v_at3 v_z115 o)) : RunE Try.prog 224 Fi (.s (cR (cR (cL (cR (cR (cR (cR (cR (cR (cR (cR (cR (cR (bodyOf Try.f6)))))))))))))) :: ks) .normal (G_ringlaw5_MountSays_C3_hd v_l1 v_n2 v_root4 v_r66 v_r81 v_r91 v_r106 v_r208 v_at3 v_z115) := by
  unfold G_ringlaw5_MountSays_C3 at h
  by_cases h240 : v_r208 < 0
  · rw [if_pos h240] at h
    by_cases h241 : v_r91.2 = 4
    · rw [if_pos h241] at h
      by_cases h242 : (v_r91.1.length : Int) > 0
      · rw [if_pos h242] at h
        cases h
        exact pkk_sound TTok mix hF 7 (hs := [.t true, .t false, .c, .u (.d (.v (.int .i64 (v_r91.1.length : Int)))), .c, .t true]) (ts := []) (s := []) (l := [8]) (by kernel_rfl) (by kernel_rfl) (.cons (dt h240) (.cons (nf h241) (.cons (len_ob (f := eS_mount_Mount) (l := v_r91.1)) (.cons (dt h242) .nil)))) q
      · rw [if_neg h242] at h
        cases h
        exact pkk_sound TTok mix hF 5 (hs := [.t true, .t false, .c, .u (.d (.v (.int .i64 (v_r91.1.length : Int)))), .c, .t false]) (ts := []) (s := [0, 1]) (l := [0, 1, 3, 6, 9, 10, 11, 12, 15, 16, 17]) (by kernel_rfl) (by kernel_rfl) (.cons (dt h240) (.cons (nf h241) (.cons (len_ob (f := eS_mount_Mount) (l := v_r91.1)) (.cons (df h242) .nil)))) q
    · rw [if_neg h241] at h
      cases h
      exact pkk_sound TTok mix hF 7 (hs := [.t true, .t true, .c, .c, .c]) (ts := []) (s := []) (l := [8]) (by kernel_rfl) (by kernel_rfl) (.cons (dt h240) (.cons (nt h241) .nil)) q
  · rw [if_neg h240] at h
    by_cases h248 : v_r91.2 = 0
    · rw [if_pos h248] at h
      obtain ⟨v_s258, h249, h⟩ := bind_some h
      obtain ⟨v_s259, h250, h⟩ := bind_some h
      obtain ⟨v_r260, h251, h⟩ := bind_some h
      obtain ⟨v_r261, h252, h⟩ := bind_some h
      by_cases h253 : v_r261 = true
      · rw [if_pos h253] at h
        cases h
        exact pkk_sound TTok mix hF 5 (hs := [.t false, .t false, .c, .c, .c, .w (v_s258.map eS_mount_Mount), .c, .c, .c, .c, .w (v_s259.map eS_mount_Mount), .c, .bd, .c, .h [] [] [.row 78 2 (v_r260.map eS_mount_Mount)] (.srf 0), .c, .c, .r (eB v_r261), .c, .t false]) (ts := []) (s := [0, 1]) (l := [0, 1, 3, 6, 9, 10, 11, 12, 15, 16, 17]) (by kernel_rfl) (by kernel_rfl) (.cons (df h240) (.cons (nf h248) (.cons (sub_ob (f := eS_mount_Mount) (s := 2) h249 (fun _ => rfl)).1 (.cons (sub_ob (f := eS_mount_Mount) (s := 2) h249 (fun _ => rfl)).2.1 (.cons (sub_ob (f := eS_mount_Mount) (s := 2) h249 (fun _ => rfl)).2.2.1 (.cons (sub_ob (f := eS_mount_Mount) (s := 2) h249 (fun _ => rfl)).2.2.2.1 (.cons (sub_ob (f := eS_mount_Mount) (s := 2) h249 (fun _ => rfl)).2.2.2.2 (.cons (sub_ob' (f := eS_mount_Mount) (s := 2) h250 (fun _ => rfl)).1 (.cons (sub_ob' (f := eS_mount_Mount) (s := 2) h250 (fun _ => rfl)).2.1 (.cons (sub_ob' (f := eS_mount_Mount) (s := 2) h250 (fun _ => rfl)).2.2.1 (.cons (sub_ob' (f := eS_mount_Mount) (s := 2) h250 (fun _ => rfl)).2.2.2.1 (.cons (sub_ob' (f := eS_mount_Mount) (s := 2) h250 (fun _ => rfl)).2.2.2.2 (.cons (G_slices_Concat_mount_Mount_mount_Mount_h_ok n ([v_s258, v_s259]) _ h251) (.cons (G_slices_Equal_mount_Mount_mount_Mount_ok n v_r91.1 v_r260 _ h252) (.cons (bnf h253) .nil))))))))))))))) q
      · rw [if_neg h253] at h
        cases h
        exact pkk_sound TTok mix hF 7 (hs := [.t false, .t false, .c, .c, .c, .w (v_s258.map eS_mount_Mount), .c, .c, .c, .c, .w (v_s259.map eS_mount_Mount), .c, .bd, .c, .h [] [] [.row 78 2 (v_r260.map eS_mount_Mount)] (.srf 0), .c, .c, .r (eB v_r261), .c, .t true]) (ts := []) (s := []) (l := [8]) (by kernel_rfl) (by kernel_rfl) (.cons (df h240) (.cons (nf h248) (.cons (sub_ob (f := eS_mount_Mount) (s := 2) h249 (fun _ => rfl)).1 (.cons (sub_ob (f := eS_mount_Mount) (s := 2) h249 (fun _ => rfl)).2.1 (.cons (sub_ob (f := eS_mount_Mount) (s := 2) h249 (fun _ => rfl)).2.2.1 (.cons (sub_ob (f := eS_mount_Mount) (s := 2) h249 (fun _ => rfl)).2.2.2.1 (.cons (sub_ob (f := eS_mount_Mount) (s := 2) h249 (fun _ => rfl)).2.2.2.2 (.cons (sub_ob' (f := eS_mount_Mount) (s := 2) h250 (fun _ => rfl)).1 (.cons (sub_ob' (f := eS_mount_Mount) (s := 2) h250 (fun _ => rfl)).2.1 (.cons (sub_ob' (f := eS_mount_Mount) (s := 2) h250 (fun _ => rfl)).2.2.1 (.cons (sub_ob' (f := eS_mount_Mount) (s := 2) h250 (fun _ => rfl)).2.2.2.1 (.cons (sub_ob' (f := eS_mount_Mount) (s := 2) h250 (fun _ => rfl)).2.2.2.2 (.cons (G_slices_Concat_mount_Mount_mount_Mount_h_ok n ([v_s258, v_s259]) _ h251) (.cons (G_slices_Equal_mount_Mount_mount_Mount_ok n v_r91.1 v_r260 _ h252) (.cons (bnt (vf h253)) .nil))))))))))))))) q
    · rw [if_neg h248] at h
      cases h
      exact pkk_sound TTok mix hF 7 (hs := [.t false, .t true, .c, .c, .c, .c, .c, .c, .c, .c, .c, .c, .c, .c]) (ts := []) (s := []) (l := [8]) (by kernel_rfl) (by kernel_rfl) (.cons (df h240) (.cons (nt h248) .nil)) q
inductive G_ringlaw5_MountSays_C4_R where
  | x0 (v_x277 : Bool)
def G_ringlaw5_MountSays_C4_ex : G_ringlaw5_MountSays_C4_R → Ex
  | .x0 _ => .normal
def G_ringlaw5_MountSays_C4_st (v_l1 : (List S_mount_Mount)) (v_n2 : Int) (v_root4 : Int) (v_r66 : (Int × Int)) (v_r81 : ((List S_mount_Mount) × Int)) (v_r106 : ((List Int) × Int)) (v_z266 : (List (Fin 2 → Int))) (v_at3 : Int) : G_ringlaw5_MountSays_C4_R → PS
  | .x0 v_x277 => ⟨[dd, .d (.v (.int .i64 v_n2)), dd, dd, dd, dd, dd, dd, dd, .d (.v (.int .i64 v_r66.1)), .d (.v (.int .i64 v_r66.2)), dd, dd, dd, dd, .d (.sl (v_r106.1.map (eI .i64))), .d (.v (.int .i64 v_r106.2)), .d (.sl (v_z266.map (fun x => PV.agg [.v (.int .i64 (x 0)), .v (.int .i64 (x 1))]))), dd, dd, dd, dd, dd, dd, dd, dd, dd, dd, dd, dd, dd, dd, dd, dd, dd, dd, dd, dd, dd, dd, dd, dd, dd, dd, dd, dd, dd, dd, dd, dd, dd, dd, dd, dd, dd, dd, dd, dd, dd, dd, dd, dd, dd, dd, dd, dd, dd, dd, dd, dd, dd, dd, dd, dd, dd, dd, dd, dd, dd, dd, dd, dd, dd, dd, dd, dd, dd, dd, dd, dd, dd, dd, dd, dd, dd, dd, dd, dd, dd, dd, dd, dd, dd, dd, dd, dd, dd, dd, dd, dd, dd, dd, dd, dd, dd, dd, dd, dd, dd, dd, dd, dd, dd, dd, dd, dd, dd, dd, dd, dd, dd, dd, dd, dd, dd, dd, dd, dd, dd, dd, dd, dd, dd, dd, dd, dd, dd, dd, dd, dd, dd, dd, dd, dd, dd, dd, dd, dd, dd, dd, dd, dd, dd, dd, dd, dd, dd, dd, dd, dd, .d (.v (.bool v_x277)), dd, dd, dd, dd, dd, dd, dd, dd, dd, dd, dd, dd, dd, dd, dd, dd, dd, dd, dd, dd, dd, dd, dd, dd, dd, dd, dd, dd, dd, dd, dd, dd, dd, dd, dd, dd, dd, dd, dd, dd, dd, dd, dd, dd, dd, dd, dd, dd, dd, dd, dd, dd, dd], []⟩
def G_ringlaw5_MountSays_C4_hd (v_l1 : (List S_mount_Mount)) (v_n2 : Int) (v_root4 : Int) (v_r66 : (Int × Int)) (v_r81 : ((List S_mount_Mount) × Int)) (v_r106 : ((List Int) × Int)) (v_z266 : (List (Fin 2 → Int))) (v_at3 : Int)  : PS := ⟨[.d (.sl (v_l1.map eS_mount_Mount)), .d (.v (.int .i64 v_n2)), dd, .d (.v (.int .i64 v_root4)), dd, dd, .ref 0 0, dd, dd, .d (.v (.int .i64 v_r66.1)), .d (.v (.int .i64 v_r66.2)), .d (.sl (v_r81.1.map eS_mount_Mount)), .d (.v (.int .i64 v_r81.2)), dd, dd, .d (.sl (v_r106.1.map (eI .i64))), .d (.v (.int .i64 v_r106.2)), .d (.sl (v_z266.map (fun x => PV.agg [.v (.int .i64 (x 0)), .v (.int .i64 (x 1))]))), dd, dd, .d (.v (.int .i64 6)), dd, dd, dd, dd, dd, dd, dd, dd, dd, dd, dd, dd, dd, dd, dd, dd, dd, dd, dd, dd, dd, dd, dd, dd, dd, dd, dd, dd, dd, dd, dd, dd, dd, dd, dd, dd, dd, dd, dd, dd, dd, dd, dd, dd, dd, dd, dd, dd, dd, dd, dd, dd, dd, dd, dd, dd, dd, dd, dd, dd, dd, dd, dd, dd, dd, dd, dd, dd, dd, dd, dd, dd, dd, dd, dd, dd, dd, dd, dd, dd, dd, dd, dd, dd, dd, dd, dd, dd, dd, dd, dd, dd, dd, dd, dd, dd, dd, dd, dd, dd, dd, dd, dd, dd, dd, dd, dd, dd, dd, dd, dd, dd, dd, dd, dd, dd, dd, dd, dd, dd, dd, dd, dd, dd, dd, dd, dd, dd, dd, dd, dd, dd, dd, dd, dd, dd, dd, dd, dd, dd, dd, dd, dd, dd, dd, dd, dd, dd, dd, dd, dd, dd, dd, dd, dd, dd, dd, dd, dd, dd, dd, dd, dd, dd, dd, dd, dd, dd, dd, dd, dd, dd, dd, dd, dd, dd, dd, dd, dd, dd, dd, dd, dd, dd, dd, dd, dd, dd, dd, dd, dd, dd, dd, dd, dd, dd, dd, dd, dd, dd, dd, dd, dd], [.box [.d (.v (.int .i64 v_at3))]]⟩
def G_ringlaw5_MountSays_C4 (n : Nat) (v_l1 : (List S_mount_Mount)) (v_n2 : Int) (v_root4 : Int) (v_r66 : (Int × Int)) (v_r81 : ((List S_mount_Mount) × Int)) (v_r106 : ((List Int) × Int)) (v_z266 : (List (Fin 2 → Int))) (v_at3 : Int) : Option G_ringlaw5_MountSays_C4_R :=
  if v_r81.2 = 6 then
   if (v_r81.1.length : Int) > 0 then
    some (.x0 true)
   else
    some (.x0 false)
  else
   some (.x0 true)
theorem G_ringlaw5_MountSays_C4_ok {Fi : Ex → PS → Prop} (hF : KC 224 Fi) (ks : List Fr) (n : Nat) (v_l1 : (List S_mount_Mount)) (v_n2 : Int) (v_root4 : Int) (v_r66 : (Int × Int)) (v_r81 : ((List S_mount_Mount) × Int)) (v_r106 : ((List Int) × Int)) (v_z266 : (List (Fin 2 → Int))) (v_at3 : Int)  (o : G_ringlaw5_MountSays_C4_R) (h : G_ringlaw5_MountSays_C4 n v_l1 v_n2 v_root4 v_r66 v_r81 v_r106 v_z266 v_at3 = some o) (q : RunE Try.prog 224 Fi ks (G_ringlaw5_MountSays_C4_ex o) (G_ringlaw5_MountSays_C4_st v_l1 v_n2 v_root4 v_r66 v_r81 v_r106 v_z266 v_at3 o)) : RunE Try.prog 224 Fi (.s (cL (cL (cR (cR (cR (cR (cR (cR (cR (cR (cR (cR (cR (cR (cR (bodyOf Try.f6)))))))))))))))) :: ks) .normal (G_ringlaw5_MountSays_C4_hd v_l1 v_n2 v_root4 v_r66 v_r81 v_r106 v_z266 v_at3) := by
  unfold G_ringlaw5_MountSays_C4 at h
  by_cases h263 : v_r81.2 = 6
  · rw [if_pos h263] at h
    by_cases h264 : (v_r81.1.length : Int) > 0
    · rw [if_pos h264] at h
      cases h
      exact pkk_sound TTok mix hF 1 (hs := [.t false, .c, .c, .c, .c, .u (.d (.v (.int .i64 (v_r81.1.length : Int)))), .c, .c, .t true, .c, .c, .c]) (ts := []) (s := []) (l := [1, 9, 10, 15, 16, 17, 170]) (by kernel_rfl) (by kernel_rfl) (.cons (nf h263) (.cons (len_ob (f := eS_mount_Mount) (l := v_r81.1)) (.cons (dt h264) .nil))) q
    · rw [if_neg h264] at h
      cases h
      exact pkk_sound TTok mix hF 1 (hs := [.t false, .c, .c, .c, .c, .u (.d (.v (.int .i64 (v_r81.1.length : Int)))), .c, .c, .t false, .c, .c, .c, .c, .c, .c, .c, .c, .c, .c, .c, .c, .c]) (ts := []) (s := []) (l := [1, 9, 10, 15, 16, 17, 170]) (by kernel_rfl) (by kernel_rfl) (.cons (nf h263) (.cons (len_ob (f := eS_mount_Mount) (l := v_r81.1)) (.cons (df h264) .nil))) q
  · rw [if_neg h263] at h
    cases h
    exact pkk_sound TTok mix hF 1 (hs := [.t true, .c, .c, .c, .c, .c, .c, .c]) (ts := []) (s := []) (l := [1, 9, 10, 15, 16, 17, 170]) (by kernel_rfl) (by kernel_rfl) (.cons (nt h263) .nil) q
inductive G_ringlaw5_MountSays_C5_R where
  | x0 (v_x288 : Bool)
def G_ringlaw5_MountSays_C5_ex : G_ringlaw5_MountSays_C5_R → Ex
  | .x0 _ => .normal
def G_ringlaw5_MountSays_C5_st (v_r66 : (Int × Int)) (v_r106 : ((List Int) × Int)) : G_ringlaw5_MountSays_C5_R → PS
  | .x0 v_x288 => ⟨[dd, dd, dd, dd, dd, dd, dd, dd, .d (.v (.bool v_x288)), dd, dd, dd, dd, dd, dd, dd, dd, dd, dd, dd, dd, dd, dd, dd, dd, dd, dd, dd, dd, dd, dd, dd, dd, dd, dd, dd, dd, dd, dd, dd, dd, dd, dd, dd, dd, dd, dd, dd, dd, dd, dd, dd, dd, dd, dd, dd, dd, dd, dd, dd, dd, dd, dd, dd, dd, dd, dd, dd, dd, dd, dd, dd, dd, dd, dd, dd, dd, dd, dd, dd, dd, dd, dd, dd, dd, dd, dd, dd, dd, dd, dd, dd, dd, dd, dd, dd, dd, dd, dd, dd, dd, dd, dd, dd, dd, dd, dd, dd, dd, dd, dd, dd, dd, dd, dd, dd, dd, dd, dd, dd, dd, dd, dd, dd, dd, dd, dd, dd, dd, dd, dd, dd, dd, dd, dd, dd, dd, dd, dd, dd, dd, dd, dd, dd, dd, dd, dd, dd, dd, dd, dd, dd, dd, dd, dd, dd, dd, dd, dd, dd, dd, dd, dd, dd, dd, dd, dd, dd, dd, dd, dd, dd, dd, dd, dd, dd, dd, dd, dd, dd, dd, dd, dd, dd, dd, dd, dd, dd, dd, dd, dd, dd, dd, dd, dd, dd, dd, dd, dd, dd, dd, dd, dd, dd, dd, dd, dd, dd, dd, dd, dd, dd, dd, dd, dd, dd, dd, dd, dd, dd, dd, dd, dd, dd], []⟩
def G_ringlaw5_MountSays_C5_hd (v_r66 : (Int × Int)) (v_r106 : ((List Int) × Int))  : PS := ⟨[dd, dd, dd, dd, dd, dd, dd, dd, dd, .d (.v (.int .i64 v_r66.1)), .d (.v (.int .i64 v_r66.2)), dd, dd, dd, dd, .d (.sl (v_r106.1.map (eI .i64))), .d (.v (.int .i64 v_r106.2)), dd, dd, dd, dd, dd, dd, dd, dd, dd, dd, dd, dd, dd, dd, dd, dd, dd, dd, dd, dd, dd, dd, dd, dd, dd, dd, dd, dd, dd, dd, dd, dd, dd, dd, dd, dd, dd, dd, dd, dd, dd, dd, dd, dd, dd, dd, dd, dd, dd, dd, dd, dd, dd, dd, dd, dd, dd, dd, dd, dd, dd, dd, dd, dd, dd, dd, dd, dd, dd, dd, dd, dd, dd, dd, dd, dd, dd, dd, dd, dd, dd, dd, dd, dd, dd, dd, dd, dd, dd, dd, dd, dd, dd, dd, dd, dd, dd, dd, dd, dd, dd, dd, dd, dd, dd, dd, dd, dd, dd, dd, dd, dd, dd, dd, dd, dd, dd, dd, dd, dd, dd, dd, dd, dd, dd, dd, dd, dd, dd, dd, dd, dd, dd, dd, dd, dd, dd, dd, dd, dd, dd, dd, dd, dd, dd, dd, dd, dd, dd, dd, dd, dd, dd, dd, dd, dd, dd, dd, dd, dd, dd, dd, dd, dd, dd, dd, dd, dd, dd, dd, dd, dd, dd, dd, dd, dd, dd, dd, dd, dd, dd, dd, dd, dd, dd, dd, dd, dd, dd, dd, dd, dd, dd, dd, dd, dd, dd, dd, dd, dd, dd, dd, dd, dd, dd, dd, dd], []⟩
def G_ringlaw5_MountSays_C5 (n : Nat) (v_r66 : (Int × Int)) (v_r106 : ((List Int) × Int)) : Option G_ringlaw5_MountSays_C5_R :=
  if v_r66.2 = 1 then
   if v_r106.2 = v_r66.2 then
    if v_r66.1 = 0 then
     some (.x0 ((v_r106.1.length : Int) == 0))
    else
     some (.x0 false)
   else
    some (.x0 false)
  else
   some (.x0 false)
theorem G_ringlaw5_MountSays_C5_ok {Fi : Ex → PS → Prop} (hF : KC 224 Fi) (ks : List Fr) (n : Nat) (v_r66 : (Int × Int)) (v_r106 : ((List Int) × Int))  (o : G_ringlaw5_MountSays_C5_R) (h : G_ringlaw5_MountSays_C5 n v_r66 v_r106 = some o) (q : RunE Try.prog 224 Fi ks (G_ringlaw5_MountSays_C5_ex o) (G_ringlaw5_MountSays_C5_st v_r66 v_r106 o)) : RunE Try.prog 224 Fi (.s (cL (cT (cR (cL (cR (cR (cR (cR (cR (cR (cR (cR (cR (cR (cR (cR (cR (cR (bodyOf Try.f6))))))))))))))))))) :: ks) .normal (G_ringlaw5_MountSays_C5_hd v_r66 v_r106) := by
  unfold G_ringlaw5_MountSays_C5 at h
  by_cases h278 : v_r66.2 = 1
  · rw [if_pos h278] at h
    by_cases h279 : v_r106.2 = v_r66.2
    · rw [if_pos h279] at h
      by_cases h280 : v_r66.1 = 0
      · rw [if_pos h280] at h
        cases h
        exact pkk_sound TTok mix hF 1 (hs := [.t true, .c, .c, .t true, .c, .t true, .c, .u (.d (.v (.int .i64 (v_r106.1.length : Int)))), .c]) (ts := []) (s := []) (l := [8]) (by kernel_rfl) (by kernel_rfl) (.cons (bt h278) (.cons (bt h279) (.cons (bt h280) (.cons (len_ob (f := (eI .i64)) (l := v_r106.1)) .nil)))) q
      · rw [if_neg h280] at h
        cases h
        exact pkk_sound TTok mix hF 1 (hs := [.t true, .c, .c, .t true, .c, .t false, .c, .c]) (ts := []) (s := []) (l := [8]) (by kernel_rfl) (by kernel_rfl) (.cons (bt h278) (.cons (bt h279) (.cons (bf h280) .nil))) q
    · rw [if_neg h279] at h
      cases h
      exact pkk_sound TTok mix hF 1 (hs := [.t true, .c, .c, .t false, .c, .c, .c, .c]) (ts := []) (s := []) (l := [8]) (by kernel_rfl) (by kernel_rfl) (.cons (bt h278) (.cons (bf h279) .nil)) q
  · rw [if_neg h278] at h
    cases h
    exact pkk_sound TTok mix hF 1 (hs := [.t false, .c, .c, .c, .c, .c, .c, .c]) (ts := []) (s := []) (l := [8]) (by kernel_rfl) (by kernel_rfl) (.cons (bf h278) .nil) q
inductive G_ringlaw5_MountSays_C6_R where
  | x0 (v_x300 : Bool)
def G_ringlaw5_MountSays_C6_ex : G_ringlaw5_MountSays_C6_R → Ex
  | .x0 _ => .normal
def G_ringlaw5_MountSays_C6_st (v_r66 : (Int × Int)) (v_r106 : ((List Int) × Int)) : G_ringlaw5_MountSays_C6_R → PS
  | .x0 v_x300 => ⟨[dd, dd, dd, dd, dd, dd, dd, dd, .d (.v (.bool v_x300)), dd, dd, dd, dd, dd, dd, dd, dd, dd, dd, dd, dd, dd, dd, dd, dd, dd, dd, dd, dd, dd, dd, dd, dd, dd, dd, dd, dd, dd, dd, dd, dd, dd, dd, dd, dd, dd, dd, dd, dd, dd, dd, dd, dd, dd, dd, dd, dd, dd, dd, dd, dd, dd, dd, dd, dd, dd, dd, dd, dd, dd, dd, dd, dd, dd, dd, dd, dd, dd, dd, dd, dd, dd, dd, dd, dd, dd, dd, dd, dd, dd, dd, dd, dd, dd, dd, dd, dd, dd, dd, dd, dd, dd, dd, dd, dd, dd, dd, dd, dd, dd, dd, dd, dd, dd, dd, dd, dd, dd, dd, dd, dd, dd, dd, dd, dd, dd, dd, dd, dd, dd, dd, dd, dd, dd, dd, dd, dd, dd, dd, dd, dd, dd, dd, dd, dd, dd, dd, dd, dd, dd, dd, dd, dd, dd, dd, dd, dd, dd, dd, dd, dd, dd, dd, dd, dd, dd, dd, dd, dd, dd, dd, dd, dd, dd, dd, dd, dd, dd, dd, dd, dd, dd, dd, dd, dd, dd, dd, dd, dd, dd, dd, dd, dd, dd, dd, dd, dd, dd, dd, dd, dd, dd, dd, dd, dd, dd, dd, dd, dd, dd, dd, dd, dd, dd, dd, dd, dd, dd, dd, dd, dd, dd, dd, dd], []⟩
def G_ringlaw5_MountSays_C6_hd (v_r66 : (Int × Int)) (v_r106 : ((List Int) × Int))  : PS := ⟨[dd, dd, dd, dd, dd, dd, dd, dd, dd, .d (.v (.int .i64 v_r66.1)), .d (.v (.int .i64 v_r66.2)), dd, dd, dd, dd, .d (.sl (v_r106.1.map (eI .i64))), .d (.v (.int .i64 v_r106.2)), dd, dd, dd, dd, dd, dd, dd, dd, dd, dd, dd, dd, dd, dd, dd, dd, dd, dd, dd, dd, dd, dd, dd, dd, dd, dd, dd, dd, dd, dd, dd, dd, dd, dd, dd, dd, dd, dd, dd, dd, dd, dd, dd, dd, dd, dd, dd, dd, dd, dd, dd, dd, dd, dd, dd, dd, dd, dd, dd, dd, dd, dd, dd, dd, dd, dd, dd, dd, dd, dd, dd, dd, dd, dd, dd, dd, dd, dd, dd, dd, dd, dd, dd, dd, dd, dd, dd, dd, dd, dd, dd, dd, dd, dd, dd, dd, dd, dd, dd, dd, dd, dd, dd, dd, dd, dd, dd, dd, dd, dd, dd, dd, dd, dd, dd, dd, dd, dd, dd, dd, dd, dd, dd, dd, dd, dd, dd, dd, dd, dd, dd, dd, dd, dd, dd, dd, dd, dd, dd, dd, dd, dd, dd, dd, dd, dd, dd, dd, dd, dd, dd, dd, dd, dd, dd, dd, dd, dd, dd, dd, dd, dd, dd, dd, dd, dd, dd, dd, dd, dd, dd, dd, dd, dd, dd, dd, dd, dd, dd, dd, dd, dd, dd, dd, dd, dd, dd, dd, dd, dd, dd, dd, dd, dd, dd, dd, dd, dd, dd, dd, dd, dd, dd, dd, dd, dd, dd], []⟩
def G_ringlaw5_MountSays_C6 (n : Nat) (v_r66 : (Int × Int)) (v_r106 : ((List Int) × Int)) : Option G_ringlaw5_MountSays_C6_R :=
  if v_r66.2 = 1 then
   if v_r106.2 = v_r66.2 then
    if v_r66.1 = 0 then
     some (.x0 ((v_r106.1.length : Int) == 0))
    else
     some (.x0 false)
   else
    some (.x0 false)
  else
   some (.x0 false)
theorem G_ringlaw5_MountSays_C6_ok {Fi : Ex → PS → Prop} (hF : KC 224 Fi) (ks : List Fr) (n : Nat) (v_r66 : (Int × Int)) (v_r106 : ((List Int) × Int))  (o : G_ringlaw5_MountSays_C6_R) (h : G_ringlaw5_MountSays_C6 n v_r66 v_r106 = some o) (q : RunE Try.prog 224 Fi ks (G_ringlaw5_MountSays_C6_ex o) (G_ringlaw5_MountSays_C6_st v_r66 v_r106 o)) : RunE Try.prog 224 Fi (.s (cL (cT (cR (cL (cR (cR (cR (cR (cR (cR (cR (cR (cR (cR (cR (cR (cR (cR (bodyOf Try.f6))))))))))))))))))) :: ks) .normal (G_ringlaw5_MountSays_C6_hd v_r66 v_r106) := by
  unfold G_ringlaw5_MountSays_C6 at h
  by_cases h294 : v_r66.2 = 1
  · rw [if_pos h294] at h
    by_cases h295 : v_r106.2 = v_r66.2
    · rw [if_pos h295] at h
      by_cases h296 : v_r66.1 = 0
      · rw [if_pos h296] at h
        cases h
        exact pkk_sound TTok mix hF 1 (hs := [.t true, .c, .c, .t true, .c, .t true, .c, .u (.d (.v (.int .i64 (v_r106.1.length : Int)))), .c]) (ts := []) (s := []) (l := [8]) (by kernel_rfl) (by kernel_rfl) (.cons (bt h294) (.cons (bt h295) (.cons (bt h296) (.cons (len_ob (f := (eI .i64)) (l := v_r106.1)) .nil)))) q
      · rw [if_neg h296] at h
        cases h
        exact pkk_sound TTok mix hF 1 (hs := [.t true, .c, .c, .t true, .c, .t false, .c, .c]) (ts := []) (s := []) (l := [8]) (by kernel_rfl) (by kernel_rfl) (.cons (bt h294) (.cons (bt h295) (.cons (bf h296) .nil))) q
    · rw [if_neg h295] at h
      cases h
      exact pkk_sound TTok mix hF 1 (hs := [.t true, .c, .c, .t false, .c, .c, .c, .c]) (ts := []) (s := []) (l := [8]) (by kernel_rfl) (by kernel_rfl) (.cons (bt h294) (.cons (bf h295) .nil)) q
  · rw [if_neg h294] at h
    cases h
    exact pkk_sound TTok mix hF 1 (hs := [.t false, .c, .c, .c, .c, .c, .c, .c]) (ts := []) (s := []) (l := [8]) (by kernel_rfl) (by kernel_rfl) (.cons (bf h294) .nil) q
inductive G_ringlaw5_MountSays_L7_R where
  | x0 (v_w314 : (List Int))
def G_ringlaw5_MountSays_L7_ex : G_ringlaw5_MountSays_L7_R → Ex
  | .x0 _ => .exit 2
def G_ringlaw5_MountSays_L7_st (v_n2 : Int) (v_r66 : (Int × Int)) (v_r106 : ((List Int) × Int)) (v_z266 : (List (Fin 2 → Int))) : G_ringlaw5_MountSays_L7_R → PS
  | .x0 v_w314 => ⟨[dd, .d (.v (.int .i64 v_n2)), dd, dd, dd, dd, dd, dd, dd, .d (.v (.int .i64 v_r66.1)), .d (.v (.int .i64 v_r66.2)), dd, dd, dd, dd, .d (.sl (v_r106.1.map (eI .i64))), .d (.v (.int .i64 v_r106.2)), .d (.sl (v_z266.map (fun x => PV.agg [.v (.int .i64 (x 0)), .v (.int .i64 (x 1))]))), dd, dd, dd, dd, .srf 0, dd, dd, dd, dd, dd, dd, dd, dd, dd, dd, dd, dd, dd, dd, dd, dd, dd, dd, dd, dd, dd, dd, dd, dd, dd, dd, dd, dd, dd, dd, dd, dd, dd, dd, dd, dd, dd, dd, dd, dd, dd, dd, dd, dd, dd, dd, dd, dd, dd, dd, dd, dd, dd, dd, dd, dd, dd, dd, dd, dd, dd, dd, dd, dd, dd, dd, dd, dd, dd, dd, dd, dd, dd, dd, dd, dd, dd, dd, dd, dd, dd, dd, dd, dd, dd, dd, dd, dd, dd, dd, dd, dd, dd, dd, dd, dd, dd, dd, dd, dd, dd, dd, dd, dd, dd, dd, dd, dd, dd, dd, dd, dd, dd, dd, dd, dd, dd, dd, dd, dd, dd, dd, dd, dd, dd, dd, dd, dd, dd, dd, dd, dd, dd, dd, dd, dd, dd, dd, dd, dd, dd, dd, dd, dd, dd, dd, dd, dd, dd, dd, dd, dd, dd, dd, dd, dd, dd, dd, dd, dd, dd, dd, dd, dd, dd, dd, dd, dd, dd, dd, dd, dd, dd, dd, dd, dd, dd, dd, dd, dd, dd, dd, dd, dd, dd, dd, dd, dd, dd, dd, dd, dd, dd, dd, dd, dd, dd, dd, dd, dd, dd], [.row 3 1 (v_w314.map (eI .i64))]⟩
def G_ringlaw5_MountSays_L7_hd (v_n2 : Int) (v_r66 : (Int × Int)) (v_r106 : ((List Int) × Int)) (v_z266 : (List (Fin 2 → Int))) (v_k306 : Int) (v_w307 : (List Int)) : PS := ⟨[dd, .d (.v (.int .i64 v_n2)), dd, dd, dd, dd, dd, dd, dd, .d (.v (.int .i64 v_r66.1)), .d (.v (.int .i64 v_r66.2)), dd, dd, dd, dd, .d (.sl (v_r106.1.map (eI .i64))), .d (.v (.int .i64 v_r106.2)), .d (.sl (v_z266.map (fun x => PV.agg [.v (.int .i64 (x 0)), .v (.int .i64 (x 1))]))), dd, dd, dd, dd, .srf 0, .d (.v (.int .i64 v_k306)), dd, dd, dd, dd, dd, dd, dd, dd, dd, dd, dd, dd, dd, dd, dd, dd, dd, dd, dd, dd, dd, dd, dd, dd, dd, dd, dd, dd, dd, dd, dd, dd, dd, dd, dd, dd, dd, dd, dd, dd, dd, dd, dd, dd, dd, dd, dd, dd, dd, dd, dd, dd, dd, dd, dd, dd, dd, dd, dd, dd, dd, dd, dd, dd, dd, dd, dd, dd, dd, dd, dd, dd, dd, dd, dd, dd, dd, dd, dd, dd, dd, dd, dd, dd, dd, dd, dd, dd, dd, dd, dd, dd, dd, dd, dd, dd, dd, dd, dd, dd, dd, dd, dd, dd, dd, dd, dd, dd, dd, dd, dd, dd, dd, dd, dd, dd, dd, dd, dd, dd, dd, dd, dd, dd, dd, dd, dd, dd, dd, dd, dd, dd, dd, dd, dd, dd, dd, dd, dd, dd, dd, dd, dd, dd, dd, dd, dd, dd, dd, dd, dd, dd, dd, dd, dd, dd, dd, dd, dd, dd, dd, dd, dd, dd, dd, dd, dd, dd, dd, dd, dd, dd, dd, dd, dd, dd, dd, dd, dd, dd, dd, dd, dd, dd, dd, dd, dd, dd, dd, dd, dd, dd, dd, dd, dd, dd, dd, dd, dd, dd], [.row 3 1 (v_w307.map (eI .i64))]⟩
def G_ringlaw5_MountSays_L7 (n : Nat) (v_n2 : Int) (v_r66 : (Int × Int)) (v_r106 : ((List Int) × Int)) (v_z266 : (List (Fin 2 → Int))) : Nat → Int → (List Int) → Option G_ringlaw5_MountSays_L7_R
  | 0, _, _ => none
  | k + 1, v_k306, v_w307 =>
    if v_k306 ≤ 32 then
     (G_ringref5_DownOf n v_z266 v_k306).bind fun (v_r311 : (Int)) =>
     if v_r311 = v_n2 then
      (app 8 v_w307 ([v_k306])).bind fun (v_a313 : (List Int)) =>
      G_ringlaw5_MountSays_L7 n v_n2 v_r66 v_r106 v_z266 k (wi .i64 (v_k306 + 1)) v_a313
     else
      G_ringlaw5_MountSays_L7 n v_n2 v_r66 v_r106 v_z266 k (wi .i64 (v_k306 + 1)) v_w307
    else
     some (.x0 v_w307)
theorem G_ringlaw5_MountSays_L7_ok {Fi : Ex → PS → Prop} (hF : KC 224 Fi) (ks : List Fr) (n : Nat) (v_n2 : Int) (v_r66 : (Int × Int)) (v_r106 : ((List Int) × Int)) (v_z266 : (List (Fin 2 → Int)))  : ∀ (k : Nat) (v_k306 : Int) (v_w307 : (List Int)) (o : G_ringlaw5_MountSays_L7_R), G_ringlaw5_MountSays_L7 n v_n2 v_r66 v_r106 v_z266 k v_k306 v_w307 = some o → RunE Try.prog 224 Fi ks (G_ringlaw5_MountSays_L7_ex o) (G_ringlaw5_MountSays_L7_st v_n2 v_r66 v_r106 v_z266 o) → RunE Try.prog 224 Fi (.l k (cP (cB (cR (cL (cR (cR (cR (cR (cR (cR (cR (cR (cR (cR (cR (cR (cR (cR (cR (cR (bodyOf Try.f6))))))))))))))))))))) :: ks) .normal (G_ringlaw5_MountSays_L7_hd v_n2 v_r66 v_r106 v_z266 v_k306 v_w307)
  | 0, v_k306, v_w307, o, h, q => by rw [G_ringlaw5_MountSays_L7] at h; cases h
  | k + 1, v_k306, v_w307, o, h, q => by
    rw [G_ringlaw5_MountSays_L7] at h
    by_cases h298 : v_k306 ≤ 32
    · rw [if_pos h298] at h
      obtain ⟨v_r311, h304, h⟩ := bind_some h
      by_cases h307 : v_r311 = v_n2
      · rw [if_pos h307] at h
        obtain ⟨v_a313, h308, h⟩ := bind_some h
        exact pkk_sound TTok mix hF 14 (hs := [.t true, .r ((eI .i64) v_r311), .t true, .bd, .w (v_a313.map (eI .i64))]) (ts := []) (s := [31]) (l := [1, 9, 10, 15, 16, 17, 22, 23]) (by kernel_rfl) (by kernel_rfl) (.cons (dt h298) (.cons (G_ringref5_DownOf_ok n v_z266 v_k306 _ h304) (.cons (bt h307) (.cons (app_ob (f := (eI .i64)) (s := 1) h308 (fun _ => rfl)).1 (.cons (app_ob (f := (eI .i64)) (s := 1) h308 (fun _ => rfl)).2.1 (.cons (app_ob (f := (eI .i64)) (s := 1) h308 (fun _ => rfl)).2.2.1 (.cons (app_ob (f := (eI .i64)) (s := 1) h308 (fun _ => rfl)).2.2.2 .nil))))))) (G_ringlaw5_MountSays_L7_ok hF ks n v_n2 v_r66 v_r106 v_z266 k (wi .i64 (v_k306 + 1)) v_a313 _ h q)
      · rw [if_neg h307] at h
        exact pkk_sound TTok mix hF 14 (hs := [.t true, .r ((eI .i64) v_r311), .t false]) (ts := []) (s := [0]) (l := [1, 9, 10, 15, 16, 17, 22, 23]) (by kernel_rfl) (by kernel_rfl) (.cons (dt h298) (.cons (G_ringref5_DownOf_ok n v_z266 v_k306 _ h304) (.cons (bf h307) .nil))) (G_ringlaw5_MountSays_L7_ok hF ks n v_n2 v_r66 v_r106 v_z266 k (wi .i64 (v_k306 + 1)) v_w307 _ h q)
    · rw [if_neg h298] at h
      cases h
      exact pkk_sound TTok mix hF 8 (hs := [.t false]) (ts := []) (s := [0]) (l := [1, 9, 10, 15, 16, 17, 22]) (by kernel_rfl) (by kernel_rfl) (.cons (df h298) .nil) q
inductive G_ringlaw5_MountSays_C8_R where
  | x0 (v_x331 : Bool)
def G_ringlaw5_MountSays_C8_ex : G_ringlaw5_MountSays_C8_R → Ex
  | .x0 _ => .normal
def G_ringlaw5_MountSays_C8_st (v_n2 : Int) (v_r66 : (Int × Int)) (v_r106 : ((List Int) × Int)) (v_z266 : (List (Fin 2 → Int))) (v_z316 : (List Int)) : G_ringlaw5_MountSays_C8_R → PS
  | .x0 v_x331 => ⟨[dd, dd, dd, dd, dd, dd, dd, dd, .d (.v (.bool v_x331)), dd, dd, dd, dd, dd, dd, dd, dd, dd, dd, dd, dd, dd, dd, dd, dd, dd, dd, dd, dd, dd, dd, dd, dd, dd, dd, dd, dd, dd, dd, dd, dd, dd, dd, dd, dd, dd, dd, dd, dd, dd, dd, dd, dd, dd, dd, dd, dd, dd, dd, dd, dd, dd, dd, dd, dd, dd, dd, dd, dd, dd, dd, dd, dd, dd, dd, dd, dd, dd, dd, dd, dd, dd, dd, dd, dd, dd, dd, dd, dd, dd, dd, dd, dd, dd, dd, dd, dd, dd, dd, dd, dd, dd, dd, dd, dd, dd, dd, dd, dd, dd, dd, dd, dd, dd, dd, dd, dd, dd, dd, dd, dd, dd, dd, dd, dd, dd, dd, dd, dd, dd, dd, dd, dd, dd, dd, dd, dd, dd, dd, dd, dd, dd, dd, dd, dd, dd, dd, dd, dd, dd, dd, dd, dd, dd, dd, dd, dd, dd, dd, dd, dd, dd, dd, dd, dd, dd, dd, dd, dd, dd, dd, dd, dd, dd, dd, dd, dd, dd, dd, dd, dd, dd, dd, dd, dd, dd, dd, dd, dd, dd, dd, dd, dd, dd, dd, dd, dd, dd, dd, dd, dd, dd, dd, dd, dd, dd, dd, dd, dd, dd, dd, dd, dd, dd, dd, dd, dd, dd, dd, dd, dd, dd, dd, dd], []⟩
def G_ringlaw5_MountSays_C8_hd (v_n2 : Int) (v_r66 : (Int × Int)) (v_r106 : ((List Int) × Int)) (v_z266 : (List (Fin 2 → Int))) (v_z316 : (List Int))  : PS := ⟨[dd, .d (.v (.int .i64 v_n2)), dd, dd, dd, dd, dd, dd, dd, .d (.v (.int .i64 v_r66.1)), .d (.v (.int .i64 v_r66.2)), dd, dd, dd, dd, .d (.sl (v_r106.1.map (eI .i64))), .d (.v (.int .i64 v_r106.2)), .d (.sl (v_z266.map (fun x => PV.agg [.v (.int .i64 (x 0)), .v (.int .i64 (x 1))]))), dd, dd, dd, dd, .srf 0, dd, dd, dd, dd, dd, dd, dd, dd, dd, dd, dd, dd, dd, dd, dd, dd, dd, dd, dd, dd, dd, dd, dd, dd, dd, dd, dd, dd, dd, dd, dd, dd, dd, dd, dd, dd, dd, dd, dd, dd, dd, dd, dd, dd, dd, dd, dd, dd, dd, dd, dd, dd, dd, dd, dd, dd, dd, dd, dd, dd, dd, dd, dd, dd, dd, dd, dd, dd, dd, dd, dd, dd, dd, dd, dd, dd, dd, dd, dd, dd, dd, dd, dd, dd, dd, dd, dd, dd, dd, dd, dd, dd, dd, dd, dd, dd, dd, dd, dd, dd, dd, dd, dd, dd, dd, dd, dd, dd, dd, dd, dd, dd, dd, dd, dd, dd, dd, dd, dd, dd, dd, dd, dd, dd, dd, dd, dd, dd, dd, dd, dd, dd, dd, dd, dd, dd, dd, dd, dd, dd, dd, dd, dd, dd, dd, dd, dd, dd, dd, dd, dd, dd, dd, dd, dd, dd, dd, dd, dd, dd, dd, dd, dd, dd, dd, dd, dd, dd, dd, dd, dd, dd, dd, dd, dd, dd, dd, dd, dd, dd, dd, dd, dd, dd, dd, dd, dd, dd, dd, dd, dd, dd, dd, dd, dd, dd, dd, dd, dd, dd, dd], [.row 3 1 (v_z316.map (eI .i64))]⟩
def G_ringlaw5_MountSays_C8 (n : Nat) (v_n2 : Int) (v_r66 : (Int × Int)) (v_r106 : ((List Int) × Int)) (v_z266 : (List (Fin 2 → Int))) (v_z316 : (List Int)) : Option G_ringlaw5_MountSays_C8_R :=
  if v_r66.2 = 0 then
   (G_ringref5_DownOf n v_z266 v_n2).bind fun (v_r329 : (Int)) =>
   if v_r66.1 = v_r329 then
    if v_r106.2 = 0 then
     (G_slices_Equal_int_int n v_r106.1 v_z316).bind fun (v_r330 : (Bool)) =>
     some (.x0 v_r330)
    else
     some (.x0 false)
   else
    some (.x0 false)
  else
   some (.x0 false)
theorem G_ringlaw5_MountSays_C8_ok {Fi : Ex → PS → Prop} (hF : KC 224 Fi) (ks : List Fr) (n : Nat) (v_n2 : Int) (v_r66 : (Int × Int)) (v_r106 : ((List Int) × Int)) (v_z266 : (List (Fin 2 → Int))) (v_z316 : (List Int))  (o : G_ringlaw5_MountSays_C8_R) (h : G_ringlaw5_MountSays_C8 n v_n2 v_r66 v_r106 v_z266 v_z316 = some o) (q : RunE Try.prog 224 Fi ks (G_ringlaw5_MountSays_C8_ex o) (G_ringlaw5_MountSays_C8_st v_n2 v_r66 v_r106 v_z266 v_z316 o)) : RunE Try.prog 224 Fi (.s (cL (cR (cR (cR (cR (cR (cR (cR (cR (cR (cR (cR (cR (cR (cR (cR (cR (cR (bodyOf Try.f6))))))))))))))))))) :: ks) .normal (G_ringlaw5_MountSays_C8_hd v_n2 v_r66 v_r106 v_z266 v_z316) := by
  unfold G_ringlaw5_MountSays_C8 at h
  by_cases h324 : v_r66.2 = 0
  · rw [if_pos h324] at h
    obtain ⟨v_r329, h325, h⟩ := bind_some h
    by_cases h326 : v_r66.1 = v_r329
    · rw [if_pos h326] at h
      by_cases h327 : v_r106.2 = 0
      · rw [if_pos h327] at h
        obtain ⟨v_r330, h328, h⟩ := bind_some h
        cases h
        exact pkk_sound TTok mix hF 1 (hs := [.t true, .c, .c, .c, .r ((eI .i64) v_r329), .c, .t true, .c, .t true, .c, .c, .c, .r (eB v_r330)]) (ts := []) (s := []) (l := [8]) (by kernel_rfl) (by kernel_rfl) (.cons (bt h324) (.cons (G_ringref5_DownOf_ok n v_z266 v_n2 _ h325) (.cons (bt h326) (.cons (bt h327) (.cons (G_slices_Equal_int_int_ok n v_r106.1 v_z316 _ h328) .nil))))) q
      · rw [if_neg h327] at h
        cases h
        exact pkk_sound TTok mix hF 1 (hs := [.t true, .c, .c, .c, .r ((eI .i64) v_r329), .c, .t true, .c, .t false, .c, .c]) (ts := []) (s := []) (l := [8]) (by kernel_rfl) (by kernel_rfl) (.cons (bt h324) (.cons (G_ringref5_DownOf_ok n v_z266 v_n2 _ h325) (.cons (bt h326) (.cons (bf h327) .nil)))) q
    · rw [if_neg h326] at h
      cases h
      exact pkk_sound TTok mix hF 1 (hs := [.t true, .c, .c, .c, .r ((eI .i64) v_r329), .c, .t false, .c, .c, .c, .c]) (ts := []) (s := []) (l := [8]) (by kernel_rfl) (by kernel_rfl) (.cons (bt h324) (.cons (G_ringref5_DownOf_ok n v_z266 v_n2 _ h325) (.cons (bf h326) .nil))) q
  · rw [if_neg h324] at h
    cases h
    exact pkk_sound TTok mix hF 1 (hs := [.t false, .c, .c, .c, .c, .c, .c, .c, .c, .c]) (ts := []) (s := []) (l := [8]) (by kernel_rfl) (by kernel_rfl) (.cons (bf h324) .nil) q
inductive G_ringlaw5_MountSays_C9_R where
  | x0 (v_x340 : Bool)
def G_ringlaw5_MountSays_C9_ex : G_ringlaw5_MountSays_C9_R → Ex
  | .x0 _ => .normal
def G_ringlaw5_MountSays_C9_st (v_l1 : (List S_mount_Mount)) (v_n2 : Int) (v_root4 : Int) (v_r66 : (Int × Int)) (v_r81 : ((List S_mount_Mount) × Int)) (v_r106 : ((List Int) × Int)) (v_z266 : (List (Fin 2 → Int))) (v_r276 : (Int)) (v_at3 : Int) : G_ringlaw5_MountSays_C9_R → PS
  | .x0 v_x340 => ⟨[dd, .d (.v (.int .i64 v_n2)), dd, dd, dd, dd, dd, dd, dd, .d (.v (.int .i64 v_r66.1)), .d (.v (.int .i64 v_r66.2)), dd, dd, dd, dd, .d (.sl (v_r106.1.map (eI .i64))), .d (.v (.int .i64 v_r106.2)), .d (.sl (v_z266.map (fun x => PV.agg [.v (.int .i64 (x 0)), .v (.int .i64 (x 1))]))), dd, dd, dd, dd, dd, dd, dd, dd, dd, dd, dd, dd, dd, dd, dd, dd, dd, dd, dd, dd, dd, dd, dd, dd, dd, dd, dd, dd, dd, dd, dd, dd, dd, dd, dd, dd, dd, dd, dd, dd, dd, dd, dd, dd, dd, dd, dd, dd, dd, dd, dd, dd, dd, dd, dd, dd, dd, dd, dd, dd, dd, dd, dd, dd, dd, dd, dd, dd, dd, dd, dd, dd, dd, dd, dd, dd, dd, dd, dd, dd, dd, dd, dd, dd, dd, dd, dd, dd, dd, dd, dd, dd, dd, dd, dd, dd, dd, dd, dd, dd, dd, dd, dd, dd, dd, dd, dd, dd, dd, dd, dd, dd, dd, dd, dd, dd, dd, dd, dd, dd, dd, dd, dd, dd, dd, dd, dd, dd, dd, dd, dd, dd, dd, dd, dd, dd, dd, dd, dd, dd, dd, dd, dd, dd, dd, dd, dd, dd, dd, dd, dd, dd, .d (.v (.bool v_x340)), dd, dd, dd, dd, dd, dd, dd, dd, dd, dd, dd, dd, dd, dd, dd, dd, dd, dd, dd, dd, dd, dd, dd, dd, dd, dd, dd, dd, dd, dd, dd, dd, dd, dd, dd, dd, dd, dd, dd, dd, dd, dd, dd, dd, dd, dd, dd, dd, dd, dd, dd, dd, dd], []⟩
def G_ringlaw5_MountSays_C9_hd (v_l1 : (List S_mount_Mount)) (v_n2 : Int) (v_root4 : Int) (v_r66 : (Int × Int)) (v_r81 : ((List S_mount_Mount) × Int)) (v_r106 : ((List Int) × Int)) (v_z266 : (List (Fin 2 → Int))) (v_r276 : (Int)) (v_at3 : Int)  : PS := ⟨[.d (.sl (v_l1.map eS_mount_Mount)), .d (.v (.int .i64 v_n2)), dd, .d (.v (.int .i64 v_root4)), dd, dd, .ref 0 0, dd, dd, .d (.v (.int .i64 v_r66.1)), .d (.v (.int .i64 v_r66.2)), .d (.sl (v_r81.1.map eS_mount_Mount)), .d (.v (.int .i64 v_r81.2)), dd, dd, .d (.sl (v_r106.1.map (eI .i64))), .d (.v (.int .i64 v_r106.2)), .d (.sl (v_z266.map (fun x => PV.agg [.v (.int .i64 (x 0)), .v (.int .i64 (x 1))]))), dd, dd, .d (.v (.int .i64 v_r276)), dd, dd, dd, dd, dd, dd, dd, dd, dd, dd, dd, dd, dd, dd, dd, dd, dd, dd, dd, dd, dd, dd, dd, dd, dd, dd, dd, dd, dd, dd, dd, dd, dd, dd, dd, dd, dd, dd, dd, dd, dd, dd, dd, dd, dd, dd, dd, dd, dd, dd, dd, dd, dd, dd, dd, dd, dd, dd, dd, dd, dd, dd, dd, dd, dd, dd, dd, dd, dd, dd, dd, dd, dd, dd, dd, dd, dd, dd, dd, dd, dd, dd, dd, dd, dd, dd, dd, dd, dd, dd, dd, dd, dd, dd, dd, dd, dd, dd, dd, dd, dd, dd, dd, dd, dd, dd, dd, dd, dd, dd, dd, dd, dd, dd, dd, dd, dd, dd, dd, dd, dd, dd, dd, dd, dd, dd, dd, dd, dd, dd, dd, dd, dd, dd, dd, dd, dd, dd, dd, dd, dd, dd, dd, dd, dd, dd, dd, dd, dd, dd, dd, dd, dd, dd, dd, dd, dd, dd, dd, dd, dd, dd, dd, dd, dd, dd, dd, dd, dd, dd, dd, dd, dd, dd, dd, dd, dd, dd, dd, dd, dd, dd, dd, dd, dd, dd, dd, dd, dd, dd, dd, dd, dd, dd, dd, dd, dd, dd, dd, dd, dd, dd, dd], [.box [.d (.v (.int .i64 v_at3))]]⟩
def G_ringlaw5_MountSays_C9 (n : Nat) (v_l1 : (List S_mount_Mount)) (v_n2 : Int) (v_root4 : Int) (v_r66 : (Int × Int)) (v_r81 : ((List S_mount_Mount) × Int)) (v_r106 : ((List Int) × Int)) (v_z266 : (List (Fin 2 → Int))) (v_r276 : (Int)) (v_at3 : Int) : Option G_ringlaw5_MountSays_C9_R :=
  if v_r81.2 = v_r276 then
   if v_r276 = 0 then
    (G_slices_Clone_mount_Mount_mount_Mount n v_l1).bind fun (v_r343 : ((List S_mount_Mount))) =>
    (app 16 v_r343 ([(S_mount_Mount.mk v_at3 v_root4)])).bind fun (v_a344 : (List S_mount_Mount)) =>
    (G_slices_Equal_mount_Mount_mount_Mount n v_r81.1 v_a344).bind fun (v_r345 : (Bool)) =>
    some (.x0 (!v_r345))
   else
    if (v_r81.1.length : Int) > 0 then
     some (.x0 true)
    else
     some (.x0 false)
  else
   some (.x0 true)
theorem G_ringlaw5_MountSays_C9_ok {Fi : Ex → PS → Prop} (hF : KC 224 Fi) (ks : List Fr) (n : Nat) (v_l1 : (List S_mount_Mount)) (v_n2 : Int) (v_root4 : Int) (v_r66 : (Int × Int)) (v_r81 : ((List S_mount_Mount) × Int)) (v_r106 : ((List Int) × Int)) (v_z266 : (List (Fin 2 → Int))) (v_r276 : (Int)) (v_at3 : Int)  (o : G_ringlaw5_MountSays_C9_R) (h : G_ringlaw5_MountSays_C9 n v_l1 v_n2 v_root4 v_r66 v_r81 v_r106 v_z266 v_r276 v_at3 = some o) (q : RunE Try.prog 224 Fi ks (G_ringlaw5_MountSays_C9_ex o) (G_ringlaw5_MountSays_C9_st v_l1 v_n2 v_root4 v_r66 v_r81 v_r106 v_z266 v_r276 v_at3 o)) : RunE Try.prog 224 Fi (.s (cL (cL (cR (cR (cR (cR (cR (cR (cR (cR (cR (cR (cR (cR (cR (bodyOf Try.f6)))))))))))))))) :: ks) .normal (G_ringlaw5_MountSays_C9_hd v_l1 v_n2 v_root4 v_r66 v_r81 v_r106 v_z266 v_r276 v_at3) := by
  unfold G_ringlaw5_MountSays_C9 at h
  by_cases h336 : v_r81.2 = v_r276
  · rw [if_pos h336] at h
    by_cases h337 : v_r276 = 0
    · rw [if_pos h337] at h
      obtain ⟨v_r343, h339, h⟩ := bind_some h
      obtain ⟨v_a344, h340, h⟩ := bind_some h
      obtain ⟨v_r345, h341, h⟩ := bind_some h
      cases h
      exact pkk_sound TTok mix hF 1 (hs := [.t false, .c, .c, .t false, .c, .c, .c, .c, .c, .c, .t true, .c, .c, .h [] [] [.row 78 2 (v_r343.map eS_mount_Mount)] (.srf 0), .c, .c, .c, .c, .c, .bd, .c, .w (v_a344.map eS_mount_Mount), .c, .c, .r (eB v_r345), .c, .c]) (ts := []) (s := []) (l := [1, 9, 10, 15, 16, 17, 170]) (by kernel_rfl) (by kernel_rfl) (.cons (nf h336) (.cons (nf h337) (.cons (bt h337) (.cons (G_slices_Clone_mount_Mount_mount_Mount_ok n v_l1 _ h339) (.cons (app_ob (f := eS_mount_Mount) (s := 2) h340 (fun _ => rfl)).1 (.cons (app_ob (f := eS_mount_Mount) (s := 2) h340 (fun _ => rfl)).2.1 (.cons (app_ob (f := eS_mount_Mount) (s := 2) h340 (fun _ => rfl)).2.2.1 (.cons (app_ob (f := eS_mount_Mount) (s := 2) h340 (fun _ => rfl)).2.2.2 (.cons (G_slices_Equal_mount_Mount_mount_Mount_ok n v_r81.1 v_a344 _ h341) .nil))))))))) q
    · rw [if_neg h337] at h
      by_cases h338 : (v_r81.1.length : Int) > 0
      · rw [if_pos h338] at h
        cases h
        exact pkk_sound TTok mix hF 1 (hs := [.t false, .c, .c, .t true, .c, .u (.d (.v (.int .i64 (v_r81.1.length : Int)))), .c, .c, .t true, .c, .c, .c]) (ts := []) (s := []) (l := [1, 9, 10, 15, 16, 17, 170]) (by kernel_rfl) (by kernel_rfl) (.cons (nf h336) (.cons (nt h337) (.cons (len_ob (f := eS_mount_Mount) (l := v_r81.1)) (.cons (dt h338) .nil)))) q
      · rw [if_neg h338] at h
        cases h
        exact pkk_sound TTok mix hF 1 (hs := [.t false, .c, .c, .t true, .c, .u (.d (.v (.int .i64 (v_r81.1.length : Int)))), .c, .c, .t false, .c, .c, .t false, .c, .c, .c, .c, .c, .c, .c, .c, .c, .c]) (ts := []) (s := []) (l := [1, 9, 10, 15, 16, 17, 170]) (by kernel_rfl) (by kernel_rfl) (.cons (nf h336) (.cons (nt h337) (.cons (len_ob (f := eS_mount_Mount) (l := v_r81.1)) (.cons (df h338) (.cons (bf h337) .nil))))) q
  · rw [if_neg h336] at h
    cases h
    exact pkk_sound TTok mix hF 1 (hs := [.t true, .c, .c, .c, .c, .c, .c, .c]) (ts := []) (s := []) (l := [1, 9, 10, 15, 16, 17, 170]) (by kernel_rfl) (by kernel_rfl) (.cons (nt h336) .nil) q
inductive G_ringlaw5_MountSays_C10_R where
  | x0 (v_x355 : Bool)
def G_ringlaw5_MountSays_C10_ex : G_ringlaw5_MountSays_C10_R → Ex
  | .x0 _ => .normal
def G_ringlaw5_MountSays_C10_st (v_r66 : (Int × Int)) (v_r106 : ((List Int) × Int)) : G_ringlaw5_MountSays_C10_R → PS
  | .x0 v_x355 => ⟨[dd, dd, dd, dd, dd, dd, dd, dd, .d (.v (.bool v_x355)), dd, dd, dd, dd, dd, dd, dd, dd, dd, dd, dd, dd, dd, dd, dd, dd, dd, dd, dd, dd, dd, dd, dd, dd, dd, dd, dd, dd, dd, dd, dd, dd, dd, dd, dd, dd, dd, dd, dd, dd, dd, dd, dd, dd, dd, dd, dd, dd, dd, dd, dd, dd, dd, dd, dd, dd, dd, dd, dd, dd, dd, dd, dd, dd, dd, dd, dd, dd, dd, dd, dd, dd, dd, dd, dd, dd, dd, dd, dd, dd, dd, dd, dd, dd, dd, dd, dd, dd, dd, dd, dd, dd, dd, dd, dd, dd, dd, dd, dd, dd, dd, dd, dd, dd, dd, dd, dd, dd, dd, dd, dd, dd, dd, dd, dd, dd, dd, dd, dd, dd, dd, dd, dd, dd, dd, dd, dd, dd, dd, dd, dd, dd, dd, dd, dd, dd, dd, dd, dd, dd, dd, dd, dd, dd, dd, dd, dd, dd, dd, dd, dd, dd, dd, dd, dd, dd, dd, dd, dd, dd, dd, dd, dd, dd, dd, dd, dd, dd, dd, dd, dd, dd, dd, dd, dd, dd, dd, dd, dd, dd, dd, dd, dd, dd, dd, dd, dd, dd, dd, dd, dd, dd, dd, dd, dd, dd, dd, dd, dd, dd, dd, dd, dd, dd, dd, dd, dd, dd, dd, dd, dd, dd, dd, dd, dd], []⟩
def G_ringlaw5_MountSays_C10_hd (v_r66 : (Int × Int)) (v_r106 : ((List Int) × Int))  : PS := ⟨[dd, dd, dd, dd, dd, dd, dd, dd, dd, .d (.v (.int .i64 v_r66.1)), .d (.v (.int .i64 v_r66.2)), dd, dd, dd, dd, .d (.sl (v_r106.1.map (eI .i64))), .d (.v (.int .i64 v_r106.2)), dd, dd, dd, dd, dd, dd, dd, dd, dd, dd, dd, dd, dd, dd, dd, dd, dd, dd, dd, dd, dd, dd, dd, dd, dd, dd, dd, dd, dd, dd, dd, dd, dd, dd, dd, dd, dd, dd, dd, dd, dd, dd, dd, dd, dd, dd, dd, dd, dd, dd, dd, dd, dd, dd, dd, dd, dd, dd, dd, dd, dd, dd, dd, dd, dd, dd, dd, dd, dd, dd, dd, dd, dd, dd, dd, dd, dd, dd, dd, dd, dd, dd, dd, dd, dd, dd, dd, dd, dd, dd, dd, dd, dd, dd, dd, dd, dd, dd, dd, dd, dd, dd, dd, dd, dd, dd, dd, dd, dd, dd, dd, dd, dd, dd, dd, dd, dd, dd, dd, dd, dd, dd, dd, dd, dd, dd, dd, dd, dd, dd, dd, dd, dd, dd, dd, dd, dd, dd, dd, dd, dd, dd, dd, dd, dd, dd, dd, dd, dd, dd, dd, dd, dd, dd, dd, dd, dd, dd, dd, dd, dd, dd, dd, dd, dd, dd, dd, dd, dd, dd, dd, dd, dd, dd, dd, dd, dd, dd, dd, dd, dd, dd, dd, dd, dd, dd, dd, dd, dd, dd, dd, dd, dd, dd, dd, dd, dd, dd, dd, dd, dd, dd, dd, dd, dd, dd, dd], []⟩
def G_ringlaw5_MountSays_C10 (n : Nat) (v_r66 : (Int × Int)) (v_r106 : ((List Int) × Int)) : Option G_ringlaw5_MountSays_C10_R :=
  if v_r66.2 = 1 then
   if v_r106.2 = v_r66.2 then
    if v_r66.1 = 0 then
     some (.x0 ((v_r106.1.length : Int) == 0))
    else
     some (.x0 false)
   else
    some (.x0 false)
  else
   some (.x0 false)
theorem G_ringlaw5_MountSays_C10_ok {Fi : Ex → PS → Prop} (hF : KC 224 Fi) (ks : List Fr) (n : Nat) (v_r66 : (Int × Int)) (v_r106 : ((List Int) × Int))  (o : G_ringlaw5_MountSays_C10_R) (h : G_ringlaw5_MountSays_C10 n v_r66 v_r106 = some o) (q : RunE Try.prog 224 Fi ks (G_ringlaw5_MountSays_C10_ex o) (G_ringlaw5_MountSays_C10_st v_r66 v_r106 o)) : RunE Try.prog 224 Fi (.s (cL (cT (cR (cL (cR (cR (cR (cR (cR (cR (cR (cR (cR (cR (cR (cR (cR (cR (bodyOf Try.f6))))))))))))))))))) :: ks) .normal (G_ringlaw5_MountSays_C10_hd v_r66 v_r106) := by
  unfold G_ringlaw5_MountSays_C10 at h
  by_cases h355 : v_r66.2 = 1
  · rw [if_pos h355] at h
    by_cases h356 : v_r106.2 = v_r66.2
    · rw [if_pos h356] at h
      by_cases h357 : v_r66.1 = 0
      · rw [if_pos h357] at h
        cases h
        exact pkk_sound TTok mix hF 1 (hs := [.t true, .c, .c, .t true, .c, .t true, .c, .u (.d (.v (.int .i64 (v_r106.1.length : Int)))), .c]) (ts := []) (s := []) (l := [8]) (by kernel_rfl) (by kernel_rfl) (.cons (bt h355) (.cons (bt h356) (.cons (bt h357) (.cons (len_ob (f := (eI .i64)) (l := v_r106.1)) .nil)))) q
      · rw [if_neg h357] at h
        cases h
        exact pkk_sound TTok mix hF 1 (hs := [.t true, .c, .c, .t true, .c, .t false, .c, .c]) (ts := []) (s := []) (l := [8]) (by kernel_rfl) (by kernel_rfl) (.cons (bt h355) (.cons (bt h356) (.cons (bf h357) .nil))) q
    · rw [if_neg h356] at h
      cases h
      exact pkk_sound TTok mix hF 1 (hs := [.t true, .c, .c, .t false, .c, .c, .c, .c]) (ts := []) (s := []) (l := [8]) (by kernel_rfl) (by kernel_rfl) (.cons (bt h355) (.cons (bf h356) .nil)) q
  · rw [if_neg h355] at h
    cases h
    exact pkk_sound TTok mix hF 1 (hs := [.t false, .c, .c, .c, .c, .c, .c, .c]) (ts := []) (s := []) (l := [8]) (by kernel_rfl) (by kernel_rfl) (.cons (bf h355) .nil) q
inductive G_ringlaw5_MountSays_C11_R where
  | x0 (v_x367 : Bool)
def G_ringlaw5_MountSays_C11_ex : G_ringlaw5_MountSays_C11_R → Ex
  | .x0 _ => .normal
def G_ringlaw5_MountSays_C11_st (v_r66 : (Int × Int)) (v_r106 : ((List Int) × Int)) : G_ringlaw5_MountSays_C11_R → PS
  | .x0 v_x367 => ⟨[dd, dd, dd, dd, dd, dd, dd, dd, .d (.v (.bool v_x367)), dd, dd, dd, dd, dd, dd, dd, dd, dd, dd, dd, dd, dd, dd, dd, dd, dd, dd, dd, dd, dd, dd, dd, dd, dd, dd, dd, dd, dd, dd, dd, dd, dd, dd, dd, dd, dd, dd, dd, dd, dd, dd, dd, dd, dd, dd, dd, dd, dd, dd, dd, dd, dd, dd, dd, dd, dd, dd, dd, dd, dd, dd, dd, dd, dd, dd, dd, dd, dd, dd, dd, dd, dd, dd, dd, dd, dd, dd, dd, dd, dd, dd, dd, dd, dd, dd, dd, dd, dd, dd, dd, dd, dd, dd, dd, dd, dd, dd, dd, dd, dd, dd, dd, dd, dd, dd, dd, dd, dd, dd, dd, dd, dd, dd, dd, dd, dd, dd, dd, dd, dd, dd, dd, dd, dd, dd, dd, dd, dd, dd, dd, dd, dd, dd, dd, dd, dd, dd, dd, dd, dd, dd, dd, dd, dd, dd, dd, dd, dd, dd, dd, dd, dd, dd, dd, dd, dd, dd, dd, dd, dd, dd, dd, dd, dd, dd, dd, dd, dd, dd, dd, dd, dd, dd, dd, dd, dd, dd, dd, dd, dd, dd, dd, dd, dd, dd, dd, dd, dd, dd, dd, dd, dd, dd, dd, dd, dd, dd, dd, dd, dd, dd, dd, dd, dd, dd, dd, dd, dd, dd, dd, dd, dd, dd, dd], []⟩
def G_ringlaw5_MountSays_C11_hd (v_r66 : (Int × Int)) (v_r106 : ((List Int) × Int))  : PS := ⟨[dd, dd, dd, dd, dd, dd, dd, dd, dd, .d (.v (.int .i64 v_r66.1)), .d (.v (.int .i64 v_r66.2)), dd, dd, dd, dd, .d (.sl (v_r106.1.map (eI .i64))), .d (.v (.int .i64 v_r106.2)), dd, dd, dd, dd, dd, dd, dd, dd, dd, dd, dd, dd, dd, dd, dd, dd, dd, dd, dd, dd, dd, dd, dd, dd, dd, dd, dd, dd, dd, dd, dd, dd, dd, dd, dd, dd, dd, dd, dd, dd, dd, dd, dd, dd, dd, dd, dd, dd, dd, dd, dd, dd, dd, dd, dd, dd, dd, dd, dd, dd, dd, dd, dd, dd, dd, dd, dd, dd, dd, dd, dd, dd, dd, dd, dd, dd, dd, dd, dd, dd, dd, dd, dd, dd, dd, dd, dd, dd, dd, dd, dd, dd, dd, dd, dd, dd, dd, dd, dd, dd, dd, dd, dd, dd, dd, dd, dd, dd, dd, dd, dd, dd, dd, dd, dd, dd, dd, dd, dd, dd, dd, dd, dd, dd, dd, dd, dd, dd, dd, dd, dd, dd, dd, dd, dd, dd, dd, dd, dd, dd, dd, dd, dd, dd, dd, dd, dd, dd, dd, dd, dd, dd, dd, dd, dd, dd, dd, dd, dd, dd, dd, dd, dd, dd, dd, dd, dd, dd, dd, dd, dd, dd, dd, dd, dd, dd, dd, dd, dd, dd, dd, dd, dd, dd, dd, dd, dd, dd, dd, dd, dd, dd, dd, dd, dd, dd, dd, dd, dd, dd, dd, dd, dd, dd, dd, dd, dd], []⟩
def G_ringlaw5_MountSays_C11 (n : Nat) (v_r66 : (Int × Int)) (v_r106 : ((List Int) × Int)) : Option G_ringlaw5_MountSays_C11_R :=
  if v_r66.2 = 1 then
   if v_r106.2 = v_r66.2 then
    if v_r66.1 = 0 then
     some (.x0 ((v_r106.1.length : Int) == 0))
    else
     some (.x0 false)
   else
    some (.x0 false)
  else
   some (.x0 false)
theorem G_ringlaw5_MountSays_C11_ok {Fi : Ex → PS → Prop} (hF : KC 224 Fi) (ks : List Fr) (n : Nat) (v_r66 : (Int × Int)) (v_r106 : ((List Int) × Int))  (o : G_ringlaw5_MountSays_C11_R) (h : G_ringlaw5_MountSays_C11 n v_r66 v_r106 = some o) (q : RunE Try.prog 224 Fi ks (G_ringlaw5_MountSays_C11_ex o) (G_ringlaw5_MountSays_C11_st v_r66 v_r106 o)) : RunE Try.prog 224 Fi (.s (cL (cT (cR (cL (cR (cR (cR (cR (cR (cR (cR (cR (cR (cR (cR (cR (cR (cR (bodyOf Try.f6))))))))))))))))))) :: ks) .normal (G_ringlaw5_MountSays_C11_hd v_r66 v_r106) := by
  unfold G_ringlaw5_MountSays_C11 at h
  by_cases h371 : v_r66.2 = 1
  · rw [if_pos h371] at h
    by_cases h372 : v_r106.2 = v_r66.2
    · rw [if_pos h372] at h
      by_cases h373 : v_r66.1 = 0
      · rw [if_pos h373] at h
        cases h
        exact pkk_sound TTok mix hF 1 (hs := [.t true, .c, .c, .t true, .c, .t true, .c, .u (.d (.v (.int .i64 (v_r106.1.length : Int)))), .c]) (ts := []) (s := []) (l := [8]) (by kernel_rfl) (by kernel_rfl) (.cons (bt h371) (.cons (bt h372) (.cons (bt h373) (.cons (len_ob (f := (eI .i64)) (l := v_r106.1)) .nil)))) q
      · rw [if_neg h373] at h
        cases h
        exact pkk_sound TTok mix hF 1 (hs := [.t true, .c, .c, .t true, .c, .t false, .c, .c]) (ts := []) (s := []) (l := [8]) (by kernel_rfl) (by kernel_rfl) (.cons (bt h371) (.cons (bt h372) (.cons (bf h373) .nil))) q
    · rw [if_neg h372] at h
      cases h
      exact pkk_sound TTok mix hF 1 (hs := [.t true, .c, .c, .t false, .c, .c, .c, .c]) (ts := []) (s := []) (l := [8]) (by kernel_rfl) (by kernel_rfl) (.cons (bt h371) (.cons (bf h372) .nil)) q
  · rw [if_neg h371] at h
    cases h
    exact pkk_sound TTok mix hF 1 (hs := [.t false, .c, .c, .c, .c, .c, .c, .c]) (ts := []) (s := []) (l := [8]) (by kernel_rfl) (by kernel_rfl) (.cons (bf h371) .nil) q
inductive G_ringlaw5_MountSays_L12_R where
  | x0 (v_w381 : (List Int))
def G_ringlaw5_MountSays_L12_ex : G_ringlaw5_MountSays_L12_R → Ex
  | .x0 _ => .exit 2
def G_ringlaw5_MountSays_L12_st (v_n2 : Int) (v_r66 : (Int × Int)) (v_r106 : ((List Int) × Int)) (v_z266 : (List (Fin 2 → Int))) : G_ringlaw5_MountSays_L12_R → PS
  | .x0 v_w381 => ⟨[dd, .d (.v (.int .i64 v_n2)), dd, dd, dd, dd, dd, dd, dd, .d (.v (.int .i64 v_r66.1)), .d (.v (.int .i64 v_r66.2)), dd, dd, dd, dd, .d (.sl (v_r106.1.map (eI .i64))), .d (.v (.int .i64 v_r106.2)), .d (.sl (v_z266.map (fun x => PV.agg [.v (.int .i64 (x 0)), .v (.int .i64 (x 1))]))), dd, dd, dd, dd, .srf 0, dd, dd, dd, dd, dd, dd, dd, dd, dd, dd, dd, dd, dd, dd, dd, dd, dd, dd, dd, dd, dd, dd, dd, dd, dd, dd, dd, dd, dd, dd, dd, dd, dd, dd, dd, dd, dd, dd, dd, dd, dd, dd, dd, dd, dd, dd, dd, dd, dd, dd, dd, dd, dd, dd, dd, dd, dd, dd, dd, dd, dd, dd, dd, dd, dd, dd, dd, dd, dd, dd, dd, dd, dd, dd, dd, dd, dd, dd, dd, dd, dd, dd, dd, dd, dd, dd, dd, dd, dd, dd, dd, dd, dd, dd, dd, dd, dd, dd, dd, dd, dd, dd, dd, dd, dd, dd, dd, dd, dd, dd, dd, dd, dd, dd, dd, dd, dd, dd, dd, dd, dd, dd, dd, dd, dd, dd, dd, dd, dd, dd, dd, dd, dd, dd, dd, dd, dd, dd, dd, dd, dd, dd, dd, dd, dd, dd, dd, dd, dd, dd, dd, dd, dd, dd, dd, dd, dd, dd, dd, dd, dd, dd, dd, dd, dd, dd, dd, dd, dd, dd, dd, dd, dd, dd, dd, dd, dd, dd, dd, dd, dd, dd, dd, dd, dd, dd, dd, dd, dd, dd, dd, dd, dd, dd, dd, dd, dd, dd, dd, dd, dd], [.row 3 1 (v_w381.map (eI .i64))]⟩
def G_ringlaw5_MountSays_L12_hd (v_n2 : Int) (v_r66 : (Int × Int)) (v_r106 : ((List Int) × Int)) (v_z266 : (List (Fin 2 → Int))) (v_k373 : Int) (v_w374 : (List Int)) : PS := ⟨[dd, .d (.v (.int .i64 v_n2)), dd, dd, dd, dd, dd, dd, dd, .d (.v (.int .i64 v_r66.1)), .d (.v (.int .i64 v_r66.2)), dd, dd, dd, dd, .d (.sl (v_r106.1.map (eI .i64))), .d (.v (.int .i64 v_r106.2)), .d (.sl (v_z266.map (fun x => PV.agg [.v (.int .i64 (x 0)), .v (.int .i64 (x 1))]))), dd, dd, dd, dd, .srf 0, .d (.v (.int .i64 v_k373)), dd, dd, dd, dd, dd, dd, dd, dd, dd, dd, dd, dd, dd, dd, dd, dd, dd, dd, dd, dd, dd, dd, dd, dd, dd, dd, dd, dd, dd, dd, dd, dd, dd, dd, dd, dd, dd, dd, dd, dd, dd, dd, dd, dd, dd, dd, dd, dd, dd, dd, dd, dd, dd, dd, dd, dd, dd, dd, dd, dd, dd, dd, dd, dd, dd, dd, dd, dd, dd, dd, dd, dd, dd, dd, dd, dd, dd, dd, dd, dd, dd, dd, dd, dd, dd, dd, dd, dd, dd, dd, dd, dd, dd, dd, dd, dd, dd, dd, dd, dd, dd, dd, dd, dd, dd, dd, dd, dd, dd, dd, dd, dd, dd, dd, dd, dd, dd, dd, dd, dd, dd, dd, dd, dd, dd, dd, dd, dd, dd, dd, dd, dd, dd, dd, dd, dd, dd, dd, dd, dd, dd, dd, dd, dd, dd, dd, dd, dd, dd, dd, dd, dd, dd, dd, dd, dd, dd, dd, dd, dd, dd, dd, dd, dd, dd, dd, dd, dd, dd, dd, dd, dd, dd, dd, dd, dd, dd, dd, dd, dd, dd, dd, dd, dd, dd, dd, dd, dd, dd, dd, dd, dd, dd, dd, dd, dd, dd, dd, dd, dd], [.row 3 1 (v_w374.map (eI .i64))]⟩
def G_ringlaw5_MountSays_L12 (n : Nat) (v_n2 : Int) (v_r66 : (Int × Int)) (v_r106 : ((List Int) × Int)) (v_z266 : (List (Fin 2 → Int))) : Nat → Int → (List Int) → Option G_ringlaw5_MountSays_L12_R
  | 0, _, _ => none
  | k + 1, v_k373, v_w374 =>
    if v_k373 ≤ 32 then
     (G_ringref5_DownOf n v_z266 v_k373).bind fun (v_r378 : (Int)) =>
     if v_r378 = v_n2 then
      (app 8 v_w374 ([v_k373])).bind fun (v_a380 : (List Int)) =>
      G_ringlaw5_MountSays_L12 n v_n2 v_r66 v_r106 v_z266 k (wi .i64 (v_k373 + 1)) v_a380
     else
      G_ringlaw5_MountSays_L12 n v_n2 v_r66 v_r106 v_z266 k (wi .i64 (v_k373 + 1)) v_w374
    else
     some (.x0 v_w374)
theorem G_ringlaw5_MountSays_L12_ok {Fi : Ex → PS → Prop} (hF : KC 224 Fi) (ks : List Fr) (n : Nat) (v_n2 : Int) (v_r66 : (Int × Int)) (v_r106 : ((List Int) × Int)) (v_z266 : (List (Fin 2 → Int)))  : ∀ (k : Nat) (v_k373 : Int) (v_w374 : (List Int)) (o : G_ringlaw5_MountSays_L12_R), G_ringlaw5_MountSays_L12 n v_n2 v_r66 v_r106 v_z266 k v_k373 v_w374 = some o → RunE Try.prog 224 Fi ks (G_ringlaw5_MountSays_L12_ex o) (G_ringlaw5_MountSays_L12_st v_n2 v_r66 v_r106 v_z266 o) → RunE Try.prog 224 Fi (.l k (cP (cB (cR (cL (cR (cR (cR (cR (cR (cR (cR (cR (cR (cR (cR (cR (cR (cR (cR (cR (bodyOf Try.f6))))))))))))))))))))) :: ks) .normal (G_ringlaw5_MountSays_L12_hd v_n2 v_r66 v_r106 v_z266 v_k373 v_w374)
  | 0, v_k373, v_w374, o, h, q => by rw [G_ringlaw5_MountSays_L12] at h; cases h
  | k + 1, v_k373, v_w374, o, h, q => by
    rw [G_ringlaw5_MountSays_L12] at h
    by_cases h375 : v_k373 ≤ 32
    · rw [if_pos h375] at h
      obtain ⟨v_r378, h381, h⟩ := bind_some h
      by_cases h384 : v_r378 = v_n2
      · rw [if_pos h384] at h
        obtain ⟨v_a380, h385, h⟩ := bind_some h
        exact pkk_sound TTok mix hF 14 (hs := [.t true, .r ((eI .i64) v_r378), .t true, .bd, .w (v_a380.map (eI .i64))]) (ts := []) (s := [31]) (l := [1, 9, 10, 15, 16, 17, 22, 23]) (by kernel_rfl) (by kernel_rfl) (.cons (dt h375) (.cons (G_ringref5_DownOf_ok n v_z266 v_k373 _ h381) (.cons (bt h384) (.cons (app_ob (f := (eI .i64)) (s := 1) h385 (fun _ => rfl)).1 (.cons (app_ob (f := (eI .i64)) (s := 1) h385 (fun _ => rfl)).2.1 (.cons (app_ob (f := (eI .i64)) (s := 1) h385 (fun _ => rfl)).2.2.1 (.cons (app_ob (f := (eI .i64)) (s := 1) h385 (fun _ => rfl)).2.2.2 .nil))))))) (G_ringlaw5_MountSays_L12_ok hF ks n v_n2 v_r66 v_r106 v_z266 k (wi .i64 (v_k373 + 1)) v_a380 _ h q)
      · rw [if_neg h384] at h
        exact pkk_sound TTok mix hF 14 (hs := [.t true, .r ((eI .i64) v_r378), .t false]) (ts := []) (s := [0]) (l := [1, 9, 10, 15, 16, 17, 22, 23]) (by kernel_rfl) (by kernel_rfl) (.cons (dt h375) (.cons (G_ringref5_DownOf_ok n v_z266 v_k373 _ h381) (.cons (bf h384) .nil))) (G_ringlaw5_MountSays_L12_ok hF ks n v_n2 v_r66 v_r106 v_z266 k (wi .i64 (v_k373 + 1)) v_w374 _ h q)
    · rw [if_neg h375] at h
      cases h
      exact pkk_sound TTok mix hF 8 (hs := [.t false]) (ts := []) (s := [0]) (l := [1, 9, 10, 15, 16, 17, 22]) (by kernel_rfl) (by kernel_rfl) (.cons (df h375) .nil) q
inductive G_ringlaw5_MountSays_C13_R where
  | x0 (v_x388 : Bool)
def G_ringlaw5_MountSays_C13_ex : G_ringlaw5_MountSays_C13_R → Ex
  | .x0 _ => .normal
def G_ringlaw5_MountSays_C13_st (v_n2 : Int) (v_r66 : (Int × Int)) (v_r106 : ((List Int) × Int)) (v_z266 : (List (Fin 2 → Int))) (v_z383 : (List Int)) : G_ringlaw5_MountSays_C13_R → PS
  | .x0 v_x388 => ⟨[dd, dd, dd, dd, dd, dd, dd, dd, .d (.v (.bool v_x388)), dd, dd, dd, dd, dd, dd, dd, dd, dd, dd, dd, dd, dd, dd, dd, dd, dd, dd, dd, dd, dd, dd, dd, dd, dd, dd, dd, dd, dd, dd, dd, dd, dd, dd, dd, dd, dd, dd, dd, dd, dd, dd, dd, dd, dd, dd, dd, dd, dd, dd, dd, dd, dd, dd, dd, dd, dd, dd, dd, dd, dd, dd, dd, dd, dd, dd, dd, dd, dd, dd, dd, dd, dd, dd, dd, dd, dd, dd, dd, dd, dd, dd, dd, dd, dd, dd, dd, dd, dd, dd, dd, dd, dd, dd, dd, dd, dd, dd, dd, dd, dd, dd, dd, dd, dd, dd, dd, dd, dd, dd, dd, dd, dd, dd, dd, dd, dd, dd, dd, dd, dd, dd, dd, dd, dd, dd, dd, dd, dd, dd, dd, dd, dd, dd, dd, dd, dd, dd, dd, dd, dd, dd, dd, dd, dd, dd, dd, dd, dd, dd, dd, dd, dd, dd, dd, dd, dd, dd, dd, dd, dd, dd, dd, dd, dd, dd, dd, dd, dd, dd, dd, dd, dd, dd, dd, dd, dd, dd, dd, dd, dd, dd, dd, dd, dd, dd, dd, dd, dd, dd, dd, dd, dd, dd, dd, dd, dd, dd, dd, dd, dd, dd, dd, dd, dd, dd, dd, dd, dd, dd, dd, dd, dd, dd, dd], []⟩
def G_ringlaw5_MountSays_C13_hd (v_n2 : Int) (v_r66 : (Int × Int)) (v_r106 : ((List Int) × Int)) (v_z266 : (List (Fin 2 → Int))) (v_z383 : (List Int))  : PS := ⟨[dd, .d (.v (.int .i64 v_n2)), dd, dd, dd, dd, dd, dd, dd, .d (.v (.int .i64 v_r66.1)), .d (.v (.int .i64 v_r66.2)), dd, dd, dd, dd, .d (.sl (v_r106.1.map (eI .i64))), .d (.v (.int .i64 v_r106.2)), .d (.sl (v_z266.map (fun x => PV.agg [.v (.int .i64 (x 0)), .v (.int .i64 (x 1))]))), dd, dd, dd, dd, .srf 0, dd, dd, dd, dd, dd, dd, dd, dd, dd, dd, dd, dd, dd, dd, dd, dd, dd, dd, dd, dd, dd, dd, dd, dd, dd, dd, dd, dd, dd, dd, dd, dd, dd, dd, dd, dd, dd, dd, dd, dd, dd, dd, dd, dd, dd, dd, dd, dd, dd, dd, dd, dd, dd, dd, dd, dd, dd, dd, dd, dd, dd, dd, dd, dd, dd, dd, dd, dd, dd, dd, dd, dd, dd, dd, dd, dd, dd, dd, dd, dd, dd, dd, dd, dd, dd, dd, dd, dd, dd, dd, dd, dd, dd, dd, dd, dd, dd, dd, dd, dd, dd, dd, dd, dd, dd, dd, dd, dd, dd, dd, dd, dd, dd, dd, dd, dd, dd, dd, dd, dd, dd, dd, dd, dd, dd, dd, dd, dd, dd, dd, dd, dd, dd, dd, dd, dd, dd, dd, dd, dd, dd, dd, dd, dd, dd, dd, dd, dd, dd, dd, dd, dd, dd, dd, dd, dd, dd, dd, dd, dd, dd, dd, dd, dd, dd, dd, dd, dd, dd, dd, dd, dd, dd, dd, dd, dd, dd, dd, dd, dd, dd, dd, dd, dd, dd, dd, dd, dd, dd, dd, dd, dd, dd, dd, dd, dd, dd, dd, dd, dd, dd], [.row 3 1 (v_z383.map (eI .i64))]⟩
def G_ringlaw5_MountSays_C13 (n : Nat) (v_n2 : Int) (v_r66 : (Int × Int)) (v_r106 : ((List Int) × Int)) (v_z266 : (List (Fin 2 → Int))) (v_z383 : (List Int)) : Option G_ringlaw5_MountSays_C13_R :=
  if v_r66.2 = 0 then
   (G_ringref5_DownOf n v_z266 v_n2).bind fun (v_r386 : (Int)) =>
   if v_r66.1 = v_r386 then
    if v_r106.2 = 0 then
     (G_slices_Equal_int_int n v_r106.1 v_z383).bind fun (v_r387 : (Bool)) =>
     some (.x0 v_r387)
    else
     some (.x0 false)
   else
    some (.x0 false)
  else
   some (.x0 false)
theorem G_ringlaw5_MountSays_C13_ok {Fi : Ex → PS → Prop} (hF : KC 224 Fi) (ks : List Fr) (n : Nat) (v_n2 : Int) (v_r66 : (Int × Int)) (v_r106 : ((List Int) × Int)) (v_z266 : (List (Fin 2 → Int))) (v_z383 : (List Int))  (o : G_ringlaw5_MountSays_C13_R) (h : G_ringlaw5_MountSays_C13 n v_n2 v_r66 v_r106 v_z266 v_z383 = some o) (q : RunE Try.prog 224 Fi ks (G_ringlaw5_MountSays_C13_ex o) (G_ringlaw5_MountSays_C13_st v_n2 v_r66 v_r106 v_z266 v_z383 o)) : RunE Try.prog 224 Fi (.s (cL (cR (cR (cR (cR (cR (cR (cR (cR (cR (cR (cR (cR (cR (cR (cR (cR (cR (bodyOf Try.f6))))))))))))))))))) :: ks) .normal (G_ringlaw5_MountSays_C13_hd v_n2 v_r66 v_r106 v_z266 v_z383) := by
  unfold G_ringlaw5_MountSays_C13 at h
  by_cases h392 : v_r66.2 = 0
  · rw [if_pos h392] at h
    obtain ⟨v_r386, h393, h⟩ := bind_some h
    by_cases h394 : v_r66.1 = v_r386
    · rw [if_pos h394] at h
      by_cases h395 : v_r106.2 = 0
      · rw [if_pos h395] at h
        obtain ⟨v_r387, h396, h⟩ := bind_some h
        cases h
        exact pkk_sound TTok mix hF 1 (hs := [.t true, .c, .c, .c, .r ((eI .i64) v_r386), .c, .t true, .c, .t true, .c, .c, .c, .r (eB v_r387)]) (ts := []) (s := []) (l := [8]) (by kernel_rfl) (by kernel_rfl) (.cons (bt h392) (.cons (G_ringref5_DownOf_ok n v_z266 v_n2 _ h393) (.cons (bt h394) (.cons (bt h395) (.cons (G_slices_Equal_int_int_ok n v_r106.1 v_z383 _ h396) .nil))))) q
      · rw [if_neg h395] at h
        cases h
        exact pkk_sound TTok mix hF 1 (hs := [.t true, .c, .c, .c, .r ((eI .i64) v_r386), .c, .t true, .c, .t false, .c, .c]) (ts := []) (s := []) (l := [8]) (by kernel_rfl) (by kernel_rfl) (.cons (bt h392) (.cons (G_ringref5_DownOf_ok n v_z266 v_n2 _ h393) (.cons (bt h394) (.cons (bf h395) .nil)))) q
    · rw [if_neg h394] at h
      cases h
      exact pkk_sound TTok mix hF 1 (hs := [.t true, .c, .c, .c, .r ((eI .i64) v_r386), .c, .t false, .c, .c, .c, .c]) (ts := []) (s := []) (l := [8]) (by kernel_rfl) (by kernel_rfl) (.cons (bt h392) (.cons (G_ringref5_DownOf_ok n v_z266 v_n2 _ h393) (.cons (bf h394) .nil))) q
  · rw [if_neg h392] at h
    cases h
    exact pkk_sound TTok mix hF 1 (hs := [.t false, .c, .c, .c, .c, .c, .c, .c, .c, .c]) (ts := []) (s := []) (l := [8]) (by kernel_rfl) (by kernel_rfl) (.cons (bf h392) .nil) q
/- ringhall/ringlaw5.MountSays -/
def G_ringlaw5_MountSays (n : Nat) (v_l1 : (List S_mount_Mount)) (v_n2 : Int) (v_at3 : Int) (v_root4 : Int) : Option (Bool) :=
  (G_mount_Down n v_l1 v_n2).bind fun (v_r66 : (Int × Int)) =>
  (G_mount_Add n v_l1 v_at3 v_root4).bind fun (v_r81 : ((List S_mount_Mount) × Int)) =>
  (G_mount_Out n v_l1 v_at3).bind fun (v_r91 : ((List S_mount_Mount) × Int)) =>
  (G_mount_Seen n v_l1 v_n2).bind fun (v_r106 : ((List Int) × Int)) =>
  (G_ringlaw5_MountSays_L1 n v_l1 v_n2 v_root4 v_r66 v_r81 v_r91 v_r106 v_at3 n 0 ([] : List (Fin 2 → Int))).bind fun v_o114 => match v_o114 with
  | .x0 v_z115 =>
    (G_ringref5_MountErr n v_z115).bind fun (v_r188 : (Int)) =>
    (G_mount_Check n v_l1).bind fun (v_r189 : (Int)) =>
    if v_r189 = v_r188 then
     if v_r188 = 0 then
      (G_slices_IndexFunc_mount_Mount_mount_Mount n v_l1 (fun (y0 : S_mount_Mount) => G_ringlaw5_MountSays_1 n y0 v_at3)).bind fun (v_r208 : (Int)) =>
      (G_ringlaw5_MountSays_C3 n v_l1 v_n2 v_root4 v_r66 v_r81 v_r91 v_r106 v_r208 v_at3 v_z115).bind fun v_o264 => match v_o264 with
      | .x0 v_z265 =>
        some v_z265
      | .x1 v_z266 =>
        (G_slices_Clone_2_int_2_int n v_z266).bind fun (v_r274 : ((List (Fin 2 → Int)))) =>
        (app 16 v_r274 ([(fun i : Fin 2 => [v_at3, v_root4].get i)])).bind fun (v_a275 : (List (Fin 2 → Int))) =>
        (G_ringref5_MountErr n v_a275).bind fun (v_r276 : (Int)) =>
        if v_r276 = 2 then
         (G_ringlaw5_MountSays_C4 n v_l1 v_n2 v_root4 v_r66 v_r81 v_r106 v_z266 v_at3).bind fun v_o280 => match v_o280 with
         | .x0 v_z281 =>
           if v_z281 = true then
            some false
           else
            if v_n2 < 1 then
             (G_ringlaw5_MountSays_C5 n v_r66 v_r106).bind fun v_o292 => match v_o292 with
             | .x0 v_z293 =>
               some v_z293
            else
             if v_n2 > 32 then
              (G_ringlaw5_MountSays_C6 n v_r66 v_r106).bind fun v_o304 => match v_o304 with
              | .x0 v_z305 =>
                some v_z305
             else
              (G_ringlaw5_MountSays_L7 n v_n2 v_r66 v_r106 v_z266 n 1 ([] : List Int)).bind fun v_o315 => match v_o315 with
              | .x0 v_z316 =>
                (G_ringlaw5_MountSays_C8 n v_n2 v_r66 v_r106 v_z266 v_z316).bind fun v_o335 => match v_o335 with
                | .x0 v_z336 =>
                  some v_z336
        else
         (G_ringlaw5_MountSays_C9 n v_l1 v_n2 v_root4 v_r66 v_r81 v_r106 v_z266 v_r276 v_at3).bind fun v_o347 => match v_o347 with
         | .x0 v_z348 =>
           if v_z348 = true then
            some false
           else
            if v_n2 < 1 then
             (G_ringlaw5_MountSays_C10 n v_r66 v_r106).bind fun v_o359 => match v_o359 with
             | .x0 v_z360 =>
               some v_z360
            else
             if v_n2 > 32 then
              (G_ringlaw5_MountSays_C11 n v_r66 v_r106).bind fun v_o371 => match v_o371 with
              | .x0 v_z372 =>
                some v_z372
             else
              (G_ringlaw5_MountSays_L12 n v_n2 v_r66 v_r106 v_z266 n 1 ([] : List Int)).bind fun v_o382 => match v_o382 with
              | .x0 v_z383 =>
                (G_ringlaw5_MountSays_C13 n v_n2 v_r66 v_r106 v_z266 v_z383).bind fun v_o392 => match v_o392 with
                | .x0 v_z393 =>
                  some v_z393
     else
      (G_ringlaw5_MountSays_C2 n v_r66 v_r81 v_r91 v_r106 v_r188).bind fun v_o204 => match v_o204 with
      | .x0 v_z205 =>
        some v_z205
    else
     some false
theorem G_ringlaw5_MountSays_ok (n : Nat) (v_l1 : (List S_mount_Mount)) (v_n2 : Int) (v_at3 : Int) (v_root4 : Int) (r : Bool) (h : G_ringlaw5_MountSays n v_l1 v_n2 v_at3 v_root4 = some r) : Ret Try.prog 6 [(eL eS_mount_Mount) v_l1, (eI .i64) v_n2, (eI .i64) v_at3, (eI .i64) v_root4] (eB r) := by
  refine ret_run (n := 224) (fn := Try.f6) (c := bodyOf Try.f6) (by kernel_rfl) (by kernel_rfl) (by kernel_rfl) (by kernel_rfl) ?_
  have hF : KC 224 (FinR Try.prog Try.f6 (eB r)) := FinR.kc' (by kernel_rfl)
  unfold G_ringlaw5_MountSays at h
  obtain ⟨v_r66, h58, h⟩ := bind_some h
  obtain ⟨v_r81, h71, h⟩ := bind_some h
  obtain ⟨v_r91, h87, h⟩ := bind_some h
  obtain ⟨v_r106, h103, h⟩ := bind_some h
  obtain ⟨v_o114, h109, h⟩ := bind_some h
  refine pkk_sound TTok mix hF 17 (hs := [.r (.tup [(eI .i64) v_r66.1, (eI .i64) v_r66.2]), .c, .r (.tup [(eL eS_mount_Mount) v_r81.1, (eI .i64) v_r81.2]), .c, .r (.tup [(eL eS_mount_Mount) v_r91.1, (eI .i64) v_r91.2]), .r (.tup [(eL (eI .i64)) v_r106.1, (eI .i64) v_r106.2]), .u (.d (.v (.int .i64 (v_l1.length : Int)))), .n n]) (ts := [(17, 79, 2)]) (s := [0, 117]) (l := [0, 1, 3, 6, 9, 10, 11, 12, 13, 14, 15, 16, 17, 49, 50, 51]) (by kernel_rfl) (by kernel_rfl) (.cons (G_mount_Down_ok n v_l1 v_n2 _ h58) (.cons (G_mount_Add_ok n v_l1 v_at3 v_root4 _ h71) (.cons (G_mount_Out_ok n v_l1 v_at3 _ h87) (.cons (G_mount_Seen_ok n v_l1 v_n2 _ h103) (.cons (len_ob (f := eS_mount_Mount) (l := v_l1)) .nil))))) (G_ringlaw5_MountSays_L1_ok hF (.b 0 :: .s (cR (cR (cR (cR (cR (cR (cR (bodyOf Try.f6)))))))) :: []) n v_l1 v_n2 v_root4 v_r66 v_r81 v_r91 v_r106 v_at3 n 0 ([] : List (Fin 2 → Int)) _ h109 ?_)
  cases v_o114 with
  | x0 v_z115 =>
    dsimp only at h
    obtain ⟨v_r188, h169, h⟩ := bind_some h
    obtain ⟨v_r189, h170, h⟩ := bind_some h
    by_cases h171 : v_r189 = v_r188
    · rw [if_pos h171] at h
      by_cases h184 : v_r188 = 0
      · rw [if_pos h184] at h
        obtain ⟨v_r208, h196, h⟩ := bind_some h
        obtain ⟨v_o264, h254, h⟩ := bind_some h
        refine pkk_sound TTok mix hF 18 (hs := [.c, .r ((eI .i64) v_r188), .r ((eI .i64) v_r189), .t false, .t false, .c, .r ((eI .i64) v_r208)]) (ts := []) (s := [0, 1]) (l := [0, 1, 3, 6, 9, 10, 11, 12, 13, 14, 15, 16, 17, 21, 109]) (by kernel_rfl) (by kernel_rfl) (.cons (G_ringref5_MountErr_ok n v_z115 _ h169) (.cons (G_mount_Check_ok n v_l1 _ h170) (.cons (nf h171) (.cons (nf h184) (.cons (G_slices_IndexFunc_mount_Mount_mount_Mount_ok n v_l1 (fun (y0 : S_mount_Mount) => G_ringlaw5_MountSays_1 n y0 v_at3) 46 [.iptr [.v (.int .i64 v_at3)] 0] (fun y0 r h => G_ringlaw5_MountSays_1_ok n y0 v_at3 r h) _ h196) .nil))))) (G_ringlaw5_MountSays_C3_ok hF (.s (cR (cR (cR (cR (cR (cR (cR (cR (cR (cR (cR (bodyOf Try.f6)))))))))))) :: []) n v_l1 v_n2 v_root4 v_r66 v_r81 v_r91 v_r106 v_r208 v_at3 v_z115 _ h254 ?_)
        cases v_o264 with
        | x0 v_z265 =>
          dsimp only at h
          obtain rfl := Option.some.inj h
          exact pend_sound TTok mix 1 (hs := []) (by kernel_rfl) (by kernel_rfl) (by kernel_rfl) .nil
        | x1 v_z266 =>
          dsimp only at h
          obtain ⟨v_r274, h257, h⟩ := bind_some h
          obtain ⟨v_a275, h258, h⟩ := bind_some h
          obtain ⟨v_r276, h259, h⟩ := bind_some h
          by_cases h260 : v_r276 = 2
          · rw [if_pos h260] at h
            obtain ⟨v_o280, h265, h⟩ := bind_some h
            refine pkk_sound TTok mix hF 10 (hs := [.dl 1, .fz 1, .h [] [] [.row 79 2 (v_r274.map (fun x => PV.agg [.v (.int .i64 (x 0)), .v (.int .i64 (x 1))]))] (.srf 0), .c, .bd, .w (v_a275.map (fun x => PV.agg [.v (.int .i64 (x 0)), .v (.int .i64 (x 1))])), .c, .r ((eI .i64) v_r276), .t true]) (ts := []) (s := [0]) (l := [0, 1, 3, 6, 9, 10, 11, 12, 15, 16, 17, 20]) (by kernel_rfl) (by kernel_rfl) (.cons (G_slices_Clone_2_int_2_int_ok n v_z266 _ h257) (.cons (app_ob (f := (fun x => PV.agg [.v (.int .i64 (x 0)), .v (.int .i64 (x 1))])) (s := 2) h258 (fun _ => rfl)).1 (.cons (app_ob (f := (fun x => PV.agg [.v (.int .i64 (x 0)), .v (.int .i64 (x 1))])) (s := 2) h258 (fun _ => rfl)).2.1 (.cons (app_ob (f := (fun x => PV.agg [.v (.int .i64 (x 0)), .v (.int .i64 (x 1))])) (s := 2) h258 (fun _ => rfl)).2.2.1 (.cons (app_ob (f := (fun x => PV.agg [.v (.int .i64 (x 0)), .v (.int .i64 (x 1))])) (s := 2) h258 (fun _ => rfl)).2.2.2 (.cons (G_ringref5_MountErr_ok n v_a275 _ h259) (.cons (bt h260) .nil))))))) (G_ringlaw5_MountSays_C4_ok hF (.s (cR (cL (cR (cR (cR (cR (cR (cR (cR (cR (cR (cR (cR (cR (cR (bodyOf Try.f6)))))))))))))))) :: .s (cR (cR (cR (cR (cR (cR (cR (cR (cR (cR (cR (cR (cR (cR (bodyOf Try.f6))))))))))))))) :: []) n v_l1 v_n2 v_root4 v_r66 v_r81 v_r106 v_z266 v_at3 _ h265 ?_)
            cases v_o280 with
            | x0 v_z281 =>
              dsimp only at h
              by_cases h266 : v_z281 = true
              · rw [if_pos h266] at h
                obtain rfl := Option.some.inj h
                exact pend_sound TTok mix 5 (hs := [.t true]) (by kernel_rfl) (by kernel_rfl) (by kernel_rfl) (.cons h266 .nil)
              · rw [if_neg h266] at h
                by_cases h267 : v_n2 < 1
                · rw [if_pos h267] at h
                  obtain ⟨v_o292, h281, h⟩ := bind_some h
                  refine pkk_sound TTok mix hF 7 (hs := [.t false, .t true, .c, .c]) (ts := []) (s := []) (l := [9, 10, 15, 16]) (by kernel_rfl) (by kernel_rfl) (.cons (vf h266) (.cons (dt h267) .nil)) (G_ringlaw5_MountSays_C5_ok hF (.s (cR (cT (cR (cL (cR (cR (cR (cR (cR (cR (cR (cR (cR (cR (cR (cR (cR (cR (bodyOf Try.f6))))))))))))))))))) :: .s (cR (cR (cR (cR (cR (cR (cR (cR (cR (cR (cR (cR (cR (cR (cR (bodyOf Try.f6)))))))))))))))) :: []) n v_r66 v_r106 _ h281 ?_)
                  cases v_o292 with
                  | x0 v_z293 =>
                    dsimp only at h
                    obtain rfl := Option.some.inj h
                    exact pend_sound TTok mix 2 (hs := []) (by kernel_rfl) (by kernel_rfl) (by kernel_rfl) .nil
                · rw [if_neg h267] at h
                  by_cases h290 : v_n2 > 32
                  · rw [if_pos h290] at h
                    obtain ⟨v_o304, h297, h⟩ := bind_some h
                    refine pkk_sound TTok mix hF 7 (hs := [.t false, .t false, .c, .t true]) (ts := []) (s := []) (l := [9, 10, 15, 16]) (by kernel_rfl) (by kernel_rfl) (.cons (vf h266) (.cons (df h267) (.cons (dt h290) .nil))) (G_ringlaw5_MountSays_C6_ok hF (.s (cR (cT (cR (cL (cR (cR (cR (cR (cR (cR (cR (cR (cR (cR (cR (cR (cR (cR (bodyOf Try.f6))))))))))))))))))) :: .s (cR (cR (cR (cR (cR (cR (cR (cR (cR (cR (cR (cR (cR (cR (cR (bodyOf Try.f6)))))))))))))))) :: []) n v_r66 v_r106 _ h297 ?_)
                    cases v_o304 with
                    | x0 v_z305 =>
                      dsimp only at h
                      obtain rfl := Option.some.inj h
                      exact pend_sound TTok mix 2 (hs := []) (by kernel_rfl) (by kernel_rfl) (by kernel_rfl) .nil
                  · rw [if_neg h290] at h
                    obtain ⟨v_o315, h309, h⟩ := bind_some h
                    refine pkk_sound TTok mix hF 14 (hs := [.t false, .t false, .c, .t false, .n n]) (ts := [(22, 3, 1)]) (s := [24]) (l := [1, 9, 10, 15, 16, 17, 22, 23]) (by kernel_rfl) (by kernel_rfl) (.cons (vf h266) (.cons (df h267) (.cons (df h290) .nil))) (G_ringlaw5_MountSays_L7_ok hF (.b 2 :: .s (cR (cR (cR (cR (cR (cR (cR (cR (cR (cR (cR (cR (cR (cR (cR (cR (cR (bodyOf Try.f6)))))))))))))))))) :: []) n v_n2 v_r66 v_r106 v_z266 n 1 ([] : List Int) _ h309 ?_)
                    cases v_o315 with
                    | x0 v_z316 =>
                      dsimp only at h
                      obtain ⟨v_o335, h329, h⟩ := bind_some h
                      refine pkk_sound TTok mix hF 2 (hs := []) (ts := []) (s := [0]) (l := [1, 9, 10, 15, 16, 17, 22]) (by kernel_rfl) (by kernel_rfl) .nil (G_ringlaw5_MountSays_C8_ok hF (.s (cR (cR (cR (cR (cR (cR (cR (cR (cR (cR (cR (cR (cR (cR (cR (cR (cR (cR (bodyOf Try.f6))))))))))))))))))) :: []) n v_n2 v_r66 v_r106 v_z266 v_z316 _ h329 ?_)
                      cases v_o335 with
                      | x0 v_z336 =>
                        dsimp only at h
                        obtain rfl := Option.some.inj h
                        exact pend_sound TTok mix 1 (hs := []) (by kernel_rfl) (by kernel_rfl) (by kernel_rfl) .nil
          · rw [if_neg h260] at h
            obtain ⟨v_o347, h342, h⟩ := bind_some h
            refine pkk_sound TTok mix hF 10 (hs := [.dl 1, .fz 1, .h [] [] [.row 79 2 (v_r274.map (fun x => PV.agg [.v (.int .i64 (x 0)), .v (.int .i64 (x 1))]))] (.srf 0), .c, .bd, .w (v_a275.map (fun x => PV.agg [.v (.int .i64 (x 0)), .v (.int .i64 (x 1))])), .c, .r ((eI .i64) v_r276), .t false]) (ts := []) (s := [0]) (l := [0, 1, 3, 6, 9, 10, 11, 12, 15, 16, 17, 20]) (by kernel_rfl) (by kernel_rfl) (.cons (G_slices_Clone_2_int_2_int_ok n v_z266 _ h257) (.cons (app_ob (f := (fun x => PV.agg [.v (.int .i64 (x 0)), .v (.int .i64 (x 1))])) (s := 2) h258 (fun _ => rfl)).1 (.cons (app_ob (f := (fun x => PV.agg [.v (.int .i64 (x 0)), .v (.int .i64 (x 1))])) (s := 2) h258 (fun _ => rfl)).2.1 (.cons (app_ob (f := (fun x => PV.agg [.v (.int .i64 (x 0)), .v (.int .i64 (x 1))])) (s := 2) h258 (fun _ => rfl)).2.2.1 (.cons (app_ob (f := (fun x => PV.agg [.v (.int .i64 (x 0)), .v (.int .i64 (x 1))])) (s := 2) h258 (fun _ => rfl)).2.2.2 (.cons (G_ringref5_MountErr_ok n v_a275 _ h259) (.cons (bf h260) .nil))))))) (G_ringlaw5_MountSays_C9_ok hF (.s (cR (cL (cR (cR (cR (cR (cR (cR (cR (cR (cR (cR (cR (cR (cR (bodyOf Try.f6)))))))))))))))) :: .s (cR (cR (cR (cR (cR (cR (cR (cR (cR (cR (cR (cR (cR (cR (bodyOf Try.f6))))))))))))))) :: []) n v_l1 v_n2 v_root4 v_r66 v_r81 v_r106 v_z266 v_r276 v_at3 _ h342 ?_)
            cases v_o347 with
            | x0 v_z348 =>
              dsimp only at h
              by_cases h343 : v_z348 = true
              · rw [if_pos h343] at h
                obtain rfl := Option.some.inj h
                exact pend_sound TTok mix 5 (hs := [.t true]) (by kernel_rfl) (by kernel_rfl) (by kernel_rfl) (.cons h343 .nil)
              · rw [if_neg h343] at h
                by_cases h344 : v_n2 < 1
                · rw [if_pos h344] at h
                  obtain ⟨v_o359, h358, h⟩ := bind_some h
                  refine pkk_sound TTok mix hF 7 (hs := [.t false, .t true, .c, .c]) (ts := []) (s := []) (l := [9, 10, 15, 16]) (by kernel_rfl) (by kernel_rfl) (.cons (vf h343) (.cons (dt h344) .nil)) (G_ringlaw5_MountSays_C10_ok hF (.s (cR (cT (cR (cL (cR (cR (cR (cR (cR (cR (cR (cR (cR (cR (cR (cR (cR (cR (bodyOf Try.f6))))))))))))))))))) :: .s (cR (cR (cR (cR (cR (cR (cR (cR (cR (cR (cR (cR (cR (cR (cR (bodyOf Try.f6)))))))))))))))) :: []) n v_r66 v_r106 _ h358 ?_)
                  cases v_o359 with
                  | x0 v_z360 =>
                    dsimp only at h
                    obtain rfl := Option.some.inj h
                    exact pend_sound TTok mix 2 (hs := []) (by kernel_rfl) (by kernel_rfl) (by kernel_rfl) .nil
                · rw [if_neg h344] at h
                  by_cases h367 : v_n2 > 32
                  · rw [if_pos h367] at h
                    obtain ⟨v_o371, h374, h⟩ := bind_some h
                    refine pkk_sound TTok mix hF 7 (hs := [.t false, .t false, .c, .t true]) (ts := []) (s := []) (l := [9, 10, 15, 16]) (by kernel_rfl) (by kernel_rfl) (.cons (vf h343) (.cons (df h344) (.cons (dt h367) .nil))) (G_ringlaw5_MountSays_C11_ok hF (.s (cR (cT (cR (cL (cR (cR (cR (cR (cR (cR (cR (cR (cR (cR (cR (cR (cR (cR (bodyOf Try.f6))))))))))))))))))) :: .s (cR (cR (cR (cR (cR (cR (cR (cR (cR (cR (cR (cR (cR (cR (cR (bodyOf Try.f6)))))))))))))))) :: []) n v_r66 v_r106 _ h374 ?_)
                    cases v_o371 with
                    | x0 v_z372 =>
                      dsimp only at h
                      obtain rfl := Option.some.inj h
                      exact pend_sound TTok mix 2 (hs := []) (by kernel_rfl) (by kernel_rfl) (by kernel_rfl) .nil
                  · rw [if_neg h367] at h
                    obtain ⟨v_o382, h386, h⟩ := bind_some h
                    refine pkk_sound TTok mix hF 14 (hs := [.t false, .t false, .c, .t false, .n n]) (ts := [(22, 3, 1)]) (s := [24]) (l := [1, 9, 10, 15, 16, 17, 22, 23]) (by kernel_rfl) (by kernel_rfl) (.cons (vf h343) (.cons (df h344) (.cons (df h367) .nil))) (G_ringlaw5_MountSays_L12_ok hF (.b 2 :: .s (cR (cR (cR (cR (cR (cR (cR (cR (cR (cR (cR (cR (cR (cR (cR (cR (cR (bodyOf Try.f6)))))))))))))))))) :: []) n v_n2 v_r66 v_r106 v_z266 n 1 ([] : List Int) _ h386 ?_)
                    cases v_o382 with
                    | x0 v_z383 =>
                      dsimp only at h
                      obtain ⟨v_o392, h397, h⟩ := bind_some h
                      refine pkk_sound TTok mix hF 2 (hs := []) (ts := []) (s := [0]) (l := [1, 9, 10, 15, 16, 17, 22]) (by kernel_rfl) (by kernel_rfl) .nil (G_ringlaw5_MountSays_C13_ok hF (.s (cR (cR (cR (cR (cR (cR (cR (cR (cR (cR (cR (cR (cR (cR (cR (cR (cR (cR (bodyOf Try.f6))))))))))))))))))) :: []) n v_n2 v_r66 v_r106 v_z266 v_z383 _ h397 ?_)
                      cases v_o392 with
                      | x0 v_z393 =>
                        dsimp only at h
                        obtain rfl := Option.some.inj h
                        exact pend_sound TTok mix 1 (hs := []) (by kernel_rfl) (by kernel_rfl) (by kernel_rfl) .nil
      · rw [if_neg h184] at h
        obtain ⟨v_o204, h195, h⟩ := bind_some h
        refine pkk_sound TTok mix hF 13 (hs := [.c, .r ((eI .i64) v_r188), .r ((eI .i64) v_r189), .t false, .t true]) (ts := []) (s := []) (l := [9, 10, 11, 12, 13, 14, 15, 16, 20]) (by kernel_rfl) (by kernel_rfl) (.cons (G_ringref5_MountErr_ok n v_z115 _ h169) (.cons (G_mount_Check_ok n v_l1 _ h170) (.cons (nf h171) (.cons (nt h184) .nil)))) (G_ringlaw5_MountSays_C2_ok hF (.s (cR (cT (cR (cL (cR (cR (cR (cR (cR (cR (cR (cR (cR (bodyOf Try.f6)))))))))))))) :: .s (cR (cR (cR (cR (cR (cR (cR (cR (cR (cR (bodyOf Try.f6))))))))))) :: []) n v_r66 v_r81 v_r91 v_r106 v_r188 _ h195 ?_)
        cases v_o204 with
        | x0 v_z205 =>
          dsimp only at h
          obtain rfl := Option.some.inj h
          exact pend_sound TTok mix 2 (hs := []) (by kernel_rfl) (by kernel_rfl) (by kernel_rfl) .nil
    · rw [if_neg h171] at h
      obtain rfl := Option.some.inj h
      exact pend_sound TTok mix 11 (hs := [.c, .r ((eI .i64) v_r188), .r ((eI .i64) v_r189), .t true]) (by kernel_rfl) (by kernel_rfl) (by kernel_rfl) (.cons (G_ringref5_MountErr_ok n v_z115 _ h169) (.cons (G_mount_Check_ok n v_l1 _ h170) (.cons (nt h171) .nil)))
def okS_mount_Mount (x : S_mount_Mount) : Prop := (fun a => (Lit.int .i64 a).wf = true) x.fAt ∧ (fun a => (Lit.int .i64 a).wf = true) x.fRoot ∧ True
theorem brS_mount_Mount : Br (.pair (.int .i64) (.pair (.int .i64) .unit)) (fun x : S_mount_Mount => [.v (.int .i64 x.fAt), .v (.int .i64 x.fRoot)]) okS_mount_Mount := br_map (br_pair (br_int .i64) (br_pair (br_int .i64) br_unit)) (fun p => S_mount_Mount.mk p.1 p.2.1) (fun p h => ⟨rfl, h⟩)
theorem MountSays_walk (H : ∀ (a0 : (List S_mount_Mount)) (a1 : Int) (a2 : Int) (a3 : Int), (okL 16 okS_mount_Mount) a0 → (fun a => (Lit.int .i64 a).wf = true) a1 → (fun a => (Lit.int .i64 a).wf = true) a2 → (fun a => (Lit.int .i64 a).wf = true) a3 → ∃ n, G_ringlaw5_MountSays n a0 a1 a2 a3 = some true) (w : World) (v0 : Value) (v1 : Value) (v2 : Value) (v3 : Value) (h0 : rep.Arg w (.slice 16 (.pair (.int .i64) (.pair (.int .i64) .unit))) v0) (h1 : rep.Arg w (.int .i64) v1) (h2 : rep.Arg w (.int .i64) v2) (h3 : rep.Arg w (.int .i64) v3) : Calls Try.prog 6 #[v0, v1, v2, v3] w (help.Ret (.bool true) w) := by
  obtain ⟨a0, o0, r0⟩ := arg_one (br_slice (f := eS_mount_Mount) (ok := okS_mount_Mount) brS_mount_Mount (fun _ => rfl) (by decide)) (by rfl) h0
  obtain ⟨a1, o1, r1⟩ := arg_one (br_int .i64) (by rfl) h1
  obtain ⟨a2, o2, r2⟩ := arg_one (br_int .i64) (by rfl) h2
  obtain ⟨a3, o3, r3⟩ := arg_one (br_int .i64) (by rfl) h3
  obtain ⟨n, hn⟩ := H a0 a1 a2 a3 o0 o1 o2 o3
  exact walk_of (G_ringlaw5_MountSays_ok n a0 a1 a2 a3 true hn) (RT_cons r0 (RT_cons r1 (RT_cons r2 (RT_cons r3 RT_nil))))
/- FRAME MountSays; ringhall/ringlaw5.MountSays; (.slice 16 (.pair (.int .i64) (.pair (.int .i64) .unit))) | (.int .i64) | (.int .i64) | (.int .i64); .slice none 0 0 | .int .i64 0 | .int .i64 0 | .int .i64 0 -/
end Go.Proofs.Ytnmpnljjaoddhaa.pv
