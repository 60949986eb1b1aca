/- What the functions compute, as functions over plain data, with their contracts: written by gen.py. -/
import Derived.Test.YtnmpnljjaoddhaaProg
import Derived.Test.YtnmpnljjaoddhaaQr
import Derived.Test.YtnmpnljjaoddhaaSc
set_option maxRecDepth 100000
set_option linter.all false
namespace Go.Proofs.Ytnmpnljjaoddhaa.pv
open Go.RowKit
def TT : List TI := [
⟨1, 0, .oth, []⟩,
⟨1, 8, .oth, [.nf]⟩,
⟨1, 8, .int .i64, [.i .i64]⟩,
⟨1, 8, .int .i64, [.i .i64]⟩,
⟨1, 1, .bool, [.b]⟩,
⟨1, 1, .int .u8, [.i .u8]⟩,
⟨1, 1, .int .u8, [.i .u8]⟩,
⟨4, 24, .st [(0, 2), (1, 3), (2, 4), (3, 6)], [.i .i64, .i .i64, .b, .i .u8]⟩,
⟨4, 24, .st [(0, 2), (1, 3), (2, 4), (3, 6)], [.i .i64, .i .i64, .b, .i .u8]⟩,
⟨1, 16, .str, [.s]⟩,
⟨1, 16, .str, [.s]⟩,
⟨1, 16, .str, [.s]⟩,
⟨1, 8, .int .u64, [.i .u64]⟩,
⟨2, 24, .st [(0, 9), (1, 12)], [.s, .i .u64]⟩,
⟨2, 24, .st [(0, 9), (1, 12)], [.s, .i .u64]⟩,
⟨1, 8, .oth, [.np]⟩,
⟨1, 8, .oth, [.np]⟩,
⟨1, 8, .oth, [.np]⟩,
⟨1, 8, .st [(0, 17)], [.np]⟩,
⟨1, 8, .st [(0, 17)], [.np]⟩,
⟨1, 16, .oth, [.ni]⟩,
⟨1, 4, .int .i32, [.i .i32]⟩,
⟨1, 24, .sl 3, [.sl]⟩,
⟨1, 8, .int .i64, [.i .i64]⟩,
⟨1, 0, .oth, []⟩,
⟨1, 8, .oth, [.nf]⟩,
⟨1, 8, .oth, [.nf]⟩,
⟨1, 8, .oth, [.nf]⟩,
⟨1, 8, .oth, [.nf]⟩,
⟨1, 8, .oth, [.nf]⟩,
⟨6, 48, .st [(0, 3), (1, 3), (2, 3), (3, 3), (4, 3), (5, 3)], [.i .i64, .i .i64, .i .i64, .i .i64, .i .i64, .i .i64]⟩,
⟨6, 48, .st [(0, 3), (1, 3), (2, 3), (3, 3), (4, 3), (5, 3)], [.i .i64, .i .i64, .i .i64, .i .i64, .i .i64, .i .i64]⟩,
⟨6, 64, .st [(0, 3), (1, 3), (2, 22), (3, 3), (4, 3), (5, 3)], [.i .i64, .i .i64, .sl, .i .i64, .i .i64, .i .i64]⟩,
⟨6, 64, .st [(0, 3), (1, 3), (2, 22), (3, 3), (4, 3), (5, 3)], [.i .i64, .i .i64, .sl, .i .i64, .i .i64, .i .i64]⟩,
⟨1, 8, .oth, [.nf]⟩,
⟨1, 0, .oth, []⟩,
⟨1, 8, .oth, [.nf]⟩,
⟨1, 0, .oth, []⟩,
⟨1, 8, .oth, [.nf]⟩,
⟨1, 8, .oth, [.nf]⟩,
⟨1, 8, .oth, [.nf]⟩,
⟨1, 8, .oth, [.nf]⟩,
⟨1, 8, .oth, [.nf]⟩,
⟨1, 8, .oth, [.nf]⟩,
⟨1, 8, .oth, [.nf]⟩,
⟨1, 24, .sl 51, [.sl]⟩,
⟨2, 32, .st [(0, 4), (1, 45)], [.b, .sl]⟩,
⟨2, 32, .st [(0, 4), (1, 45)], [.b, .sl]⟩,
⟨16, 256, .arr 8 47, (List.replicate 8 [.b, .sl]).flatten⟩,
⟨16, 256, .arr 8 47, (List.replicate 8 [.b, .sl]).flatten⟩,
⟨7, 32, .st [(0, 4), (1, 4), (2, 3), (3, 3), (4, 4), (5, 4), (6, 4)], [.b, .b, .i .i64, .i .i64, .b, .b, .b]⟩,
⟨7, 32, .st [(0, 4), (1, 4), (2, 3), (3, 3), (4, 4), (5, 4), (6, 4)], [.b, .b, .i .i64, .i .i64, .b, .b, .b]⟩,
⟨1, 0, .oth, []⟩,
⟨1, 8, .oth, [.nf]⟩,
⟨1, 0, .oth, []⟩,
⟨1, 8, .oth, [.nf]⟩,
⟨1, 8, .oth, [.nf]⟩,
⟨1, 0, .oth, []⟩,
⟨1, 8, .oth, [.nf]⟩,
⟨1, 8, .oth, [.nf]⟩,
⟨448, 2048, .arr 64 51, (List.replicate 64 [.b, .b, .i .i64, .i .i64, .b, .b, .b]).flatten⟩,
⟨448, 2048, .arr 64 51, (List.replicate 64 [.b, .b, .i .i64, .i .i64, .b, .b, .b]).flatten⟩,
⟨1, 8, .oth, [.nf]⟩,
⟨1, 8, .oth, [.nf]⟩,
⟨1, 8, .oth, [.nf]⟩,
⟨1, 8, .oth, [.nf]⟩,
⟨1, 8, .oth, [.nf]⟩,
⟨1, 8, .oth, [.nf]⟩,
⟨1, 8, .oth, [.nf]⟩,
⟨1, 24, .sl 78, [.sl]⟩,
⟨1, 8, .oth, [.nf]⟩,
⟨1, 0, .oth, []⟩,
⟨1, 8, .oth, [.nf]⟩,
⟨1, 8, .oth, [.nf]⟩,
⟨1, 0, .oth, []⟩,
⟨1, 8, .oth, [.nf]⟩,
⟨1, 24, .sl 79, [.sl]⟩,
⟨2, 16, .st [(0, 3), (1, 3)], [.i .i64, .i .i64]⟩,
⟨2, 16, .st [(0, 3), (1, 3)], [.i .i64, .i .i64]⟩,
⟨2, 16, .arr 2 3, [.i .i64, .i .i64]⟩,
⟨1, 8, .oth, [.nf]⟩,
⟨1, 8, .oth, [.nf]⟩,
⟨1, 8, .oth, [.nf]⟩,
⟨1, 8, .oth, [.nf]⟩,
⟨1, 8, .oth, [.nf]⟩,
⟨1, 8, .oth, [.nf]⟩,
⟨1, 8, .oth, [.nf]⟩,
⟨1, 8, .oth, [.nf]⟩,
⟨1, 8, .oth, [.nf]⟩,
⟨1, 8, .oth, [.nf]⟩,
⟨1, 8, .oth, [.nf]⟩,
⟨1, 24, .sl 95, [.sl]⟩,
⟨2, 32, .st [(0, 91), (1, 3)], [.sl, .i .i64]⟩,
⟨2, 32, .st [(0, 91), (1, 3)], [.sl, .i .i64]⟩,
⟨3, 16, .st [(0, 3), (1, 4), (2, 4)], [.i .i64, .b, .b]⟩,
⟨3, 16, .st [(0, 3), (1, 4), (2, 4)], [.i .i64, .b, .b]⟩,
⟨1, 0, .oth, []⟩,
⟨1, 8, .oth, [.nf]⟩,
⟨1, 8, .oth, [.nf]⟩,
⟨1, 0, .oth, []⟩,
⟨1, 8, .oth, [.nf]⟩,
⟨1, 8, .oth, [.nf]⟩,
⟨1, 8, .oth, [.nf]⟩,
⟨1, 8, .oth, [.nf]⟩,
⟨1, 8, .oth, [.nf]⟩,
⟨1, 0, .oth, []⟩,
⟨1, 8, .oth, [.nf]⟩,
⟨1, 8, .oth, [.nf]⟩,
⟨1, 24, .sl 110, [.sl]⟩,
⟨3, 24, .st [(0, 3), (1, 3), (2, 3)], [.i .i64, .i .i64, .i .i64]⟩,
⟨3, 24, .st [(0, 3), (1, 3), (2, 3)], [.i .i64, .i .i64, .i .i64]⟩,
⟨1, 0, .oth, []⟩,
⟨1, 8, .oth, [.nf]⟩,
⟨1, 8, .oth, [.nf]⟩,
⟨1, 0, .oth, []⟩,
⟨1, 8, .oth, [.nf]⟩,
⟨1, 8, .oth, [.nf]⟩,
⟨1, 8, .oth, [.nf]⟩,
⟨64, 512, .arr 64 3, List.replicate 64 (.i .i64)⟩,
⟨64, 512, .arr 64 3, List.replicate 64 (.i .i64)⟩,
⟨1, 8, .oth, [.nf]⟩,
⟨1, 8, .oth, [.nf]⟩,
⟨1, 8, .oth, [.nf]⟩,
⟨1, 8, .oth, [.nf]⟩,
⟨1, 8, .oth, [.nf]⟩,
⟨1, 8, .oth, [.nf]⟩,
⟨1, 8, .oth, [.nf]⟩,
⟨1, 24, .sl 138, [.sl]⟩,
⟨2, 32, .st [(0, 3), (1, 127)], [.i .i64, .sl]⟩,
⟨2, 32, .st [(0, 3), (1, 127)], [.i .i64, .sl]⟩,
⟨1, 0, .oth, []⟩,
⟨1, 8, .oth, [.nf]⟩,
⟨1, 0, .oth, []⟩,
⟨1, 8, .oth, [.nf]⟩,
⟨1, 8, .oth, [.nf]⟩,
⟨1, 8, .oth, [.nf]⟩,
⟨1, 8, .oth, [.nf]⟩,
⟨2, 16, .st [(0, 3), (1, 3)], [.i .i64, .i .i64]⟩,
⟨2, 16, .st [(0, 3), (1, 3)], [.i .i64, .i .i64]⟩,
⟨1, 8, .oth, [.nf]⟩,
⟨64, 64, .arr 64 4, List.replicate 64 (.b)⟩,
⟨1, 8, .oth, [.nf]⟩,
⟨1, 8, .oth, [.nf]⟩,
⟨1, 8, .oth, [.nf]⟩,
⟨1, 8, .oth, [.nf]⟩,
⟨1, 0, .oth, []⟩,
⟨1, 8, .oth, [.nf]⟩,
⟨1, 8, .oth, [.nf]⟩,
⟨1, 8, .oth, [.nf]⟩,
⟨1, 8, .oth, [.nf]⟩,
⟨1, 8, .oth, [.nf]⟩,
⟨1, 8, .oth, [.nf]⟩,
⟨1, 8, .oth, [.nf]⟩,
⟨3, 24, .st [(0, 4), (1, 3), (2, 3)], [.b, .i .i64, .i .i64]⟩,
⟨3, 24, .st [(0, 4), (1, 3), (2, 3)], [.b, .i .i64, .i .i64]⟩,
⟨1, 24, .sl 154, [.sl]⟩,
⟨1, 8, .oth, [.nf]⟩,
⟨1, 8, .oth, [.nf]⟩,
⟨1, 8, .oth, [.nf]⟩,
⟨1, 8, .oth, [.nf]⟩,
⟨1, 8, .oth, [.nf]⟩,
⟨1, 8, .oth, [.nf]⟩,
⟨1, 8, .oth, [.nf]⟩,
⟨1, 8, .oth, [.nf]⟩,
⟨1, 0, .oth, []⟩,
⟨1, 8, .oth, [.nf]⟩,
⟨1, 8, .oth, [.nf]⟩,
⟨1, 8, .oth, [.nf]⟩,
⟨1, 24, .sl 69, [.sl]⟩,
⟨1, 8, .oth, [.nf]⟩,
⟨1, 8, .oth, [.nf]⟩,
⟨1, 8, .oth, [.nf]⟩,
⟨1, 8, .oth, [.nf]⟩,
⟨1, 8, .oth, [.nf]⟩,
⟨1, 8, .oth, [.nf]⟩,
⟨1, 8, .oth, [.nf]⟩,
⟨1, 8, .oth, [.np]⟩,
⟨1, 8, .oth, [.nf]⟩,
⟨1, 8, .oth, [.nf]⟩,
⟨1, 8, .oth, [.nf]⟩,
⟨1, 8, .oth, [.nf]⟩,
⟨1, 8, .oth, [.nf]⟩,
⟨1, 8, .oth, [.nf]⟩,
⟨1, 8, .oth, [.nf]⟩,
⟨1, 8, .oth, [.nf]⟩,
⟨1, 8, .oth, [.nf]⟩,
⟨1, 8, .oth, [.nf]⟩,
⟨1, 8, .oth, [.nf]⟩,
⟨1, 8, .oth, [.nf]⟩,
⟨1, 8, .oth, [.nf]⟩,
⟨1, 8, .oth, [.nf]⟩,
⟨1, 8, .oth, [.nf]⟩,
⟨1, 8, .oth, [.nf]⟩,
⟨1, 8, .int .u64, [.i .u64]⟩,
⟨1, 8, .oth, [.nf]⟩,
⟨1, 8, .oth, [.nf]⟩,
⟨1, 8, .oth, [.nf]⟩,
⟨1, 8, .oth, [.nf]⟩,
⟨1, 8, .oth, [.nf]⟩,
⟨1, 8, .oth, [.nf]⟩,
⟨1, 8, .oth, [.nf]⟩,
⟨1, 8, .oth, [.nf]⟩,
⟨1, 8, .oth, [.nf]⟩,
⟨1, 8, .oth, [.np]⟩,
⟨1, 8, .oth, [.nf]⟩,
⟨1, 8, .oth, [.nf]⟩,
⟨1, 8, .oth, [.nf]⟩,
⟨1, 8, .oth, [.nf]⟩,
⟨4, 40, .st [(0, 17), (1, 17), (2, 17), (3, 9)], [.np, .np, .np, .s]⟩,
⟨4, 40, .st [(0, 17), (1, 17), (2, 17), (3, 9)], [.np, .np, .np, .s]⟩,
⟨0, 0, .arr 0 16, []⟩,
⟨0, 0, .st [(0, 210)], []⟩,
⟨0, 0, .st [(0, 210)], []⟩,
⟨1, 8, .oth, [.nf]⟩,
⟨1, 4, .int .u32, [.i .u32]⟩,
⟨1, 1, .int .u8, [.i .u8]⟩,
⟨1, 1, .int .u8, [.i .u8]⟩,
⟨1, 8, .oth, [.nf]⟩,
⟨1, 8, .oth, [.np]⟩,
⟨1, 4, .int .i32, [.i .i32]⟩,
⟨1, 4, .int .i32, [.i .i32]⟩,
⟨11, 48, .st [(0, 12), (1, 12), (2, 214), (3, 215), (4, 5), (5, 5), (6, 216), (7, 217), (8, 218), (9, 219), (10, 220)], [.i .u64, .i .u64, .i .u32, .i .u8, .i .u8, .i .u8, .i .u8, .nf, .np, .i .i32, .i .i32]⟩,
⟨11, 48, .st [(0, 12), (1, 12), (2, 214), (3, 215), (4, 5), (5, 5), (6, 216), (7, 217), (8, 218), (9, 219), (10, 220)], [.i .u64, .i .u64, .i .u32, .i .u8, .i .u8, .i .u8, .i .u8, .nf, .np, .i .i32, .i .i32]⟩,
⟨1, 8, .oth, [.np]⟩]
theorem TTok : TOk Try.prog TT := by unfold TOk; kernel_rfl
theorem mix : Try.prog.follows .mixedOrders = true := by kernel_rfl


/- ringhall/reclaim.refs -/
def G_reclaim_refs (n : Nat) (v_l5 : (List Int)) (v_room6 : Int) : Option (Int) :=
  if (v_l5.length : Int) > 60 then
   some 2
  else
   if v_room6 < 1 then
    some 1
   else
    if v_room6 > 8 then
     some 1
    else
     some 0
theorem G_reclaim_refs_ok (n : Nat) (v_l5 : (List Int)) (v_room6 : Int) (r : Int) (h : G_reclaim_refs n v_l5 v_room6 = some r) : Ret Try.prog 87 [(eL (eI .i64)) v_l5, (eI .i64) v_room6] ((eI .i64) r) := by
  refine ret_run (n := 16) (fn := Try.f87) (c := bodyOf Try.f87) (by kernel_rfl) (by kernel_rfl) (by kernel_rfl) (by kernel_rfl) ?_
  have hF : KC 16 (FinR Try.prog Try.f87 ((eI .i64) r)) := FinR.kc' (by kernel_rfl)
  unfold G_reclaim_refs at h
  by_cases h10 : (v_l5.length : Int) > 60
  · rw [if_pos h10] at h
    obtain rfl := Option.some.inj h
    exact pend_sound TTok mix 12 (hs := [.u (.d (.v (.int .i64 (v_l5.length : Int)))), .t true]) (by kernel_rfl) (by kernel_rfl) (by kernel_rfl) (.cons (len_ob (f := (eI .i64)) (l := v_l5)) (.cons (dt h10) .nil))
  · rw [if_neg h10] at h
    by_cases h11 : v_room6 < 1
    · rw [if_pos h11] at h
      obtain rfl := Option.some.inj h
      exact pend_sound TTok mix 15 (hs := [.u (.d (.v (.int .i64 (v_l5.length : Int)))), .t false, .t true, .c, .c]) (by kernel_rfl) (by kernel_rfl) (by kernel_rfl) (.cons (len_ob (f := (eI .i64)) (l := v_l5)) (.cons (df h10) (.cons (dt h11) .nil)))
    · rw [if_neg h11] at h
      by_cases h12 : v_room6 > 8
      · rw [if_pos h12] at h
        obtain rfl := Option.some.inj h
        exact pend_sound TTok mix 15 (hs := [.u (.d (.v (.int .i64 (v_l5.length : Int)))), .t false, .t false, .c, .t true]) (by kernel_rfl) (by kernel_rfl) (by kernel_rfl) (.cons (len_ob (f := (eI .i64)) (l := v_l5)) (.cons (df h10) (.cons (df h11) (.cons (dt h12) .nil))))
      · rw [if_neg h12] at h
        obtain rfl := Option.some.inj h
        exact pend_sound TTok mix 15 (hs := [.u (.d (.v (.int .i64 (v_l5.length : Int)))), .t false, .t false, .c, .t false]) (by kernel_rfl) (by kernel_rfl) (by kernel_rfl) (.cons (len_ob (f := (eI .i64)) (l := v_l5)) (.cons (df h10) (.cons (df h11) (.cons (df h12) .nil))))
inductive G_slices_Index_int_int_L1_R where
  | x0 (v_x22 : Int)
  | x1 
def G_slices_Index_int_int_L1_ex : G_slices_Index_int_int_L1_R → Ex
  | .x0 _ => .ret
  | .x1  => .exit 0
def G_slices_Index_int_int_L1_st (v_s17 : (List Int)) (v_v18 : Int) : G_slices_Index_int_int_L1_R → PS
  | .x0 v_x22 => ⟨[dd, dd, dd, dd, .d (.v (.int .i64 v_x22)), dd, dd, dd, dd, dd, dd, dd, dd, dd, dd, dd, dd, dd, dd], []⟩
  | .x1  => ⟨[dd, dd, dd, dd, dd, dd, dd, dd, dd, dd, dd, dd, dd, dd, dd, dd, dd, dd, dd], []⟩
def G_slices_Index_int_int_L1_hd (v_s17 : (List Int)) (v_v18 : Int) (v_x19 : Int) : PS := ⟨[.d (.sl (v_s17.map (eI .i64))), .d (.v (.int .i64 v_v18)), dd, dd, dd, dd, dd, .d (.v (.int .i64 (v_s17.length : Int))), .d (.v (.int .i64 v_x19)), dd, dd, dd, dd, dd, dd, dd, dd, dd, dd], []⟩
def G_slices_Index_int_int_L1 (n : Nat) (v_s17 : (List Int)) (v_v18 : Int) : Nat → Int → Option G_slices_Index_int_int_L1_R
  | 0, _ => none
  | k + 1, v_x19 =>
    if v_x19 < (v_s17.length : Int) then
     (getI v_s17 v_x19).bind fun (v_y21 : Int) =>
     if v_v18 = v_y21 then
      some (.x0 v_x19)
     else
      G_slices_Index_int_int_L1 n v_s17 v_v18 k (wi .i64 (v_x19 + 1))
    else
     some (.x1 )
theorem G_slices_Index_int_int_L1_ok {Fi : Ex → PS → Prop} (hF : KC 19 Fi) (ks : List Fr) (n : Nat) (v_s17 : (List Int)) (v_v18 : Int)  : ∀ (k : Nat) (v_x19 : Int) (o : G_slices_Index_int_int_L1_R), G_slices_Index_int_int_L1 n v_s17 v_v18 k v_x19 = some o → RunE Try.prog 19 Fi ks (G_slices_Index_int_int_L1_ex o) (G_slices_Index_int_int_L1_st v_s17 v_v18 o) → RunE Try.prog 19 Fi (.l k (cP (cB (cR (cL (cR (bodyOf Try.f102)))))) :: ks) .normal (G_slices_Index_int_int_L1_hd v_s17 v_v18 v_x19)
  | 0, v_x19, o, h, q => by rw [G_slices_Index_int_int_L1] at h; cases h
  | k + 1, v_x19, o, h, q => by
    rw [G_slices_Index_int_int_L1] at h
    by_cases h18 : v_x19 < (v_s17.length : Int)
    · rw [if_pos h18] at h
      obtain ⟨v_y21, h21, h⟩ := bind_some h
      by_cases h22 : v_v18 = v_y21
      · rw [if_pos h22] at h
        cases h
        exact pkk_sound TTok mix hF 19 (hs := [.t true, .y ((eI .i64) v_y21), .c, .t true]) (ts := []) (s := []) (l := [4]) (by kernel_rfl) (by kernel_rfl) (.cons (dt h18) (.cons (getI_ob (f := (eI .i64)) h21) (.cons (bt h22) .nil))) q
      · rw [if_neg h22] at h
        exact pkk_sound TTok mix hF 16 (hs := [.t true, .y ((eI .i64) v_y21), .c, .t false]) (ts := []) (s := []) (l := [0, 1, 7, 8]) (by kernel_rfl) (by kernel_rfl) (.cons (dt h18) (.cons (getI_ob (f := (eI .i64)) h21) (.cons (bf h22) .nil))) (G_slices_Index_int_int_L1_ok hF ks n v_s17 v_v18 k (wi .i64 (v_x19 + 1)) _ h q)
    · rw [if_neg h18] at h
      cases h
      exact pkk_sound TTok mix hF 8 (hs := [.t false]) (ts := []) (s := []) (l := []) (by kernel_rfl) (by kernel_rfl) (.cons (df h18) .nil) q
/- slices.Index[[]int,int] -/
def G_slices_Index_int_int (n : Nat) (v_s17 : (List Int)) (v_v18 : Int) : Option (Int) :=
  (G_slices_Index_int_int_L1 n v_s17 v_v18 n 0).bind fun v_o23 => match v_o23 with
  | .x0 v_z24 =>
    some v_z24
  | .x1  =>
    some (-1)
theorem G_slices_Index_int_int_ok (n : Nat) (v_s17 : (List Int)) (v_v18 : Int) (r : Int) (h : G_slices_Index_int_int n v_s17 v_v18 = some r) : Ret Try.prog 102 [(eL (eI .i64)) v_s17, (eI .i64) v_v18] ((eI .i64) r) := by
  refine ret_run (n := 19) (fn := Try.f102) (c := bodyOf Try.f102) (by kernel_rfl) (by kernel_rfl) (by kernel_rfl) (by kernel_rfl) ?_
  have hF : KC 19 (FinR Try.prog Try.f102 ((eI .i64) r)) := FinR.kc' (by kernel_rfl)
  unfold G_slices_Index_int_int at h
  obtain ⟨v_o23, h23, h⟩ := bind_some h
  refine pkk_sound TTok mix hF 7 (hs := [.u (.d (.v (.int .i64 (v_s17.length : Int)))), .n n]) (ts := []) (s := []) (l := [0, 1, 7, 8]) (by kernel_rfl) (by kernel_rfl) (.cons (len_ob (f := (eI .i64)) (l := v_s17)) .nil) (G_slices_Index_int_int_L1_ok hF (.b 0 :: .s (cR (cR (bodyOf Try.f102))) :: []) n v_s17 v_v18 n 0 _ h23 ?_)
  cases v_o23 with
  | x0 v_z24 =>
    dsimp only at h
    obtain rfl := Option.some.inj h
    exact pend_sound TTok mix 2 (hs := []) (by kernel_rfl) (by kernel_rfl) (by kernel_rfl) .nil
  | x1  =>
    dsimp only at h
    obtain rfl := Option.some.inj h
    exact pend_sound TTok mix 4 (hs := []) (by kernel_rfl) (by kernel_rfl) (by kernel_rfl) .nil
/- slices.Contains[[]int,int] -/
def G_slices_Contains_int_int (n : Nat) (v_s15 : (List Int)) (v_v16 : Int) : Option (Bool) :=
  (G_slices_Index_int_int n v_s15 v_v16).bind fun (v_r25 : (Int)) =>
  some (decide (v_r25 ≥ 0))
theorem G_slices_Contains_int_int_ok (n : Nat) (v_s15 : (List Int)) (v_v16 : Int) (r : Bool) (h : G_slices_Contains_int_int n v_s15 v_v16 = some r) : Ret Try.prog 24 [(eL (eI .i64)) v_s15, (eI .i64) v_v16] (eB r) := by
  refine ret_run (n := 9) (fn := Try.f24) (c := bodyOf Try.f24) (by kernel_rfl) (by kernel_rfl) (by kernel_rfl) (by kernel_rfl) ?_
  have hF : KC 9 (FinR Try.prog Try.f24 (eB r)) := FinR.kc' (by kernel_rfl)
  unfold G_slices_Contains_int_int at h
  obtain ⟨v_r25, h24, h⟩ := bind_some h
  obtain rfl := Option.some.inj h
  exact pend_sound TTok mix 5 (hs := [.r ((eI .i64) v_r25)]) (by kernel_rfl) (by kernel_rfl) (by kernel_rfl) (.cons (G_slices_Index_int_int_ok n v_s15 v_v16 _ h24) .nil)
/- slices.Delete[[]int,int] -/
def G_slices_Delete_int_int_h (n : Nat) (v_s28 : (List Int)) (v_i29 : Int) (v_j30 : Int) : Option ((List Int)) :=
  if (0 ≤ v_i29 ∧ v_i29 ≤ v_j30 ∧ v_j30 ≤ (v_s28.length : Int) ∧ (v_s28.length : Int) ≤ (v_s28.length : Int)) then
   if v_i29 = v_j30 then
    some v_s28
   else
    if (0 ≤ v_i29 ∧ v_i29 ≤ (v_s28.length : Int)) then
     if (0 ≤ v_j30 ∧ v_j30 ≤ (v_s28.length : Int)) then
      if v_i29.toNat ≤ v_j30.toNat ∧ v_j30.toNat ≤ v_s28.length ∧ v_s28.length ≤ v_s28.length then
       if (0 ≤ (((v_i29.toNat + (v_s28.length - v_j30.toNat)) : Nat) : Int) ∧ (((v_i29.toNat + (v_s28.length - v_j30.toNat)) : Nat) : Int) ≤ (v_s28.length : Int) ∧ (v_s28.length : Int) ≤ ((delR v_s28 v_i29.toNat v_j30.toNat v_s28.length).length : Int)) then
        if ((v_i29.toNat + (v_s28.length - v_j30.toNat)) : Nat) ≤ v_s28.length ∧ v_s28.length ≤ (delR v_s28 v_i29.toNat v_j30.toNat v_s28.length).length then
         if (v_i29.toNat + (v_s28.length - v_j30.toNat)) ≤ (clrR (delR v_s28 v_i29.toNat v_j30.toNat v_s28.length) ((v_i29.toNat + (v_s28.length - v_j30.toNat)) : Nat) v_s28.length 0).length then
          some ((clrR (delR v_s28 v_i29.toNat v_j30.toNat v_s28.length) ((v_i29.toNat + (v_s28.length - v_j30.toNat)) : Nat) v_s28.length 0).take (v_i29.toNat + (v_s28.length - v_j30.toNat)))
         else none
        else none
       else none
      else none
     else none
    else none
  else none
theorem G_slices_Delete_int_int_h_ok (n : Nat) (v_s28 : (List Int)) (v_i29 : Int) (v_j30 : Int) (r : (List Int)) (h : G_slices_Delete_int_int_h n v_s28 v_i29 v_j30 = some r) : RetH Try.prog 139 [.srf 0, .d ((eI .i64) v_i29), .d ((eI .i64) v_j30)] [.row 3 1 (v_s28.map (eI .i64))] (.srf 1) [.none, .row 3 1 (r.map (eI .i64))] := by
  refine retH_run (n := 33) (fn := Try.f139) (c := bodyOf Try.f139) (by kernel_rfl) (by kernel_rfl) (by kernel_rfl) (by kernel_rfl) ?_
  have hF : KC 33 (FinH Try.prog Try.f139 [.row 3 1 (v_s28.map (eI .i64))] (.srf 1) [.none, .row 3 1 (r.map (eI .i64))]) := FinH.kc' (by kernel_rfl)
  unfold G_slices_Delete_int_int_h at h
  by_cases h29 : (0 ≤ v_i29 ∧ v_i29 ≤ v_j30 ∧ v_j30 ≤ (v_s28.length : Int) ∧ (v_s28.length : Int) ≤ (v_s28.length : Int))
  · rw [if_pos h29] at h
    by_cases h30 : v_i29 = v_j30
    · rw [if_pos h30] at h
      obtain rfl := Option.some.inj h
      exact pendH_sound TTok mix 13 (hs := [.u (.d (.v (.int .i64 (v_s28.length : Int)))), .e 20 [0] (dd) [], .t true, .dl 4, .mv 0]) [0, 38] (by kernel_rfl) (by kernel_rfl) (by kernel_rfl) (.cons (len_ob (f := (eI .i64)) (l := v_s28)) (.cons (xs111 (P := Try.prog) (T := TT) (f := (eI .i64)) (t := 22) (e := 3) (s := 1) (l := 0) (L := v_s28) (x := (.tmp 8)) (lo := (.tmp 9)) (hi := (.tmp 10)) (mx := (.tmp 12)) (a := v_i29) (ka := .i64) (b := v_j30) (kb := .i64) (c := (v_s28.length : Int)) (kc := .i64) (by kernel_rfl) h29) (.cons (bt h30) .nil)))
    · rw [if_neg h30] at h
      by_cases h31 : (0 ≤ v_i29 ∧ v_i29 ≤ (v_s28.length : Int))
      · rw [if_pos h31] at h
        by_cases h32 : (0 ≤ v_j30 ∧ v_j30 ≤ (v_s28.length : Int))
        · rw [if_pos h32] at h
          by_cases h33 : v_i29.toNat ≤ v_j30.toNat ∧ v_j30.toNat ≤ v_s28.length ∧ v_s28.length ≤ v_s28.length
          · rw [if_pos h33] at h
            by_cases h34 : (0 ≤ (((v_i29.toNat + (v_s28.length - v_j30.toNat)) : Nat) : Int) ∧ (((v_i29.toNat + (v_s28.length - v_j30.toNat)) : Nat) : Int) ≤ (v_s28.length : Int) ∧ (v_s28.length : Int) ≤ ((delR v_s28 v_i29.toNat v_j30.toNat v_s28.length).length : Int))
            · rw [if_pos h34] at h
              by_cases h35 : ((v_i29.toNat + (v_s28.length - v_j30.toNat)) : Nat) ≤ v_s28.length ∧ v_s28.length ≤ (delR v_s28 v_i29.toNat v_j30.toNat v_s28.length).length
              · rw [if_pos h35] at h
                by_cases h36 : (v_i29.toNat + (v_s28.length - v_j30.toNat)) ≤ (clrR (delR v_s28 v_i29.toNat v_j30.toNat v_s28.length) ((v_i29.toNat + (v_s28.length - v_j30.toNat)) : Nat) v_s28.length 0).length
                · rw [if_pos h36] at h
                  obtain rfl := Option.some.inj h
                  exact pendH_sound TTok mix 18 (hs := [.u (.d (.v (.int .i64 (v_s28.length : Int)))), .e 20 [0] (dd) [], .t false, .u (.d (.v (.int .i64 (v_s28.length : Int)))), .e 47 [0] (.ssl 0 0 v_i29.toNat 1) [], .e 56 [0] (.ssl 0 v_j30.toNat v_s28.length 1) [], .e 59 [0] (.ssl 0 0 (v_i29.toNat + (v_s28.length - v_j30.toNat)) 1) [(0, .row 3 1 ((delR v_s28 v_i29.toNat v_j30.toNat v_s28.length).map (eI .i64)))], .e 71 [] (.d (.v (.int .i64 (((v_i29.toNat + (v_s28.length - v_j30.toNat)) : Nat) : Int)))) [], .e 77 [0] (.ssl 0 ((v_i29.toNat + (v_s28.length - v_j30.toNat)) : Nat) v_s28.length 1) [], .e 80 [0] (dd) [(0, .row 3 1 ((clrR (delR v_s28 v_i29.toNat v_j30.toNat v_s28.length) ((v_i29.toNat + (v_s28.length - v_j30.toNat)) : Nat) v_s28.length 0).map (eI .i64)))], .e 83 [0, 83] (.srf 83) [(0, .none), (83, .row 3 1 (((clrR (delR v_s28 v_i29.toNat v_j30.toNat v_s28.length) ((v_i29.toNat + (v_s28.length - v_j30.toNat)) : Nat) v_s28.length 0).take (v_i29.toNat + (v_s28.length - v_j30.toNat))).map (eI .i64)))]]) [0, 83] (by kernel_rfl) (by kernel_rfl) (by kernel_rfl) (.cons (len_ob (f := (eI .i64)) (l := v_s28)) (.cons (xs111 (P := Try.prog) (T := TT) (f := (eI .i64)) (t := 22) (e := 3) (s := 1) (l := 0) (L := v_s28) (x := (.tmp 8)) (lo := (.tmp 9)) (hi := (.tmp 10)) (mx := (.tmp 12)) (a := v_i29) (ka := .i64) (b := v_j30) (kb := .i64) (c := (v_s28.length : Int)) (kc := .i64) (by kernel_rfl) h29) (.cons (bf h30) (.cons (len_ob (f := (eI .i64)) (l := v_s28)) (.cons (xs01 (P := Try.prog) (T := TT) (f := (eI .i64)) (t := 22) (e := 3) (s := 1) (l := 0) (L := v_s28) (x := (.tmp 20)) (hi := (.tmp 21)) (b := v_i29) (kb := .i64) (by kernel_rfl) h31) (.cons (xs10 (P := Try.prog) (T := TT) (f := (eI .i64)) (t := 22) (e := 3) (s := 1) (l := 0) (L := v_s28) (x := (.tmp 23)) (lo := (.tmp 24)) (a := v_j30) (ka := .i64) (by kernel_rfl) h32) (.cons (xapp (ti := ⟨1, 8, .int .i64, [.i .i64]⟩) (P := Try.prog) (T := TT) (f := (eI .i64)) (t := 22) (e := 3) (s := 1) (l := 0) (i := v_i29.toNat) (j := v_j30.toNat) (q := v_s28.length) (L := v_s28) (x := (.tmp 22)) (y := (.tmp 25)) (by kernel_rfl) (by kernel_rfl) h33) (.cons (xlen (P := Try.prog) (T := TT) (t := 22) (e := 3) (s := 1) (l := 0) (i := 0) (j := (v_i29.toNat + (v_s28.length - v_j30.toNat))) (x := (.tmp 28)) (by kernel_rfl)) (.cons (xt11 (P := Try.prog) (T := TT) (f := (eI .i64)) (t := 22) (e := 3) (s := 1) (l := 0) (L := (delR v_s28 v_i29.toNat v_j30.toNat v_s28.length)) (x := (.tmp 27)) (lo := (.tmp 29)) (hi := (.tmp 30)) (a := (((v_i29.toNat + (v_s28.length - v_j30.toNat)) : Nat) : Int)) (ka := .i64) (b := (v_s28.length : Int)) (kb := .i64) (i := (v_i29.toNat + (v_s28.length - v_j30.toNat))) (by kernel_rfl) h34) (.cons (xclr (ti := ⟨1, 8, .int .i64, [.i .i64]⟩) (P := Try.prog) (T := TT) (f := (eI .i64)) (t := 22) (e := 3) (s := 1) (l := 0) (i := ((v_i29.toNat + (v_s28.length - v_j30.toNat)) : Nat)) (j := v_s28.length) (z := 0) (L := (delR v_s28 v_i29.toNat v_j30.toNat v_s28.length)) (x := (.tmp 31)) (p := .v (.int .i64 0)) (by kernel_rfl) (by kernel_rfl) (by kernel_rfl) (by kernel_rfl) (by decide) rfl h35) (.cons (xmv (P := Try.prog) (T := TT) (f := (eI .i64)) (e := 3) (s := 1) (l := 0) (nl := 83) (L := (clrR (delR v_s28 v_i29.toNat v_j30.toNat v_s28.length) ((v_i29.toNat + (v_s28.length - v_j30.toNat)) : Nat) v_s28.length 0)) (i := (v_i29.toNat + (v_s28.length - v_j30.toNat))) (x := (.tmp 0)) h36) .nil)))))))))))
                · rw [if_neg h36] at h; cases h
              · rw [if_neg h35] at h; cases h
            · rw [if_neg h34] at h; cases h
          · rw [if_neg h33] at h; cases h
        · rw [if_neg h32] at h; cases h
      · rw [if_neg h31] at h; cases h
  · rw [if_neg h29] at h; cases h
inductive G_reclaim_faults_C1_R where
  | x0 (v_n38 : Int) (v_w39 : (List Int))
def G_reclaim_faults_C1_ex : G_reclaim_faults_C1_R → Ex
  | .x0 _ _ => .normal
def G_reclaim_faults_C1_st (v_room9 : Int) (v_who10 : ((List Int) → Int → Option (Int))) (v_n11 : Int) (v_l8 : (List Int)) (v_x12 : Int) (v_w13 : (List Int)) (v_who10_g : FuncId) (v_who10_c : (List PV)) : G_reclaim_faults_C1_R → PS
  | .x0 v_n38 v_w39 => ⟨[dd, .d (.v (.int .i64 v_room9)), .d (.clo v_who10_g v_who10_c), dd, dd, dd, dd, .srf 0, .d (.v (.int .i64 v_n38)), dd, dd, dd, .d (.sl (v_l8.map (eI .i64))), .d (.v (.int .i64 (v_l8.length : Int))), .d (.v (.int .i64 v_x12)), dd, dd, dd, dd, dd, dd, dd, dd, dd, dd, dd, dd, dd, dd, dd, dd, dd, dd, dd, dd, dd, dd, dd, dd, dd, dd, dd, dd], [.row 3 1 (v_w39.map (eI .i64))]⟩
def G_reclaim_faults_C1_hd (v_room9 : Int) (v_who10 : ((List Int) → Int → Option (Int))) (v_n11 : Int) (v_l8 : (List Int)) (v_x12 : Int) (v_w13 : (List Int)) (v_who10_g : FuncId) (v_who10_c : (List PV))  : PS := ⟨[dd, .d (.v (.int .i64 v_room9)), .d (.clo v_who10_g v_who10_c), dd, dd, dd, dd, .srf 0, .d (.v (.int .i64 v_n11)), dd, dd, dd, .d (.sl (v_l8.map (eI .i64))), .d (.v (.int .i64 (v_l8.length : Int))), .d (.v (.int .i64 v_x12)), dd, dd, dd, dd, dd, dd, dd, dd, dd, dd, dd, dd, dd, dd, dd, dd, dd, dd, dd, dd, dd, dd, dd, dd, dd, dd, dd, dd], [.row 3 1 (v_w13.map (eI .i64))]⟩
def G_reclaim_faults_C1 (n : Nat) (v_room9 : Int) (v_who10 : ((List Int) → Int → Option (Int))) (v_n11 : Int) (v_l8 : (List Int)) (v_x12 : Int) (v_w13 : (List Int)) : Option G_reclaim_faults_C1_R :=
  (getI v_l8 v_x12).bind fun (v_y36 : Int) =>
  (G_slices_Contains_int_int n v_w13 v_y36).bind fun (v_r37 : (Bool)) =>
  if v_r37 = true then
   some (.x0 v_n11 v_w13)
  else
   if (v_w13.length : Int) = v_room9 then
    (v_who10 v_w13 v_x12).bind fun (v_r42 : (Int)) =>
    (G_slices_Delete_int_int_h n v_w13 v_r42 (wi .i64 (v_r42 + 1))).bind fun (v_r43 : ((List Int))) =>
    (app 8 v_r43 ([v_y36])).bind fun (v_a44 : (List Int)) =>
    some (.x0 (wi .i64 (v_n11 + 1)) v_a44)
   else
    (app 8 v_w13 ([v_y36])).bind fun (v_a47 : (List Int)) =>
    some (.x0 (wi .i64 (v_n11 + 1)) v_a47)
theorem G_reclaim_faults_C1_ok {Fi : Ex → PS → Prop} (hF : KC 43 Fi) (ks : List Fr) (n : Nat) (v_room9 : Int) (v_who10 : ((List Int) → Int → Option (Int))) (v_n11 : Int) (v_l8 : (List Int)) (v_x12 : Int) (v_w13 : (List Int)) (v_who10_g : FuncId) (v_who10_c : (List PV)) (v_who10_h : ∀ (x0 : (List Int)) (x1 : Int) (r : Int), v_who10 x0 x1 = some r → Ret Try.prog v_who10_g ([(eL (eI .i64)) x0, (eI .i64) x1] ++ v_who10_c) ((eI .i64) r)) (o : G_reclaim_faults_C1_R) (h : G_reclaim_faults_C1 n v_room9 v_who10 v_n11 v_l8 v_x12 v_w13 = some o) (q : RunE Try.prog 43 Fi ks (G_reclaim_faults_C1_ex o) (G_reclaim_faults_C1_st v_room9 v_who10 v_n11 v_l8 v_x12 v_w13 v_who10_g v_who10_c o)) : RunE Try.prog 43 Fi (.s (cL (cR (cR (cP (cB (cR (cL (cR (cR (cR (bodyOf Try.f88))))))))))) :: ks) .normal (G_reclaim_faults_C1_hd v_room9 v_who10 v_n11 v_l8 v_x12 v_w13 v_who10_g v_who10_c) := by
  unfold G_reclaim_faults_C1 at h
  obtain ⟨v_y36, h43, h⟩ := bind_some h
  obtain ⟨v_r37, h44, h⟩ := bind_some h
  by_cases h45 : v_r37 = true
  · rw [if_pos h45] at h
    cases h
    exact pkk_sound TTok mix hF 10 (hs := [.y ((eI .i64) v_y36), .c, .c, .r (eB v_r37), .t true]) (ts := []) (s := [0]) (l := [1, 2, 7, 8, 12, 13, 14]) (by kernel_rfl) (by kernel_rfl) (.cons (getI_ob (f := (eI .i64)) h43) (.cons (G_slices_Contains_int_int_ok n v_w13 v_y36 _ h44) (.cons h45 .nil))) q
  · rw [if_neg h45] at h
    by_cases h49 : (v_w13.length : Int) = v_room9
    · rw [if_pos h49] at h
      obtain ⟨v_r42, h50, h⟩ := bind_some h
      obtain ⟨v_r43, h51, h⟩ := bind_some h
      obtain ⟨v_a44, h52, h⟩ := bind_some h
      cases h
      exact pkk_sound TTok mix hF 19 (hs := [.y ((eI .i64) v_y36), .c, .c, .r (eB v_r37), .t false, .u (.d (.v (.int .i64 (v_w13.length : Int)))), .t true, .c, .r ((eI .i64) v_r42), .h [0] [] [.none, .row 3 1 (v_r43.map (eI .i64))] (.srf 1), .bd, .w (v_a44.map (eI .i64))]) (ts := []) (s := [88]) (l := [1, 2, 7, 8, 12, 13, 14]) (by kernel_rfl) (by kernel_rfl) (.cons (getI_ob (f := (eI .i64)) h43) (.cons (G_slices_Contains_int_int_ok n v_w13 v_y36 _ h44) (.cons (vf h45) (.cons (len_ob (f := (eI .i64)) (l := v_w13)) (.cons (bt h49) (.cons (v_who10_h v_w13 v_x12 _ h50) (.cons (G_slices_Delete_int_int_h_ok n v_w13 v_r42 (wi .i64 (v_r42 + 1)) _ h51) (.cons (app_ob (f := (eI .i64)) (s := 1) h52 (fun _ => rfl)).1 (.cons (app_ob (f := (eI .i64)) (s := 1) h52 (fun _ => rfl)).2.1 (.cons (app_ob (f := (eI .i64)) (s := 1) h52 (fun _ => rfl)).2.2.1 (.cons (app_ob (f := (eI .i64)) (s := 1) h52 (fun _ => rfl)).2.2.2 .nil))))))))))) q
    · rw [if_neg h49] at h
      obtain ⟨v_a47, h53, h⟩ := bind_some h
      cases h
      exact pkk_sound TTok mix hF 17 (hs := [.y ((eI .i64) v_y36), .c, .c, .r (eB v_r37), .t false, .u (.d (.v (.int .i64 (v_w13.length : Int)))), .t false, .bd, .w (v_a47.map (eI .i64))]) (ts := []) (s := [55]) (l := [1, 2, 7, 8, 12, 13, 14]) (by kernel_rfl) (by kernel_rfl) (.cons (getI_ob (f := (eI .i64)) h43) (.cons (G_slices_Contains_int_int_ok n v_w13 v_y36 _ h44) (.cons (vf h45) (.cons (len_ob (f := (eI .i64)) (l := v_w13)) (.cons (bf h49) (.cons (app_ob (f := (eI .i64)) (s := 1) h53 (fun _ => rfl)).1 (.cons (app_ob (f := (eI .i64)) (s := 1) h53 (fun _ => rfl)).2.1 (.cons (app_ob (f := (eI .i64)) (s := 1) h53 (fun _ => rfl)).2.2.1 (.cons (app_ob (f := (eI .i64)) (s := 1) h53 (fun _ => rfl)).2.2.2 .nil))))))))) q
inductive G_reclaim_faults_L2_R where
  | x0 (v_n53 : Int)
def G_reclaim_faults_L2_ex : G_reclaim_faults_L2_R → Ex
  | .x0 _ => .exit 0
def G_reclaim_faults_L2_st (v_room9 : Int) (v_who10 : ((List Int) → Int → Option (Int))) (v_l8 : (List Int)) (v_who10_g : FuncId) (v_who10_c : (List PV)) : G_reclaim_faults_L2_R → PS
  | .x0 v_n53 => ⟨[dd, dd, dd, dd, dd, dd, dd, dd, .d (.v (.int .i64 v_n53)), dd, dd, dd, dd, dd, dd, dd, dd, dd, dd, dd, dd, dd, dd, dd, dd, dd, dd, dd, dd, dd, dd, dd, dd, dd, dd, dd, dd, dd, dd, dd, dd, dd, dd], []⟩
def G_reclaim_faults_L2_hd (v_room9 : Int) (v_who10 : ((List Int) → Int → Option (Int))) (v_l8 : (List Int)) (v_who10_g : FuncId) (v_who10_c : (List PV)) (v_n11 : Int) (v_x12 : Int) (v_w13 : (List Int)) : PS := ⟨[dd, .d (.v (.int .i64 v_room9)), .d (.clo v_who10_g v_who10_c), dd, dd, dd, dd, .srf 0, .d (.v (.int .i64 v_n11)), dd, dd, dd, .d (.sl (v_l8.map (eI .i64))), .d (.v (.int .i64 (v_l8.length : Int))), .d (.v (.int .i64 v_x12)), dd, dd, dd, dd, dd, dd, dd, dd, dd, dd, dd, dd, dd, dd, dd, dd, dd, dd, dd, dd, dd, dd, dd, dd, dd, dd, dd, dd], [.row 3 1 (v_w13.map (eI .i64))]⟩
def G_reclaim_faults_L2 (n : Nat) (v_room9 : Int) (v_who10 : ((List Int) → Int → Option (Int))) (v_l8 : (List Int)) : Nat → Int → Int → (List Int) → Option G_reclaim_faults_L2_R
  | 0, _, _, _ => none
  | k + 1, v_n11, v_x12, v_w13 =>
    if v_x12 < (v_l8.length : Int) then
     (G_reclaim_faults_C1 n v_room9 v_who10 v_n11 v_l8 v_x12 v_w13).bind fun v_o50 => match v_o50 with
     | .x0 v_z51 v_z52 =>
       G_reclaim_faults_L2 n v_room9 v_who10 v_l8 k v_z51 (wi .i64 (v_x12 + 1)) v_z52
    else
     some (.x0 v_n11)
theorem G_reclaim_faults_L2_ok {Fi : Ex → PS → Prop} (hF : KC 43 Fi) (ks : List Fr) (n : Nat) (v_room9 : Int) (v_who10 : ((List Int) → Int → Option (Int))) (v_l8 : (List Int)) (v_who10_g : FuncId) (v_who10_c : (List PV)) (v_who10_h : ∀ (x0 : (List Int)) (x1 : Int) (r : Int), v_who10 x0 x1 = some r → Ret Try.prog v_who10_g ([(eL (eI .i64)) x0, (eI .i64) x1] ++ v_who10_c) ((eI .i64) r)) : ∀ (k : Nat) (v_n11 : Int) (v_x12 : Int) (v_w13 : (List Int)) (o : G_reclaim_faults_L2_R), G_reclaim_faults_L2 n v_room9 v_who10 v_l8 k v_n11 v_x12 v_w13 = some o → RunE Try.prog 43 Fi ks (G_reclaim_faults_L2_ex o) (G_reclaim_faults_L2_st v_room9 v_who10 v_l8 v_who10_g v_who10_c o) → RunE Try.prog 43 Fi (.l k (cP (cB (cR (cL (cR (cR (cR (bodyOf Try.f88)))))))) :: ks) .normal (G_reclaim_faults_L2_hd v_room9 v_who10 v_l8 v_who10_g v_who10_c v_n11 v_x12 v_w13)
  | 0, v_n11, v_x12, v_w13, o, h, q => by rw [G_reclaim_faults_L2] at h; cases h
  | k + 1, v_n11, v_x12, v_w13, o, h, q => by
    rw [G_reclaim_faults_L2] at h
    by_cases h16 : v_x12 < (v_l8.length : Int)
    · rw [if_pos h16] at h
      obtain ⟨v_o50, h54, h⟩ := bind_some h
      refine pkk_sound TTok mix hF 7 (hs := [.t true]) (ts := []) (s := [0]) (l := [1, 2, 7, 8, 12, 13, 14]) (by kernel_rfl) (by kernel_rfl) (.cons (dt h16) .nil) (G_reclaim_faults_C1_ok hF (.s (cR (cR (cR (cP (cB (cR (cL (cR (cR (cR (bodyOf Try.f88))))))))))) :: .l k (cP (cB (cR (cL (cR (cR (cR (bodyOf Try.f88)))))))) :: ks) n v_room9 v_who10 v_n11 v_l8 v_x12 v_w13 v_who10_g v_who10_c v_who10_h _ h54 ?_)
      cases v_o50 with
      | x0 v_z51 v_z52 =>
        dsimp only at h
        exact pkk_sound TTok mix hF 1 (hs := []) (ts := []) (s := [0]) (l := [1, 2, 7, 8, 12, 13, 14]) (by kernel_rfl) (by kernel_rfl) .nil (G_reclaim_faults_L2_ok hF ks n v_room9 v_who10 v_l8 v_who10_g v_who10_c v_who10_h k v_z51 (wi .i64 (v_x12 + 1)) v_z52 _ h q)
    · rw [if_neg h16] at h
      cases h
      exact pkk_sound TTok mix hF 8 (hs := [.t false]) (ts := []) (s := []) (l := [8]) (by kernel_rfl) (by kernel_rfl) (.cons (df h16) .nil) q
/- ringhall/reclaim.faults -/
def G_reclaim_faults (n : Nat) (v_l8 : (List Int)) (v_room9 : Int) (v_who10 : ((List Int) → Int → Option (Int))) : Option (Int) :=
  (G_reclaim_faults_L2 n v_room9 v_who10 v_l8 n 0 0 ([] : List Int)).bind fun v_o54 => match v_o54 with
  | .x0 v_z55 =>
    some v_z55
theorem G_reclaim_faults_ok (n : Nat) (v_l8 : (List Int)) (v_room9 : Int) (v_who10 : ((List Int) → Int → Option (Int))) (v_who10_g : FuncId) (v_who10_c : List PV) (v_who10_h : ∀ (x0 : (List Int)) (x1 : Int) (r : Int), v_who10 x0 x1 = some r → Ret Try.prog v_who10_g ([(eL (eI .i64)) x0, (eI .i64) x1] ++ v_who10_c) ((eI .i64) r)) (r : Int) (h : G_reclaim_faults n v_l8 v_room9 v_who10 = some r) : Ret Try.prog 88 [(eL (eI .i64)) v_l8, (eI .i64) v_room9, (.clo v_who10_g v_who10_c)] ((eI .i64) r) := by
  refine ret_run (n := 43) (fn := Try.f88) (c := bodyOf Try.f88) (by kernel_rfl) (by kernel_rfl) (by kernel_rfl) (by kernel_rfl) ?_
  have hF : KC 43 (FinR Try.prog Try.f88 ((eI .i64) r)) := FinR.kc' (by kernel_rfl)
  unfold G_reclaim_faults at h
  obtain ⟨v_o54, h55, h⟩ := bind_some h
  refine pkk_sound TTok mix hF 11 (hs := [.u (.d (.v (.int .i64 (v_l8.length : Int)))), .n n]) (ts := [(7, 3, 1)]) (s := [18]) (l := [1, 2, 7, 8, 12, 13, 14]) (by kernel_rfl) (by kernel_rfl) (.cons (len_ob (f := (eI .i64)) (l := v_l8)) .nil) (G_reclaim_faults_L2_ok hF (.b 0 :: .s (cR (cR (cR (cR (bodyOf Try.f88))))) :: []) n v_room9 v_who10 v_l8 v_who10_g v_who10_c v_who10_h n 0 0 ([] : List Int) _ h55 ?_)
  cases v_o54 with
  | x0 v_z55 =>
    dsimp only at h
    obtain rfl := Option.some.inj h
    exact pend_sound TTok mix 4 (hs := []) (by kernel_rfl) (by kernel_rfl) (by kernel_rfl) .nil
inductive G_reclaim_most_L1_R where
  | x0 (v_best71 : Int)
def G_reclaim_most_L1_ex : G_reclaim_most_L1_R → Ex
  | .x0 _ => .exit 0
def G_reclaim_most_L1_st (v_there59 : (List Int)) (v_f60 : (Int → Option (Int))) (v_f60_g : FuncId) (v_f60_c : (List PV)) : G_reclaim_most_L1_R → PS
  | .x0 v_best71 => ⟨[dd, dd, dd, dd, dd, .d (.v (.int .i64 v_best71)), dd, dd, dd, dd, dd, dd, dd, dd, dd, dd, dd, dd, dd, dd, dd, dd, dd, dd, dd, dd, dd, dd], []⟩
def G_reclaim_most_L1_hd (v_there59 : (List Int)) (v_f60 : (Int → Option (Int))) (v_f60_g : FuncId) (v_f60_c : (List PV)) (v_best61 : Int) (v_x62 : Int) : PS := ⟨[.d (.sl (v_there59.map (eI .i64))), .d (.clo v_f60_g v_f60_c), dd, dd, dd, .d (.v (.int .i64 v_best61)), dd, dd, .d (.sl (v_there59.map (eI .i64))), .d (.v (.int .i64 (v_there59.length : Int))), .d (.v (.int .i64 v_x62)), dd, dd, dd, dd, dd, dd, dd, dd, dd, dd, dd, dd, dd, dd, dd, dd, dd], []⟩
def G_reclaim_most_L1 (n : Nat) (v_there59 : (List Int)) (v_f60 : (Int → Option (Int))) : Nat → Int → Int → Option G_reclaim_most_L1_R
  | 0, _, _ => none
  | k + 1, v_best61, v_x62 =>
    if v_x62 < (v_there59.length : Int) then
     (getI v_there59 v_x62).bind fun (v_y67 : Int) =>
     (v_f60 v_y67).bind fun (v_r68 : (Int)) =>
     (getI v_there59 v_best61).bind fun (v_y69 : Int) =>
     (v_f60 v_y69).bind fun (v_r70 : (Int)) =>
     if v_r68 > v_r70 then
      G_reclaim_most_L1 n v_there59 v_f60 k v_x62 (wi .i64 (v_x62 + 1))
     else
      G_reclaim_most_L1 n v_there59 v_f60 k v_best61 (wi .i64 (v_x62 + 1))
    else
     some (.x0 v_best61)
theorem G_reclaim_most_L1_ok {Fi : Ex → PS → Prop} (hF : KC 28 Fi) (ks : List Fr) (n : Nat) (v_there59 : (List Int)) (v_f60 : (Int → Option (Int))) (v_f60_g : FuncId) (v_f60_c : (List PV)) (v_f60_h : ∀ (x0 : Int) (r : Int), v_f60 x0 = some r → Ret Try.prog v_f60_g ([(eI .i64) x0] ++ v_f60_c) ((eI .i64) r)) : ∀ (k : Nat) (v_best61 : Int) (v_x62 : Int) (o : G_reclaim_most_L1_R), G_reclaim_most_L1 n v_there59 v_f60 k v_best61 v_x62 = some o → RunE Try.prog 28 Fi ks (G_reclaim_most_L1_ex o) (G_reclaim_most_L1_st v_there59 v_f60 v_f60_g v_f60_c o) → RunE Try.prog 28 Fi (.l k (cP (cB (cR (cL (cR (cR (bodyOf Try.f90))))))) :: ks) .normal (G_reclaim_most_L1_hd v_there59 v_f60 v_f60_g v_f60_c v_best61 v_x62)
  | 0, v_best61, v_x62, o, h, q => by rw [G_reclaim_most_L1] at h; cases h
  | k + 1, v_best61, v_x62, o, h, q => by
    rw [G_reclaim_most_L1] at h
    by_cases h56 : v_x62 < (v_there59.length : Int)
    · rw [if_pos h56] at h
      obtain ⟨v_y67, h62, h⟩ := bind_some h
      obtain ⟨v_r68, h63, h⟩ := bind_some h
      obtain ⟨v_y69, h64, h⟩ := bind_some h
      obtain ⟨v_r70, h65, h⟩ := bind_some h
      by_cases h66 : v_r68 > v_r70
      · rw [if_pos h66] at h
        exact pkk_sound TTok mix hF 16 (hs := [.t true, .y ((eI .i64) v_y67), .c, .r ((eI .i64) v_r68), .y ((eI .i64) v_y69), .c, .r ((eI .i64) v_r70), .t true]) (ts := []) (s := []) (l := [0, 1, 5, 8, 9, 10]) (by kernel_rfl) (by kernel_rfl) (.cons (dt h56) (.cons (getI_ob (f := (eI .i64)) h62) (.cons (v_f60_h v_y67 _ h63) (.cons (getI_ob (f := (eI .i64)) h64) (.cons (v_f60_h v_y69 _ h65) (.cons (dt h66) .nil)))))) (G_reclaim_most_L1_ok hF ks n v_there59 v_f60 v_f60_g v_f60_c v_f60_h k v_x62 (wi .i64 (v_x62 + 1)) _ h q)
      · rw [if_neg h66] at h
        exact pkk_sound TTok mix hF 16 (hs := [.t true, .y ((eI .i64) v_y67), .c, .r ((eI .i64) v_r68), .y ((eI .i64) v_y69), .c, .r ((eI .i64) v_r70), .t false]) (ts := []) (s := []) (l := [0, 1, 5, 8, 9, 10]) (by kernel_rfl) (by kernel_rfl) (.cons (dt h56) (.cons (getI_ob (f := (eI .i64)) h62) (.cons (v_f60_h v_y67 _ h63) (.cons (getI_ob (f := (eI .i64)) h64) (.cons (v_f60_h v_y69 _ h65) (.cons (df h66) .nil)))))) (G_reclaim_most_L1_ok hF ks n v_there59 v_f60 v_f60_g v_f60_c v_f60_h k v_best61 (wi .i64 (v_x62 + 1)) _ h q)
    · rw [if_neg h56] at h
      cases h
      exact pkk_sound TTok mix hF 8 (hs := [.t false]) (ts := []) (s := []) (l := [5]) (by kernel_rfl) (by kernel_rfl) (.cons (df h56) .nil) q
/- ringhall/reclaim.most -/
def G_reclaim_most (n : Nat) (v_there59 : (List Int)) (v_f60 : (Int → Option (Int))) : Option (Int) :=
  (G_reclaim_most_L1 n v_there59 v_f60 n 0 0).bind fun v_o72 => match v_o72 with
  | .x0 v_z73 =>
    some v_z73
theorem G_reclaim_most_ok (n : Nat) (v_there59 : (List Int)) (v_f60 : (Int → Option (Int))) (v_f60_g : FuncId) (v_f60_c : List PV) (v_f60_h : ∀ (x0 : Int) (r : Int), v_f60 x0 = some r → Ret Try.prog v_f60_g ([(eI .i64) x0] ++ v_f60_c) ((eI .i64) r)) (r : Int) (h : G_reclaim_most n v_there59 v_f60 = some r) : Ret Try.prog 90 [(eL (eI .i64)) v_there59, (.clo v_f60_g v_f60_c)] ((eI .i64) r) := by
  refine ret_run (n := 28) (fn := Try.f90) (c := bodyOf Try.f90) (by kernel_rfl) (by kernel_rfl) (by kernel_rfl) (by kernel_rfl) ?_
  have hF : KC 28 (FinR Try.prog Try.f90 ((eI .i64) r)) := FinR.kc' (by kernel_rfl)
  unfold G_reclaim_most at h
  obtain ⟨v_o72, h67, h⟩ := bind_some h
  refine pkk_sound TTok mix hF 9 (hs := [.u (.d (.v (.int .i64 (v_there59.length : Int)))), .n n]) (ts := []) (s := []) (l := [0, 1, 5, 8, 9, 10]) (by kernel_rfl) (by kernel_rfl) (.cons (len_ob (f := (eI .i64)) (l := v_there59)) .nil) (G_reclaim_most_L1_ok hF (.b 0 :: .s (cR (cR (cR (bodyOf Try.f90)))) :: []) n v_there59 v_f60 v_f60_g v_f60_c v_f60_h n 0 0 _ h67 ?_)
  cases v_o72 with
  | x0 v_z73 =>
    dsimp only at h
    obtain rfl := Option.some.inj h
    exact pend_sound TTok mix 4 (hs := []) (by kernel_rfl) (by kernel_rfl) (by kernel_rfl) .nil
inductive G_reclaim_far_C1_R where
  | x0 (v_x85 : Bool)
def G_reclaim_far_C1_ex : G_reclaim_far_C1_R → Ex
  | .x0 _ => .normal
def G_reclaim_far_C1_st (v_l77 : (List Int)) (v_p79 : Int) (v_step80 : Int) (v_n81 : Int) (v_i82 : Int) : G_reclaim_far_C1_R → PS
  | .x0 v_x85 => ⟨[.d (.sl (v_l77.map (eI .i64))), dd, .d (.v (.int .i64 v_p79)), .d (.v (.int .i64 v_step80)), dd, dd, dd, dd, dd, .d (.v (.int .i64 v_n81)), .d (.v (.int .i64 v_i82)), dd, dd, dd, dd, dd, dd, dd, dd, dd, dd, dd, dd, dd, dd, dd, dd, dd, dd, .d (.v (.bool v_x85)), dd, dd, dd, dd, dd, dd], []⟩
def G_reclaim_far_C1_hd (v_l77 : (List Int)) (v_p79 : Int) (v_step80 : Int) (v_n81 : Int) (v_i82 : Int)  : PS := ⟨[.d (.sl (v_l77.map (eI .i64))), dd, .d (.v (.int .i64 v_p79)), .d (.v (.int .i64 v_step80)), dd, dd, dd, dd, dd, .d (.v (.int .i64 v_n81)), .d (.v (.int .i64 v_i82)), dd, dd, dd, dd, dd, dd, dd, dd, dd, dd, dd, dd, dd, dd, dd, dd, dd, dd, dd, dd, dd, dd, dd, dd, dd], []⟩
def G_reclaim_far_C1 (n : Nat) (v_l77 : (List Int)) (v_p79 : Int) (v_step80 : Int) (v_n81 : Int) (v_i82 : Int) : Option G_reclaim_far_C1_R :=
  if v_i82 ≥ 0 then
   if v_i82 < (v_l77.length : Int) then
    (getI v_l77 v_i82).bind fun (v_y84 : Int) =>
    some (.x0 (v_y84 != v_p79))
   else
    some (.x0 false)
  else
   some (.x0 false)
theorem G_reclaim_far_C1_ok {Fi : Ex → PS → Prop} (hF : KC 36 Fi) (ks : List Fr) (n : Nat) (v_l77 : (List Int)) (v_p79 : Int) (v_step80 : Int) (v_n81 : Int) (v_i82 : Int)  (o : G_reclaim_far_C1_R) (h : G_reclaim_far_C1 n v_l77 v_p79 v_step80 v_n81 v_i82 = some o) (q : RunE Try.prog 36 Fi ks (G_reclaim_far_C1_ex o) (G_reclaim_far_C1_st v_l77 v_p79 v_step80 v_n81 v_i82 o)) : RunE Try.prog 36 Fi (.s (cL (cL (cP (cB (cR (cL (cR (cR (bodyOf Try.f92))))))))) :: ks) .normal (G_reclaim_far_C1_hd v_l77 v_p79 v_step80 v_n81 v_i82) := by
  unfold G_reclaim_far_C1 at h
  by_cases h71 : v_i82 ≥ 0
  · rw [if_pos h71] at h
    by_cases h72 : v_i82 < (v_l77.length : Int)
    · rw [if_pos h72] at h
      obtain ⟨v_y84, h73, h⟩ := bind_some h
      cases h
      exact pkk_sound TTok mix hF 1 (hs := [.t true, .c, .c, .u (.d (.v (.int .i64 (v_l77.length : Int)))), .c, .t true, .c, .c, .y ((eI .i64) v_y84), .c, .c, .c, .c]) (ts := []) (s := []) (l := [0, 2, 3, 9, 10, 29]) (by kernel_rfl) (by kernel_rfl) (.cons (dt h71) (.cons (len_ob (f := (eI .i64)) (l := v_l77)) (.cons (dt h72) (.cons (getI_ob (f := (eI .i64)) h73) .nil)))) q
    · rw [if_neg h72] at h
      cases h
      exact pkk_sound TTok mix hF 1 (hs := [.t true, .c, .c, .u (.d (.v (.int .i64 (v_l77.length : Int)))), .c, .t false, .c, .c, .c, .c, .c]) (ts := []) (s := []) (l := [0, 2, 3, 9, 10, 29]) (by kernel_rfl) (by kernel_rfl) (.cons (dt h71) (.cons (len_ob (f := (eI .i64)) (l := v_l77)) (.cons (df h72) .nil))) q
  · rw [if_neg h71] at h
    cases h
    exact pkk_sound TTok mix hF 1 (hs := [.t false, .c, .c, .c, .c, .c, .c, .c, .c, .c]) (ts := []) (s := []) (l := [0, 2, 3, 9, 10, 29]) (by kernel_rfl) (by kernel_rfl) (.cons (df h71) .nil) q
inductive G_reclaim_far_L2_R where
  | x0 (v_n90 : Int)
def G_reclaim_far_L2_ex : G_reclaim_far_L2_R → Ex
  | .x0 _ => .exit 0
def G_reclaim_far_L2_st (v_l77 : (List Int)) (v_p79 : Int) (v_step80 : Int) : G_reclaim_far_L2_R → PS
  | .x0 v_n90 => ⟨[dd, dd, dd, dd, dd, dd, dd, dd, dd, .d (.v (.int .i64 v_n90)), dd, dd, dd, dd, dd, dd, dd, dd, dd, dd, dd, dd, dd, dd, dd, dd, dd, dd, dd, dd, dd, dd, dd, dd, dd, dd], []⟩
def G_reclaim_far_L2_hd (v_l77 : (List Int)) (v_p79 : Int) (v_step80 : Int) (v_n81 : Int) (v_i82 : Int) : PS := ⟨[.d (.sl (v_l77.map (eI .i64))), dd, .d (.v (.int .i64 v_p79)), .d (.v (.int .i64 v_step80)), dd, dd, dd, dd, dd, .d (.v (.int .i64 v_n81)), .d (.v (.int .i64 v_i82)), dd, dd, dd, dd, dd, dd, dd, dd, dd, dd, dd, dd, dd, dd, dd, dd, dd, dd, dd, dd, dd, dd, dd, dd, dd], []⟩
def G_reclaim_far_L2 (n : Nat) (v_l77 : (List Int)) (v_p79 : Int) (v_step80 : Int) : Nat → Int → Int → Option G_reclaim_far_L2_R
  | 0, _, _ => none
  | k + 1, v_n81, v_i82 =>
    (G_reclaim_far_C1 n v_l77 v_p79 v_step80 v_n81 v_i82).bind fun v_o88 => match v_o88 with
    | .x0 v_z89 =>
      if v_z89 = true then
       G_reclaim_far_L2 n v_l77 v_p79 v_step80 k (wi .i64 (v_n81 + 1)) (wi .i64 (v_i82 + v_step80))
      else
       some (.x0 v_n81)
theorem G_reclaim_far_L2_ok {Fi : Ex → PS → Prop} (hF : KC 36 Fi) (ks : List Fr) (n : Nat) (v_l77 : (List Int)) (v_p79 : Int) (v_step80 : Int)  : ∀ (k : Nat) (v_n81 : Int) (v_i82 : Int) (o : G_reclaim_far_L2_R), G_reclaim_far_L2 n v_l77 v_p79 v_step80 k v_n81 v_i82 = some o → RunE Try.prog 36 Fi ks (G_reclaim_far_L2_ex o) (G_reclaim_far_L2_st v_l77 v_p79 v_step80 o) → RunE Try.prog 36 Fi (.l k (cP (cB (cR (cL (cR (cR (bodyOf Try.f92))))))) :: ks) .normal (G_reclaim_far_L2_hd v_l77 v_p79 v_step80 v_n81 v_i82)
  | 0, v_n81, v_i82, o, h, q => by rw [G_reclaim_far_L2] at h; cases h
  | k + 1, v_n81, v_i82, o, h, q => by
    rw [G_reclaim_far_L2] at h
    obtain ⟨v_o88, h74, h⟩ := bind_some h
    refine pkk_sound TTok mix hF 3 (hs := []) (ts := []) (s := []) (l := [0, 2, 3, 9, 10]) (by kernel_rfl) (by kernel_rfl) .nil (G_reclaim_far_C1_ok hF (.s (cR (cL (cP (cB (cR (cL (cR (cR (bodyOf Try.f92))))))))) :: .s (cR (cP (cB (cR (cL (cR (cR (bodyOf Try.f92)))))))) :: .l k (cP (cB (cR (cL (cR (cR (bodyOf Try.f92))))))) :: ks) n v_l77 v_p79 v_step80 v_n81 v_i82 _ h74 ?_)
    cases v_o88 with
    | x0 v_z89 =>
      dsimp only at h
      by_cases h75 : v_z89 = true
      · rw [if_pos h75] at h
        exact pkk_sound TTok mix hF 7 (hs := [.t true]) (ts := []) (s := []) (l := [0, 2, 3, 9, 10]) (by kernel_rfl) (by kernel_rfl) (.cons h75 .nil) (G_reclaim_far_L2_ok hF ks n v_l77 v_p79 v_step80 k (wi .i64 (v_n81 + 1)) (wi .i64 (v_i82 + v_step80)) _ h q)
      · rw [if_neg h75] at h
        cases h
        exact pkk_sound TTok mix hF 4 (hs := [.t false]) (ts := []) (s := []) (l := [9]) (by kernel_rfl) (by kernel_rfl) (.cons (vf h75) .nil) q
/- ringhall/reclaim.far -/
def G_reclaim_far (n : Nat) (v_l77 : (List Int)) (v_at78 : Int) (v_p79 : Int) (v_step80 : Int) : Option (Int) :=
  (G_reclaim_far_L2 n v_l77 v_p79 v_step80 n 0 (wi .i64 (v_at78 + v_step80))).bind fun v_o91 => match v_o91 with
  | .x0 v_z92 =>
    some v_z92
theorem G_reclaim_far_ok (n : Nat) (v_l77 : (List Int)) (v_at78 : Int) (v_p79 : Int) (v_step80 : Int) (r : Int) (h : G_reclaim_far n v_l77 v_at78 v_p79 v_step80 = some r) : Ret Try.prog 92 [(eL (eI .i64)) v_l77, (eI .i64) v_at78, (eI .i64) v_p79, (eI .i64) v_step80] ((eI .i64) r) := by
  refine ret_run (n := 36) (fn := Try.f92) (c := bodyOf Try.f92) (by kernel_rfl) (by kernel_rfl) (by kernel_rfl) (by kernel_rfl) ?_
  have hF : KC 36 (FinR Try.prog Try.f92 ((eI .i64) r)) := FinR.kc' (by kernel_rfl)
  unfold G_reclaim_far at h
  obtain ⟨v_o91, h76, h⟩ := bind_some h
  refine pkk_sound TTok mix hF 9 (hs := [.n n]) (ts := []) (s := []) (l := [0, 2, 3, 9, 10]) (by kernel_rfl) (by kernel_rfl) .nil (G_reclaim_far_L2_ok hF (.b 0 :: .s (cR (cR (cR (bodyOf Try.f92)))) :: []) n v_l77 v_p79 v_step80 n 0 (wi .i64 (v_at78 + v_step80)) _ h76 ?_)
  cases v_o91 with
  | x0 v_z92 =>
    dsimp only at h
    obtain rfl := Option.some.inj h
    exact pend_sound TTok mix 4 (hs := []) (by kernel_rfl) (by kernel_rfl) (by kernel_rfl) .nil
/- ringhall/reclaim.Best$1$1 -/
def G_reclaim_Best_1_1 (n : Nat) (v_p74 : Int) (v_c75 : (List Int)) (v_c76 : Int) : Option (Int) :=
  (G_reclaim_far n v_c75 v_c76 v_p74 1).bind fun (v_r93 : (Int)) =>
  some v_r93
theorem G_reclaim_Best_1_1_ok (n : Nat) (v_p74 : Int) (v_c75 : (List Int)) (v_c76 : Int) (r : Int) (h : G_reclaim_Best_1_1 n v_p74 v_c75 v_c76 = some r) : Ret Try.prog 91 [(eI .i64) v_p74, .iptr [.sl (v_c75.map (eI .i64))] 0, .iptr [.v (.int .i64 v_c76)] 0] ((eI .i64) r) := by
  refine ret_run (n := 9) (fn := Try.f91) (c := bodyOf Try.f91) (by kernel_rfl) (by kernel_rfl) (by kernel_rfl) (by kernel_rfl) ?_
  have hF : KC 9 (FinR Try.prog Try.f91 ((eI .i64) r)) := FinR.kc' (by kernel_rfl)
  unfold G_reclaim_Best_1_1 at h
  obtain ⟨v_r93, h77, h⟩ := bind_some h
  obtain rfl := Option.some.inj h
  exact pend_sound TTok mix 5 (hs := [.c, .c, .r ((eI .i64) v_r93)]) (by kernel_rfl) (by kernel_rfl) (by kernel_rfl) (.cons (G_reclaim_far_ok n v_c75 v_c76 v_p74 1 _ h77) .nil)
/- ringhall/reclaim.Best$1 -/
def G_reclaim_Best_1 (n : Nat) (v_there56 : (List Int)) (v_at57 : Int) (v_c58 : (List Int)) : Option (Int) :=
  (G_reclaim_most n v_there56 (fun (y0 : Int) => G_reclaim_Best_1_1 n y0 v_c58 v_at57)).bind fun (v_r94 : (Int)) =>
  some v_r94
theorem G_reclaim_Best_1_ok (n : Nat) (v_there56 : (List Int)) (v_at57 : Int) (v_c58 : (List Int)) (r : Int) (h : G_reclaim_Best_1 n v_there56 v_at57 v_c58 = some r) : Ret Try.prog 89 [(eL (eI .i64)) v_there56, (eI .i64) v_at57, .iptr [.sl (v_c58.map (eI .i64))] 0] ((eI .i64) r) := by
  refine ret_run (n := 9) (fn := Try.f89) (c := bodyOf Try.f89) (by kernel_rfl) (by kernel_rfl) (by kernel_rfl) (by kernel_rfl) ?_
  have hF : KC 9 (FinR Try.prog Try.f89 ((eI .i64) r)) := FinR.kc' (by kernel_rfl)
  unfold G_reclaim_Best_1 at h
  obtain ⟨v_r94, h78, h⟩ := bind_some h
  obtain rfl := Option.some.inj h
  exact pend_sound TTok mix 5 (hs := [.c, .r ((eI .i64) v_r94)]) (by kernel_rfl) (by kernel_rfl) (by kernel_rfl) (.cons (G_reclaim_most_ok n v_there56 (fun (y0 : Int) => G_reclaim_Best_1_1 n y0 v_c58 v_at57) 91 [.iptr [.sl (v_c58.map (eI .i64))] 0, .iptr [.v (.int .i64 v_at57)] 0] (fun y0 r h => G_reclaim_Best_1_1_ok n y0 v_c58 v_at57 r h) _ h78) .nil)
/- ringhall/reclaim.Best -/
def G_reclaim_Best (n : Nat) (v_l3 : (List Int)) (v_room4 : Int) : Option (Int × Int) :=
  (G_reclaim_refs n v_l3 v_room4).bind fun (v_r7 : (Int)) =>
  if v_r7 = 0 then
   (G_reclaim_faults n v_l3 v_room4 (fun (y0 : (List Int)) (y1 : Int) => G_reclaim_Best_1 n y0 y1 v_l3)).bind fun (v_r95 : (Int)) =>
   some (v_r95, 0)
  else
   some (0, v_r7)
theorem G_reclaim_Best_ok (n : Nat) (v_l3 : (List Int)) (v_room4 : Int) (r : Int × Int) (h : G_reclaim_Best n v_l3 v_room4 = some r) : Ret Try.prog 10 [(eL (eI .i64)) v_l3, (eI .i64) v_room4] (.tup [(eI .i64) r.1, (eI .i64) r.2]) := by
  refine ret_run (n := 17) (fn := Try.f10) (c := bodyOf Try.f10) (by kernel_rfl) (by kernel_rfl) (by kernel_rfl) (by kernel_rfl) ?_
  have hF : KC 17 (FinR Try.prog Try.f10 (.tup [(eI .i64) r.1, (eI .i64) r.2])) := FinR.kc' (by kernel_rfl)
  unfold G_reclaim_Best at h
  obtain ⟨v_r7, h13, h⟩ := bind_some h
  by_cases h15 : v_r7 = 0
  · rw [if_pos h15] at h
    obtain ⟨v_r95, h79, h⟩ := bind_some h
    obtain rfl := Option.some.inj h
    exact pend_sound TTok mix 12 (hs := [.c, .r ((eI .i64) v_r7), .t false, .c, .c, .r ((eI .i64) v_r95)]) (by kernel_rfl) (by kernel_rfl) (by kernel_rfl) (.cons (G_reclaim_refs_ok n v_l3 v_room4 _ h13) (.cons (nf h15) (.cons (G_reclaim_faults_ok n v_l3 v_room4 (fun (y0 : (List Int)) (y1 : Int) => G_reclaim_Best_1 n y0 y1 v_l3) 89 [.iptr [.sl (v_l3.map (eI .i64))] 0] (fun y0 y1 r h => G_reclaim_Best_1_ok n y0 y1 v_l3 r h) _ h79) .nil)))
  · rw [if_neg h15] at h
    obtain rfl := Option.some.inj h
    exact pend_sound TTok mix 12 (hs := [.c, .r ((eI .i64) v_r7), .t true]) (by kernel_rfl) (by kernel_rfl) (by kernel_rfl) (.cons (G_reclaim_refs_ok n v_l3 v_room4 _ h13) (.cons (nt h15) .nil))
/- ringhall/reclaim.Lru$1$1 -/
def G_reclaim_Lru_1_1 (n : Nat) (v_p103 : Int) (v_c104 : (List Int)) (v_c105 : Int) : Option (Int) :=
  (G_reclaim_far n v_c104 v_c105 v_p103 (-1)).bind fun (v_r106 : (Int)) =>
  some v_r106
theorem G_reclaim_Lru_1_1_ok (n : Nat) (v_p103 : Int) (v_c104 : (List Int)) (v_c105 : Int) (r : Int) (h : G_reclaim_Lru_1_1 n v_p103 v_c104 v_c105 = some r) : Ret Try.prog 94 [(eI .i64) v_p103, .iptr [.sl (v_c104.map (eI .i64))] 0, .iptr [.v (.int .i64 v_c105)] 0] ((eI .i64) r) := by
  refine ret_run (n := 9) (fn := Try.f94) (c := bodyOf Try.f94) (by kernel_rfl) (by kernel_rfl) (by kernel_rfl) (by kernel_rfl) ?_
  have hF : KC 9 (FinR Try.prog Try.f94 ((eI .i64) r)) := FinR.kc' (by kernel_rfl)
  unfold G_reclaim_Lru_1_1 at h
  obtain ⟨v_r106, h84, h⟩ := bind_some h
  obtain rfl := Option.some.inj h
  exact pend_sound TTok mix 5 (hs := [.c, .c, .r ((eI .i64) v_r106)]) (by kernel_rfl) (by kernel_rfl) (by kernel_rfl) (.cons (G_reclaim_far_ok n v_c104 v_c105 v_p103 (-1) _ h84) .nil)
/- ringhall/reclaim.Lru$1 -/
def G_reclaim_Lru_1 (n : Nat) (v_there100 : (List Int)) (v_at101 : Int) (v_c102 : (List Int)) : Option (Int) :=
  (G_reclaim_most n v_there100 (fun (y0 : Int) => G_reclaim_Lru_1_1 n y0 v_c102 v_at101)).bind fun (v_r107 : (Int)) =>
  some v_r107
theorem G_reclaim_Lru_1_ok (n : Nat) (v_there100 : (List Int)) (v_at101 : Int) (v_c102 : (List Int)) (r : Int) (h : G_reclaim_Lru_1 n v_there100 v_at101 v_c102 = some r) : Ret Try.prog 93 [(eL (eI .i64)) v_there100, (eI .i64) v_at101, .iptr [.sl (v_c102.map (eI .i64))] 0] ((eI .i64) r) := by
  refine ret_run (n := 9) (fn := Try.f93) (c := bodyOf Try.f93) (by kernel_rfl) (by kernel_rfl) (by kernel_rfl) (by kernel_rfl) ?_
  have hF : KC 9 (FinR Try.prog Try.f93 ((eI .i64) r)) := FinR.kc' (by kernel_rfl)
  unfold G_reclaim_Lru_1 at h
  obtain ⟨v_r107, h85, h⟩ := bind_some h
  obtain rfl := Option.some.inj h
  exact pend_sound TTok mix 5 (hs := [.c, .r ((eI .i64) v_r107)]) (by kernel_rfl) (by kernel_rfl) (by kernel_rfl) (.cons (G_reclaim_most_ok n v_there100 (fun (y0 : Int) => G_reclaim_Lru_1_1 n y0 v_c102 v_at101) 94 [.iptr [.sl (v_c102.map (eI .i64))] 0, .iptr [.v (.int .i64 v_at101)] 0] (fun y0 r h => G_reclaim_Lru_1_1_ok n y0 v_c102 v_at101 r h) _ h85) .nil)
/- ringhall/reclaim.Lru -/
def G_reclaim_Lru (n : Nat) (v_l97 : (List Int)) (v_room98 : Int) : Option (Int × Int) :=
  (G_reclaim_refs n v_l97 v_room98).bind fun (v_r99 : (Int)) =>
  if v_r99 = 0 then
   (G_reclaim_faults n v_l97 v_room98 (fun (y0 : (List Int)) (y1 : Int) => G_reclaim_Lru_1 n y0 y1 v_l97)).bind fun (v_r108 : (Int)) =>
   some (v_r108, 0)
  else
   some (0, v_r99)
theorem G_reclaim_Lru_ok (n : Nat) (v_l97 : (List Int)) (v_room98 : Int) (r : Int × Int) (h : G_reclaim_Lru n v_l97 v_room98 = some r) : Ret Try.prog 11 [(eL (eI .i64)) v_l97, (eI .i64) v_room98] (.tup [(eI .i64) r.1, (eI .i64) r.2]) := by
  refine ret_run (n := 17) (fn := Try.f11) (c := bodyOf Try.f11) (by kernel_rfl) (by kernel_rfl) (by kernel_rfl) (by kernel_rfl) ?_
  have hF : KC 17 (FinR Try.prog Try.f11 (.tup [(eI .i64) r.1, (eI .i64) r.2])) := FinR.kc' (by kernel_rfl)
  unfold G_reclaim_Lru at h
  obtain ⟨v_r99, h81, h⟩ := bind_some h
  by_cases h83 : v_r99 = 0
  · rw [if_pos h83] at h
    obtain ⟨v_r108, h86, h⟩ := bind_some h
    obtain rfl := Option.some.inj h
    exact pend_sound TTok mix 12 (hs := [.c, .r ((eI .i64) v_r99), .t false, .c, .c, .r ((eI .i64) v_r108)]) (by kernel_rfl) (by kernel_rfl) (by kernel_rfl) (.cons (G_reclaim_refs_ok n v_l97 v_room98 _ h81) (.cons (nf h83) (.cons (G_reclaim_faults_ok n v_l97 v_room98 (fun (y0 : (List Int)) (y1 : Int) => G_reclaim_Lru_1 n y0 y1 v_l97) 93 [.iptr [.sl (v_l97.map (eI .i64))] 0] (fun y0 y1 r h => G_reclaim_Lru_1_ok n y0 y1 v_l97 r h) _ h86) .nil)))
  · rw [if_neg h83] at h
    obtain rfl := Option.some.inj h
    exact pend_sound TTok mix 12 (hs := [.c, .r ((eI .i64) v_r99), .t true]) (by kernel_rfl) (by kernel_rfl) (by kernel_rfl) (.cons (G_reclaim_refs_ok n v_l97 v_room98 _ h81) (.cons (nt h83) .nil))
/- ringhall/reclaim.Fifo$1 -/
def G_reclaim_Fifo_1 (n : Nat) (v_x113 : (List Int)) (v_x114 : Int) : Option (Int) :=
  some 0
theorem G_reclaim_Fifo_1_ok (n : Nat) (v_x113 : (List Int)) (v_x114 : Int) (r : Int) (h : G_reclaim_Fifo_1 n v_x113 v_x114 = some r) : Ret Try.prog 95 [(eL (eI .i64)) v_x113, (eI .i64) v_x114] ((eI .i64) r) := by
  refine ret_run (n := 5) (fn := Try.f95) (c := bodyOf Try.f95) (by kernel_rfl) (by kernel_rfl) (by kernel_rfl) (by kernel_rfl) ?_
  have hF : KC 5 (FinR Try.prog Try.f95 ((eI .i64) r)) := FinR.kc' (by kernel_rfl)
  unfold G_reclaim_Fifo_1 at h
  obtain rfl := Option.some.inj h
  exact pend_sound TTok mix 5 (hs := []) (by kernel_rfl) (by kernel_rfl) (by kernel_rfl) .nil
/- ringhall/reclaim.Fifo -/
def G_reclaim_Fifo (n : Nat) (v_l110 : (List Int)) (v_room111 : Int) : Option (Int × Int) :=
  (G_reclaim_refs n v_l110 v_room111).bind fun (v_r112 : (Int)) =>
  if v_r112 = 0 then
   (G_reclaim_faults n v_l110 v_room111 (fun (y0 : (List Int)) (y1 : Int) => G_reclaim_Fifo_1 n y0 y1)).bind fun (v_r115 : (Int)) =>
   some (v_r115, 0)
  else
   some (0, v_r112)
theorem G_reclaim_Fifo_ok (n : Nat) (v_l110 : (List Int)) (v_room111 : Int) (r : Int × Int) (h : G_reclaim_Fifo n v_l110 v_room111 = some r) : Ret Try.prog 12 [(eL (eI .i64)) v_l110, (eI .i64) v_room111] (.tup [(eI .i64) r.1, (eI .i64) r.2]) := by
  refine ret_run (n := 16) (fn := Try.f12) (c := bodyOf Try.f12) (by kernel_rfl) (by kernel_rfl) (by kernel_rfl) (by kernel_rfl) ?_
  have hF : KC 16 (FinR Try.prog Try.f12 (.tup [(eI .i64) r.1, (eI .i64) r.2])) := FinR.kc' (by kernel_rfl)
  unfold G_reclaim_Fifo at h
  obtain ⟨v_r112, h88, h⟩ := bind_some h
  by_cases h90 : v_r112 = 0
  · rw [if_pos h90] at h
    obtain ⟨v_r115, h91, h⟩ := bind_some h
    obtain rfl := Option.some.inj h
    exact pend_sound TTok mix 12 (hs := [.r ((eI .i64) v_r112), .t false, .r ((eI .i64) v_r115)]) (by kernel_rfl) (by kernel_rfl) (by kernel_rfl) (.cons (G_reclaim_refs_ok n v_l110 v_room111 _ h88) (.cons (nf h90) (.cons (G_reclaim_faults_ok n v_l110 v_room111 (fun (y0 : (List Int)) (y1 : Int) => G_reclaim_Fifo_1 n y0 y1) 95 [] (fun y0 y1 r h => G_reclaim_Fifo_1_ok n y0 y1 r h) _ h91) .nil)))
  · rw [if_neg h90] at h
    obtain rfl := Option.some.inj h
    exact pend_sound TTok mix 12 (hs := [.r ((eI .i64) v_r112), .t true]) (by kernel_rfl) (by kernel_rfl) (by kernel_rfl) (.cons (G_reclaim_refs_ok n v_l110 v_room111 _ h88) (.cons (nt h90) .nil))
/- ringhall/ringref2.In -/
def G_ringref2_In (n : Nat) (v_n119 : Int) (v_least120 : Int) (v_most121 : Int) : Option (Bool) :=
  if v_n119 ≥ v_least120 then
   some (decide (v_n119 ≤ v_most121))
  else
   some false
theorem G_ringref2_In_ok (n : Nat) (v_n119 : Int) (v_least120 : Int) (v_most121 : Int) (r : Bool) (h : G_ringref2_In n v_n119 v_least120 v_most121 = some r) : Ret Try.prog 35 [(eI .i64) v_n119, (eI .i64) v_least120, (eI .i64) v_most121] (eB r) := by
  refine ret_run (n := 15) (fn := Try.f35) (c := bodyOf Try.f35) (by kernel_rfl) (by kernel_rfl) (by kernel_rfl) (by kernel_rfl) ?_
  have hF : KC 15 (FinR Try.prog Try.f35 (eB r)) := FinR.kc' (by kernel_rfl)
  unfold G_ringref2_In at h
  by_cases h94 : v_n119 ≥ v_least120
  · rw [if_pos h94] at h
    obtain rfl := Option.some.inj h
    exact pend_sound TTok mix 5 (hs := [.t true, .c, .c]) (by kernel_rfl) (by kernel_rfl) (by kernel_rfl) (.cons (dt h94) .nil)
  · rw [if_neg h94] at h
    obtain rfl := Option.some.inj h
    exact pend_sound TTok mix 5 (hs := [.t false, .c, .c]) (by kernel_rfl) (by kernel_rfl) (by kernel_rfl) (.cons (df h94) .nil)
/- ringhall/ringref2.Refs -/
def G_ringref2_Refs (n : Nat) (v_l117 : (List Int)) (v_room118 : Int) : Option (Int) :=
  if (v_l117.length : Int) > 60 then
   some 2
  else
   (G_ringref2_In n v_room118 1 8).bind fun (v_r122 : (Bool)) =>
   if v_r122 = true then
    some 0
   else
    some 1
theorem G_ringref2_Refs_ok (n : Nat) (v_l117 : (List Int)) (v_room118 : Int) (r : Int) (h : G_ringref2_Refs n v_l117 v_room118 = some r) : Ret Try.prog 13 [(eL (eI .i64)) v_l117, (eI .i64) v_room118] ((eI .i64) r) := by
  refine ret_run (n := 11) (fn := Try.f13) (c := bodyOf Try.f13) (by kernel_rfl) (by kernel_rfl) (by kernel_rfl) (by kernel_rfl) ?_
  have hF : KC 11 (FinR Try.prog Try.f13 ((eI .i64) r)) := FinR.kc' (by kernel_rfl)
  unfold G_ringref2_Refs at h
  by_cases h93 : (v_l117.length : Int) > 60
  · rw [if_pos h93] at h
    obtain rfl := Option.some.inj h
    exact pend_sound TTok mix 10 (hs := [.u (.d (.v (.int .i64 (v_l117.length : Int)))), .t true]) (by kernel_rfl) (by kernel_rfl) (by kernel_rfl) (.cons (len_ob (f := (eI .i64)) (l := v_l117)) (.cons (dt h93) .nil))
  · rw [if_neg h93] at h
    obtain ⟨v_r122, h95, h⟩ := bind_some h
    by_cases h96 : v_r122 = true
    · rw [if_pos h96] at h
      obtain rfl := Option.some.inj h
      exact pend_sound TTok mix 15 (hs := [.u (.d (.v (.int .i64 (v_l117.length : Int)))), .t false, .r (eB v_r122), .t false]) (by kernel_rfl) (by kernel_rfl) (by kernel_rfl) (.cons (len_ob (f := (eI .i64)) (l := v_l117)) (.cons (df h93) (.cons (G_ringref2_In_ok n v_room118 1 8 _ h95) (.cons (bnf h96) .nil))))
    · rw [if_neg h96] at h
      obtain rfl := Option.some.inj h
      exact pend_sound TTok mix 15 (hs := [.u (.d (.v (.int .i64 (v_l117.length : Int)))), .t false, .r (eB v_r122), .t true]) (by kernel_rfl) (by kernel_rfl) (by kernel_rfl) (.cons (len_ob (f := (eI .i64)) (l := v_l117)) (.cons (df h93) (.cons (G_ringref2_In_ok n v_room118 1 8 _ h95) (.cons (bnt (vf h96)) .nil))))
inductive G_ringref2_RefList_L1_R where
  | x0 (v_at152 : Int) (v_w153 : (List Int))
def G_ringref2_RefList_L1_ex : G_ringref2_RefList_L1_R → Ex
  | .x0 _ _ => .exit 2
def G_ringref2_RefList_L1_st (v_room141 : Int) (v_touch142 : Bool) (v_n143 : Int) (v_y146 : Int) (v_l140 : (List Int)) (v_x144 : Int) (v_w145 : (List Int)) : G_ringref2_RefList_L1_R → PS
  | .x0 v_at152 v_w153 => ⟨[dd, .d (.v (.int .i64 v_room141)), .d (.v (.bool v_touch142)), dd, dd, dd, dd, .srf 0, .d (.v (.int .i64 v_n143)), dd, .d (.v (.int .i64 v_y146)), .d (.v (.int .i64 v_at152)), dd, dd, .d (.sl (v_l140.map (eI .i64))), .d (.v (.int .i64 (v_l140.length : Int))), .d (.v (.int .i64 v_x144)), dd, dd, dd, dd, dd, dd, dd, dd, dd, dd, dd, dd, dd, dd, dd, dd, dd, dd, dd, dd, dd, dd, dd, dd, dd, dd, dd, dd, dd, dd, dd, dd, dd, dd, dd, dd, dd, dd, dd, dd, dd, dd, dd, dd, dd, dd, dd], [.row 3 1 (v_w153.map (eI .i64))]⟩
def G_ringref2_RefList_L1_hd (v_room141 : Int) (v_touch142 : Bool) (v_n143 : Int) (v_y146 : Int) (v_l140 : (List Int)) (v_x144 : Int) (v_w145 : (List Int)) (v_at147 : Int) (v_x148 : Int) (v_w149 : (List Int)) : PS := ⟨[dd, .d (.v (.int .i64 v_room141)), .d (.v (.bool v_touch142)), dd, dd, dd, dd, .srf 0, .d (.v (.int .i64 v_n143)), dd, .d (.v (.int .i64 v_y146)), .d (.v (.int .i64 v_at147)), dd, dd, .d (.sl (v_l140.map (eI .i64))), .d (.v (.int .i64 (v_l140.length : Int))), .d (.v (.int .i64 v_x144)), dd, dd, dd, .srf 0, .d (.v (.int .i64 (v_w145.length : Int))), .d (.v (.int .i64 v_x148)), dd, dd, dd, dd, dd, dd, dd, dd, dd, dd, dd, dd, dd, dd, dd, dd, dd, dd, dd, dd, dd, dd, dd, dd, dd, dd, dd, dd, dd, dd, dd, dd, dd, dd, dd, dd, dd, dd, dd, dd, dd], [.row 3 1 (v_w149.map (eI .i64))]⟩
def G_ringref2_RefList_L1 (n : Nat) (v_room141 : Int) (v_touch142 : Bool) (v_n143 : Int) (v_y146 : Int) (v_l140 : (List Int)) (v_x144 : Int) (v_w145 : (List Int)) : Nat → Int → Int → (List Int) → Option G_ringref2_RefList_L1_R
  | 0, _, _, _ => none
  | k + 1, v_at147, v_x148, v_w149 =>
    if v_x148 < (v_w145.length : Int) then
     if 0 ≤ v_x148 ∧ (v_x148).toNat < v_w149.length then
      (v_w149[(v_x148).toNat]?).bind fun (v_y151 : Int) =>
      if v_y151 = v_y146 then
       G_ringref2_RefList_L1 n v_room141 v_touch142 v_n143 v_y146 v_l140 v_x144 v_w145 k v_x148 (wi .i64 (v_x148 + 1)) v_w149
      else
       G_ringref2_RefList_L1 n v_room141 v_touch142 v_n143 v_y146 v_l140 v_x144 v_w145 k v_at147 (wi .i64 (v_x148 + 1)) v_w149
     else none
    else
     some (.x0 v_at147 v_w149)
theorem G_ringref2_RefList_L1_ok {Fi : Ex → PS → Prop} (hF : KC 64 Fi) (ks : List Fr) (n : Nat) (v_room141 : Int) (v_touch142 : Bool) (v_n143 : Int) (v_y146 : Int) (v_l140 : (List Int)) (v_x144 : Int) (v_w145 : (List Int))  : ∀ (k : Nat) (v_at147 : Int) (v_x148 : Int) (v_w149 : (List Int)) (o : G_ringref2_RefList_L1_R), G_ringref2_RefList_L1 n v_room141 v_touch142 v_n143 v_y146 v_l140 v_x144 v_w145 k v_at147 v_x148 v_w149 = some o → RunE Try.prog 64 Fi ks (G_ringref2_RefList_L1_ex o) (G_ringref2_RefList_L1_st v_room141 v_touch142 v_n143 v_y146 v_l140 v_x144 v_w145 o) → RunE Try.prog 64 Fi (.l k (cP (cB (cR (cL (cR (cR (cB (cL (cR (cR (cP (cB (cR (cL (cR (cR (cR (bodyOf Try.f14)))))))))))))))))) :: ks) .normal (G_ringref2_RefList_L1_hd v_room141 v_touch142 v_n143 v_y146 v_l140 v_x144 v_w145 v_at147 v_x148 v_w149)
  | 0, v_at147, v_x148, v_w149, o, h, q => by rw [G_ringref2_RefList_L1] at h; cases h
  | k + 1, v_at147, v_x148, v_w149, o, h, q => by
    rw [G_ringref2_RefList_L1] at h
    by_cases h127 : v_x148 < (v_w145.length : Int)
    · rw [if_pos h127] at h
      by_cases h131 : 0 ≤ v_x148 ∧ (v_x148).toNat < v_w149.length
      · rw [if_pos h131] at h
        obtain ⟨v_y151, h132, h⟩ := bind_some h
        by_cases h133 : v_y151 = v_y146
        · rw [if_pos h133] at h
          exact pkk_sound TTok mix hF 16 (hs := [.t true, .y ((eI .i64) v_y151), .t true]) (ts := []) (s := [0]) (l := [1, 2, 7, 8, 10, 11, 14, 15, 16, 20, 21, 22]) (by kernel_rfl) (by kernel_rfl) (.cons (dt h127) (.cons (idx_ob (f := (eI .i64)) h131) (.cons (get_ob (f := (eI .i64)) h132) (.cons (bt h133) .nil)))) (G_ringref2_RefList_L1_ok hF ks n v_room141 v_touch142 v_n143 v_y146 v_l140 v_x144 v_w145 k v_x148 (wi .i64 (v_x148 + 1)) v_w149 _ h q)
        · rw [if_neg h133] at h
          exact pkk_sound TTok mix hF 16 (hs := [.t true, .y ((eI .i64) v_y151), .t false]) (ts := []) (s := [0]) (l := [1, 2, 7, 8, 10, 11, 14, 15, 16, 20, 21, 22]) (by kernel_rfl) (by kernel_rfl) (.cons (dt h127) (.cons (idx_ob (f := (eI .i64)) h131) (.cons (get_ob (f := (eI .i64)) h132) (.cons (bf h133) .nil)))) (G_ringref2_RefList_L1_ok hF ks n v_room141 v_touch142 v_n143 v_y146 v_l140 v_x144 v_w145 k v_at147 (wi .i64 (v_x148 + 1)) v_w149 _ h q)
      · rw [if_neg h131] at h; cases h
    · rw [if_neg h127] at h
      cases h
      exact pkk_sound TTok mix hF 8 (hs := [.t false]) (ts := []) (s := [0]) (l := [1, 2, 7, 8, 10, 11, 14, 15, 16]) (by kernel_rfl) (by kernel_rfl) (.cons (df h127) .nil) q
inductive G_ringref2_RefList_C2_R where
  | x0 (v_n211 : Int) (v_w212 : (List Int))
def G_ringref2_RefList_C2_ex : G_ringref2_RefList_C2_R → Ex
  | .x0 _ _ => .normal
def G_ringref2_RefList_C2_st (v_room141 : Int) (v_touch142 : Bool) (v_n143 : Int) (v_y146 : Int) (v_z155 : Int) (v_l140 : (List Int)) (v_x144 : Int) (v_z156 : (List Int)) : G_ringref2_RefList_C2_R → PS
  | .x0 v_n211 v_w212 => ⟨[dd, .d (.v (.int .i64 v_room141)), .d (.v (.bool v_touch142)), dd, dd, dd, dd, .srf 0, .d (.v (.int .i64 v_n211)), dd, dd, dd, dd, dd, .d (.sl (v_l140.map (eI .i64))), .d (.v (.int .i64 (v_l140.length : Int))), .d (.v (.int .i64 v_x144)), dd, dd, dd, dd, dd, dd, dd, dd, dd, dd, dd, dd, dd, dd, dd, dd, dd, dd, dd, dd, dd, dd, dd, dd, dd, dd, dd, dd, dd, dd, dd, dd, dd, dd, dd, dd, dd, dd, dd, dd, dd, dd, dd, dd, dd, dd, dd], [.row 3 1 (v_w212.map (eI .i64))]⟩
def G_ringref2_RefList_C2_hd (v_room141 : Int) (v_touch142 : Bool) (v_n143 : Int) (v_y146 : Int) (v_z155 : Int) (v_l140 : (List Int)) (v_x144 : Int) (v_z156 : (List Int))  : PS := ⟨[dd, .d (.v (.int .i64 v_room141)), .d (.v (.bool v_touch142)), dd, dd, dd, dd, .srf 0, .d (.v (.int .i64 v_n143)), dd, .d (.v (.int .i64 v_y146)), .d (.v (.int .i64 v_z155)), dd, dd, .d (.sl (v_l140.map (eI .i64))), .d (.v (.int .i64 (v_l140.length : Int))), .d (.v (.int .i64 v_x144)), dd, dd, dd, dd, dd, dd, dd, dd, dd, dd, dd, dd, dd, dd, dd, .d (.v (.bool (decide (v_z155 < 0)))), dd, dd, dd, dd, dd, dd, dd, dd, dd, dd, dd, dd, dd, dd, dd, dd, dd, dd, dd, dd, dd, dd, dd, dd, dd, dd, dd, dd, dd, dd, dd], [.row 3 1 (v_z156.map (eI .i64))]⟩
def G_ringref2_RefList_C2 (n : Nat) (v_room141 : Int) (v_touch142 : Bool) (v_n143 : Int) (v_y146 : Int) (v_z155 : Int) (v_l140 : (List Int)) (v_x144 : Int) (v_z156 : (List Int)) : Option G_ringref2_RefList_C2_R :=
  if v_z155 < 0 then
   if (v_z156.length : Int) = v_room141 then
    (sub v_z156 1 (v_z156.length : Int)).bind fun (v_s208 : (List Int)) =>
    (app 8 ([] : (List Int)) v_s208).bind fun (v_a209 : (List Int)) =>
    (app 8 v_a209 ([v_y146])).bind fun (v_a210 : (List Int)) =>
    some (.x0 (wi .i64 (v_n143 + 1)) v_a210)
   else
    (app 8 ([] : (List Int)) v_z156).bind fun (v_a213 : (List Int)) =>
    (app 8 v_a213 ([v_y146])).bind fun (v_a214 : (List Int)) =>
    some (.x0 (wi .i64 (v_n143 + 1)) v_a214)
  else
   if v_touch142 = true then
    (sub v_z156 0 v_z155).bind fun (v_s219 : (List Int)) =>
    (app 8 ([] : (List Int)) v_s219).bind fun (v_a220 : (List Int)) =>
    (sub v_z156 (wi .i64 (v_z155 + 1)) (v_z156.length : Int)).bind fun (v_s221 : (List Int)) =>
    (app 8 v_a220 v_s221).bind fun (v_a222 : (List Int)) =>
    (app 8 v_a222 ([v_y146])).bind fun (v_a223 : (List Int)) =>
    some (.x0 v_n143 v_a223)
   else
    some (.x0 v_n143 v_z156)
theorem G_ringref2_RefList_C2_ok {Fi : Ex → PS → Prop} (hF : KC 64 Fi) (ks : List Fr) (n : Nat) (v_room141 : Int) (v_touch142 : Bool) (v_n143 : Int) (v_y146 : Int) (v_z155 : Int) (v_l140 : (List Int)) (v_x144 : Int) (v_z156 : (List Int))  (o : G_ringref2_RefList_C2_R) (h : G_ringref2_RefList_C2 n v_room141 v_touch142 v_n143 v_y146 v_z155 v_l140 v_x144 v_z156 = some o) (q : RunE Try.prog 64 Fi ks (G_ringref2_RefList_C2_ex o) (G_ringref2_RefList_C2_st v_room141 v_touch142 v_n143 v_y146 v_z155 v_l140 v_x144 v_z156 o)) : RunE Try.prog 64 Fi (.s (cR (cB (cR (cR (cR (cB (cL (cR (cR (cP (cB (cR (cL (cR (cR (cR (bodyOf Try.f14))))))))))))))))) :: ks) .normal (G_ringref2_RefList_C2_hd v_room141 v_touch142 v_n143 v_y146 v_z155 v_l140 v_x144 v_z156) := by
  unfold G_ringref2_RefList_C2 at h
  by_cases h187 : v_z155 < 0
  · rw [if_pos h187] at h
    by_cases h190 : (v_z156.length : Int) = v_room141
    · rw [if_pos h190] at h
      obtain ⟨v_s208, h191, h⟩ := bind_some h
      obtain ⟨v_a209, h192, h⟩ := bind_some h
      obtain ⟨v_a210, h193, h⟩ := bind_some h
      cases h
      exact pkk_sound TTok mix hF 10 (hs := [.t true, .u (.d (.v (.int .i64 (v_z156.length : Int)))), .t true, .fz 0, .w (v_s208.map (eI .i64)), .w (v_a209.map (eI .i64)), .bd, .w (v_a210.map (eI .i64))]) (ts := []) (s := [43]) (l := [1, 2, 7, 8, 14, 15, 16]) (by kernel_rfl) (by kernel_rfl) (.cons (dt h187) (.cons (len_ob (f := (eI .i64)) (l := v_z156)) (.cons (bt h190) (.cons (sub_ob' (f := (eI .i64)) (s := 1) h191 (fun _ => rfl)).1 (.cons (sub_ob' (f := (eI .i64)) (s := 1) h191 (fun _ => rfl)).2.1 (.cons (sub_ob' (f := (eI .i64)) (s := 1) h191 (fun _ => rfl)).2.2.1 (.cons (sub_ob' (f := (eI .i64)) (s := 1) h191 (fun _ => rfl)).2.2.2.1 (.cons (sub_ob' (f := (eI .i64)) (s := 1) h191 (fun _ => rfl)).2.2.2.2 (.cons (app_ob (f := (eI .i64)) (s := 1) h192 (fun _ => rfl)).1 (.cons (app_ob (f := (eI .i64)) (s := 1) h192 (fun _ => rfl)).2.1 (.cons (app_ob (f := (eI .i64)) (s := 1) h192 (fun _ => rfl)).2.2.1 (.cons (app_ob (f := (eI .i64)) (s := 1) h192 (fun _ => rfl)).2.2.2 (.cons (app_ob (f := (eI .i64)) (s := 1) h193 (fun _ => rfl)).1 (.cons (app_ob (f := (eI .i64)) (s := 1) h193 (fun _ => rfl)).2.1 (.cons (app_ob (f := (eI .i64)) (s := 1) h193 (fun _ => rfl)).2.2.1 (.cons (app_ob (f := (eI .i64)) (s := 1) h193 (fun _ => rfl)).2.2.2 .nil)))))))))))))))) q
    · rw [if_neg h190] at h
      obtain ⟨v_a213, h194, h⟩ := bind_some h
      obtain ⟨v_a214, h195, h⟩ := bind_some h
      cases h
      exact pkk_sound TTok mix hF 9 (hs := [.t true, .u (.d (.v (.int .i64 (v_z156.length : Int)))), .t false, .w (v_a213.map (eI .i64)), .bd, .w (v_a214.map (eI .i64))]) (ts := []) (s := [34]) (l := [1, 2, 7, 8, 14, 15, 16]) (by kernel_rfl) (by kernel_rfl) (.cons (dt h187) (.cons (len_ob (f := (eI .i64)) (l := v_z156)) (.cons (bf h190) (.cons (app_ob (f := (eI .i64)) (s := 1) h194 (fun _ => rfl)).1 (.cons (app_ob (f := (eI .i64)) (s := 1) h194 (fun _ => rfl)).2.1 (.cons (app_ob (f := (eI .i64)) (s := 1) h194 (fun _ => rfl)).2.2.1 (.cons (app_ob (f := (eI .i64)) (s := 1) h194 (fun _ => rfl)).2.2.2 (.cons (app_ob (f := (eI .i64)) (s := 1) h195 (fun _ => rfl)).1 (.cons (app_ob (f := (eI .i64)) (s := 1) h195 (fun _ => rfl)).2.1 (.cons (app_ob (f := (eI .i64)) (s := 1) h195 (fun _ => rfl)).2.2.1 (.cons (app_ob (f := (eI .i64)) (s := 1) h195 (fun _ => rfl)).2.2.2 .nil))))))))))) q
  · rw [if_neg h187] at h
    by_cases h196 : v_touch142 = true
    · rw [if_pos h196] at h
      obtain ⟨v_s219, h199, h⟩ := bind_some h
      obtain ⟨v_a220, h200, h⟩ := bind_some h
      obtain ⟨v_s221, h201, h⟩ := bind_some h
      obtain ⟨v_a222, h202, h⟩ := bind_some h
      obtain ⟨v_a223, h203, h⟩ := bind_some h
      cases h
      exact pkk_sound TTok mix hF 6 (hs := [.t false, .t true, .fz 0, .w (v_s219.map (eI .i64)), .w (v_a220.map (eI .i64)), .w (v_s221.map (eI .i64)), .w (v_a222.map (eI .i64)), .bd, .w (v_a223.map (eI .i64))]) (ts := []) (s := [40]) (l := [1, 2, 7, 8, 14, 15, 16]) (by kernel_rfl) (by kernel_rfl) (.cons (df h187) (.cons h196 (.cons (sub_ob (f := (eI .i64)) (s := 1) h199 (fun _ => rfl)).1 (.cons (sub_ob (f := (eI .i64)) (s := 1) h199 (fun _ => rfl)).2.1 (.cons (sub_ob (f := (eI .i64)) (s := 1) h199 (fun _ => rfl)).2.2.1 (.cons (sub_ob (f := (eI .i64)) (s := 1) h199 (fun _ => rfl)).2.2.2.1 (.cons (sub_ob (f := (eI .i64)) (s := 1) h199 (fun _ => rfl)).2.2.2.2 (.cons (app_ob (f := (eI .i64)) (s := 1) h200 (fun _ => rfl)).1 (.cons (app_ob (f := (eI .i64)) (s := 1) h200 (fun _ => rfl)).2.1 (.cons (app_ob (f := (eI .i64)) (s := 1) h200 (fun _ => rfl)).2.2.1 (.cons (app_ob (f := (eI .i64)) (s := 1) h200 (fun _ => rfl)).2.2.2 (.cons (sub_ob' (f := (eI .i64)) (s := 1) h201 (fun _ => rfl)).1 (.cons (sub_ob' (f := (eI .i64)) (s := 1) h201 (fun _ => rfl)).2.1 (.cons (sub_ob' (f := (eI .i64)) (s := 1) h201 (fun _ => rfl)).2.2.1 (.cons (sub_ob' (f := (eI .i64)) (s := 1) h201 (fun _ => rfl)).2.2.2.1 (.cons (sub_ob' (f := (eI .i64)) (s := 1) h201 (fun _ => rfl)).2.2.2.2 (.cons (app_ob (f := (eI .i64)) (s := 1) h202 (fun _ => rfl)).1 (.cons (app_ob (f := (eI .i64)) (s := 1) h202 (fun _ => rfl)).2.1 (.cons (app_ob (f := (eI .i64)) (s := 1) h202 (fun _ => rfl)).2.2.1 (.cons (app_ob (f := (eI .i64)) (s := 1) h202 (fun _ => rfl)).2.2.2 (.cons (app_ob (f := (eI .i64)) (s := 1) h203 (fun _ => rfl)).1 (.cons (app_ob (f := (eI .i64)) (s := 1) h203 (fun _ => rfl)).2.1 (.cons (app_ob (f := (eI .i64)) (s := 1) h203 (fun _ => rfl)).2.2.1 (.cons (app_ob (f := (eI .i64)) (s := 1) h203 (fun _ => rfl)).2.2.2 .nil)))))))))))))))))))))))) q
    · rw [if_neg h196] at h
      cases h
      exact pkk_sound TTok mix hF 5 (hs := [.t false, .t false]) (ts := []) (s := [0]) (l := [1, 2, 7, 8, 14, 15, 16]) (by kernel_rfl) (by kernel_rfl) (.cons (df h187) (.cons (vf h196) .nil)) q
inductive G_ringref2_RefList_L3_R where
  | x0 (v_n231 : Int)
def G_ringref2_RefList_L3_ex : G_ringref2_RefList_L3_R → Ex
  | .x0 _ => .exit 0
def G_ringref2_RefList_L3_st (v_room141 : Int) (v_touch142 : Bool) (v_l140 : (List Int)) : G_ringref2_RefList_L3_R → PS
  | .x0 v_n231 => ⟨[dd, dd, dd, dd, dd, dd, dd, dd, .d (.v (.int .i64 v_n231)), dd, dd, dd, dd, dd, dd, dd, dd, dd, dd, dd, dd, dd, dd, dd, dd, dd, dd, dd, dd, dd, dd, dd, dd, dd, dd, dd, dd, dd, dd, dd, dd, dd, dd, dd, dd, dd, dd, dd, dd, dd, dd, dd, dd, dd, dd, dd, dd, dd, dd, dd, dd, dd, dd, dd], []⟩
def G_ringref2_RefList_L3_hd (v_room141 : Int) (v_touch142 : Bool) (v_l140 : (List Int)) (v_n143 : Int) (v_x144 : Int) (v_w145 : (List Int)) : PS := ⟨[dd, .d (.v (.int .i64 v_room141)), .d (.v (.bool v_touch142)), dd, dd, dd, dd, .srf 0, .d (.v (.int .i64 v_n143)), dd, dd, dd, dd, dd, .d (.sl (v_l140.map (eI .i64))), .d (.v (.int .i64 (v_l140.length : Int))), .d (.v (.int .i64 v_x144)), dd, dd, dd, dd, dd, dd, dd, dd, dd, dd, dd, dd, dd, dd, dd, dd, dd, dd, dd, dd, dd, dd, dd, dd, dd, dd, dd, dd, dd, dd, dd, dd, dd, dd, dd, dd, dd, dd, dd, dd, dd, dd, dd, dd, dd, dd, dd], [.row 3 1 (v_w145.map (eI .i64))]⟩
def G_ringref2_RefList_L3 (n : Nat) (v_room141 : Int) (v_touch142 : Bool) (v_l140 : (List Int)) : Nat → Int → Int → (List Int) → Option G_ringref2_RefList_L3_R
  | 0, _, _, _ => none
  | k + 1, v_n143, v_x144, v_w145 =>
    if v_x144 < (v_l140.length : Int) then
     (getI v_l140 v_x144).bind fun (v_y146 : Int) =>
     (G_ringref2_RefList_L1 n v_room141 v_touch142 v_n143 v_y146 v_l140 v_x144 v_w145 n (-1) 0 v_w145).bind fun v_o154 => match v_o154 with
     | .x0 v_z155 v_z156 =>
       (G_ringref2_RefList_C2 n v_room141 v_touch142 v_n143 v_y146 v_z155 v_l140 v_x144 v_z156).bind fun v_o228 => match v_o228 with
       | .x0 v_z229 v_z230 =>
         G_ringref2_RefList_L3 n v_room141 v_touch142 v_l140 k v_z229 (wi .i64 (v_x144 + 1)) v_z230
    else
     some (.x0 v_n143)
theorem G_ringref2_RefList_L3_ok {Fi : Ex → PS → Prop} (hF : KC 64 Fi) (ks : List Fr) (n : Nat) (v_room141 : Int) (v_touch142 : Bool) (v_l140 : (List Int))  : ∀ (k : Nat) (v_n143 : Int) (v_x144 : Int) (v_w145 : (List Int)) (o : G_ringref2_RefList_L3_R), G_ringref2_RefList_L3 n v_room141 v_touch142 v_l140 k v_n143 v_x144 v_w145 = some o → RunE Try.prog 64 Fi ks (G_ringref2_RefList_L3_ex o) (G_ringref2_RefList_L3_st v_room141 v_touch142 v_l140 o) → RunE Try.prog 64 Fi (.l k (cP (cB (cR (cL (cR (cR (cR (bodyOf Try.f14)))))))) :: ks) .normal (G_ringref2_RefList_L3_hd v_room141 v_touch142 v_l140 v_n143 v_x144 v_w145)
  | 0, v_n143, v_x144, v_w145, o, h, q => by rw [G_ringref2_RefList_L3] at h; cases h
  | k + 1, v_n143, v_x144, v_w145, o, h, q => by
    rw [G_ringref2_RefList_L3] at h
    by_cases h125 : v_x144 < (v_l140.length : Int)
    · rw [if_pos h125] at h
      obtain ⟨v_y146, h126, h⟩ := bind_some h
      obtain ⟨v_o154, h134, h⟩ := bind_some h
      refine pkk_sound TTok mix hF 17 (hs := [.t true, .y ((eI .i64) v_y146), .c, .u (.d (.v (.int .i64 (v_w145.length : Int)))), .n n]) (ts := []) (s := [0]) (l := [1, 2, 7, 8, 10, 11, 14, 15, 16, 20, 21, 22]) (by kernel_rfl) (by kernel_rfl) (.cons (dt h125) (.cons (getI_ob (f := (eI .i64)) h126) (.cons (len_ob (f := (eI .i64)) (l := v_w145)) .nil))) (G_ringref2_RefList_L1_ok hF (.b 2 :: .s (cR (cR (cR (cB (cL (cR (cR (cP (cB (cR (cL (cR (cR (cR (bodyOf Try.f14))))))))))))))) :: .b 1 :: .s (cR (cR (cR (cP (cB (cR (cL (cR (cR (cR (bodyOf Try.f14))))))))))) :: .l k (cP (cB (cR (cL (cR (cR (cR (bodyOf Try.f14)))))))) :: ks) n v_room141 v_touch142 v_n143 v_y146 v_l140 v_x144 v_w145 n (-1) 0 v_w145 _ h134 ?_)
      cases v_o154 with
      | x0 v_z155 v_z156 =>
        dsimp only at h
        obtain ⟨v_o228, h204, h⟩ := bind_some h
        refine pkk_sound TTok mix hF 4 (hs := []) (ts := []) (s := [0]) (l := [1, 2, 7, 8, 10, 11, 14, 15, 16, 32]) (by kernel_rfl) (by kernel_rfl) .nil (G_ringref2_RefList_C2_ok hF (.b 4 :: .b 1 :: .s (cR (cR (cR (cP (cB (cR (cL (cR (cR (cR (bodyOf Try.f14))))))))))) :: .l k (cP (cB (cR (cL (cR (cR (cR (bodyOf Try.f14)))))))) :: ks) n v_room141 v_touch142 v_n143 v_y146 v_z155 v_l140 v_x144 v_z156 _ h204 ?_)
        cases v_o228 with
        | x0 v_z229 v_z230 =>
          dsimp only at h
          exact pkk_sound TTok mix hF 3 (hs := []) (ts := []) (s := [0]) (l := [1, 2, 7, 8, 14, 15, 16]) (by kernel_rfl) (by kernel_rfl) .nil (G_ringref2_RefList_L3_ok hF ks n v_room141 v_touch142 v_l140 k v_z229 (wi .i64 (v_x144 + 1)) v_z230 _ h q)
    · rw [if_neg h125] at h
      cases h
      exact pkk_sound TTok mix hF 8 (hs := [.t false]) (ts := []) (s := []) (l := [8]) (by kernel_rfl) (by kernel_rfl) (.cons (df h125) .nil) q
/- ringhall/ringref2.RefList -/
def G_ringref2_RefList (n : Nat) (v_l140 : (List Int)) (v_room141 : Int) (v_touch142 : Bool) : Option (Int) :=
  (G_ringref2_RefList_L3 n v_room141 v_touch142 v_l140 n 0 0 ([] : List Int)).bind fun v_o232 => match v_o232 with
  | .x0 v_z233 =>
    some v_z233
theorem G_ringref2_RefList_ok (n : Nat) (v_l140 : (List Int)) (v_room141 : Int) (v_touch142 : Bool) (r : Int) (h : G_ringref2_RefList n v_l140 v_room141 v_touch142 = some r) : Ret Try.prog 14 [(eL (eI .i64)) v_l140, (eI .i64) v_room141, eB v_touch142] ((eI .i64) r) := by
  refine ret_run (n := 64) (fn := Try.f14) (c := bodyOf Try.f14) (by kernel_rfl) (by kernel_rfl) (by kernel_rfl) (by kernel_rfl) ?_
  have hF : KC 64 (FinR Try.prog Try.f14 ((eI .i64) r)) := FinR.kc' (by kernel_rfl)
  unfold G_ringref2_RefList at h
  obtain ⟨v_o232, h205, h⟩ := bind_some h
  refine pkk_sound TTok mix hF 11 (hs := [.u (.d (.v (.int .i64 (v_l140.length : Int)))), .n n]) (ts := [(7, 3, 1)]) (s := [18]) (l := [1, 2, 7, 8, 14, 15, 16]) (by kernel_rfl) (by kernel_rfl) (.cons (len_ob (f := (eI .i64)) (l := v_l140)) .nil) (G_ringref2_RefList_L3_ok hF (.b 0 :: .s (cR (cR (cR (cR (bodyOf Try.f14))))) :: []) n v_room141 v_touch142 v_l140 n 0 0 ([] : List Int) _ h205 ?_)
  cases v_o232 with
  | x0 v_z233 =>
    dsimp only at h
    obtain rfl := Option.some.inj h
    exact pend_sound TTok mix 4 (hs := []) (by kernel_rfl) (by kernel_rfl) (by kernel_rfl) .nil
inductive G_ringref2_RefBest_L1_R where
  | x0 (v_x262 : Int)
  | x1 
def G_ringref2_RefBest_L1_ex : G_ringref2_RefBest_L1_R → Ex
  | .x0 _ => .ret
  | .x1  => .exit 0
def G_ringref2_RefBest_L1_st (v_l245 : (List Int)) (v_there246 : (List Int)) (v_room247 : Int) (v_rec252 : ((List Int) → (List Int) → Int → Option (Int))) : G_ringref2_RefBest_L1_R → PS
  | .x0 v_x262 => ⟨[dd, dd, dd, dd, dd, dd, .d (.v (.int .i64 v_x262)), dd, dd, dd, dd, dd, dd, dd, dd, dd, dd, dd, dd, dd, dd, dd, dd, dd, dd, dd, dd, dd, dd, dd, dd, dd, dd, dd, dd, dd, dd, dd, dd, dd, dd, dd, dd, dd, dd, dd, dd, dd, dd, dd, dd, dd, dd, dd, dd, dd, dd, dd, dd, dd, dd, dd, dd, dd, dd, dd, dd, dd, dd, dd, dd, dd, dd, dd, dd, dd, dd], []⟩
  | .x1  => ⟨[.d (.sl (v_l245.map (eI .i64))), .d (.sl (v_there246.map (eI .i64))), .d (.v (.int .i64 v_room247)), dd, dd, dd, dd, dd, dd, dd, dd, dd, dd, dd, dd, dd, dd, dd, dd, dd, dd, dd, dd, dd, dd, dd, dd, dd, dd, dd, dd, dd, dd, dd, dd, dd, dd, dd, dd, dd, dd, dd, dd, dd, dd, dd, dd, dd, dd, dd, dd, dd, dd, dd, dd, dd, dd, dd, dd, dd, dd, dd, dd, dd, dd, dd, dd, dd, dd, dd, dd, dd, dd, dd, dd, dd, dd], []⟩
def G_ringref2_RefBest_L1_hd (v_l245 : (List Int)) (v_there246 : (List Int)) (v_room247 : Int) (v_rec252 : ((List Int) → (List Int) → Int → Option (Int))) (v_x248 : Int) : PS := ⟨[.d (.sl (v_l245.map (eI .i64))), .d (.sl (v_there246.map (eI .i64))), .d (.v (.int .i64 v_room247)), dd, dd, dd, dd, dd, dd, dd, dd, dd, dd, dd, dd, dd, .d (.sl (v_there246.map (eI .i64))), .d (.v (.int .i64 (v_there246.length : Int))), .d (.v (.int .i64 v_x248)), dd, dd, dd, dd, dd, dd, dd, dd, dd, dd, dd, dd, dd, dd, dd, dd, dd, dd, dd, dd, dd, dd, dd, dd, dd, dd, dd, dd, dd, dd, dd, dd, dd, dd, dd, dd, dd, dd, dd, dd, dd, dd, dd, dd, dd, dd, dd, dd, dd, dd, dd, dd, dd, dd, dd, dd, dd, dd], []⟩
def G_ringref2_RefBest_L1 (n : Nat) (v_l245 : (List Int)) (v_there246 : (List Int)) (v_room247 : Int) (v_rec252 : ((List Int) → (List Int) → Int → Option (Int))) : Nat → Int → Option G_ringref2_RefBest_L1_R
  | 0, _ => none
  | k + 1, v_x248 =>
    if v_x248 < (v_there246.length : Int) then
     (getI v_there246 v_x248).bind fun (v_y256 : Int) =>
     (getI v_l245 0).bind fun (v_y257 : Int) =>
     if v_y256 = v_y257 then
      (sub v_l245 1 (v_l245.length : Int)).bind fun (v_s260 : (List Int)) =>
      (v_rec252 v_s260 v_there246 v_room247).bind fun (v_r261 : (Int)) =>
      some (.x0 v_r261)
     else
      G_ringref2_RefBest_L1 n v_l245 v_there246 v_room247 v_rec252 k (wi .i64 (v_x248 + 1))
    else
     some (.x1 )
theorem G_ringref2_RefBest_L1_ok {Fi : Ex → PS → Prop} (hF : KC 77 Fi) (ks : List Fr) (n : Nat) (v_l245 : (List Int)) (v_there246 : (List Int)) (v_room247 : Int) (v_rec252 : ((List Int) → (List Int) → Int → Option (Int))) (v_rec252_h : ∀ (x0 : (List Int)) (x1 : (List Int)) (x2 : Int) (r : Int), v_rec252 x0 x1 x2 = some r → Ret Try.prog 15 ([(eL (eI .i64)) x0, (eL (eI .i64)) x1, (eI .i64) x2] ++ []) ((eI .i64) r)) : ∀ (k : Nat) (v_x248 : Int) (o : G_ringref2_RefBest_L1_R), G_ringref2_RefBest_L1 n v_l245 v_there246 v_room247 v_rec252 k v_x248 = some o → RunE Try.prog 77 Fi ks (G_ringref2_RefBest_L1_ex o) (G_ringref2_RefBest_L1_st v_l245 v_there246 v_room247 v_rec252 o) → RunE Try.prog 77 Fi (.l k (cP (cB (cR (cL (cR (cR (bodyOf Try.f15))))))) :: ks) .normal (G_ringref2_RefBest_L1_hd v_l245 v_there246 v_room247 v_rec252 v_x248)
  | 0, v_x248, o, h, q => by rw [G_ringref2_RefBest_L1] at h; cases h
  | k + 1, v_x248, o, h, q => by
    rw [G_ringref2_RefBest_L1] at h
    by_cases h220 : v_x248 < (v_there246.length : Int)
    · rw [if_pos h220] at h
      obtain ⟨v_y256, h229, h⟩ := bind_some h
      obtain ⟨v_y257, h230, h⟩ := bind_some h
      by_cases h234 : v_y256 = v_y257
      · rw [if_pos h234] at h
        obtain ⟨v_s260, h235, h⟩ := bind_some h
        obtain ⟨v_r261, h236, h⟩ := bind_some h
        cases h
        exact pkk_sound TTok mix hF 19 (hs := [.t true, .y ((eI .i64) v_y256), .c, .y ((eI .i64) v_y257), .c, .t true, .w (v_s260.map (eI .i64)), .r ((eI .i64) v_r261)]) (ts := []) (s := []) (l := [6]) (by kernel_rfl) (by kernel_rfl) (.cons (dt h220) (.cons (getI_ob (f := (eI .i64)) h229) (.cons (getI_ob (f := (eI .i64)) h230) (.cons (bt h234) (.cons (sub_ob' (f := (eI .i64)) (s := 1) h235 (fun _ => rfl)).1 (.cons (sub_ob' (f := (eI .i64)) (s := 1) h235 (fun _ => rfl)).2.1 (.cons (sub_ob' (f := (eI .i64)) (s := 1) h235 (fun _ => rfl)).2.2.1 (.cons (sub_ob' (f := (eI .i64)) (s := 1) h235 (fun _ => rfl)).2.2.2.1 (.cons (sub_ob' (f := (eI .i64)) (s := 1) h235 (fun _ => rfl)).2.2.2.2 (.cons (v_rec252_h v_s260 v_there246 v_room247 _ h236) .nil)))))))))) q
      · rw [if_neg h234] at h
        exact pkk_sound TTok mix hF 16 (hs := [.t true, .y ((eI .i64) v_y256), .c, .y ((eI .i64) v_y257), .c, .t false]) (ts := []) (s := []) (l := [0, 1, 2, 16, 17, 18]) (by kernel_rfl) (by kernel_rfl) (.cons (dt h220) (.cons (getI_ob (f := (eI .i64)) h229) (.cons (getI_ob (f := (eI .i64)) h230) (.cons (bf h234) .nil)))) (G_ringref2_RefBest_L1_ok hF ks n v_l245 v_there246 v_room247 v_rec252 v_rec252_h k (wi .i64 (v_x248 + 1)) _ h q)
    · rw [if_neg h220] at h
      cases h
      exact pkk_sound TTok mix hF 8 (hs := [.t false]) (ts := []) (s := []) (l := [0, 1, 2]) (by kernel_rfl) (by kernel_rfl) (.cons (df h220) .nil) q
inductive G_ringref2_RefBest_L2_R where
  | x0 (v_best305 : Int)
def G_ringref2_RefBest_L2_ex : G_ringref2_RefBest_L2_R → Ex
  | .x0 _ => .exit 2
def G_ringref2_RefBest_L2_st (v_l245 : (List Int)) (v_room247 : Int) (v_a267 : (List Int)) (v_there246 : (List Int)) (v_rec252 : ((List Int) → (List Int) → Int → Option (Int))) : G_ringref2_RefBest_L2_R → PS
  | .x0 v_best305 => ⟨[dd, dd, dd, dd, dd, dd, dd, dd, dd, dd, .d (.v (.int .i64 v_best305)), dd, dd, dd, dd, dd, dd, dd, dd, dd, dd, dd, dd, dd, dd, dd, dd, dd, dd, dd, dd, dd, dd, dd, dd, dd, dd, dd, dd, dd, dd, dd, dd, dd, dd, dd, dd, dd, dd, dd, dd, dd, dd, dd, dd, dd, dd, dd, dd, dd, dd, dd, dd, dd, dd, dd, dd, dd, dd, dd, dd, dd, dd, dd, dd, dd, dd], []⟩
def G_ringref2_RefBest_L2_hd (v_l245 : (List Int)) (v_room247 : Int) (v_a267 : (List Int)) (v_there246 : (List Int)) (v_rec252 : ((List Int) → (List Int) → Int → Option (Int))) (v_best291 : Int) (v_x292 : Int) : PS := ⟨[.d (.sl (v_l245.map (eI .i64))), dd, .d (.v (.int .i64 v_room247)), dd, dd, dd, dd, dd, dd, .d (.sl (v_a267.map (eI .i64))), .d (.v (.int .i64 v_best291)), dd, dd, dd, dd, dd, dd, dd, dd, dd, dd, dd, dd, dd, dd, dd, dd, dd, dd, dd, dd, dd, dd, dd, dd, dd, dd, dd, dd, dd, dd, dd, dd, dd, dd, dd, dd, dd, dd, dd, dd, dd, dd, dd, .d (.v (.int .i64 (v_there246.length : Int))), .d (.v (.int .i64 v_x292)), dd, dd, dd, dd, dd, dd, dd, dd, dd, dd, dd, dd, dd, dd, dd, dd, dd, dd, dd, dd, dd], []⟩
def G_ringref2_RefBest_L2 (n : Nat) (v_l245 : (List Int)) (v_room247 : Int) (v_a267 : (List Int)) (v_there246 : (List Int)) (v_rec252 : ((List Int) → (List Int) → Int → Option (Int))) : Nat → Int → Int → Option G_ringref2_RefBest_L2_R
  | 0, _, _ => none
  | k + 1, v_best291, v_x292 =>
    if v_x292 < (v_there246.length : Int) then
     (sub v_a267 0 v_x292).bind fun (v_s299 : (List Int)) =>
     (app 8 ([] : (List Int)) v_s299).bind fun (v_a300 : (List Int)) =>
     (sub v_a267 (wi .i64 (v_x292 + 1)) (v_a267.length : Int)).bind fun (v_s301 : (List Int)) =>
     (app 8 v_a300 v_s301).bind fun (v_a302 : (List Int)) =>
     (sub v_l245 1 (v_l245.length : Int)).bind fun (v_s303 : (List Int)) =>
     (v_rec252 v_s303 v_a302 v_room247).bind fun (v_r304 : (Int)) =>
     G_ringref2_RefBest_L2 n v_l245 v_room247 v_a267 v_there246 v_rec252 k (minI v_best291 (wi .i64 (1 + v_r304))) (wi .i64 (v_x292 + 1))
    else
     some (.x0 v_best291)
theorem G_ringref2_RefBest_L2_ok {Fi : Ex → PS → Prop} (hF : KC 77 Fi) (ks : List Fr) (n : Nat) (v_l245 : (List Int)) (v_room247 : Int) (v_a267 : (List Int)) (v_there246 : (List Int)) (v_rec252 : ((List Int) → (List Int) → Int → Option (Int))) (v_rec252_h : ∀ (x0 : (List Int)) (x1 : (List Int)) (x2 : Int) (r : Int), v_rec252 x0 x1 x2 = some r → Ret Try.prog 15 ([(eL (eI .i64)) x0, (eL (eI .i64)) x1, (eI .i64) x2] ++ []) ((eI .i64) r)) : ∀ (k : Nat) (v_best291 : Int) (v_x292 : Int) (o : G_ringref2_RefBest_L2_R), G_ringref2_RefBest_L2 n v_l245 v_room247 v_a267 v_there246 v_rec252 k v_best291 v_x292 = some o → RunE Try.prog 77 Fi ks (G_ringref2_RefBest_L2_ex o) (G_ringref2_RefBest_L2_st v_l245 v_room247 v_a267 v_there246 v_rec252 o) → RunE Try.prog 77 Fi (.l k (cP (cB (cR (cL (cR (cR (cR (cR (cR (cR (bodyOf Try.f15))))))))))) :: ks) .normal (G_ringref2_RefBest_L2_hd v_l245 v_room247 v_a267 v_there246 v_rec252 v_best291 v_x292)
  | 0, v_best291, v_x292, o, h, q => by rw [G_ringref2_RefBest_L2] at h; cases h
  | k + 1, v_best291, v_x292, o, h, q => by
    rw [G_ringref2_RefBest_L2] at h
    by_cases h264 : v_x292 < (v_there246.length : Int)
    · rw [if_pos h264] at h
      obtain ⟨v_s299, h271, h⟩ := bind_some h
      obtain ⟨v_a300, h272, h⟩ := bind_some h
      obtain ⟨v_s301, h273, h⟩ := bind_some h
      obtain ⟨v_a302, h274, h⟩ := bind_some h
      obtain ⟨v_s303, h275, h⟩ := bind_some h
      obtain ⟨v_r304, h276, h⟩ := bind_some h
      exact pkk_sound TTok mix hF 15 (hs := [.t true, .w (v_s299.map (eI .i64)), .w (v_a300.map (eI .i64)), .w (v_s301.map (eI .i64)), .w (v_a302.map (eI .i64)), .w (v_s303.map (eI .i64)), .c, .r ((eI .i64) v_r304)]) (ts := []) (s := []) (l := [0, 2, 9, 10, 54, 55]) (by kernel_rfl) (by kernel_rfl) (.cons (dt h264) (.cons (sub_ob (f := (eI .i64)) (s := 1) h271 (fun _ => rfl)).1 (.cons (sub_ob (f := (eI .i64)) (s := 1) h271 (fun _ => rfl)).2.1 (.cons (sub_ob (f := (eI .i64)) (s := 1) h271 (fun _ => rfl)).2.2.1 (.cons (sub_ob (f := (eI .i64)) (s := 1) h271 (fun _ => rfl)).2.2.2.1 (.cons (sub_ob (f := (eI .i64)) (s := 1) h271 (fun _ => rfl)).2.2.2.2 (.cons (app_ob (f := (eI .i64)) (s := 1) h272 (fun _ => rfl)).1 (.cons (app_ob (f := (eI .i64)) (s := 1) h272 (fun _ => rfl)).2.1 (.cons (app_ob (f := (eI .i64)) (s := 1) h272 (fun _ => rfl)).2.2.1 (.cons (app_ob (f := (eI .i64)) (s := 1) h272 (fun _ => rfl)).2.2.2 (.cons (sub_ob' (f := (eI .i64)) (s := 1) h273 (fun _ => rfl)).1 (.cons (sub_ob' (f := (eI .i64)) (s := 1) h273 (fun _ => rfl)).2.1 (.cons (sub_ob' (f := (eI .i64)) (s := 1) h273 (fun _ => rfl)).2.2.1 (.cons (sub_ob' (f := (eI .i64)) (s := 1) h273 (fun _ => rfl)).2.2.2.1 (.cons (sub_ob' (f := (eI .i64)) (s := 1) h273 (fun _ => rfl)).2.2.2.2 (.cons (app_ob (f := (eI .i64)) (s := 1) h274 (fun _ => rfl)).1 (.cons (app_ob (f := (eI .i64)) (s := 1) h274 (fun _ => rfl)).2.1 (.cons (app_ob (f := (eI .i64)) (s := 1) h274 (fun _ => rfl)).2.2.1 (.cons (app_ob (f := (eI .i64)) (s := 1) h274 (fun _ => rfl)).2.2.2 (.cons (sub_ob' (f := (eI .i64)) (s := 1) h275 (fun _ => rfl)).1 (.cons (sub_ob' (f := (eI .i64)) (s := 1) h275 (fun _ => rfl)).2.1 (.cons (sub_ob' (f := (eI .i64)) (s := 1) h275 (fun _ => rfl)).2.2.1 (.cons (sub_ob' (f := (eI .i64)) (s := 1) h275 (fun _ => rfl)).2.2.2.1 (.cons (sub_ob' (f := (eI .i64)) (s := 1) h275 (fun _ => rfl)).2.2.2.2 (.cons (v_rec252_h v_s303 v_a302 v_room247 _ h276) .nil))))))))))))))))))))))))) (G_ringref2_RefBest_L2_ok hF ks n v_l245 v_room247 v_a267 v_there246 v_rec252 v_rec252_h k (minI v_best291 (wi .i64 (1 + v_r304))) (wi .i64 (v_x292 + 1)) _ h q)
    · rw [if_neg h264] at h
      cases h
      exact pkk_sound TTok mix hF 8 (hs := [.t false]) (ts := []) (s := []) (l := [10]) (by kernel_rfl) (by kernel_rfl) (.cons (df h264) .nil) q
/- ringhall/ringref2.RefBest -/
def G_ringref2_RefBest : Nat → (List Int) → (List Int) → Int → Option (Int)
  | 0, _, _, _ => none
  | n + 1, v_l245, v_there246, v_room247 =>
  if (v_l245.length : Int) = 0 then
   some 0
  else
   (G_ringref2_RefBest_L1 n v_l245 v_there246 v_room247 (G_ringref2_RefBest n) n 0).bind fun v_o263 => match v_o263 with
   | .x0 v_z264 =>
     some v_z264
   | .x1  =>
     (app 8 ([] : (List Int)) v_there246).bind fun (v_a265 : (List Int)) =>
     (getI v_l245 0).bind fun (v_y266 : Int) =>
     (app 8 v_a265 ([v_y266])).bind fun (v_a267 : (List Int)) =>
     if (v_there246.length : Int) < v_room247 then
      (sub v_l245 1 (v_l245.length : Int)).bind fun (v_s270 : (List Int)) =>
      ((G_ringref2_RefBest n) v_s270 v_a267 v_room247).bind fun (v_r271 : (Int)) =>
      some (wi .i64 (1 + v_r271))
     else
      (G_ringref2_RefBest_L2 n v_l245 v_room247 v_a267 v_there246 (G_ringref2_RefBest n) n (wi .i64 ((v_l245.length : Int) + 1)) 0).bind fun v_o306 => match v_o306 with
      | .x0 v_z307 =>
        some v_z307
theorem G_ringref2_RefBest_ok : ∀ (n : Nat) (v_l245 : (List Int)) (v_there246 : (List Int)) (v_room247 : Int) (r : Int) (h : G_ringref2_RefBest n v_l245 v_there246 v_room247 = some r), Ret Try.prog 15 [(eL (eI .i64)) v_l245, (eL (eI .i64)) v_there246, (eI .i64) v_room247] ((eI .i64) r)
  | 0, v_l245, v_there246, v_room247, r, h => by rw [G_ringref2_RefBest] at h; cases h
  | n + 1, v_l245, v_there246, v_room247, r, h => by
    refine ret_run (n := 77) (fn := Try.f15) (c := bodyOf Try.f15) (by kernel_rfl) (by kernel_rfl) (by kernel_rfl) (by kernel_rfl) ?_
    have hF : KC 77 (FinR Try.prog Try.f15 ((eI .i64) r)) := FinR.kc' (by kernel_rfl)
    rw [G_ringref2_RefBest] at h
    by_cases h219 : (v_l245.length : Int) = 0
    · rw [if_pos h219] at h
      obtain rfl := Option.some.inj h
      exact pend_sound TTok mix 10 (hs := [.u (.d (.v (.int .i64 (v_l245.length : Int)))), .t true]) (by kernel_rfl) (by kernel_rfl) (by kernel_rfl) (.cons (len_ob (f := (eI .i64)) (l := v_l245)) (.cons (bt h219) .nil))
    · rw [if_neg h219] at h
      obtain ⟨v_o263, h237, h⟩ := bind_some h
      refine pkk_sound TTok mix hF 12 (hs := [.u (.d (.v (.int .i64 (v_l245.length : Int)))), .t false, .u (.d (.v (.int .i64 (v_there246.length : Int)))), .n n]) (ts := []) (s := []) (l := [0, 1, 2, 16, 17, 18]) (by kernel_rfl) (by kernel_rfl) (.cons (len_ob (f := (eI .i64)) (l := v_l245)) (.cons (bf h219) (.cons (len_ob (f := (eI .i64)) (l := v_there246)) .nil))) (G_ringref2_RefBest_L1_ok hF (.b 0 :: .s (cR (cR (cR (bodyOf Try.f15)))) :: []) n v_l245 v_there246 v_room247 (G_ringref2_RefBest n) (fun x0 x1 x2 r h => G_ringref2_RefBest_ok n x0 x1 x2 r h) n 0 _ h237 ?_)
      cases v_o263 with
      | x0 v_z264 =>
        dsimp only at h
        obtain rfl := Option.some.inj h
        exact pend_sound TTok mix 2 (hs := []) (by kernel_rfl) (by kernel_rfl) (by kernel_rfl) .nil
      | x1  =>
        dsimp only at h
        obtain ⟨v_a265, h238, h⟩ := bind_some h
        obtain ⟨v_y266, h239, h⟩ := bind_some h
        obtain ⟨v_a267, h240, h⟩ := bind_some h
        by_cases h244 : (v_there246.length : Int) < v_room247
        · rw [if_pos h244] at h
          obtain ⟨v_s270, h245, h⟩ := bind_some h
          obtain ⟨v_r271, h246, h⟩ := bind_some h
          obtain rfl := Option.some.inj h
          exact pend_sound TTok mix 11 (hs := [.w (v_a265.map (eI .i64)), .y ((eI .i64) v_y266), .c, .bd, .w (v_a267.map (eI .i64)), .u (.d (.v (.int .i64 (v_there246.length : Int)))), .t true, .w (v_s270.map (eI .i64)), .c, .r ((eI .i64) v_r271)]) (by kernel_rfl) (by kernel_rfl) (by kernel_rfl) (.cons (app_ob (f := (eI .i64)) (s := 1) h238 (fun _ => rfl)).1 (.cons (app_ob (f := (eI .i64)) (s := 1) h238 (fun _ => rfl)).2.1 (.cons (app_ob (f := (eI .i64)) (s := 1) h238 (fun _ => rfl)).2.2.1 (.cons (app_ob (f := (eI .i64)) (s := 1) h238 (fun _ => rfl)).2.2.2 (.cons (getI_ob (f := (eI .i64)) h239) (.cons (app_ob (f := (eI .i64)) (s := 1) h240 (fun _ => rfl)).1 (.cons (app_ob (f := (eI .i64)) (s := 1) h240 (fun _ => rfl)).2.1 (.cons (app_ob (f := (eI .i64)) (s := 1) h240 (fun _ => rfl)).2.2.1 (.cons (app_ob (f := (eI .i64)) (s := 1) h240 (fun _ => rfl)).2.2.2 (.cons (len_ob (f := (eI .i64)) (l := v_there246)) (.cons (dt h244) (.cons (sub_ob' (f := (eI .i64)) (s := 1) h245 (fun _ => rfl)).1 (.cons (sub_ob' (f := (eI .i64)) (s := 1) h245 (fun _ => rfl)).2.1 (.cons (sub_ob' (f := (eI .i64)) (s := 1) h245 (fun _ => rfl)).2.2.1 (.cons (sub_ob' (f := (eI .i64)) (s := 1) h245 (fun _ => rfl)).2.2.2.1 (.cons (sub_ob' (f := (eI .i64)) (s := 1) h245 (fun _ => rfl)).2.2.2.2 (.cons ((fun x0 x1 x2 r h => G_ringref2_RefBest_ok n x0 x1 x2 r h) v_s270 v_a267 v_room247 _ h246) .nil)))))))))))))))))
        · rw [if_neg h244] at h
          obtain ⟨v_o306, h277, h⟩ := bind_some h
          refine pkk_sound TTok mix hF 16 (hs := [.w (v_a265.map (eI .i64)), .y ((eI .i64) v_y266), .c, .bd, .w (v_a267.map (eI .i64)), .u (.d (.v (.int .i64 (v_there246.length : Int)))), .t false, .u (.d (.v (.int .i64 (v_l245.length : Int)))), .u (.d (.v (.int .i64 (v_there246.length : Int)))), .dl 1, .fz 18, .n n]) (ts := []) (s := []) (l := [0, 2, 9, 10, 54, 55]) (by kernel_rfl) (by kernel_rfl) (.cons (app_ob (f := (eI .i64)) (s := 1) h238 (fun _ => rfl)).1 (.cons (app_ob (f := (eI .i64)) (s := 1) h238 (fun _ => rfl)).2.1 (.cons (app_ob (f := (eI .i64)) (s := 1) h238 (fun _ => rfl)).2.2.1 (.cons (app_ob (f := (eI .i64)) (s := 1) h238 (fun _ => rfl)).2.2.2 (.cons (getI_ob (f := (eI .i64)) h239) (.cons (app_ob (f := (eI .i64)) (s := 1) h240 (fun _ => rfl)).1 (.cons (app_ob (f := (eI .i64)) (s := 1) h240 (fun _ => rfl)).2.1 (.cons (app_ob (f := (eI .i64)) (s := 1) h240 (fun _ => rfl)).2.2.1 (.cons (app_ob (f := (eI .i64)) (s := 1) h240 (fun _ => rfl)).2.2.2 (.cons (len_ob (f := (eI .i64)) (l := v_there246)) (.cons (df h244) (.cons (len_ob (f := (eI .i64)) (l := v_l245)) (.cons (len_ob (f := (eI .i64)) (l := v_there246)) .nil))))))))))))) (G_ringref2_RefBest_L2_ok hF (.b 2 :: .s (cR (cR (cR (cR (cR (cR (cR (bodyOf Try.f15)))))))) :: []) n v_l245 v_room247 v_a267 v_there246 (G_ringref2_RefBest n) (fun x0 x1 x2 r h => G_ringref2_RefBest_ok n x0 x1 x2 r h) n (wi .i64 ((v_l245.length : Int) + 1)) 0 _ h277 ?_)
          cases v_o306 with
          | x0 v_z307 =>
            dsimp only at h
            obtain rfl := Option.some.inj h
            exact pend_sound TTok mix 4 (hs := []) (by kernel_rfl) (by kernel_rfl) (by kernel_rfl) .nil
inductive G_ringlaw2_ReclaimCounts_C1_R where
  | x0 (v_x132 : Bool)
def G_ringlaw2_ReclaimCounts_C1_ex : G_ringlaw2_ReclaimCounts_C1_R → Ex
  | .x0 _ => .normal
def G_ringlaw2_ReclaimCounts_C1_st (v_r96 : (Int × Int)) (v_r109 : (Int × Int)) (v_r116 : (Int × Int)) (v_r123 : (Int)) : G_ringlaw2_ReclaimCounts_C1_R → PS
  | .x0 v_x132 => ⟨[dd, dd, dd, dd, .d (.v (.bool v_x132)), dd, dd, dd, dd, dd, dd, dd, dd, dd, dd, dd, dd, dd, dd, dd, dd, dd, dd, dd, dd, dd, dd, dd, dd, dd, dd, dd, dd, dd, dd, dd, dd, dd, dd, dd, dd, dd, dd, dd, dd, dd, dd, dd, dd, dd, dd, dd, dd, dd, dd, dd, dd, dd, dd, dd, dd, dd, dd, dd, dd, dd, dd, dd, dd, dd, dd, dd, dd, dd, dd, dd, dd, dd, dd, dd, dd, dd, dd, dd, dd, dd, dd, dd, dd, dd, dd, dd, dd, dd, dd, dd, dd, dd], []⟩
def G_ringlaw2_ReclaimCounts_C1_hd (v_r96 : (Int × Int)) (v_r109 : (Int × Int)) (v_r116 : (Int × Int)) (v_r123 : (Int))  : PS := ⟨[dd, dd, dd, dd, dd, .d (.v (.int .i64 v_r96.1)), .d (.v (.int .i64 v_r96.2)), .d (.v (.int .i64 v_r109.1)), .d (.v (.int .i64 v_r109.2)), .d (.v (.int .i64 v_r116.1)), .d (.v (.int .i64 v_r116.2)), .d (.v (.int .i64 v_r123)), dd, dd, dd, dd, dd, dd, dd, dd, dd, dd, dd, dd, dd, dd, dd, dd, dd, dd, dd, dd, dd, dd, dd, dd, dd, dd, dd, dd, dd, dd, dd, dd, dd, dd, dd, dd, dd, dd, dd, dd, dd, dd, dd, dd, dd, dd, dd, dd, dd, dd, dd, dd, dd, dd, dd, dd, dd, dd, dd, dd, dd, dd, dd, dd, dd, dd, dd, dd, dd, dd, dd, dd, dd, dd, dd, dd, dd, dd, dd, dd, dd, dd, dd, dd, dd, dd], []⟩
def G_ringlaw2_ReclaimCounts_C1 (n : Nat) (v_r96 : (Int × Int)) (v_r109 : (Int × Int)) (v_r116 : (Int × Int)) (v_r123 : (Int)) : Option G_ringlaw2_ReclaimCounts_C1_R :=
  if v_r96.1 = 0 then
   if v_r96.2 = v_r123 then
    if v_r109.1 = 0 then
     if v_r109.2 = v_r123 then
      if v_r116.1 = 0 then
       some (.x0 (v_r116.2 == v_r123))
      else
       some (.x0 false)
     else
      some (.x0 false)
    else
     some (.x0 false)
   else
    some (.x0 false)
  else
   some (.x0 false)
theorem G_ringlaw2_ReclaimCounts_C1_ok {Fi : Ex → PS → Prop} (hF : KC 98 Fi) (ks : List Fr) (n : Nat) (v_r96 : (Int × Int)) (v_r109 : (Int × Int)) (v_r116 : (Int × Int)) (v_r123 : (Int))  (o : G_ringlaw2_ReclaimCounts_C1_R) (h : G_ringlaw2_ReclaimCounts_C1 n v_r96 v_r109 v_r116 v_r123 = some o) (q : RunE Try.prog 98 Fi ks (G_ringlaw2_ReclaimCounts_C1_ex o) (G_ringlaw2_ReclaimCounts_C1_st v_r96 v_r109 v_r116 v_r123 o)) : RunE Try.prog 98 Fi (.s (cL (cT (cR (cR (cL (cR (cR (cR (cR (bodyOf Try.f3)))))))))) :: ks) .normal (G_ringlaw2_ReclaimCounts_C1_hd v_r96 v_r109 v_r116 v_r123) := by
  unfold G_ringlaw2_ReclaimCounts_C1 at h
  by_cases h116 : v_r96.1 = 0
  · rw [if_pos h116] at h
    by_cases h117 : v_r96.2 = v_r123
    · rw [if_pos h117] at h
      by_cases h118 : v_r109.1 = 0
      · rw [if_pos h118] at h
        by_cases h119 : v_r109.2 = v_r123
        · rw [if_pos h119] at h
          by_cases h120 : v_r116.1 = 0
          · rw [if_pos h120] at h
            cases h
            exact pkk_sound TTok mix hF 1 (hs := [.t true, .c, .c, .t true, .c, .t true, .c, .c, .t true, .c, .t true, .c, .c]) (ts := []) (s := []) (l := [4]) (by kernel_rfl) (by kernel_rfl) (.cons (bt h116) (.cons (bt h117) (.cons (bt h118) (.cons (bt h119) (.cons (bt h120) .nil))))) q
          · rw [if_neg h120] at h
            cases h
            exact pkk_sound TTok mix hF 1 (hs := [.t true, .c, .c, .t true, .c, .t true, .c, .c, .t true, .c, .t false, .c, .c]) (ts := []) (s := []) (l := [4]) (by kernel_rfl) (by kernel_rfl) (.cons (bt h116) (.cons (bt h117) (.cons (bt h118) (.cons (bt h119) (.cons (bf h120) .nil))))) q
        · rw [if_neg h119] at h
          cases h
          exact pkk_sound TTok mix hF 1 (hs := [.t true, .c, .c, .t true, .c, .t true, .c, .c, .t false, .c, .c, .c, .c]) (ts := []) (s := []) (l := [4]) (by kernel_rfl) (by kernel_rfl) (.cons (bt h116) (.cons (bt h117) (.cons (bt h118) (.cons (bf h119) .nil)))) q
      · rw [if_neg h118] at h
        cases h
        exact pkk_sound TTok mix hF 1 (hs := [.t true, .c, .c, .t true, .c, .t false, .c, .c, .c, .c, .c, .c, .c]) (ts := []) (s := []) (l := [4]) (by kernel_rfl) (by kernel_rfl) (.cons (bt h116) (.cons (bt h117) (.cons (bf h118) .nil))) q
    · rw [if_neg h117] at h
      cases h
      exact pkk_sound TTok mix hF 1 (hs := [.t true, .c, .c, .t false, .c, .c, .c, .c, .c, .c, .c, .c, .c]) (ts := []) (s := []) (l := [4]) (by kernel_rfl) (by kernel_rfl) (.cons (bt h116) (.cons (bf h117) .nil)) q
  · rw [if_neg h116] at h
    cases h
    exact pkk_sound TTok mix hF 1 (hs := [.t false, .c, .c, .c, .c, .c, .c, .c, .c, .c, .c, .c, .c]) (ts := []) (s := []) (l := [4]) (by kernel_rfl) (by kernel_rfl) (.cons (bf h116) .nil) q
inductive G_ringlaw2_ReclaimCounts_C2_R where
  | x0 (v_x236 : Bool)
def G_ringlaw2_ReclaimCounts_C2_ex : G_ringlaw2_ReclaimCounts_C2_R → Ex
  | .x0 _ => .normal
def G_ringlaw2_ReclaimCounts_C2_st (v_l1 : (List Int)) (v_room2 : Int) (v_r96 : (Int × Int)) (v_r109 : (Int × Int)) (v_r116 : (Int × Int)) : G_ringlaw2_ReclaimCounts_C2_R → PS
  | .x0 v_x236 => ⟨[.d (.sl (v_l1.map (eI .i64))), .d (.v (.int .i64 v_room2)), dd, dd, dd, .d (.v (.int .i64 v_r96.1)), dd, dd, dd, dd, dd, dd, dd, dd, dd, dd, dd, dd, dd, dd, dd, dd, dd, dd, dd, dd, dd, dd, dd, dd, dd, dd, dd, dd, dd, dd, dd, dd, dd, dd, dd, dd, dd, dd, dd, dd, dd, dd, dd, dd, dd, dd, dd, dd, dd, dd, dd, dd, dd, dd, dd, dd, dd, dd, dd, dd, dd, dd, dd, dd, dd, dd, dd, dd, dd, dd, dd, dd, dd, dd, dd, dd, dd, .d (.v (.bool v_x236)), dd, dd, dd, dd, dd, dd, dd, dd, dd, dd, dd, dd, dd, dd], []⟩
def G_ringlaw2_ReclaimCounts_C2_hd (v_l1 : (List Int)) (v_room2 : Int) (v_r96 : (Int × Int)) (v_r109 : (Int × Int)) (v_r116 : (Int × Int))  : PS := ⟨[.d (.sl (v_l1.map (eI .i64))), .d (.v (.int .i64 v_room2)), dd, dd, dd, .d (.v (.int .i64 v_r96.1)), .d (.v (.int .i64 v_r96.2)), .d (.v (.int .i64 v_r109.1)), .d (.v (.int .i64 v_r109.2)), .d (.v (.int .i64 v_r116.1)), .d (.v (.int .i64 v_r116.2)), dd, dd, dd, dd, dd, dd, dd, dd, dd, dd, dd, dd, dd, dd, dd, dd, dd, dd, dd, dd, dd, dd, dd, dd, dd, dd, dd, dd, dd, dd, dd, dd, dd, dd, dd, dd, dd, dd, dd, dd, dd, dd, dd, dd, dd, dd, dd, dd, dd, dd, dd, dd, dd, dd, dd, dd, dd, dd, dd, dd, dd, dd, dd, dd, dd, dd, dd, dd, dd, dd, dd, dd, dd, dd, dd, dd, dd, dd, dd, dd, dd, dd, dd, dd, dd, dd, dd], []⟩
def G_ringlaw2_ReclaimCounts_C2 (n : Nat) (v_l1 : (List Int)) (v_room2 : Int) (v_r96 : (Int × Int)) (v_r109 : (Int × Int)) (v_r116 : (Int × Int)) : Option G_ringlaw2_ReclaimCounts_C2_R :=
  if v_r96.2 = 0 then
   if v_r109.2 = 0 then
    if v_r116.2 = 0 then
     (G_ringref2_RefList n v_l1 v_room2 true).bind fun (v_r239 : (Int)) =>
     if v_r109.1 = v_r239 then
      (G_ringref2_RefList n v_l1 v_room2 false).bind fun (v_r241 : (Int)) =>
      some (.x0 (v_r116.1 != v_r241))
     else
      some (.x0 true)
    else
     some (.x0 true)
   else
    some (.x0 true)
  else
   some (.x0 true)
theorem G_ringlaw2_ReclaimCounts_C2_ok {Fi : Ex → PS → Prop} (hF : KC 98 Fi) (ks : List Fr) (n : Nat) (v_l1 : (List Int)) (v_room2 : Int) (v_r96 : (Int × Int)) (v_r109 : (Int × Int)) (v_r116 : (Int × Int))  (o : G_ringlaw2_ReclaimCounts_C2_R) (h : G_ringlaw2_ReclaimCounts_C2 n v_l1 v_room2 v_r96 v_r109 v_r116 = some o) (q : RunE Try.prog 98 Fi ks (G_ringlaw2_ReclaimCounts_C2_ex o) (G_ringlaw2_ReclaimCounts_C2_st v_l1 v_room2 v_r96 v_r109 v_r116 o)) : RunE Try.prog 98 Fi (.s (cL (cL (cR (cR (cR (cR (cR (bodyOf Try.f3)))))))) :: ks) .normal (G_ringlaw2_ReclaimCounts_C2_hd v_l1 v_room2 v_r96 v_r109 v_r116) := by
  unfold G_ringlaw2_ReclaimCounts_C2 at h
  by_cases h209 : v_r96.2 = 0
  · rw [if_pos h209] at h
    by_cases h210 : v_r109.2 = 0
    · rw [if_pos h210] at h
      by_cases h211 : v_r116.2 = 0
      · rw [if_pos h211] at h
        obtain ⟨v_r239, h212, h⟩ := bind_some h
        by_cases h213 : v_r109.1 = v_r239
        · rw [if_pos h213] at h
          obtain ⟨v_r241, h214, h⟩ := bind_some h
          cases h
          exact pkk_sound TTok mix hF 1 (hs := [.t false, .c, .t false, .c, .t false, .c, .c, .c, .r ((eI .i64) v_r239), .c, .t false, .c, .c, .c, .r ((eI .i64) v_r241), .c]) (ts := []) (s := []) (l := [0, 1, 5, 83]) (by kernel_rfl) (by kernel_rfl) (.cons (nf h209) (.cons (nf h210) (.cons (nf h211) (.cons (G_ringref2_RefList_ok n v_l1 v_room2 true _ h212) (.cons (nf h213) (.cons (G_ringref2_RefList_ok n v_l1 v_room2 false _ h214) .nil)))))) q
        · rw [if_neg h213] at h
          cases h
          exact pkk_sound TTok mix hF 1 (hs := [.t false, .c, .t false, .c, .t false, .c, .c, .c, .r ((eI .i64) v_r239), .c, .t true, .c, .c, .c, .c]) (ts := []) (s := []) (l := [0, 1, 5, 83]) (by kernel_rfl) (by kernel_rfl) (.cons (nf h209) (.cons (nf h210) (.cons (nf h211) (.cons (G_ringref2_RefList_ok n v_l1 v_room2 true _ h212) (.cons (nt h213) .nil))))) q
      · rw [if_neg h211] at h
        cases h
        exact pkk_sound TTok mix hF 1 (hs := [.t false, .c, .t false, .c, .t true, .c, .c, .c, .c, .c, .c, .c, .c, .c]) (ts := []) (s := []) (l := [0, 1, 5, 83]) (by kernel_rfl) (by kernel_rfl) (.cons (nf h209) (.cons (nf h210) (.cons (nt h211) .nil))) q
    · rw [if_neg h210] at h
      cases h
      exact pkk_sound TTok mix hF 1 (hs := [.t false, .c, .t true, .c, .c, .c, .c, .c, .c, .c, .c, .c, .c, .c]) (ts := []) (s := []) (l := [0, 1, 5, 83]) (by kernel_rfl) (by kernel_rfl) (.cons (nf h209) (.cons (nt h210) .nil)) q
  · rw [if_neg h209] at h
    cases h
    exact pkk_sound TTok mix hF 1 (hs := [.t true, .c, .c, .c, .c, .c, .c, .c, .c, .c, .c, .c, .c, .c]) (ts := []) (s := []) (l := [0, 1, 5, 83]) (by kernel_rfl) (by kernel_rfl) (.cons (nt h209) .nil) q
inductive G_ringlaw2_ReclaimCounts_C3_R where
  | x0 (v_x309 : Bool)
def G_ringlaw2_ReclaimCounts_C3_ex : G_ringlaw2_ReclaimCounts_C3_R → Ex
  | .x0 _ => .normal
def G_ringlaw2_ReclaimCounts_C3_st (v_l1 : (List Int)) (v_room2 : Int) (v_r96 : (Int × Int)) : G_ringlaw2_ReclaimCounts_C3_R → PS
  | .x0 v_x309 => ⟨[dd, dd, dd, dd, .d (.v (.bool v_x309)), dd, dd, dd, dd, dd, dd, dd, dd, dd, dd, dd, dd, dd, dd, dd, dd, dd, dd, dd, dd, dd, dd, dd, dd, dd, dd, dd, dd, dd, dd, dd, dd, dd, dd, dd, dd, dd, dd, dd, dd, dd, dd, dd, dd, dd, dd, dd, dd, dd, dd, dd, dd, dd, dd, dd, dd, dd, dd, dd, dd, dd, dd, dd, dd, dd, dd, dd, dd, dd, dd, dd, dd, dd, dd, dd, dd, dd, dd, dd, dd, dd, dd, dd, dd, dd, dd, dd, dd, dd, dd, dd, dd, dd], []⟩
def G_ringlaw2_ReclaimCounts_C3_hd (v_l1 : (List Int)) (v_room2 : Int) (v_r96 : (Int × Int))  : PS := ⟨[.d (.sl (v_l1.map (eI .i64))), .d (.v (.int .i64 v_room2)), dd, dd, dd, .d (.v (.int .i64 v_r96.1)), dd, dd, dd, dd, dd, dd, dd, dd, dd, dd, dd, dd, dd, dd, dd, dd, dd, dd, dd, dd, dd, dd, dd, dd, dd, dd, dd, dd, dd, dd, dd, dd, dd, dd, dd, dd, dd, dd, dd, dd, dd, dd, dd, dd, dd, dd, dd, dd, dd, dd, dd, dd, dd, dd, dd, dd, dd, dd, dd, dd, dd, dd, dd, dd, dd, dd, dd, dd, dd, dd, dd, dd, dd, dd, dd, dd, dd, dd, dd, dd, dd, dd, dd, dd, dd, dd, dd, dd, dd, dd, dd, dd], []⟩
def G_ringlaw2_ReclaimCounts_C3 (n : Nat) (v_l1 : (List Int)) (v_room2 : Int) (v_r96 : (Int × Int)) : Option G_ringlaw2_ReclaimCounts_C3_R :=
  if (v_l1.length : Int) > 9 then
   some (.x0 true)
  else
   if v_room2 > 3 then
    some (.x0 true)
   else
    (G_ringref2_RefBest n v_l1 ([] : (List Int)) v_room2).bind fun (v_r311 : (Int)) =>
    some (.x0 (v_r96.1 == v_r311))
theorem G_ringlaw2_ReclaimCounts_C3_ok {Fi : Ex → PS → Prop} (hF : KC 98 Fi) (ks : List Fr) (n : Nat) (v_l1 : (List Int)) (v_room2 : Int) (v_r96 : (Int × Int))  (o : G_ringlaw2_ReclaimCounts_C3_R) (h : G_ringlaw2_ReclaimCounts_C3 n v_l1 v_room2 v_r96 = some o) (q : RunE Try.prog 98 Fi ks (G_ringlaw2_ReclaimCounts_C3_ex o) (G_ringlaw2_ReclaimCounts_C3_st v_l1 v_room2 v_r96 o)) : RunE Try.prog 98 Fi (.s (cL (cR (cR (cR (cR (cR (cR (bodyOf Try.f3)))))))) :: ks) .normal (G_ringlaw2_ReclaimCounts_C3_hd v_l1 v_room2 v_r96) := by
  unfold G_ringlaw2_ReclaimCounts_C3 at h
  by_cases h279 : (v_l1.length : Int) > 9
  · rw [if_pos h279] at h
    cases h
    exact pkk_sound TTok mix hF 1 (hs := [.u (.d (.v (.int .i64 (v_l1.length : Int)))), .t true, .c, .c, .c, .c, .c, .c]) (ts := []) (s := []) (l := [4]) (by kernel_rfl) (by kernel_rfl) (.cons (len_ob (f := (eI .i64)) (l := v_l1)) (.cons (dt h279) .nil)) q
  · rw [if_neg h279] at h
    by_cases h280 : v_room2 > 3
    · rw [if_pos h280] at h
      cases h
      exact pkk_sound TTok mix hF 1 (hs := [.u (.d (.v (.int .i64 (v_l1.length : Int)))), .t false, .c, .t true, .c, .c, .c, .c]) (ts := []) (s := []) (l := [4]) (by kernel_rfl) (by kernel_rfl) (.cons (len_ob (f := (eI .i64)) (l := v_l1)) (.cons (df h279) (.cons (dt h280) .nil))) q
    · rw [if_neg h280] at h
      obtain ⟨v_r311, h281, h⟩ := bind_some h
      cases h
      exact pkk_sound TTok mix hF 1 (hs := [.u (.d (.v (.int .i64 (v_l1.length : Int)))), .t false, .c, .t false, .c, .c, .c, .r ((eI .i64) v_r311), .c]) (ts := []) (s := []) (l := [4]) (by kernel_rfl) (by kernel_rfl) (.cons (len_ob (f := (eI .i64)) (l := v_l1)) (.cons (df h279) (.cons (df h280) (.cons (G_ringref2_RefBest_ok n v_l1 ([] : (List Int)) v_room2 _ h281) .nil)))) q
/- ringhall/ringlaw2.ReclaimCounts -/
def G_ringlaw2_ReclaimCounts (n : Nat) (v_l1 : (List Int)) (v_room2 : Int) : Option (Bool) :=
  (G_reclaim_Best n v_l1 v_room2).bind fun (v_r96 : (Int × Int)) =>
  (G_reclaim_Lru n v_l1 v_room2).bind fun (v_r109 : (Int × Int)) =>
  (G_reclaim_Fifo n v_l1 v_room2).bind fun (v_r116 : (Int × Int)) =>
  (G_ringref2_Refs n v_l1 v_room2).bind fun (v_r123 : (Int)) =>
  if v_r123 = 0 then
   (G_ringlaw2_ReclaimCounts_C2 n v_l1 v_room2 v_r96 v_r109 v_r116).bind fun v_o243 => match v_o243 with
   | .x0 v_z244 =>
     if v_z244 = true then
      some false
     else
      (G_ringlaw2_ReclaimCounts_C3 n v_l1 v_room2 v_r96).bind fun v_o313 => match v_o313 with
      | .x0 v_z314 =>
        some v_z314
  else
   (G_ringlaw2_ReclaimCounts_C1 n v_r96 v_r109 v_r116 v_r123).bind fun v_o138 => match v_o138 with
   | .x0 v_z139 =>
     some v_z139
theorem G_ringlaw2_ReclaimCounts_ok (n : Nat) (v_l1 : (List Int)) (v_room2 : Int) (r : Bool) (h : G_ringlaw2_ReclaimCounts n v_l1 v_room2 = some r) : Ret Try.prog 3 [(eL (eI .i64)) v_l1, (eI .i64) v_room2] (eB r) := by
  refine ret_run (n := 98) (fn := Try.f3) (c := bodyOf Try.f3) (by kernel_rfl) (by kernel_rfl) (by kernel_rfl) (by kernel_rfl) ?_
  have hF : KC 98 (FinR Try.prog Try.f3 (eB r)) := FinR.kc' (by kernel_rfl)
  unfold G_ringlaw2_ReclaimCounts at h
  obtain ⟨v_r96, h80, h⟩ := bind_some h
  obtain ⟨v_r109, h87, h⟩ := bind_some h
  obtain ⟨v_r116, h92, h⟩ := bind_some h
  obtain ⟨v_r123, h97, h⟩ := bind_some h
  by_cases h110 : v_r123 = 0
  · rw [if_pos h110] at h
    obtain ⟨v_o243, h215, h⟩ := bind_some h
    refine pkk_sound TTok mix hF 17 (hs := [.r (.tup [(eI .i64) v_r96.1, (eI .i64) v_r96.2]), .r (.tup [(eI .i64) v_r109.1, (eI .i64) v_r109.2]), .r (.tup [(eI .i64) v_r116.1, (eI .i64) v_r116.2]), .r ((eI .i64) v_r123), .t false]) (ts := []) (s := []) (l := [0, 1, 5, 6, 7, 8, 9, 10]) (by kernel_rfl) (by kernel_rfl) (.cons (G_reclaim_Best_ok n v_l1 v_room2 _ h80) (.cons (G_reclaim_Lru_ok n v_l1 v_room2 _ h87) (.cons (G_reclaim_Fifo_ok n v_l1 v_room2 _ h92) (.cons (G_ringref2_Refs_ok n v_l1 v_room2 _ h97) (.cons (nf h110) .nil))))) (G_ringlaw2_ReclaimCounts_C2_ok hF (.s (cR (cL (cR (cR (cR (cR (cR (bodyOf Try.f3)))))))) :: .s (cR (cR (cR (cR (cR (cR (bodyOf Try.f3))))))) :: []) n v_l1 v_room2 v_r96 v_r109 v_r116 _ h215 ?_)
    cases v_o243 with
    | x0 v_z244 =>
      dsimp only at h
      by_cases h216 : v_z244 = true
      · rw [if_pos h216] at h
        obtain rfl := Option.some.inj h
        exact pend_sound TTok mix 5 (hs := [.t true]) (by kernel_rfl) (by kernel_rfl) (by kernel_rfl) (.cons h216 .nil)
      · rw [if_neg h216] at h
        obtain ⟨v_o313, h282, h⟩ := bind_some h
        refine pkk_sound TTok mix hF 3 (hs := [.t false]) (ts := []) (s := []) (l := [0, 1, 5]) (by kernel_rfl) (by kernel_rfl) (.cons (vf h216) .nil) (G_ringlaw2_ReclaimCounts_C3_ok hF (.s (cR (cR (cR (cR (cR (cR (cR (bodyOf Try.f3)))))))) :: []) n v_l1 v_room2 v_r96 _ h282 ?_)
        cases v_o313 with
        | x0 v_z314 =>
          dsimp only at h
          obtain rfl := Option.some.inj h
          exact pend_sound TTok mix 1 (hs := []) (by kernel_rfl) (by kernel_rfl) (by kernel_rfl) .nil
  · rw [if_neg h110] at h
    obtain ⟨v_o138, h121, h⟩ := bind_some h
    refine pkk_sound TTok mix hF 15 (hs := [.r (.tup [(eI .i64) v_r96.1, (eI .i64) v_r96.2]), .r (.tup [(eI .i64) v_r109.1, (eI .i64) v_r109.2]), .r (.tup [(eI .i64) v_r116.1, (eI .i64) v_r116.2]), .r ((eI .i64) v_r123), .t true]) (ts := []) (s := []) (l := [5, 6, 7, 8, 9, 10, 11]) (by kernel_rfl) (by kernel_rfl) (.cons (G_reclaim_Best_ok n v_l1 v_room2 _ h80) (.cons (G_reclaim_Lru_ok n v_l1 v_room2 _ h87) (.cons (G_reclaim_Fifo_ok n v_l1 v_room2 _ h92) (.cons (G_ringref2_Refs_ok n v_l1 v_room2 _ h97) (.cons (nt h110) .nil))))) (G_ringlaw2_ReclaimCounts_C1_ok hF (.s (cR (cT (cR (cR (cL (cR (cR (cR (cR (bodyOf Try.f3)))))))))) :: .s (cR (cR (cR (cR (cR (bodyOf Try.f3)))))) :: []) n v_r96 v_r109 v_r116 v_r123 _ h121 ?_)
    cases v_o138 with
    | x0 v_z139 =>
      dsimp only at h
      obtain rfl := Option.some.inj h
      exact pend_sound TTok mix 2 (hs := []) (by kernel_rfl) (by kernel_rfl) (by kernel_rfl) .nil
theorem ReclaimCounts_walk (H : ∀ (a0 : (List Int)) (a1 : Int), (okL 8 (fun a => (Lit.int .i64 a).wf = true)) a0 → (fun a => (Lit.int .i64 a).wf = true) a1 → ∃ n, G_ringlaw2_ReclaimCounts n a0 a1 = some true) (w : World) (v0 : Value) (v1 : Value) (h0 : rep.Arg w (.slice 8 (.int .i64)) v0) (h1 : rep.Arg w (.int .i64) v1) : Calls Try.prog 3 #[v0, v1] w (help.Ret (.bool true) w) := by
  obtain ⟨a0, o0, r0⟩ := arg_one (br_slice (f := (eI .i64)) (ok := (fun a => (Lit.int .i64 a).wf = true)) (br_int .i64) (fun _ => rfl) (by decide)) (by rfl) h0
  obtain ⟨a1, o1, r1⟩ := arg_one (br_int .i64) (by rfl) h1
  obtain ⟨n, hn⟩ := H a0 a1 o0 o1
  exact walk_of (G_ringlaw2_ReclaimCounts_ok n a0 a1 true hn) (RT_cons r0 (RT_cons r1 RT_nil))
/- FRAME ReclaimCounts; ringhall/ringlaw2.ReclaimCounts; (.slice 8 (.int .i64)) | (.int .i64); .slice none 0 0 | .int .i64 0 -/
end Go.Proofs.Ytnmpnljjaoddhaa.pv
