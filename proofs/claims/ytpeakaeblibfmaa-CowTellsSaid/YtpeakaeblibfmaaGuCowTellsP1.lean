/- What the functions compute, as functions over plain data, with their contracts: written by gen.py. -/
import Derived.Test.YtpeakaeblibfmaaProg
import Derived.Test.YtpeakaeblibfmaaQr
import Derived.Test.YtpeakaeblibfmaaSh
import Derived.Test.YtpeakaeblibfmaaSz
import Derived.Test.YtpeakaeblibfmaaLib
set_option maxRecDepth 100000
set_option linter.all false
namespace Go.Proofs.Ytpeakaeblibfmaa.pv
open Go.RowKit
def dds (n : Nat) (l : List FV) : List FV := List.replicate n dd ++ l
def TT : List TI := [
⟨1, 0, .oth, []⟩,
⟨1, 8, .oth, [.nf]⟩,
⟨1, 8, .int .i64, [.i .i64]⟩,
⟨1, 8, .int .i64, [.i .i64]⟩,
⟨1, 1, .bool, [.b]⟩,
⟨1, 1, .int .u8, [.i .u8]⟩,
⟨1, 1, .int .u8, [.i .u8]⟩,
⟨4, 24, .st [(0, 2), (1, 3), (2, 4), (3, 6)], [.i .i64, .i .i64, .b, .i .u8]⟩,
⟨4, 24, .st [(0, 2), (1, 3), (2, 4), (3, 6)], [.i .i64, .i .i64, .b, .i .u8]⟩,
⟨1, 16, .str, [.s]⟩,
⟨1, 16, .str, [.s]⟩,
⟨1, 16, .str, [.s]⟩,
⟨1, 8, .int .u64, [.i .u64]⟩,
⟨2, 24, .st [(0, 9), (1, 12)], [.s, .i .u64]⟩,
⟨2, 24, .st [(0, 9), (1, 12)], [.s, .i .u64]⟩,
⟨1, 8, .ptr 176, [.np]⟩,
⟨1, 8, .ptr 179, [.np]⟩,
⟨1, 8, .ptr 188, [.np]⟩,
⟨1, 8, .st [(0, 17)], [.np]⟩,
⟨1, 8, .st [(0, 17)], [.np]⟩,
⟨1, 16, .oth, [.ni]⟩,
⟨1, 4, .int .i32, [.i .i32]⟩,
⟨1, 24, .sl 5, [.sl]⟩,
⟨1, 24, .sl 39, [.sl]⟩,
⟨2, 48, .st [(0, 22), (1, 23)], [.sl, .sl]⟩,
⟨2, 48, .st [(0, 22), (1, 23)], [.sl, .sl]⟩,
⟨1, 8, .int .i64, [.i .i64]⟩,
⟨1, 0, .oth, []⟩,
⟨1, 8, .oth, [.nf]⟩,
⟨1, 0, .oth, []⟩,
⟨1, 8, .oth, [.nf]⟩,
⟨1, 8, .oth, [.nf]⟩,
⟨1, 0, .oth, []⟩,
⟨1, 8, .oth, [.nf]⟩,
⟨1, 0, .oth, []⟩,
⟨1, 8, .oth, [.nf]⟩,
⟨1, 8, .oth, [.nf]⟩,
⟨1, 8, .oth, [.nf]⟩,
⟨1, 8, .oth, [.nf]⟩,
⟨1, 24, .sl 3, [.sl]⟩,
⟨1, 0, .oth, []⟩,
⟨1, 8, .oth, [.nf]⟩,
⟨1, 8, .oth, [.nf]⟩,
⟨1, 8, .oth, [.nf]⟩,
⟨1, 8, .oth, [.nf]⟩,
⟨1, 8, .oth, [.nf]⟩,
⟨1, 8, .oth, [.nf]⟩,
⟨1, 24, .sl 66, [.sl]⟩,
⟨1, 4, .int .u32, [.i .u32]⟩,
⟨2, 16, .st [(0, 3), (1, 3)], [.i .i64, .i .i64]⟩,
⟨2, 16, .st [(0, 3), (1, 3)], [.i .i64, .i .i64]⟩,
⟨1, 0, .oth, []⟩,
⟨1, 8, .oth, [.nf]⟩,
⟨1, 8, .oth, [.nf]⟩,
⟨1, 0, .oth, []⟩,
⟨1, 8, .oth, [.nf]⟩,
⟨1, 8, .oth, [.nf]⟩,
⟨1, 0, .oth, []⟩,
⟨1, 8, .oth, [.nf]⟩,
⟨1, 0, .oth, []⟩,
⟨1, 8, .oth, [.nf]⟩,
⟨1, 8, .oth, [.nf]⟩,
⟨1, 8, .oth, [.nf]⟩,
⟨1, 24, .sl 69, [.sl]⟩,
⟨1, 24, .sl 50, [.sl]⟩,
⟨2, 48, .st [(0, 63), (1, 64)], [.sl, .sl]⟩,
⟨2, 48, .st [(0, 63), (1, 64)], [.sl, .sl]⟩,
⟨1, 8, .oth, [.nf]⟩,
⟨3, 24, .st [(0, 3), (1, 3), (2, 48)], [.i .i64, .i .i64, .i .u32]⟩,
⟨3, 24, .st [(0, 3), (1, 3), (2, 48)], [.i .i64, .i .i64, .i .u32]⟩,
⟨1, 8, .oth, [.nf]⟩,
⟨1, 8, .oth, [.nf]⟩,
⟨1, 8, .oth, [.nf]⟩,
⟨1, 8, .oth, [.nf]⟩,
⟨1, 8, .oth, [.nf]⟩,
⟨1, 8, .oth, [.nf]⟩,
⟨1, 24, .sl 136, [.sl]⟩,
⟨2, 32, .st [(0, 3), (1, 76)], [.i .i64, .sl]⟩,
⟨2, 32, .st [(0, 3), (1, 76)], [.i .i64, .sl]⟩,
⟨2, 16, .st [(0, 3), (1, 3)], [.i .i64, .i .i64]⟩,
⟨2, 16, .st [(0, 3), (1, 3)], [.i .i64, .i .i64]⟩,
⟨1, 0, .oth, []⟩,
⟨1, 8, .oth, [.nf]⟩,
⟨1, 0, .oth, []⟩,
⟨1, 8, .oth, [.nf]⟩,
⟨1, 0, .oth, []⟩,
⟨1, 8, .oth, [.nf]⟩,
⟨1, 0, .oth, []⟩,
⟨1, 8, .oth, [.nf]⟩,
⟨1, 8, .oth, [.nf]⟩,
⟨1, 8, .oth, [.nf]⟩,
⟨16, 16, .arr 16 4, List.replicate 16 (.b)⟩,
⟨1024, 1024, .arr 64 91, List.replicate 1024 (.b)⟩,
⟨1, 8, .oth, [.nf]⟩,
⟨1, 8, .oth, [.nf]⟩,
⟨1, 24, .sl 4, [.sl]⟩,
⟨1, 8, .oth, [.nf]⟩,
⟨1, 8, .oth, [.nf]⟩,
⟨1, 0, .oth, []⟩,
⟨1, 8, .oth, [.nf]⟩,
⟨1, 8, .oth, [.nf]⟩,
⟨1, 24, .sl 112, [.sl]⟩,
⟨2, 32, .st [(0, 3), (1, 101)], [.i .i64, .sl]⟩,
⟨2, 32, .st [(0, 3), (1, 101)], [.i .i64, .sl]⟩,
⟨1, 0, .oth, []⟩,
⟨1, 8, .oth, [.nf]⟩,
⟨1, 0, .oth, []⟩,
⟨1, 8, .oth, [.nf]⟩,
⟨1, 8, .oth, [.nf]⟩,
⟨1, 8, .oth, [.nf]⟩,
⟨1, 8, .oth, [.nf]⟩,
⟨2, 16, .st [(0, 3), (1, 3)], [.i .i64, .i .i64]⟩,
⟨2, 16, .st [(0, 3), (1, 3)], [.i .i64, .i .i64]⟩,
⟨1, 8, .oth, [.nf]⟩,
⟨64, 64, .arr 64 4, List.replicate 64 (.b)⟩,
⟨1, 8, .oth, [.nf]⟩,
⟨1, 8, .oth, [.nf]⟩,
⟨1, 8, .oth, [.nf]⟩,
⟨1, 8, .oth, [.nf]⟩,
⟨1, 0, .oth, []⟩,
⟨1, 8, .oth, [.nf]⟩,
⟨1, 8, .oth, [.nf]⟩,
⟨1, 8, .oth, [.nf]⟩,
⟨1, 8, .oth, [.nf]⟩,
⟨1, 8, .oth, [.nf]⟩,
⟨1, 8, .oth, [.nf]⟩,
⟨1, 8, .oth, [.nf]⟩,
⟨1, 8, .oth, [.nf]⟩,
⟨1, 8, .oth, [.nf]⟩,
⟨1, 8, .ptr 66, [.np]⟩,
⟨1, 8, .oth, [.nf]⟩,
⟨1, 8, .oth, [.nf]⟩,
⟨1, 8, .oth, [.nf]⟩,
⟨1, 8, .oth, [.nf]⟩,
⟨1, 8, .oth, [.nf]⟩,
⟨2, 32, .st [(0, 3), (1, 39)], [.i .i64, .sl]⟩,
⟨2, 32, .st [(0, 3), (1, 39)], [.i .i64, .sl]⟩,
⟨1, 8, .oth, [.nf]⟩,
⟨1, 8, .oth, [.nf]⟩,
⟨1, 8, .oth, [.nf]⟩,
⟨1, 8, .oth, [.nf]⟩,
⟨1, 8, .oth, [.nf]⟩,
⟨1, 8, .oth, [.nf]⟩,
⟨1, 8, .oth, [.nf]⟩,
⟨1, 8, .oth, [.nf]⟩,
⟨1, 8, .oth, [.nf]⟩,
⟨1, 8, .oth, [.nf]⟩,
⟨1, 8, .oth, [.nf]⟩,
⟨1, 8, .oth, [.nf]⟩,
⟨1, 8, .oth, [.nf]⟩,
⟨1, 8, .oth, [.nf]⟩,
⟨1, 8, .oth, [.nf]⟩,
⟨1, 8, .oth, [.nf]⟩,
⟨1, 8, .oth, [.nf]⟩,
⟨1, 8, .oth, [.nf]⟩,
⟨1, 8, .oth, [.nf]⟩,
⟨1, 8, .oth, [.nf]⟩,
⟨1, 8, .oth, [.nf]⟩,
⟨1, 8, .oth, [.nf]⟩,
⟨1, 8, .oth, [.nf]⟩,
⟨1, 8, .oth, [.nf]⟩,
⟨1, 8, .oth, [.nf]⟩,
⟨1, 8, .oth, [.nf]⟩,
⟨1, 8, .oth, [.nf]⟩,
⟨1, 8, .oth, [.nf]⟩,
⟨1, 8, .oth, [.nf]⟩,
⟨1, 8, .oth, [.nf]⟩,
⟨1, 8, .oth, [.nf]⟩,
⟨1, 8, .oth, [.nf]⟩,
⟨1, 8, .oth, [.nf]⟩,
⟨1, 8, .ptr 112, [.np]⟩,
⟨1, 8, .oth, [.nf]⟩,
⟨1, 8, .oth, [.nf]⟩,
⟨1, 8, .oth, [.nf]⟩,
⟨1, 8, .oth, [.nf]⟩,
⟨4, 40, .st [(0, 17), (1, 17), (2, 17), (3, 9)], [.np, .np, .np, .s]⟩,
⟨4, 40, .st [(0, 17), (1, 17), (2, 17), (3, 9)], [.np, .np, .np, .s]⟩,
⟨0, 0, .arr 0 16, []⟩,
⟨0, 0, .st [(0, 177)], []⟩,
⟨0, 0, .st [(0, 177)], []⟩,
⟨1, 8, .oth, [.nf]⟩,
⟨1, 1, .int .u8, [.i .u8]⟩,
⟨1, 1, .int .u8, [.i .u8]⟩,
⟨1, 8, .oth, [.nf]⟩,
⟨1, 8, .ptr 5, [.np]⟩,
⟨1, 4, .int .i32, [.i .i32]⟩,
⟨1, 4, .int .i32, [.i .i32]⟩,
⟨11, 48, .st [(0, 12), (1, 12), (2, 48), (3, 181), (4, 5), (5, 5), (6, 182), (7, 183), (8, 184), (9, 185), (10, 186)], [.i .u64, .i .u64, .i .u32, .i .u8, .i .u8, .i .u8, .i .u8, .nf, .np, .i .i32, .i .i32]⟩,
⟨11, 48, .st [(0, 12), (1, 12), (2, 48), (3, 181), (4, 5), (5, 5), (6, 182), (7, 183), (8, 184), (9, 185), (10, 186)], [.i .u64, .i .u64, .i .u32, .i .u8, .i .u8, .i .u8, .i .u8, .nf, .np, .i .i32, .i .i32]⟩,
⟨1, 8, .oth, [.np]⟩]
theorem TTok : TOk Try.prog TT := by unfold TOk; kernel_rfl
theorem mix : Try.prog.follows .mixedOrders = true := by kernel_rfl
structure S_cow_Room where
  fCells : (List Int)
  fSpaces : (List (List Int))
def eS_cow_Room (x : S_cow_Room) : PV := .agg [.sl (x.fCells.map (eI .u8)), .sl (x.fSpaces.map (eL (eI .i64)))]
def cA_t114 (x : (Fin 64 → Bool)) : List PV := (List.ofFn x).flatMap fun a => [.v (.bool a)]
def nq_List_Int (k : Nat) : Bool := decide (0 ≤ k)
def nct_List_Int (_ : Nat) : Nat × Nat := (3, 1)

inductive G_slices_Index_bool_bool_L1_R where
  | x0 (v_x77 : Int)
  | x1 
def G_slices_Index_bool_bool_L1_ex : G_slices_Index_bool_bool_L1_R → Ex
  | .x0 _ => .ret
  | .x1  => .exit 0
def G_slices_Index_bool_bool_L1_st (v_s69 : (List Bool)) (v_v70 : Bool) : G_slices_Index_bool_bool_L1_R → PS
  | .x0 v_x77 => ⟨(dd :: dd :: dd :: dd :: .d (.v (.int .i64 v_x77)) :: (dds 14 [])), []⟩
  | .x1  => ⟨(dds 19 []), []⟩
def G_slices_Index_bool_bool_L1_hd (v_s69 : (List Bool)) (v_v70 : Bool) (v_x73 : Int) : PS := ⟨(.d (.sl (v_s69.map eB)) :: .d (.v (.bool v_v70)) :: dd :: dd :: dd :: dd :: dd :: .d (.v (.int .i64 (v_s69.length : Int))) :: .d (.v (.int .i64 v_x73)) :: (dds 10 [])), []⟩
def G_slices_Index_bool_bool_L1 (n : Nat) (v_s69 : (List Bool)) (v_v70 : Bool) : Nat → Int → Option G_slices_Index_bool_bool_L1_R
  | 0, _ => none
  | k + 1, v_x73 =>
    if v_x73 < (v_s69.length : Int) then
     (getI v_s69 v_x73).bind fun (v_y76 : Bool) =>
     if (eqRes .eql (v_v70 == v_y76)) = true then
      some (.x0 v_x73)
     else
      G_slices_Index_bool_bool_L1 n v_s69 v_v70 k (wi .i64 (v_x73 + 1))
    else
     some (.x1 )
theorem G_slices_Index_bool_bool_L1_ok {Fi : Ex → PS → Prop} (hF : KC 19 Fi) (ks : List Fr) (n : Nat) (v_s69 : (List Bool)) (v_v70 : Bool)  : ∀ (k : Nat) (v_x73 : Int) (o : G_slices_Index_bool_bool_L1_R), G_slices_Index_bool_bool_L1 n v_s69 v_v70 k v_x73 = some o → RunE Try.prog 19 Fi ks (G_slices_Index_bool_bool_L1_ex o) (G_slices_Index_bool_bool_L1_st v_s69 v_v70 o) → RunE Try.prog 19 Fi (.l k (cP (cB (cR (cL (cR (bodyOf Try.f85)))))) :: ks) .normal (G_slices_Index_bool_bool_L1_hd v_s69 v_v70 v_x73)
  | 0, v_x73, o, h, q => by rw [G_slices_Index_bool_bool_L1] at h; cases h
  | k + 1, v_x73, o, h, q => by
    rw [G_slices_Index_bool_bool_L1] at h
    by_cases h24 : v_x73 < (v_s69.length : Int)
    · rw [if_pos h24] at h
      obtain ⟨v_y76, h27, h⟩ := bind_some h
      by_cases h28 : (eqRes .eql (v_v70 == v_y76)) = true
      · rw [if_pos h28] at h
        cases h
        exact pkk_sound TTok mix hF 19 (hs := [.t true, .y (eB v_y76), .c, .t true]) (ts := []) (s := []) (l := [4]) (by kernel_rfl) (by kernel_rfl) (.cons (dt h24) (.cons (getI_ob (f := eB) h27) (.cons h28 .nil))) q
      · rw [if_neg h28] at h
        exact pkk_sound TTok mix hF 16 (hs := [.t true, .y (eB v_y76), .c, .t false]) (ts := []) (s := []) (l := [0, 1, 7, 8]) (by kernel_rfl) (by kernel_rfl) (.cons (dt h24) (.cons (getI_ob (f := eB) h27) (.cons (vf h28) .nil))) (G_slices_Index_bool_bool_L1_ok hF ks n v_s69 v_v70 k (wi .i64 (v_x73 + 1)) _ h q)
    · rw [if_neg h24] at h
      cases h
      exact pkk_sound TTok mix hF 8 (hs := [.t false]) (ts := []) (s := []) (l := []) (by kernel_rfl) (by kernel_rfl) (.cons (df h24) .nil) q
/- slices.Index[[]bool,bool] -/
def G_slices_Index_bool_bool (n : Nat) (v_s69 : (List Bool)) (v_v70 : Bool) : Option (Int) :=
  (G_slices_Index_bool_bool_L1 n v_s69 v_v70 n 0).bind fun v_o78 => match v_o78 with
  | .x0 v_z79 =>
    some v_z79
  | .x1  =>
    some (-1)
theorem G_slices_Index_bool_bool_ok (n : Nat) (v_s69 : (List Bool)) (v_v70 : Bool) (r : Int) (h : G_slices_Index_bool_bool n v_s69 v_v70 = some r) : Ret Try.prog 85 [(eL eB) v_s69, eB v_v70] ((eI .i64) r) := by
  refine ret_run (n := 19) (fn := Try.f85) (c := bodyOf Try.f85) (by kernel_rfl) (by kernel_rfl) (by kernel_rfl) (by kernel_rfl) ?_
  have hF : KC 19 (FinR Try.prog Try.f85 ((eI .i64) r)) := FinR.kc' (by kernel_rfl)
  unfold G_slices_Index_bool_bool at h
  obtain ⟨v_o78, h29, h⟩ := bind_some h
  refine pkk_sound TTok mix hF 7 (hs := [.u (.d (.v (.int .i64 (v_s69.length : Int)))), .n n]) (ts := []) (s := []) (l := [0, 1, 7, 8]) (by kernel_rfl) (by kernel_rfl) (.cons (len_ob (f := eB) (l := v_s69)) .nil) (G_slices_Index_bool_bool_L1_ok hF (.b 0 :: .s (cR (cR (bodyOf Try.f85))) :: []) n v_s69 v_v70 n 0 _ h29 ?_)
  cases v_o78 with
  | x0 v_z79 =>
    try dsimp only at h
    obtain rfl := Option.some.inj h
    exact pend_sound TTok mix 2 (hs := []) (by kernel_rfl) (by kernel_rfl) (by kernel_rfl) .nil
  | x1  =>
    try dsimp only at h
    obtain rfl := Option.some.inj h
    exact pend_sound TTok mix 4 (hs := []) (by kernel_rfl) (by kernel_rfl) (by kernel_rfl) .nil
/- slices.Contains[[]bool,bool] -/
def G_slices_Contains_bool_bool (n : Nat) (v_s67 : (List Bool)) (v_v68 : Bool) : Option (Bool) :=
  (G_slices_Index_bool_bool n v_s67 v_v68).bind fun (v_r80 : (Int)) =>
  some (decide (v_r80 ≥ 0))
theorem G_slices_Contains_bool_bool_ok (n : Nat) (v_s67 : (List Bool)) (v_v68 : Bool) (r : Bool) (h : G_slices_Contains_bool_bool n v_s67 v_v68 = some r) : Ret Try.prog 45 [(eL eB) v_s67, eB v_v68] (eB r) := by
  refine ret_run (n := 9) (fn := Try.f45) (c := bodyOf Try.f45) (by kernel_rfl) (by kernel_rfl) (by kernel_rfl) (by kernel_rfl) ?_
  have hF : KC 9 (FinR Try.prog Try.f45 (eB r)) := FinR.kc' (by kernel_rfl)
  unfold G_slices_Contains_bool_bool at h
  obtain ⟨v_r80, h30, h⟩ := bind_some h
  obtain rfl := Option.some.inj h
  exact pend_sound TTok mix 5 (hs := [.r ((eI .i64) v_r80)]) (by kernel_rfl) (by kernel_rfl) (by kernel_rfl) (.cons (G_slices_Index_bool_bool_ok n v_s67 v_v68 _ h30) .nil)
inductive G_cow_Check_C1_R where
  | x0 (v_x21 : Bool)
def G_cow_Check_C1_ex : G_cow_Check_C1_R → Ex
  | .x0 _ => .normal
def G_cow_Check_C1_st (v_r16 : S_cow_Room) : G_cow_Check_C1_R → PS
  | .x0 v_x21 => ⟨(dd :: .ref 0 0 :: (dds 15 (.d (.v (.bool v_x21)) :: (dds 36 [])))), [.box [.d (.sl (v_r16.fCells.map (eI .u8))), .d (.sl (v_r16.fSpaces.map (eL (eI .i64))))]]⟩
def G_cow_Check_C1_hd (v_r16 : S_cow_Room)  : PS := ⟨(dd :: .ref 0 0 :: (dds 52 [])), [.box [.d (.sl (v_r16.fCells.map (eI .u8))), .d (.sl (v_r16.fSpaces.map (eL (eI .i64))))]]⟩
def G_cow_Check_C1 (n : Nat) (v_r16 : S_cow_Room) : Option G_cow_Check_C1_R :=
  if (v_r16.fCells.length : Int) > 64 then
   some (.x0 true)
  else
   some (.x0 (decide ((v_r16.fSpaces.length : Int) > 8)))
theorem G_cow_Check_C1_ok {Fi : Ex → PS → Prop} (hF : KC 54 Fi) (ks : List Fr) (n : Nat) (v_r16 : S_cow_Room)  (o : G_cow_Check_C1_R) (h : G_cow_Check_C1 n v_r16 = some o) (q : RunE Try.prog 54 Fi ks (G_cow_Check_C1_ex o) (G_cow_Check_C1_st v_r16 o)) : RunE Try.prog 54 Fi (.s (cL (cL (cR (bodyOf Try.f13)))) :: ks) .normal (G_cow_Check_C1_hd v_r16) := by
  unfold G_cow_Check_C1 at h
  by_cases h2 : (v_r16.fCells.length : Int) > 64
  · rw [if_pos h2] at h
    cases h
    exact pkk_sound TTok mix hF 1 (hs := [.c, .u (.d (.v (.int .i64 (v_r16.fCells.length : Int)))), .t true, .c, .c, .c]) (ts := []) (s := [0]) (l := [1, 17]) (by kernel_rfl) (by kernel_rfl) (.cons (len_ob (f := (eI .u8)) (l := v_r16.fCells)) (.cons (dt h2) .nil)) q
  · rw [if_neg h2] at h
    cases h
    exact pkk_sound TTok mix hF 1 (hs := [.c, .u (.d (.v (.int .i64 (v_r16.fCells.length : Int)))), .t false, .c, .c, .c, .u (.d (.v (.int .i64 (v_r16.fSpaces.length : Int)))), .c]) (ts := []) (s := [0]) (l := [1, 17]) (by kernel_rfl) (by kernel_rfl) (.cons (len_ob (f := (eI .u8)) (l := v_r16.fCells)) (.cons (df h2) (.cons (len_ob (f := (eL (eI .i64))) (l := v_r16.fSpaces)) .nil))) q
inductive G_cow_Check_L2_R where
  | x0 (v_x55 : Int)
  | x1 (v_w58 : (List Bool))
def G_cow_Check_L2_ex : G_cow_Check_L2_R → Ex
  | .x0 _ => .ret
  | .x1 _ => .exit 2
def G_cow_Check_L2_st (v_r16 : S_cow_Room) (v_x44 : Int) (v_y47 : (List Int)) : G_cow_Check_L2_R → PS
  | .x0 v_x55 => ⟨(dd :: dd :: .d (.v (.int .i64 v_x55)) :: (dds 51 [])), []⟩
  | .x1 v_w58 => ⟨(dd :: .ref 0 0 :: dd :: .srf 1 :: (dds 19 (.d (.sl (v_r16.fSpaces.map (eL (eI .i64)))) :: .d (.v (.int .i64 (v_r16.fSpaces.length : Int))) :: .d (.v (.int .i64 v_x44)) :: (dds 28 [])))), [.box [.d (.sl (v_r16.fCells.map (eI .u8))), .d (.sl (v_r16.fSpaces.map (eL (eI .i64))))], .row 4 1 (v_w58.map eB)]⟩
def G_cow_Check_L2_hd (v_r16 : S_cow_Room) (v_x44 : Int) (v_y47 : (List Int)) (v_x49 : Int) (v_w50 : (List Bool)) : PS := ⟨(dd :: .ref 0 0 :: dd :: .srf 1 :: (dds 19 (.d (.sl (v_r16.fSpaces.map (eL (eI .i64)))) :: .d (.v (.int .i64 (v_r16.fSpaces.length : Int))) :: .d (.v (.int .i64 v_x44)) :: dd :: dd :: dd :: dd :: dd :: dd :: .d (.sl (v_y47.map (eI .i64))) :: .d (.v (.int .i64 (v_y47.length : Int))) :: .d (.v (.int .i64 v_x49)) :: (dds 19 [])))), [.box [.d (.sl (v_r16.fCells.map (eI .u8))), .d (.sl (v_r16.fSpaces.map (eL (eI .i64))))], .row 4 1 (v_w50.map eB)]⟩
def G_cow_Check_L2 (n : Nat) (v_r16 : S_cow_Room) (v_x44 : Int) (v_y47 : (List Int)) : Nat → Int → (List Bool) → Option G_cow_Check_L2_R
  | 0, _, _ => none
  | k + 1, v_x49, v_w50 =>
    if v_x49 < (v_y47.length : Int) then
     (getI v_y47 v_x49).bind fun (v_y54 : Int) =>
     if v_y54 < 0 then
      some (.x0 1)
     else
      if v_y54 ≥ (v_r16.fCells.length : Int) then
       some (.x0 1)
      else
       if 0 ≤ v_y54 ∧ (v_y54).toNat < v_w50.length then
        (v_w50[(v_y54).toNat]?).bind fun (v_y57 : Bool) =>
        G_cow_Check_L2 n v_r16 v_x44 v_y47 k (wi .i64 (v_x49 + 1)) (v_w50.set (v_y54).toNat true)
       else none
    else
     some (.x1 v_w50)
theorem G_cow_Check_L2_ok {Fi : Ex → PS → Prop} (hF : KC 54 Fi) (ks : List Fr) (n : Nat) (v_r16 : S_cow_Room) (v_x44 : Int) (v_y47 : (List Int))  : ∀ (k : Nat) (v_x49 : Int) (v_w50 : (List Bool)) (o : G_cow_Check_L2_R), G_cow_Check_L2 n v_r16 v_x44 v_y47 k v_x49 v_w50 = some o → RunE Try.prog 54 Fi ks (G_cow_Check_L2_ex o) (G_cow_Check_L2_st v_r16 v_x44 v_y47 o) → RunE Try.prog 54 Fi (.l k (cP (cB (cR (cR (cR (cB (cL (cR (cR (cP (cB (cR (cL (cR (cR (cR (bodyOf Try.f13))))))))))))))))) :: ks) .normal (G_cow_Check_L2_hd v_r16 v_x44 v_y47 v_x49 v_w50)
  | 0, v_x49, v_w50, o, h, q => by rw [G_cow_Check_L2] at h; cases h
  | k + 1, v_x49, v_w50, o, h, q => by
    rw [G_cow_Check_L2] at h
    by_cases h9 : v_x49 < (v_y47.length : Int)
    · rw [if_pos h9] at h
      obtain ⟨v_y54, h16, h⟩ := bind_some h
      by_cases h18 : v_y54 < 0
      · rw [if_pos h18] at h
        cases h
        exact pkk_sound TTok mix hF 21 (hs := [.t true, .y ((eI .i64) v_y54), .c, .t true, .c, .c, .c, .c, .c]) (ts := []) (s := []) (l := [2]) (by kernel_rfl) (by kernel_rfl) (.cons (dt h9) (.cons (getI_ob (f := (eI .i64)) h16) (.cons (dt h18) .nil))) q
      · rw [if_neg h18] at h
        by_cases h19 : v_y54 ≥ (v_r16.fCells.length : Int)
        · rw [if_pos h19] at h
          cases h
          exact pkk_sound TTok mix hF 21 (hs := [.t true, .y ((eI .i64) v_y54), .c, .t false, .c, .c, .c, .c, .u (.d (.v (.int .i64 (v_r16.fCells.length : Int)))), .c, .t true]) (ts := []) (s := []) (l := [2]) (by kernel_rfl) (by kernel_rfl) (.cons (dt h9) (.cons (getI_ob (f := (eI .i64)) h16) (.cons (df h18) (.cons (len_ob (f := (eI .u8)) (l := v_r16.fCells)) (.cons (dt h19) .nil))))) q
        · rw [if_neg h19] at h
          by_cases h20 : 0 ≤ v_y54 ∧ (v_y54).toNat < v_w50.length
          · rw [if_pos h20] at h
            obtain ⟨v_y57, h21, h⟩ := bind_some h
            exact pkk_sound TTok mix hF 18 (hs := [.t true, .y ((eI .i64) v_y54), .c, .t false, .c, .c, .c, .c, .u (.d (.v (.int .i64 (v_r16.fCells.length : Int)))), .c, .t false, .w ((v_w50.set (v_y54).toNat true).map eB), .y (eB v_y57)]) (ts := []) (s := [0, 1]) (l := [1, 3, 23, 24, 25, 32, 33, 34]) (by kernel_rfl) (by kernel_rfl) (.cons (dt h9) (.cons (getI_ob (f := (eI .i64)) h16) (.cons (df h18) (.cons (len_ob (f := (eI .u8)) (l := v_r16.fCells)) (.cons (df h19) (.cons (idx_ob (f := eB) h20) (.cons (get_ob (f := eB) h21) (.cons (Eq.refl (pcells (.v (.bool true)))) (.cons (set_ob (f := eB) (l := v_w50) (k := (v_y54).toNat) (z := true) (p := .v (.bool true)) rfl) .nil))))))))) (G_cow_Check_L2_ok hF ks n v_r16 v_x44 v_y47 k (wi .i64 (v_x49 + 1)) (v_w50.set (v_y54).toNat true) _ h q)
          · rw [if_neg h20] at h; cases h
    · rw [if_neg h9] at h
      cases h
      exact pkk_sound TTok mix hF 8 (hs := [.t false]) (ts := []) (s := [0, 1]) (l := [1, 3, 23, 24, 25]) (by kernel_rfl) (by kernel_rfl) (.cons (df h9) .nil) q
inductive G_cow_Check_L3_R where
  | x0 (v_x48 : Int)
  | x1 (v_w63 : (List Bool))
def G_cow_Check_L3_ex : G_cow_Check_L3_R → Ex
  | .x0 _ => .ret
  | .x1 _ => .exit 0
def G_cow_Check_L3_st (v_r16 : S_cow_Room) : G_cow_Check_L3_R → PS
  | .x0 v_x48 => ⟨(dd :: dd :: .d (.v (.int .i64 v_x48)) :: (dds 51 [])), []⟩
  | .x1 v_w63 => ⟨(dd :: dd :: dd :: .srf 0 :: (dds 50 [])), [.row 4 1 (v_w63.map eB)]⟩
def G_cow_Check_L3_hd (v_r16 : S_cow_Room) (v_x44 : Int) (v_w45 : (List Bool)) : PS := ⟨(dd :: .ref 0 0 :: dd :: .srf 1 :: (dds 19 (.d (.sl (v_r16.fSpaces.map (eL (eI .i64)))) :: .d (.v (.int .i64 (v_r16.fSpaces.length : Int))) :: .d (.v (.int .i64 v_x44)) :: (dds 28 [])))), [.box [.d (.sl (v_r16.fCells.map (eI .u8))), .d (.sl (v_r16.fSpaces.map (eL (eI .i64))))], .row 4 1 (v_w45.map eB)]⟩
def G_cow_Check_L3 (n : Nat) (v_r16 : S_cow_Room) : Nat → Int → (List Bool) → Option G_cow_Check_L3_R
  | 0, _, _ => none
  | k + 1, v_x44, v_w45 =>
    if v_x44 < (v_r16.fSpaces.length : Int) then
     (getI v_r16.fSpaces v_x44).bind fun (v_y47 : (List Int)) =>
     if (v_y47.length : Int) > 8 then
      some (.x0 2)
     else
      (G_cow_Check_L2 n v_r16 v_x44 v_y47 n 0 v_w45).bind fun v_o59 => match v_o59 with
      | .x0 v_z60 =>
        some (.x0 v_z60)
      | .x1 v_z62 =>
        G_cow_Check_L3 n v_r16 k (wi .i64 (v_x44 + 1)) v_z62
    else
     some (.x1 v_w45)
theorem G_cow_Check_L3_ok {Fi : Ex → PS → Prop} (hF : KC 54 Fi) (ks : List Fr) (n : Nat) (v_r16 : S_cow_Room)  : ∀ (k : Nat) (v_x44 : Int) (v_w45 : (List Bool)) (o : G_cow_Check_L3_R), G_cow_Check_L3 n v_r16 k v_x44 v_w45 = some o → RunE Try.prog 54 Fi ks (G_cow_Check_L3_ex o) (G_cow_Check_L3_st v_r16 o) → RunE Try.prog 54 Fi (.l k (cP (cB (cR (cL (cR (cR (cR (bodyOf Try.f13)))))))) :: ks) .normal (G_cow_Check_L3_hd v_r16 v_x44 v_w45)
  | 0, v_x44, v_w45, o, h, q => by rw [G_cow_Check_L3] at h; cases h
  | k + 1, v_x44, v_w45, o, h, q => by
    rw [G_cow_Check_L3] at h
    by_cases h6 : v_x44 < (v_r16.fSpaces.length : Int)
    · rw [if_pos h6] at h
      obtain ⟨v_y47, h7, h⟩ := bind_some h
      by_cases h8 : (v_y47.length : Int) > 8
      · rw [if_pos h8] at h
        cases h
        exact pkk_sound TTok mix hF 21 (hs := [.t true, .y ((eL (eI .i64)) v_y47), .c, .u (.d (.v (.int .i64 (v_y47.length : Int)))), .t true]) (ts := []) (s := []) (l := [2]) (by kernel_rfl) (by kernel_rfl) (.cons (dt h6) (.cons (getI_ob (f := (eL (eI .i64))) h7) (.cons (len_ob (f := (eI .i64)) (l := v_y47)) (.cons (dt h8) .nil)))) q
      · rw [if_neg h8] at h
        obtain ⟨v_o59, h22, h⟩ := bind_some h
        refine pkk_sound TTok mix hF 19 (hs := [.t true, .y ((eL (eI .i64)) v_y47), .c, .u (.d (.v (.int .i64 (v_y47.length : Int)))), .t false, .u (.d (.v (.int .i64 (v_y47.length : Int)))), .n n]) (ts := []) (s := [0, 1]) (l := [1, 3, 23, 24, 25, 32, 33, 34]) (by kernel_rfl) (by kernel_rfl) (.cons (dt h6) (.cons (getI_ob (f := (eL (eI .i64))) h7) (.cons (len_ob (f := (eI .i64)) (l := v_y47)) (.cons (df h8) (.cons (len_ob (f := (eI .i64)) (l := v_y47)) .nil))))) (G_cow_Check_L2_ok hF (.b 2 :: .b 1 :: .s (cR (cR (cR (cP (cB (cR (cL (cR (cR (cR (bodyOf Try.f13))))))))))) :: .l k (cP (cB (cR (cL (cR (cR (cR (bodyOf Try.f13)))))))) :: ks) n v_r16 v_x44 v_y47 n 0 v_w45 _ h22 ?_)
        cases v_o59 with
        | x0 v_z60 =>
          try dsimp only at h
          cases h
          exact pkk_sound TTok mix hF 4 (hs := []) (ts := []) (s := []) (l := [2]) (by kernel_rfl) (by kernel_rfl) .nil q
        | x1 v_z62 =>
          try dsimp only at h
          exact pkk_sound TTok mix hF 3 (hs := []) (ts := []) (s := [0, 1]) (l := [1, 3, 23, 24, 25]) (by kernel_rfl) (by kernel_rfl) .nil (G_cow_Check_L3_ok hF ks n v_r16 k (wi .i64 (v_x44 + 1)) v_z62 _ h q)
    · rw [if_neg h6] at h
      cases h
      exact pkk_sound TTok mix hF 8 (hs := [.t false]) (ts := []) (s := [1]) (l := [3]) (by kernel_rfl) (by kernel_rfl) (.cons (df h6) .nil) q
/- ringhall/cow.Check -/
def G_cow_Check (n : Nat) (v_r16 : S_cow_Room) : Option (Int) :=
  (G_cow_Check_C1 n v_r16).bind fun v_o23 => match v_o23 with
  | .x0 v_z24 =>
    if v_z24 = true then
     some 2
    else
     (mkL 1 false (v_r16.fCells.length : Int)).bind fun (v_m31 : (List Bool)) =>
     (G_cow_Check_L3 n v_r16 n 0 v_m31).bind fun v_o64 => match v_o64 with
     | .x0 v_z65 =>
       some v_z65
     | .x1 v_z66 =>
       (G_slices_Contains_bool_bool n v_z66 false).bind fun (v_r81 : (Bool)) =>
       if v_r81 = true then
        some 3
       else
        some 0
theorem G_cow_Check_ok (n : Nat) (v_r16 : S_cow_Room) (r : Int) (h : G_cow_Check n v_r16 = some r) : Ret Try.prog 13 [eS_cow_Room v_r16] ((eI .i64) r) := by
  refine ret_run (n := 54) (fn := Try.f13) (c := bodyOf Try.f13) (by kernel_rfl) (by kernel_rfl) (by kernel_rfl) (by kernel_rfl) ?_
  have hF : KC 54 (FinR Try.prog Try.f13 ((eI .i64) r)) := FinR.kc' (by kernel_rfl)
  unfold G_cow_Check at h
  obtain ⟨v_o23, h3, h⟩ := bind_some h
  refine pkk_sound TTok mix hF 4 (hs := []) (ts := []) (s := [0]) (l := [1]) (by kernel_rfl) (by kernel_rfl) .nil (G_cow_Check_C1_ok hF (.s (cR (cL (cR (bodyOf Try.f13)))) :: .s (cR (cR (bodyOf Try.f13))) :: []) n v_r16 _ h3 ?_)
  cases v_o23 with
  | x0 v_z24 =>
    try dsimp only at h
    by_cases h4 : v_z24 = true
    · rw [if_pos h4] at h
      obtain rfl := Option.some.inj h
      exact pend_sound TTok mix 5 (hs := [.t true]) (by kernel_rfl) (by kernel_rfl) (by kernel_rfl) (.cons h4 .nil)
    · rw [if_neg h4] at h
      obtain ⟨v_m31, h5, h⟩ := bind_some h
      obtain ⟨v_o64, h23, h⟩ := bind_some h
      refine pkk_sound TTok mix hF 9 (hs := [.t false, .c, .u (.d (.v (.int .i64 (v_r16.fCells.length : Int)))), .w (v_m31.map eB), .c, .u (.d (.v (.int .i64 (v_r16.fSpaces.length : Int)))), .n n]) (ts := []) (s := [0, 16]) (l := [1, 3, 23, 24, 25]) (by kernel_rfl) (by kernel_rfl) (.cons (vf h4) (.cons (len_ob (f := (eI .u8)) (l := v_r16.fCells)) (.cons (mkL_ob (f := eB) (p := .v (.bool false)) h5 rfl).1 (.cons (mkL_ob (f := eB) (p := .v (.bool false)) h5 rfl).2.1 (.cons (mkL_ob (f := eB) (p := .v (.bool false)) h5 rfl).2.2.1 (.cons (mkL_ob (f := eB) (p := .v (.bool false)) h5 rfl).2.2.2.1 (.cons (mkL_ob (f := eB) (p := .v (.bool false)) h5 rfl).2.2.2.2 (.cons (len_ob (f := (eL (eI .i64))) (l := v_r16.fSpaces)) .nil)))))))) (G_cow_Check_L3_ok hF (.b 0 :: .s (cR (cR (cR (cR (bodyOf Try.f13))))) :: []) n v_r16 n 0 v_m31 _ h23 ?_)
      cases v_o64 with
      | x0 v_z65 =>
        try dsimp only at h
        obtain rfl := Option.some.inj h
        exact pend_sound TTok mix 2 (hs := []) (by kernel_rfl) (by kernel_rfl) (by kernel_rfl) .nil
      | x1 v_z66 =>
        try dsimp only at h
        obtain ⟨v_r81, h31, h⟩ := bind_some h
        by_cases h32 : v_r81 = true
        · rw [if_pos h32] at h
          obtain rfl := Option.some.inj h
          exact pend_sound TTok mix 9 (hs := [.c, .r (eB v_r81), .t true]) (by kernel_rfl) (by kernel_rfl) (by kernel_rfl) (.cons (G_slices_Contains_bool_bool_ok n v_z66 false _ h31) (.cons h32 .nil))
        · rw [if_neg h32] at h
          obtain rfl := Option.some.inj h
          exact pend_sound TTok mix 9 (hs := [.c, .r (eB v_r81), .t false]) (by kernel_rfl) (by kernel_rfl) (by kernel_rfl) (.cons (G_slices_Contains_bool_bool_ok n v_z66 false _ h31) (.cons (vf h32) .nil))
inductive G_cow_space_C1_R where
  | x0 (v_x90 : Bool)
def G_cow_space_C1_ex : G_cow_space_C1_R → Ex
  | .x0 _ => .normal
def G_cow_space_C1_st (v_s13 : Int) (v_r82 : (Int)) (v_r12 : S_cow_Room) : G_cow_space_C1_R → PS
  | .x0 v_x90 => ⟨(dd :: dd :: dd :: dd :: dd :: .d (.v (.int .i64 v_r82)) :: (dds 14 [.d (.v (.bool v_x90)), dd])), []⟩
def G_cow_space_C1_hd (v_s13 : Int) (v_r82 : (Int)) (v_r12 : S_cow_Room)  : PS := ⟨(dd :: .d (.v (.int .i64 v_s13)) :: .ref 0 0 :: dd :: dd :: .d (.v (.int .i64 v_r82)) :: (dds 16 [])), [.box [.d (.sl (v_r12.fCells.map (eI .u8))), .d (.sl (v_r12.fSpaces.map (eL (eI .i64))))]]⟩
def G_cow_space_C1 (n : Nat) (v_s13 : Int) (v_r82 : (Int)) (v_r12 : S_cow_Room) : Option G_cow_space_C1_R :=
  if v_r82 = 0 then
   if v_s13 < 0 then
    some (.x0 true)
   else
    some (.x0 (decide (v_s13 ≥ (v_r12.fSpaces.length : Int))))
  else
   some (.x0 false)
theorem G_cow_space_C1_ok {Fi : Ex → PS → Prop} (hF : KC 22 Fi) (ks : List Fr) (n : Nat) (v_s13 : Int) (v_r82 : (Int)) (v_r12 : S_cow_Room)  (o : G_cow_space_C1_R) (h : G_cow_space_C1 n v_s13 v_r82 v_r12 = some o) (q : RunE Try.prog 22 Fi ks (G_cow_space_C1_ex o) (G_cow_space_C1_st v_s13 v_r82 v_r12 o)) : RunE Try.prog 22 Fi (.s (cL (cL (cR (cR (bodyOf Try.f60))))) :: ks) .normal (G_cow_space_C1_hd v_s13 v_r82 v_r12) := by
  unfold G_cow_space_C1 at h
  by_cases h36 : v_r82 = 0
  · rw [if_pos h36] at h
    by_cases h37 : v_s13 < 0
    · rw [if_pos h37] at h
      cases h
      exact pkk_sound TTok mix hF 1 (hs := [.t true, .c, .c, .t true, .c, .c, .c, .c, .c]) (ts := []) (s := []) (l := [5, 20]) (by kernel_rfl) (by kernel_rfl) (.cons (bt h36) (.cons (dt h37) .nil)) q
    · rw [if_neg h37] at h
      cases h
      exact pkk_sound TTok mix hF 1 (hs := [.t true, .c, .c, .t false, .c, .c, .c, .c, .u (.d (.v (.int .i64 (v_r12.fSpaces.length : Int)))), .c, .c]) (ts := []) (s := []) (l := [5, 20]) (by kernel_rfl) (by kernel_rfl) (.cons (bt h36) (.cons (df h37) (.cons (len_ob (f := (eL (eI .i64))) (l := v_r12.fSpaces)) .nil))) q
  · rw [if_neg h36] at h
    cases h
    exact pkk_sound TTok mix hF 1 (hs := [.t false, .c, .c, .c]) (ts := []) (s := []) (l := [5, 20]) (by kernel_rfl) (by kernel_rfl) (.cons (bf h36) .nil) q
/- ringhall/cow.space -/
def G_cow_space (n : Nat) (v_r12 : S_cow_Room) (v_s13 : Int) : Option (Int) :=
  (G_cow_Check n v_r12).bind fun (v_r82 : (Int)) =>
  (G_cow_space_C1 n v_s13 v_r82 v_r12).bind fun v_o93 => match v_o93 with
  | .x0 v_z94 =>
    if v_z94 = true then
     some 4
    else
     some v_r82
theorem G_cow_space_ok (n : Nat) (v_r12 : S_cow_Room) (v_s13 : Int) (r : Int) (h : G_cow_space n v_r12 v_s13 = some r) : Ret Try.prog 60 [eS_cow_Room v_r12, (eI .i64) v_s13] ((eI .i64) r) := by
  refine ret_run (n := 22) (fn := Try.f60) (c := bodyOf Try.f60) (by kernel_rfl) (by kernel_rfl) (by kernel_rfl) (by kernel_rfl) ?_
  have hF : KC 22 (FinR Try.prog Try.f60 ((eI .i64) r)) := FinR.kc' (by kernel_rfl)
  unfold G_cow_space at h
  obtain ⟨v_r82, h33, h⟩ := bind_some h
  obtain ⟨v_o93, h38, h⟩ := bind_some h
  refine pkk_sound TTok mix hF 6 (hs := [.c, .r ((eI .i64) v_r82)]) (ts := []) (s := [0]) (l := [1, 2, 5]) (by kernel_rfl) (by kernel_rfl) (.cons (G_cow_Check_ok n v_r12 _ h33) .nil) (G_cow_space_C1_ok hF (.s (cR (cL (cR (cR (bodyOf Try.f60))))) :: .s (cR (cR (cR (bodyOf Try.f60)))) :: []) n v_s13 v_r82 v_r12 _ h38 ?_)
  cases v_o93 with
  | x0 v_z94 =>
    try dsimp only at h
    by_cases h39 : v_z94 = true
    · rw [if_pos h39] at h
      obtain rfl := Option.some.inj h
      exact pend_sound TTok mix 5 (hs := [.t true]) (by kernel_rfl) (by kernel_rfl) (by kernel_rfl) (.cons h39 .nil)
    · rw [if_neg h39] at h
      obtain rfl := Option.some.inj h
      exact pend_sound TTok mix 5 (hs := [.t false]) (by kernel_rfl) (by kernel_rfl) (by kernel_rfl) (.cons (vf h39) .nil)
inductive G_cow_See_L1_R where
  | x0 (v_w130 : (List Int))
def G_cow_See_L1_ex : G_cow_See_L1_R → Ex
  | .x0 _ => .exit 0
def G_cow_See_L1_st (v_y112 : (List Int)) (v_r7 : S_cow_Room) : G_cow_See_L1_R → PS
  | .x0 v_w130 => ⟨(dd :: dd :: dd :: dd :: dd :: dd :: dd :: .srf 0 :: (dds 28 [])), [.row 5 1 (v_w130.map (eI .u8))]⟩
def G_cow_See_L1_hd (v_y112 : (List Int)) (v_r7 : S_cow_Room) (v_x121 : Int) (v_w122 : (List Int)) : PS := ⟨(dd :: dd :: .ref 0 0 :: dd :: dd :: dd :: dd :: .srf 1 :: (dds 12 (.d (.sl (v_y112.map (eI .i64))) :: .d (.v (.int .i64 (v_y112.length : Int))) :: .d (.v (.int .i64 v_x121)) :: (dds 13 [])))), [.box [.d (.sl (v_r7.fCells.map (eI .u8))), .d (.sl (v_r7.fSpaces.map (eL (eI .i64))))], .row 5 1 (v_w122.map (eI .u8))]⟩
def G_cow_See_L1 (n : Nat) (v_y112 : (List Int)) (v_r7 : S_cow_Room) : Nat → Int → (List Int) → Option G_cow_See_L1_R
  | 0, _, _ => none
  | k + 1, v_x121, v_w122 =>
    if v_x121 < (v_y112.length : Int) then
     (getI v_y112 v_x121).bind fun (v_y127 : Int) =>
     (getI v_r7.fCells v_y127).bind fun (v_y128 : Int) =>
     (app 1 v_w122 ([v_y128])).bind fun (v_a129 : (List Int)) =>
     G_cow_See_L1 n v_y112 v_r7 k (wi .i64 (v_x121 + 1)) v_a129
    else
     some (.x0 v_w122)
theorem G_cow_See_L1_ok {Fi : Ex → PS → Prop} (hF : KC 36 Fi) (ks : List Fr) (n : Nat) (v_y112 : (List Int)) (v_r7 : S_cow_Room)  : ∀ (k : Nat) (v_x121 : Int) (v_w122 : (List Int)) (o : G_cow_See_L1_R), G_cow_See_L1 n v_y112 v_r7 k v_x121 v_w122 = some o → RunE Try.prog 36 Fi ks (G_cow_See_L1_ex o) (G_cow_See_L1_st v_y112 v_r7 o) → RunE Try.prog 36 Fi (.l k (cP (cB (cR (cL (cR (cR (cR (bodyOf Try.f7)))))))) :: ks) .normal (G_cow_See_L1_hd v_y112 v_r7 v_x121 v_w122)
  | 0, v_x121, v_w122, o, h, q => by rw [G_cow_See_L1] at h; cases h
  | k + 1, v_x121, v_w122, o, h, q => by
    rw [G_cow_See_L1] at h
    by_cases h44 : v_x121 < (v_y112.length : Int)
    · rw [if_pos h44] at h
      obtain ⟨v_y127, h48, h⟩ := bind_some h
      obtain ⟨v_y128, h49, h⟩ := bind_some h
      obtain ⟨v_a129, h50, h⟩ := bind_some h
      exact pkk_sound TTok mix hF 13 (hs := [.t true, .y ((eI .i64) v_y127), .c, .c, .y ((eI .u8) v_y128), .c, .bd, .w (v_a129.map (eI .u8))]) (ts := []) (s := [0, 57]) (l := [2, 7, 20, 21, 22]) (by kernel_rfl) (by kernel_rfl) (.cons (dt h44) (.cons (getI_ob (f := (eI .i64)) h48) (.cons (getI_ob (f := (eI .u8)) h49) (.cons (app_ob (f := (eI .u8)) (s := 1) h50 (fun _ => rfl)).1 (.cons (app_ob (f := (eI .u8)) (s := 1) h50 (fun _ => rfl)).2.1 (.cons (app_ob (f := (eI .u8)) (s := 1) h50 (fun _ => rfl)).2.2.1 (.cons (app_ob (f := (eI .u8)) (s := 1) h50 (fun _ => rfl)).2.2.2 .nil))))))) (G_cow_See_L1_ok hF ks n v_y112 v_r7 k (wi .i64 (v_x121 + 1)) v_a129 _ h q)
    · rw [if_neg h44] at h
      cases h
      exact pkk_sound TTok mix hF 8 (hs := [.t false]) (ts := []) (s := [1]) (l := [7]) (by kernel_rfl) (by kernel_rfl) (.cons (df h44) .nil) q
/- ringhall/cow.See -/
def G_cow_See (n : Nat) (v_r7 : S_cow_Room) (v_s8 : Int) : Option ((List Int) × Int) :=
  (G_cow_space n v_r7 v_s8).bind fun (v_r95 : (Int)) =>
  if v_r95 = 0 then
   (getI v_r7.fSpaces v_s8).bind fun (v_y112 : (List Int)) =>
   (G_cow_See_L1 n v_y112 v_r7 n 0 ([] : List Int)).bind fun v_o131 => match v_o131 with
   | .x0 v_z132 =>
     some (v_z132, 0)
  else
   some (([] : (List Int)), v_r95)
theorem G_cow_See_ok (n : Nat) (v_r7 : S_cow_Room) (v_s8 : Int) (r : (List Int) × Int) (h : G_cow_See n v_r7 v_s8 = some r) : Ret Try.prog 7 [eS_cow_Room v_r7, (eI .i64) v_s8] (.tup [(eL (eI .u8)) r.1, (eI .i64) r.2]) := by
  refine ret_run (n := 36) (fn := Try.f7) (c := bodyOf Try.f7) (by kernel_rfl) (by kernel_rfl) (by kernel_rfl) (by kernel_rfl) ?_
  have hF : KC 36 (FinR Try.prog Try.f7 (.tup [(eL (eI .u8)) r.1, (eI .i64) r.2])) := FinR.kc' (by kernel_rfl)
  unfold G_cow_See at h
  obtain ⟨v_r95, h40, h⟩ := bind_some h
  by_cases h42 : v_r95 = 0
  · rw [if_pos h42] at h
    obtain ⟨v_y112, h43, h⟩ := bind_some h
    obtain ⟨v_o131, h51, h⟩ := bind_some h
    refine pkk_sound TTok mix hF 16 (hs := [.c, .r ((eI .i64) v_r95), .t false, .c, .y ((eL (eI .i64)) v_y112), .c, .u (.d (.v (.int .i64 (v_y112.length : Int)))), .n n]) (ts := [(7, 5, 1)]) (s := [0, 85]) (l := [2, 7, 20, 21, 22]) (by kernel_rfl) (by kernel_rfl) (.cons (G_cow_space_ok n v_r7 v_s8 _ h40) (.cons (nf h42) (.cons (getI_ob (f := (eL (eI .i64))) h43) (.cons (len_ob (f := (eI .i64)) (l := v_y112)) .nil)))) (G_cow_See_L1_ok hF (.b 0 :: .s (cR (cR (cR (cR (bodyOf Try.f7))))) :: []) n v_y112 v_r7 n 0 ([] : List Int) _ h51 ?_)
    cases v_o131 with
    | x0 v_z132 =>
      try dsimp only at h
      obtain rfl := Option.some.inj h
      exact pend_sound TTok mix 4 (hs := []) (by kernel_rfl) (by kernel_rfl) (by kernel_rfl) .nil
  · rw [if_neg h42] at h
    obtain rfl := Option.some.inj h
    exact pend_sound TTok mix 12 (hs := [.c, .r ((eI .i64) v_r95), .t true]) (by kernel_rfl) (by kernel_rfl) (by kernel_rfl) (.cons (G_cow_space_ok n v_r7 v_s8 _ h40) (.cons (nt h42) .nil))
/- slices.Clone[[]byte,byte] -/
def G_slices_Clone_byte_byte_A (n : Nat) (v_c166 : Nat) : Option ((List Int)) :=
  some ([] : List Int)
theorem G_slices_Clone_byte_byte_A_ok (n : Nat) (v_c166 : Nat) (r : (List Int)) (h : G_slices_Clone_byte_byte_A n v_c166 = some r) : RetH Try.prog 94 [.d (.v (.slice none 0 v_c166))] [] (.srf 0) [.row 5 1 (r.map (eI .u8))] := by
  refine retH_run (n := 8) (fn := Try.f94) (c := bodyOf Try.f94) (by kernel_rfl) (by kernel_rfl) (by kernel_rfl) (by kernel_rfl) ?_
  have hF : KC 8 (FinH Try.prog Try.f94 [] (.srf 0) [.row 5 1 (r.map (eI .u8))]) := FinH.kc' (by kernel_rfl)
  unfold G_slices_Clone_byte_byte_A at h
  obtain rfl := Option.some.inj h
  exact pendH_sound TTok mix 11 (hs := [.c, .dl 4, .th 2 5 1]) [20] (by kernel_rfl) (by kernel_rfl) (by kernel_rfl) .nil
/- slices.Clone[[]byte,byte] -/
def G_slices_Clone_byte_byte_B (n : Nat) (v_a167 : Addr) (v_c168 : Nat) : Option ((List Int)) :=
  (app 1 ([] : List Int) ([] : (List Int))).bind fun (v_a169 : (List Int)) =>
  some v_a169
theorem G_slices_Clone_byte_byte_B_ok (n : Nat) (v_a167 : Addr) (v_c168 : Nat) (r : (List Int)) (h : G_slices_Clone_byte_byte_B n v_a167 v_c168 = some r) : RetH Try.prog 94 [.d (.v (.slice (some v_a167) 0 v_c168))] [] (.srf 0) [.row 5 1 (r.map (eI .u8))] := by
  refine retH_run (n := 8) (fn := Try.f94) (c := bodyOf Try.f94) (by kernel_rfl) (by kernel_rfl) (by kernel_rfl) (by kernel_rfl) ?_
  have hF : KC 8 (FinH Try.prog Try.f94 [] (.srf 0) [.row 5 1 (r.map (eI .u8))]) := FinH.kc' (by kernel_rfl)
  unfold G_slices_Clone_byte_byte_B at h
  obtain ⟨v_a169, h58, h⟩ := bind_some h
  obtain rfl := Option.some.inj h
  exact pendH_sound TTok mix 10 (hs := [.c, .w (([] : List Int).map (eI .u8)), .w (v_a169.map (eI .u8))]) [25] (by kernel_rfl) (by kernel_rfl) (by kernel_rfl) (.cons (Eq.refl (([] : List Int).map (eI .u8))) (.cons (app_ob (f := (eI .u8)) (s := 1) h58 (fun _ => rfl)).1 (.cons (app_ob (f := (eI .u8)) (s := 1) h58 (fun _ => rfl)).2.1 (.cons (app_ob (f := (eI .u8)) (s := 1) h58 (fun _ => rfl)).2.2.1 (.cons (app_ob (f := (eI .u8)) (s := 1) h58 (fun _ => rfl)).2.2.2 .nil)))))
/- slices.Clone[[]byte,byte] -/
def G_slices_Clone_byte_byte_C (n : Nat) (v_y170 : Int) (v_ys171 : (List Int)) : Option ((List Int)) :=
  (app 1 ([] : List Int) (v_y170 :: v_ys171)).bind fun (v_a172 : (List Int)) =>
  some v_a172
theorem G_slices_Clone_byte_byte_C_ok (n : Nat) (v_y170 : Int) (v_ys171 : (List Int)) (r : (List Int)) (h : G_slices_Clone_byte_byte_C n v_y170 v_ys171 = some r) : RetH Try.prog 94 [.d (.sl ((eI .u8) v_y170 :: v_ys171.map (eI .u8)))] [] (.srf 0) [.row 5 1 (r.map (eI .u8))] := by
  refine retH_run (n := 8) (fn := Try.f94) (c := bodyOf Try.f94) (by kernel_rfl) (by kernel_rfl) (by kernel_rfl) (by kernel_rfl) ?_
  have hF : KC 8 (FinH Try.prog Try.f94 [] (.srf 0) [.row 5 1 (r.map (eI .u8))]) := FinH.kc' (by kernel_rfl)
  unfold G_slices_Clone_byte_byte_C at h
  obtain ⟨v_a172, h59, h⟩ := bind_some h
  obtain rfl := Option.some.inj h
  exact pendH_sound TTok mix 10 (hs := [.c, .w (([] : List Int).map (eI .u8)), .w (v_a172.map (eI .u8))]) [25] (by kernel_rfl) (by kernel_rfl) (by kernel_rfl) (.cons (Eq.refl (([] : List Int).map (eI .u8))) (.cons (app_ob (f := (eI .u8)) (s := 1) h59 (fun _ => rfl)).1 (.cons (app_ob (f := (eI .u8)) (s := 1) h59 (fun _ => rfl)).2.1 (.cons (app_ob (f := (eI .u8)) (s := 1) h59 (fun _ => rfl)).2.2.1 (.cons (app_ob (f := (eI .u8)) (s := 1) h59 (fun _ => rfl)).2.2.2 .nil)))))
def G_slices_Clone_byte_byte (n : Nat) (xs : (List Int)) : Option (List Int) := app 1 [] xs
theorem G_slices_Clone_byte_byte_ok (n : Nat) (xs : (List Int)) (r : (List Int)) (h : G_slices_Clone_byte_byte n xs = some r) : RetH Try.prog 94 [.d (.sl (xs.map (eI .u8)))] [] (.srf 0) [.row 5 1 (r.map (eI .u8))] := by
  unfold G_slices_Clone_byte_byte at h
  have e : app 1 ([] : (List Int)) [] = some [] := by simp [app]
  cases xs with
  | nil =>
    rw [e] at h; obtain rfl := Option.some.inj h
    exact clone_nil (fun c => G_slices_Clone_byte_byte_A_ok n c _ (by unfold G_slices_Clone_byte_byte_A; rfl)) (fun a c => G_slices_Clone_byte_byte_B_ok n a c _ (by unfold G_slices_Clone_byte_byte_B; rw [e]; rfl))
  | cons y ys => exact G_slices_Clone_byte_byte_C_ok n y ys _ (by unfold G_slices_Clone_byte_byte_C; rw [h]; rfl)
/- slices.Clone[[][]int,[]int] -/
def G_slices_Clone_int_int_A (n : Nat) (v_c174 : Nat) : Option ((List (List Int))) :=
  some ([] : List (List Int))
theorem G_slices_Clone_int_int_A_ok (n : Nat) (v_c174 : Nat) (r : (List (List Int))) (h : G_slices_Clone_int_int_A n v_c174 = some r) : RetH Try.prog 95 [.d (.v (.slice none 0 v_c174))] [] (.srf 0) [.row 39 1 (r.map (eL (eI .i64)))] := by
  refine retH_run (n := 8) (fn := Try.f95) (c := bodyOf Try.f95) (by kernel_rfl) (by kernel_rfl) (by kernel_rfl) (by kernel_rfl) ?_
  have hF : KC 8 (FinH Try.prog Try.f95 [] (.srf 0) [.row 39 1 (r.map (eL (eI .i64)))]) := FinH.kc' (by kernel_rfl)
  unfold G_slices_Clone_int_int_A at h
  obtain rfl := Option.some.inj h
  exact pendH_sound TTok mix 11 (hs := [.c, .dl 4, .th 2 39 1]) [20] (by kernel_rfl) (by kernel_rfl) (by kernel_rfl) .nil
/- slices.Clone[[][]int,[]int] -/
def G_slices_Clone_int_int_B (n : Nat) (v_a175 : Addr) (v_c176 : Nat) : Option ((List (List Int))) :=
  (app 24 ([] : List (List Int)) ([] : (List (List Int)))).bind fun (v_a177 : (List (List Int))) =>
  some v_a177
theorem G_slices_Clone_int_int_B_ok (n : Nat) (v_a175 : Addr) (v_c176 : Nat) (r : (List (List Int))) (h : G_slices_Clone_int_int_B n v_a175 v_c176 = some r) : RetH Try.prog 95 [.d (.v (.slice (some v_a175) 0 v_c176))] [] (.srf 0) [.row 39 1 (r.map (eL (eI .i64)))] := by
  refine retH_run (n := 8) (fn := Try.f95) (c := bodyOf Try.f95) (by kernel_rfl) (by kernel_rfl) (by kernel_rfl) (by kernel_rfl) ?_
  have hF : KC 8 (FinH Try.prog Try.f95 [] (.srf 0) [.row 39 1 (r.map (eL (eI .i64)))]) := FinH.kc' (by kernel_rfl)
  unfold G_slices_Clone_int_int_B at h
  obtain ⟨v_a177, h61, h⟩ := bind_some h
  obtain rfl := Option.some.inj h
  exact pendH_sound TTok mix 10 (hs := [.c, .w (([] : List (List Int)).map (eL (eI .i64))), .w (v_a177.map (eL (eI .i64)))]) [25] (by kernel_rfl) (by kernel_rfl) (by kernel_rfl) (.cons (Eq.refl (([] : List (List Int)).map (eL (eI .i64)))) (.cons (app_ob (f := (eL (eI .i64))) (s := 1) h61 (fun _ => rfl)).1 (.cons (app_ob (f := (eL (eI .i64))) (s := 1) h61 (fun _ => rfl)).2.1 (.cons (app_ob (f := (eL (eI .i64))) (s := 1) h61 (fun _ => rfl)).2.2.1 (.cons (app_ob (f := (eL (eI .i64))) (s := 1) h61 (fun _ => rfl)).2.2.2 .nil)))))
/- slices.Clone[[][]int,[]int] -/
def G_slices_Clone_int_int_C (n : Nat) (v_y178 : (List Int)) (v_ys179 : (List (List Int))) : Option ((List (List Int))) :=
  (app 24 ([] : List (List Int)) (v_y178 :: v_ys179)).bind fun (v_a180 : (List (List Int))) =>
  some v_a180
theorem G_slices_Clone_int_int_C_ok (n : Nat) (v_y178 : (List Int)) (v_ys179 : (List (List Int))) (r : (List (List Int))) (h : G_slices_Clone_int_int_C n v_y178 v_ys179 = some r) : RetH Try.prog 95 [.d (.sl ((eL (eI .i64)) v_y178 :: v_ys179.map (eL (eI .i64))))] [] (.srf 0) [.row 39 1 (r.map (eL (eI .i64)))] := by
  refine retH_run (n := 8) (fn := Try.f95) (c := bodyOf Try.f95) (by kernel_rfl) (by kernel_rfl) (by kernel_rfl) (by kernel_rfl) ?_
  have hF : KC 8 (FinH Try.prog Try.f95 [] (.srf 0) [.row 39 1 (r.map (eL (eI .i64)))]) := FinH.kc' (by kernel_rfl)
  unfold G_slices_Clone_int_int_C at h
  obtain ⟨v_a180, h62, h⟩ := bind_some h
  obtain rfl := Option.some.inj h
  exact pendH_sound TTok mix 10 (hs := [.c, .w (([] : List (List Int)).map (eL (eI .i64))), .w (v_a180.map (eL (eI .i64)))]) [25] (by kernel_rfl) (by kernel_rfl) (by kernel_rfl) (.cons (Eq.refl (([] : List (List Int)).map (eL (eI .i64)))) (.cons (app_ob (f := (eL (eI .i64))) (s := 1) h62 (fun _ => rfl)).1 (.cons (app_ob (f := (eL (eI .i64))) (s := 1) h62 (fun _ => rfl)).2.1 (.cons (app_ob (f := (eL (eI .i64))) (s := 1) h62 (fun _ => rfl)).2.2.1 (.cons (app_ob (f := (eL (eI .i64))) (s := 1) h62 (fun _ => rfl)).2.2.2 .nil)))))
def G_slices_Clone_int_int (n : Nat) (xs : (List (List Int))) : Option (List (List Int)) := app 24 [] xs
theorem G_slices_Clone_int_int_ok (n : Nat) (xs : (List (List Int))) (r : (List (List Int))) (h : G_slices_Clone_int_int n xs = some r) : RetH Try.prog 95 [.d (.sl (xs.map (eL (eI .i64))))] [] (.srf 0) [.row 39 1 (r.map (eL (eI .i64)))] := by
  unfold G_slices_Clone_int_int at h
  have e : app 24 ([] : (List (List Int))) [] = some [] := by simp [app]
  cases xs with
  | nil =>
    rw [e] at h; obtain rfl := Option.some.inj h
    exact clone_nil (fun c => G_slices_Clone_int_int_A_ok n c _ (by unfold G_slices_Clone_int_int_A; rfl)) (fun a c => G_slices_Clone_int_int_B_ok n a c _ (by unfold G_slices_Clone_int_int_B; rw [e]; rfl))
  | cons y ys => exact G_slices_Clone_int_int_C_ok n y ys _ (by unfold G_slices_Clone_int_int_C; rw [h]; rfl)
/- slices.Clone[[]int,int] -/
def G_slices_Clone_int_int_b_A (n : Nat) (v_c186 : Nat) : Option ((List Int)) :=
  some ([] : List Int)
theorem G_slices_Clone_int_int_b_A_ok (n : Nat) (v_c186 : Nat) (r : (List Int)) (h : G_slices_Clone_int_int_b_A n v_c186 = some r) : RetH Try.prog 19 [.d (.v (.slice none 0 v_c186))] [] (.srf 0) [.row 3 1 (r.map (eI .i64))] := by
  refine retH_run (n := 8) (fn := Try.f19) (c := bodyOf Try.f19) (by kernel_rfl) (by kernel_rfl) (by kernel_rfl) (by kernel_rfl) ?_
  have hF : KC 8 (FinH Try.prog Try.f19 [] (.srf 0) [.row 3 1 (r.map (eI .i64))]) := FinH.kc' (by kernel_rfl)
  unfold G_slices_Clone_int_int_b_A at h
  obtain rfl := Option.some.inj h
  exact pendH_sound TTok mix 11 (hs := [.c, .dl 4, .th 2 3 1]) [20] (by kernel_rfl) (by kernel_rfl) (by kernel_rfl) .nil
/- slices.Clone[[]int,int] -/
def G_slices_Clone_int_int_b_B (n : Nat) (v_a187 : Addr) (v_c188 : Nat) : Option ((List Int)) :=
  (app 8 ([] : List Int) ([] : (List Int))).bind fun (v_a189 : (List Int)) =>
  some v_a189
theorem G_slices_Clone_int_int_b_B_ok (n : Nat) (v_a187 : Addr) (v_c188 : Nat) (r : (List Int)) (h : G_slices_Clone_int_int_b_B n v_a187 v_c188 = some r) : RetH Try.prog 19 [.d (.v (.slice (some v_a187) 0 v_c188))] [] (.srf 0) [.row 3 1 (r.map (eI .i64))] := by
  refine retH_run (n := 8) (fn := Try.f19) (c := bodyOf Try.f19) (by kernel_rfl) (by kernel_rfl) (by kernel_rfl) (by kernel_rfl) ?_
  have hF : KC 8 (FinH Try.prog Try.f19 [] (.srf 0) [.row 3 1 (r.map (eI .i64))]) := FinH.kc' (by kernel_rfl)
  unfold G_slices_Clone_int_int_b_B at h
  obtain ⟨v_a189, h67, h⟩ := bind_some h
  obtain rfl := Option.some.inj h
  exact pendH_sound TTok mix 10 (hs := [.c, .w (([] : List Int).map (eI .i64)), .w (v_a189.map (eI .i64))]) [25] (by kernel_rfl) (by kernel_rfl) (by kernel_rfl) (.cons (Eq.refl (([] : List Int).map (eI .i64))) (.cons (app_ob (f := (eI .i64)) (s := 1) h67 (fun _ => rfl)).1 (.cons (app_ob (f := (eI .i64)) (s := 1) h67 (fun _ => rfl)).2.1 (.cons (app_ob (f := (eI .i64)) (s := 1) h67 (fun _ => rfl)).2.2.1 (.cons (app_ob (f := (eI .i64)) (s := 1) h67 (fun _ => rfl)).2.2.2 .nil)))))
/- slices.Clone[[]int,int] -/
def G_slices_Clone_int_int_b_C (n : Nat) (v_y190 : Int) (v_ys191 : (List Int)) : Option ((List Int)) :=
  (app 8 ([] : List Int) (v_y190 :: v_ys191)).bind fun (v_a192 : (List Int)) =>
  some v_a192
theorem G_slices_Clone_int_int_b_C_ok (n : Nat) (v_y190 : Int) (v_ys191 : (List Int)) (r : (List Int)) (h : G_slices_Clone_int_int_b_C n v_y190 v_ys191 = some r) : RetH Try.prog 19 [.d (.sl ((eI .i64) v_y190 :: v_ys191.map (eI .i64)))] [] (.srf 0) [.row 3 1 (r.map (eI .i64))] := by
  refine retH_run (n := 8) (fn := Try.f19) (c := bodyOf Try.f19) (by kernel_rfl) (by kernel_rfl) (by kernel_rfl) (by kernel_rfl) ?_
  have hF : KC 8 (FinH Try.prog Try.f19 [] (.srf 0) [.row 3 1 (r.map (eI .i64))]) := FinH.kc' (by kernel_rfl)
  unfold G_slices_Clone_int_int_b_C at h
  obtain ⟨v_a192, h68, h⟩ := bind_some h
  obtain rfl := Option.some.inj h
  exact pendH_sound TTok mix 10 (hs := [.c, .w (([] : List Int).map (eI .i64)), .w (v_a192.map (eI .i64))]) [25] (by kernel_rfl) (by kernel_rfl) (by kernel_rfl) (.cons (Eq.refl (([] : List Int).map (eI .i64))) (.cons (app_ob (f := (eI .i64)) (s := 1) h68 (fun _ => rfl)).1 (.cons (app_ob (f := (eI .i64)) (s := 1) h68 (fun _ => rfl)).2.1 (.cons (app_ob (f := (eI .i64)) (s := 1) h68 (fun _ => rfl)).2.2.1 (.cons (app_ob (f := (eI .i64)) (s := 1) h68 (fun _ => rfl)).2.2.2 .nil)))))
def G_slices_Clone_int_int_b (n : Nat) (xs : (List Int)) : Option (List Int) := app 8 [] xs
theorem G_slices_Clone_int_int_b_ok (n : Nat) (xs : (List Int)) (r : (List Int)) (h : G_slices_Clone_int_int_b n xs = some r) : RetH Try.prog 19 [.d (.sl (xs.map (eI .i64)))] [] (.srf 0) [.row 3 1 (r.map (eI .i64))] := by
  unfold G_slices_Clone_int_int_b at h
  have e : app 8 ([] : (List Int)) [] = some [] := by simp [app]
  cases xs with
  | nil =>
    rw [e] at h; obtain rfl := Option.some.inj h
    exact clone_nil (fun c => G_slices_Clone_int_int_b_A_ok n c _ (by unfold G_slices_Clone_int_int_b_A; rfl)) (fun a c => G_slices_Clone_int_int_b_B_ok n a c _ (by unfold G_slices_Clone_int_int_b_B; rw [e]; rfl))
  | cons y ys => exact G_slices_Clone_int_int_b_C_ok n y ys _ (by unfold G_slices_Clone_int_int_b_C; rw [h]; rfl)
theorem G_slices_Clone_int_int_b_okD (n : Nat) (xs : (List Int)) (r : (List Int)) (h : G_slices_Clone_int_int_b n xs = some r) : Ret Try.prog 19 [.sl (xs.map (eI .i64))] (eL (eI .i64) r) := Ret.of_H (args := [.sl (xs.map (eI .i64))]) (G_slices_Clone_int_int_b_ok n xs r h)
inductive G_cow_copied_h_L1_R where
  | x0 (v_w202 : (List Int)) (v_w203 : (List (List Int)))
def G_cow_copied_h_L1_ex : G_cow_copied_h_L1_R → Ex
  | .x0 _ _ => .exit 0
def G_cow_copied_h_L1_st (v_r181 : ((List (List Int)))) : G_cow_copied_h_L1_R → PS
  | .x0 v_w202 v_w203 => ⟨(dd :: .ref 0 0 :: .ref 4 0 :: (dds 26 [])), [.box [.srf 1, .srf 2], .row 5 1 (v_w202.map (eI .u8)), .cu (outC 39 1 nq_List_Int [none, none] (v_w203.map (eL (eI .i64)))) [.srf 3, .d (.v noB), .d (.v noB)], .cu (bagC nct_List_Int nq_List_Int (v_w203.map (eL (eI .i64)))) [], .box [.d (vnil), .d (vnil)]]⟩
def G_cow_copied_h_L1_hd (v_r181 : ((List (List Int)))) (v_x195 : Int) (v_w196 : (List Int)) (v_w197 : (List (List Int))) : PS := ⟨(dd :: .ref 0 0 :: .ref 4 0 :: (dds 11 (.srf 2 :: .d (.v (.int .i64 (v_r181.length : Int))) :: .d (.v (.int .i64 v_x195)) :: (dds 12 [])))), [.box [.srf 1, .srf 2], .row 5 1 (v_w196.map (eI .u8)), .cu (outC 39 1 (qpre nq_List_Int (((v_x195).toNat) * 1)) [none, none] (v_w197.map (eL (eI .i64)))) [.srf 3, .d (.v noB), .d (.v noB)], .cu (bagC nct_List_Int (qpre nq_List_Int (((v_x195).toNat) * 1)) (v_w197.map (eL (eI .i64)))) [], .box [.d (vnil), .d (vnil)]]⟩
def G_cow_copied_h_L1 (n : Nat) (v_r181 : ((List (List Int)))) : Nat → Int → (List Int) → (List (List Int)) → Option G_cow_copied_h_L1_R
  | 0, _, _, _ => none
  | k + 1, v_x195, v_w196, v_w197 =>
    if v_x195 < (v_r181.length : Int) then
     if 0 ≤ v_x195 ∧ (v_x195).toNat < v_w197.length then
      (v_w197[(v_x195).toNat]?).bind fun (v_y199 : (List Int)) =>
      (G_slices_Clone_int_int_b n v_y199).bind fun (v_r200 : ((List Int))) =>
      if 0 ≤ v_x195 ∧ (v_x195).toNat < v_w197.length then
       if (v_x195).toNat < v_w197.length then
        (v_w197[(v_x195).toNat]?).bind fun (v_y201 : (List Int)) =>
        if ((wi .i64 (v_x195 + 1))).toNat = (v_x195).toNat + 1 then
         G_cow_copied_h_L1 n v_r181 k (wi .i64 (v_x195 + 1)) v_w196 (v_w197.set ((v_x195).toNat) v_r200)
        else none
       else none
      else none
     else none
    else
     if v_w197.length ≤ (v_x195).toNat then
      some (.x0 v_w196 v_w197)
     else none
theorem G_cow_copied_h_L1_ok {Fi : Ex → PS → Prop} (hF : KC 29 Fi) (ks : List Fr) (n : Nat) (v_r181 : ((List (List Int))))  : ∀ (k : Nat) (v_x195 : Int) (v_w196 : (List Int)) (v_w197 : (List (List Int))) (o : G_cow_copied_h_L1_R), G_cow_copied_h_L1 n v_r181 k v_x195 v_w196 v_w197 = some o → RunE Try.prog 29 Fi ks (G_cow_copied_h_L1_ex o) (G_cow_copied_h_L1_st v_r181 o) → RunE Try.prog 29 Fi (.l k (cP (cB (cR (cL (cR (cR (bodyOf Try.f61))))))) :: ks) .normal (G_cow_copied_h_L1_hd v_r181 v_x195 v_w196 v_w197)
  | 0, v_x195, v_w196, v_w197, o, h, q => by rw [G_cow_copied_h_L1] at h; cases h
  | k + 1, v_x195, v_w196, v_w197, o, h, q => by
    rw [G_cow_copied_h_L1] at h
    by_cases h74 : v_x195 < (v_r181.length : Int)
    · rw [if_pos h74] at h
      by_cases h75 : 0 ≤ v_x195 ∧ (v_x195).toNat < v_w197.length
      · rw [if_pos h75] at h
        obtain ⟨v_y199, h76, h⟩ := bind_some h
        obtain ⟨v_r200, h77, h⟩ := bind_some h
        by_cases h78 : 0 ≤ v_x195 ∧ (v_x195).toNat < v_w197.length
        · rw [if_pos h78] at h
          by_cases h79 : (v_x195).toNat < v_w197.length
          · rw [if_pos h79] at h
            obtain ⟨v_y201, h80, h⟩ := bind_some h
            by_cases h81 : ((wi .i64 (v_x195 + 1))).toNat = (v_x195).toNat + 1
            · rw [if_pos h81] at h
              exact pkk_sound TTok mix hF 15 (hs := [.t true, .e 15 [2] (.ept 2 1 ((v_x195).toNat) 0) [], .e 20 [2] (.d (.sl (v_y199.map (eI .i64)))) [], .c, .h [] [] [.row 3 1 (v_r200.map (eI .i64))] (.srf 0), .e 60 [2] (.ept 2 1 ((v_x195).toNat) 0) [], .e 65 [2] (dd) [(2, .cu (outC 39 1 (qpre nq_List_Int (((v_x195).toNat) * 1)) [some (((v_x195).toNat) * 1 + 0), none] (v_w197.map (eL (eI .i64)))) [.srf 3, .srf 55, .d (.v noB)])], .dl 2, .sx [2, 3, 55] (nClose 2 3 55 39 1 nct_List_Int (plus (qpre nq_List_Int (((v_x195).toNat) * 1)) (((v_x195).toNat) * 1 + 0)) [none, none] ((v_w197.set ((v_x195).toNat) v_r200).map (eL (eI .i64))) [.srf 3, .srf 55, .d (.v noB)] 0), .sx [2, 80] (nSame 2 80 39 1 nct_List_Int (qpre nq_List_Int ((((wi .i64 (v_x195 + 1))).toNat) * 1)) [none, none] ((v_w197.set ((v_x195).toNat) v_r200).map (eL (eI .i64))) [.srf 80, .d (.v noB), .d (.v noB)])]) (ts := []) (s := [0, 1, 2, 80, 4]) (l := [1, 2, 14, 15, 16]) (by kernel_rfl) (by kernel_rfl) (.cons (dt h74) (.cons (nidx (P := Try.prog) (T := TT) (t := 23) (l := 2) (ty := 39) (sz := 1) (q := (qpre nq_List_Int (((v_x195).toNat) * 1))) (hs := [none, none]) (xs := (v_w197.map (eL (eI .i64)))) (fs := [.srf 3, .d (.v noB), .d (.v noB)]) (x := (.tmp 14)) (i := (.tmp 16)) (ik := .i64) (j := v_x195) (by kernel_rfl) h75.1 (by rw [List.length_map]; exact h75.2)) (.cons (nload (P := Try.prog) (T := TT) (t := 39) (l := 2) (ty := 39) (sz := 1) (i := (v_x195).toNat) (off := 0) (q := (qpre nq_List_Int (((v_x195).toNat) * 1))) (hs := [none, none]) (xs := (v_w197.map (eL (eI .i64)))) (fs := [.srf 3, .d (.v noB), .d (.v noB)]) (x := (.tmp 19)) (y := ((eL (eI .i64)) v_y199)) (p := (.sl (v_y199.map (eI .i64)))) (by kernel_rfl) (all_fits (fun _ => rfl)) (get_ob (f := (eL (eI .i64))) h76) rfl (by rw [Bool.eq_false_iff, ne_eq]; simp only [nq_List_Int, minus, plus, qpre, Bool.and_eq_true, Bool.or_eq_true, Bool.not_eq_true', decide_eq_true_eq, decide_eq_false_iff_not, and_true, and_false, true_and, false_and, or_true, or_false, true_or, false_or, not_true_eq_false, not_false_eq_true] <;> omega) (by intro j h; rcases j with _ | _ | j <;> simp at h <;> omega)) (.cons (G_slices_Clone_int_int_b_ok n v_y199 _ h77) (.cons (nidx (P := Try.prog) (T := TT) (t := 23) (l := 2) (ty := 39) (sz := 1) (q := (qpre nq_List_Int (((v_x195).toNat) * 1))) (hs := [none, none]) (xs := (v_w197.map (eL (eI .i64)))) (fs := [.srf 3, .d (.v noB), .d (.v noB)]) (x := (.tmp 22)) (i := (.tmp 23)) (ik := .i64) (j := v_x195) (by kernel_rfl) h78.1 (by rw [List.length_map]; exact h78.2)) (.cons (nput (P := Try.prog) (T := TT) (t := 39) (l := 2) (L := 55) (ty := 39) (sz := 1) (i := (v_x195).toNat) (off := 0) (j := 0) (q := (qpre nq_List_Int (((v_x195).toNat) * 1))) (hs := [none, none]) (xs := (v_w197.map (eL (eI .i64)))) (fs := [.srf 3, .d (.v noB), .d (.v noB)]) (x := (.tmp 26)) (z := (.tmp 25)) (by kernel_rfl) (by rw [List.length_map]; exact h79) (by decide) (all_fits (fun _ => rfl)) (by rw [Bool.eq_false_iff, ne_eq]; simp only [nq_List_Int, minus, plus, qpre, Bool.and_eq_true, Bool.or_eq_true, Bool.not_eq_true', decide_eq_true_eq, decide_eq_false_iff_not, and_true, and_false, true_and, false_and, or_true, or_false, true_or, false_or, not_true_eq_false, not_false_eq_true] <;> omega) (.inl rfl) (by intro j' hj' h; rcases j' with _ | _ | j' <;> simp at h hj' <;> omega) ⟨_, rfl⟩ (by decide)) (.cons (nclose' (l := 2) (B := 3) (L := 55) (ty := 39) (sz := 1) (i := (v_x195).toNat) (off := 0) (j := 0) (e := 3) (s := 1) (ct := nct_List_Int) (q := (qpre nq_List_Int (((v_x195).toNat) * 1))) (q' := (plus (qpre nq_List_Int (((v_x195).toNat) * 1)) (((v_x195).toNat) * 1 + 0))) (hs := [some (((v_x195).toNat) * 1 + 0), none]) (xs := (v_w197.map (eL (eI .i64)))) (ys := (v_r200.map (eI .i64))) (fs := [.srf 3, .srf 55, .d (.v noB)]) (y := ((eL (eI .i64)) v_y201)) (y' := (.sl (v_r200.map (eI .i64)))) (set_ob (f := (eL (eI .i64))) (l := v_w197) (k := (v_x195).toNat) (z := v_r200) (p := .sl (v_r200.map (eI .i64))) rfl) (by decide) (by decide) (by decide) (all_fits (fun _ => rfl)) (get_ob (f := (eL (eI .i64))) h80) (by decide) rfl rfl (by rw [Bool.eq_false_iff, ne_eq]; simp only [nq_List_Int, minus, plus, qpre, Bool.and_eq_true, Bool.or_eq_true, Bool.not_eq_true', decide_eq_true_eq, decide_eq_false_iff_not, and_true, and_false, true_and, false_and, or_true, or_false, true_or, false_or, not_true_eq_false, not_false_eq_true] <;> omega) rfl (by intro j' hj' h; rcases j' with _ | _ | j' <;> simp at h hj' <;> omega) rfl rfl rfl (by intro k hk; rw [Bool.eq_iff_iff]; simp only [nq_List_Int, minus, plus, qpre, Bool.and_eq_true, Bool.or_eq_true, Bool.not_eq_true', decide_eq_true_eq, decide_eq_false_iff_not, and_true, and_false, true_and, false_and, or_true, or_false, true_or, false_or, not_true_eq_false, not_false_eq_true] <;> omega)) (.cons (nsame (l := 2) (B := 80) (ty := 39) (sz := 1) (ct := nct_List_Int) (q := (plus (qpre nq_List_Int (((v_x195).toNat) * 1)) (((v_x195).toNat) * 1 + 0))) (q' := (qpre nq_List_Int ((((wi .i64 (v_x195 + 1))).toNat) * 1))) (hs := [none, none]) (xs := ((v_w197.set ((v_x195).toNat) v_r200).map (eL (eI .i64)))) (fs := [.srf 80, .d (.v noB), .d (.v noB)]) (by decide) (all_fits (fun _ => rfl)) (by intro k hk; have hg := h81; rw [Bool.eq_iff_iff]; simp only [nq_List_Int, minus, plus, qpre, Bool.and_eq_true, Bool.or_eq_true, Bool.not_eq_true', decide_eq_true_eq, decide_eq_false_iff_not, and_true, and_false, true_and, false_and, or_true, or_false, true_or, false_or, not_true_eq_false, not_false_eq_true] <;> omega)) .nil)))))))) (G_cow_copied_h_L1_ok hF ks n v_r181 k (wi .i64 (v_x195 + 1)) v_w196 (v_w197.set ((v_x195).toNat) v_r200) _ h q)
            · rw [if_neg h81] at h; cases h
          · rw [if_neg h79] at h; cases h
        · rw [if_neg h78] at h; cases h
      · rw [if_neg h75] at h; cases h
    · rw [if_neg h74] at h
      by_cases h82 : v_w197.length ≤ (v_x195).toNat
      · rw [if_pos h82] at h
        cases h
        exact pkk_sound TTok mix hF 9 (hs := [.t false, .dl 3, .sx [2, 3] (nSame 2 3 39 1 nct_List_Int nq_List_Int [none, none] (v_w197.map (eL (eI .i64))) [.srf 3, .d (.v noB), .d (.v noB)])]) (ts := []) (s := [0, 1, 2, 3, 4]) (l := [1, 2]) (by kernel_rfl) (by kernel_rfl) (.cons (df h74) (.cons (nsame (l := 2) (B := 3) (ty := 39) (sz := 1) (ct := nct_List_Int) (q := (qpre nq_List_Int (((v_x195).toNat) * 1))) (q' := nq_List_Int) (hs := [none, none]) (xs := (v_w197.map (eL (eI .i64)))) (fs := [.srf 3, .d (.v noB), .d (.v noB)]) (by decide) (all_fits (fun _ => rfl)) (by intro k hk; rw [List.length_map] at hk; have hg := h82; rw [Bool.eq_iff_iff]; simp only [nq_List_Int, minus, plus, qpre, Bool.and_eq_true, Bool.or_eq_true, Bool.not_eq_true', decide_eq_true_eq, decide_eq_false_iff_not, and_true, and_false, true_and, false_and, or_true, or_false, true_or, false_or, not_true_eq_false, not_false_eq_true] <;> omega)) .nil)) q
      · rw [if_neg h82] at h; cases h
/- ringhall/cow.copied -/
def G_cow_copied_h (n : Nat) (v_r165 : S_cow_Room) : Option (S_cow_Room) :=
  (G_slices_Clone_byte_byte n v_r165.fCells).bind fun (v_r173 : ((List Int))) =>
  (G_slices_Clone_int_int n v_r165.fSpaces).bind fun (v_r181 : ((List (List Int)))) =>
  (G_cow_copied_h_L1 n v_r181 n 0 v_r173 v_r181).bind fun v_o204 => match v_o204 with
  | .x0 v_z205 v_z206 =>
    some (S_cow_Room.mk v_z205 v_z206)
theorem G_cow_copied_h_ok (n : Nat) (v_r165 : S_cow_Room) (r : S_cow_Room) (h : G_cow_copied_h n v_r165 = some r) : RetH Try.prog 61 [.d (eS_cow_Room v_r165)] [] (.agg [.srf 0, .srf 1]) [.row 5 1 (r.fCells.map (eI .u8)), .cu (outC 39 1 nq_List_Int [none, none] (r.fSpaces.map (eL (eI .i64)))) [.srf 2, .d (.v noB), .d (.v noB)], .cu (bagC nct_List_Int nq_List_Int (r.fSpaces.map (eL (eI .i64)))) []] := by
  refine retH_run (n := 29) (fn := Try.f61) (c := bodyOf Try.f61) (by kernel_rfl) (by kernel_rfl) (by kernel_rfl) (by kernel_rfl) ?_
  have hF : KC 29 (FinH Try.prog Try.f61 [] (.agg [.srf 0, .srf 1]) [.row 5 1 (r.fCells.map (eI .u8)), .cu (outC 39 1 nq_List_Int [none, none] (r.fSpaces.map (eL (eI .i64)))) [.srf 2, .d (.v noB), .d (.v noB)], .cu (bagC nct_List_Int nq_List_Int (r.fSpaces.map (eL (eI .i64)))) []]) := FinH.kc' (by kernel_rfl)
  unfold G_cow_copied_h at h
  obtain ⟨v_r173, h60, h⟩ := bind_some h
  obtain ⟨v_r181, h63, h⟩ := bind_some h
  obtain ⟨v_o204, h83, h⟩ := bind_some h
  refine pkk_sound TTok mix hF 10 (hs := [.c, .h [] [] [.row 5 1 (v_r173.map (eI .u8))] (.srf 0), .c, .h [] [] [.row 39 1 (v_r181.map (eL (eI .i64)))] (.srf 0), .c, .c, .c, .u (.d (.v (.int .i64 (v_r181.length : Int)))), .dl 1, .sx [35] (nThaw 35 39 1 nct_List_Int (qpre nq_List_Int (0 * 1)) [none, none] (v_r181.map (eL (eI .i64)))), .n n]) (ts := []) (s := [0, 20, 35, 80, 5]) (l := [1, 2, 14, 15, 16]) (by kernel_rfl) (by kernel_rfl) (.cons (G_slices_Clone_byte_byte_ok n v_r165.fCells _ h60) (.cons (G_slices_Clone_int_int_ok n v_r165.fSpaces _ h63) (.cons (show 0 + 1 ≤ 2 by decide) (.cons (show 1 + 1 ≤ 2 by decide) (.cons (len_ob (f := (eL (eI .i64))) (l := v_r181)) (.cons (nthaw (l := 35) (ty := 39) (sz := 1) (ct := nct_List_Int) (q := (qpre nq_List_Int (0 * 1))) (hs := [none, none]) (xs := (v_r181.map (eL (eI .i64)))) (all_fits (fun _ => rfl)) (by intro j k h; rcases j with _ | _ | j <;> simp at h) (by intro k hk; rw [Bool.eq_false_iff, ne_eq]; simp only [nq_List_Int, minus, plus, qpre, Bool.and_eq_true, Bool.or_eq_true, Bool.not_eq_true', decide_eq_true_eq, decide_eq_false_iff_not, and_true, and_false, true_and, false_and, or_true, or_false, true_or, false_or, not_true_eq_false, not_false_eq_true] <;> omega)) .nil)))))) (G_cow_copied_h_L1_ok hF (.b 0 :: .s (cR (cR (cR (bodyOf Try.f61)))) :: []) n v_r181 n 0 v_r173 v_r181 _ h83 ?_)
  cases v_o204 with
  | x0 v_z205 v_z206 =>
    try dsimp only at h
    obtain rfl := Option.some.inj h
    exact pendH_sound TTok mix 4 (hs := [.c, .c]) [1, 2, 3] (by kernel_rfl) (by kernel_rfl) (by kernel_rfl) (.cons (show 0 + 2 ≤ 2 by decide) .nil)
/- ringhall/cow.Fork -/
def G_cow_Fork (n : Nat) (v_r140 : S_cow_Room) (v_s141 : Int) : Option (S_cow_Room × Int) :=
  (G_cow_space n v_r140 v_s141).bind fun (v_r145 : (Int)) =>
  if v_r145 = 0 then
   if (v_r140.fSpaces.length : Int) = 8 then
    some ((S_cow_Room.mk ([] : (List Int)) ([] : (List (List Int)))), 6)
   else
    (G_cow_copied_h n v_r140).bind fun (v_r207 : (S_cow_Room)) =>
    (v_r207.fSpaces[(v_s141).toNat]?).bind fun (v_y210 : (List Int)) =>
    if 0 ≤ v_s141 ∧ (v_s141).toNat < v_r207.fSpaces.length then
     (v_r207.fSpaces[(v_s141).toNat]?).bind fun (v_y214 : (List Int)) =>
     (G_slices_Clone_int_int_b n v_y214).bind fun (v_r215 : ((List Int))) =>
     (app 24 v_r207.fSpaces ([v_r215])).bind fun (v_a216 : (List (List Int))) =>
     some ((S_cow_Room.mk v_r207.fCells v_a216), 0)
    else none
  else
   some ((S_cow_Room.mk ([] : (List Int)) ([] : (List (List Int)))), v_r145)
theorem G_cow_Fork_ok (n : Nat) (v_r140 : S_cow_Room) (v_s141 : Int) (r : S_cow_Room × Int) (h : G_cow_Fork n v_r140 v_s141 = some r) : Ret Try.prog 8 [eS_cow_Room v_r140, (eI .i64) v_s141] (.tup [eS_cow_Room r.1, (eI .i64) r.2]) := by
  refine ret_run (n := 33) (fn := Try.f8) (c := bodyOf Try.f8) (by kernel_rfl) (by kernel_rfl) (by kernel_rfl) (by kernel_rfl) ?_
  have hF : KC 33 (FinR Try.prog Try.f8 (.tup [eS_cow_Room r.1, (eI .i64) r.2])) := FinR.kc' (by kernel_rfl)
  unfold G_cow_Fork at h
  obtain ⟨v_r145, h53, h⟩ := bind_some h
  by_cases h55 : v_r145 = 0
  · rw [if_pos h55] at h
    by_cases h57 : (v_r140.fSpaces.length : Int) = 8
    · rw [if_pos h57] at h
      obtain rfl := Option.some.inj h
      exact pend_sound TTok mix 17 (hs := [.c, .r ((eI .i64) v_r145), .t false, .c, .u (.d (.v (.int .i64 (v_r140.fSpaces.length : Int)))), .t true, .c]) (by kernel_rfl) (by kernel_rfl) (by kernel_rfl) (.cons (G_cow_space_ok n v_r140 v_s141 _ h53) (.cons (nf h55) (.cons (len_ob (f := (eL (eI .i64))) (l := v_r140.fSpaces)) (.cons (bt h57) (.cons (show 0 + 2 ≤ 2 by decide) .nil)))))
    · rw [if_neg h57] at h
      obtain ⟨v_r207, h84, h⟩ := bind_some h
      obtain ⟨v_y210, h86, h⟩ := bind_some h
      by_cases h89 : 0 ≤ v_s141 ∧ (v_s141).toNat < v_r207.fSpaces.length
      · rw [if_pos h89] at h
        obtain ⟨v_y214, h90, h⟩ := bind_some h
        obtain ⟨v_r215, h91, h⟩ := bind_some h
        obtain ⟨v_a216, h92, h⟩ := bind_some h
        obtain rfl := Option.some.inj h
        exact pend_sound TTok mix 24 (hs := [.c, .r ((eI .i64) v_r145), .t false, .c, .u (.d (.v (.int .i64 (v_r140.fSpaces.length : Int)))), .t false, .c, .h [] [] [.row 5 1 (v_r207.fCells.map (eI .u8)), .cu (outC 39 1 nq_List_Int [none, none] (v_r207.fSpaces.map (eL (eI .i64)))) [.srf 2, .d (.v noB), .d (.v noB)], .cu (bagC nct_List_Int nq_List_Int (v_r207.fSpaces.map (eL (eI .i64)))) []] (.agg [.srf 0, .srf 1]), .c, .dl 1, .sx [71, 72] (nTakeS 71 72 39 1 (((v_s141).toNat) * 1 + 0) 0 3 1 nct_List_Int nq_List_Int [none, none] (v_r207.fSpaces.map (eL (eI .i64))) (v_y210.map (eI .i64)) [.srf 72, .d (.v noB), .d (.v noB)]), .sx [71, 81, 80] (nClose 71 81 80 39 1 nct_List_Int nq_List_Int [none, none] (v_r207.fSpaces.map (eL (eI .i64))) [.srf 81, .srf 80, .d (.v noB)] 0), .sx [71, 82] (nFrz 71 82 39 1 (v_r207.fSpaces.map (eL (eI .i64)))), .c, .c, .y ((eL (eI .i64)) v_y214), .r ((eL (eI .i64)) v_r215), .bd, .w (v_a216.map (eL (eI .i64))), .c, .c, .c]) (by kernel_rfl) (by kernel_rfl) (by kernel_rfl) (.cons (G_cow_space_ok n v_r140 v_s141 _ h53) (.cons (nf h55) (.cons (len_ob (f := (eL (eI .i64))) (l := v_r140.fSpaces)) (.cons (bf h57) (.cons (G_cow_copied_h_ok n v_r140 _ h84) (.cons (show 0 + 2 ≤ 2 by decide) (.cons (ntakeS (l := 71) (B := 72) (ty := 39) (sz := 1) (i := (v_s141).toNat) (off := 0) (j := 0) (e := 3) (s := 1) (ct := nct_List_Int) (q := nq_List_Int) (hs := [none, none]) (xs := (v_r207.fSpaces.map (eL (eI .i64)))) (ys := (v_y210.map (eI .i64))) (fs := [.srf 72, .d (.v noB), .d (.v noB)]) (y := ((eL (eI .i64)) v_y210)) (all_fits (fun _ => rfl)) (get_ob (f := (eL (eI .i64))) h86) rfl (by simp only [nq_List_Int, minus, plus, qpre, Bool.and_eq_true, Bool.or_eq_true, Bool.not_eq_true', decide_eq_true_eq, decide_eq_false_iff_not, and_true, and_false, true_and, false_and, or_true, or_false, true_or, false_or, not_true_eq_false, not_false_eq_true] <;> omega) rfl rfl (by decide) rfl (by decide)) (.cons (nclose_same (l := 71) (B := 81) (L := 80) (ty := 39) (sz := 1) (i := (v_s141).toNat) (off := 0) (j := 0) (e := 3) (s := 1) (ct := nct_List_Int) (q := (minus nq_List_Int (((v_s141).toNat) * 1 + 0))) (q' := nq_List_Int) (hs := [some (((v_s141).toNat) * 1 + 0), none]) (xs := (v_r207.fSpaces.map (eL (eI .i64)))) (ys := (v_y210.map (eI .i64))) (fs := [.srf 81, .srf 80, .d (.v noB)]) (y := ((eL (eI .i64)) v_y210)) (by decide) (by decide) (by decide) (all_fits (fun _ => rfl)) (get_ob (f := (eL (eI .i64))) h86) (by decide) rfl (by rw [Bool.eq_false_iff, ne_eq]; simp only [nq_List_Int, minus, plus, qpre, Bool.and_eq_true, Bool.or_eq_true, Bool.not_eq_true', decide_eq_true_eq, decide_eq_false_iff_not, and_true, and_false, true_and, false_and, or_true, or_false, true_or, false_or, not_true_eq_false, not_false_eq_true] <;> omega) rfl (by intro j' hj' h; rcases j' with _ | _ | j' <;> simp at h hj' <;> omega) rfl rfl rfl (by intro k hk; rw [Bool.eq_iff_iff]; simp only [nq_List_Int, minus, plus, qpre, Bool.and_eq_true, Bool.or_eq_true, Bool.not_eq_true', decide_eq_true_eq, decide_eq_false_iff_not, and_true, and_false, true_and, false_and, or_true, or_false, true_or, false_or, not_true_eq_false, not_false_eq_true] <;> omega)) (.cons (nfrz (l := 71) (B := 82) (ty := 39) (sz := 1) (ct := nct_List_Int) (q := nq_List_Int) (hs := [none, none]) (xs := (v_r207.fSpaces.map (eL (eI .i64)))) (fs := [.srf 82, .d (.v noB), .d (.v noB)]) (by decide) (all_fits (fun _ => rfl)) (by intro j k h; rcases j with _ | _ | j <;> simp at h) rfl) (.cons (idx_ob (f := (eL (eI .i64))) h89) (.cons (get_ob (f := (eL (eI .i64))) h90) (.cons (G_slices_Clone_int_int_b_okD n v_y214 _ h91) (.cons (app_ob (f := (eL (eI .i64))) (s := 1) h92 (fun _ => rfl)).1 (.cons (app_ob (f := (eL (eI .i64))) (s := 1) h92 (fun _ => rfl)).2.1 (.cons (app_ob (f := (eL (eI .i64))) (s := 1) h92 (fun _ => rfl)).2.2.1 (.cons (app_ob (f := (eL (eI .i64))) (s := 1) h92 (fun _ => rfl)).2.2.2 (.cons (show 1 + 1 ≤ 2 by decide) (.cons (show 0 + 2 ≤ 2 by decide) .nil))))))))))))))))))
      · rw [if_neg h89] at h; cases h
  · rw [if_neg h55] at h
    obtain rfl := Option.some.inj h
    exact pend_sound TTok mix 12 (hs := [.c, .r ((eI .i64) v_r145), .t true, .c]) (by kernel_rfl) (by kernel_rfl) (by kernel_rfl) (.cons (G_cow_space_ok n v_r140 v_s141 _ h53) (.cons (nt h55) (.cons (show 0 + 2 ≤ 2 by decide) .nil)))
/- ringhall/cow.More -/
def G_cow_More (n : Nat) (v_r228 : S_cow_Room) (v_s229 : Int) (v_b230 : Int) : Option (S_cow_Room × Int) :=
  (G_cow_space n v_r228 v_s229).bind fun (v_r233 : (Int)) =>
  if v_r233 = 0 then
   (getI v_r228.fSpaces v_s229).bind fun (v_y253 : (List Int)) =>
   if (v_y253.length : Int) = 8 then
    some ((S_cow_Room.mk ([] : (List Int)) ([] : (List (List Int)))), 6)
   else
    (G_cow_copied_h n v_r228).bind fun (v_r260 : (S_cow_Room)) =>
    (v_r260.fSpaces[(v_s229).toNat]?).bind fun (v_y263 : (List Int)) =>
    if 0 ≤ v_s229 ∧ (v_s229).toNat < v_r260.fSpaces.length then
     if (v_s229).toNat < v_r260.fSpaces.length then
      (app 8 v_y263 ([(v_r260.fCells.length : Int)])).bind fun (v_a265 : (List Int)) =>
      if 0 ≤ v_s229 ∧ (v_s229).toNat < v_r260.fSpaces.length then
       if (v_s229).toNat < v_r260.fSpaces.length then
        (app 1 v_r260.fCells ([v_b230])).bind fun (v_a266 : (List Int)) =>
        some ((S_cow_Room.mk v_a266 (v_r260.fSpaces.set ((v_s229).toNat) v_a265)), 0)
       else none
      else none
     else none
    else none
  else
   some ((S_cow_Room.mk ([] : (List Int)) ([] : (List (List Int)))), v_r233)
theorem G_cow_More_ok (n : Nat) (v_r228 : S_cow_Room) (v_s229 : Int) (v_b230 : Int) (r : S_cow_Room × Int) (h : G_cow_More n v_r228 v_s229 v_b230 = some r) : Ret Try.prog 9 [eS_cow_Room v_r228, (eI .i64) v_s229, (eI .u8) v_b230] (.tup [eS_cow_Room r.1, (eI .i64) r.2]) := by
  refine ret_run (n := 49) (fn := Try.f9) (c := bodyOf Try.f9) (by kernel_rfl) (by kernel_rfl) (by kernel_rfl) (by kernel_rfl) ?_
  have hF : KC 49 (FinR Try.prog Try.f9 (.tup [eS_cow_Room r.1, (eI .i64) r.2])) := FinR.kc' (by kernel_rfl)
  unfold G_cow_More at h
  obtain ⟨v_r233, h94, h⟩ := bind_some h
  by_cases h105 : v_r233 = 0
  · rw [if_pos h105] at h
    obtain ⟨v_y253, h106, h⟩ := bind_some h
    by_cases h108 : (v_y253.length : Int) = 8
    · rw [if_pos h108] at h
      obtain rfl := Option.some.inj h
      exact pend_sound TTok mix 17 (hs := [.c, .r ((eI .i64) v_r233), .t false, .c, .y ((eL (eI .i64)) v_y253), .c, .u (.d (.v (.int .i64 (v_y253.length : Int)))), .t true, .c]) (by kernel_rfl) (by kernel_rfl) (by kernel_rfl) (.cons (G_cow_space_ok n v_r228 v_s229 _ h94) (.cons (nf h105) (.cons (getI_ob (f := (eL (eI .i64))) h106) (.cons (len_ob (f := (eI .i64)) (l := v_y253)) (.cons (bt h108) (.cons (show 0 + 2 ≤ 2 by decide) .nil))))))
    · rw [if_neg h108] at h
      obtain ⟨v_r260, h109, h⟩ := bind_some h
      obtain ⟨v_y263, h111, h⟩ := bind_some h
      by_cases h112 : 0 ≤ v_s229 ∧ (v_s229).toNat < v_r260.fSpaces.length
      · rw [if_pos h112] at h
        by_cases h113 : (v_s229).toNat < v_r260.fSpaces.length
        · rw [if_pos h113] at h
          obtain ⟨v_a265, h114, h⟩ := bind_some h
          by_cases h115 : 0 ≤ v_s229 ∧ (v_s229).toNat < v_r260.fSpaces.length
          · rw [if_pos h115] at h
            by_cases h116 : (v_s229).toNat < v_r260.fSpaces.length
            · rw [if_pos h116] at h
              obtain ⟨v_a266, h117, h⟩ := bind_some h
              obtain rfl := Option.some.inj h
              exact pend_sound TTok mix 26 (hs := [.c, .r ((eI .i64) v_r233), .t false, .c, .y ((eL (eI .i64)) v_y253), .c, .u (.d (.v (.int .i64 (v_y253.length : Int)))), .t false, .c, .h [] [] [.row 5 1 (v_r260.fCells.map (eI .u8)), .cu (outC 39 1 nq_List_Int [none, none] (v_r260.fSpaces.map (eL (eI .i64)))) [.srf 2, .d (.v noB), .d (.v noB)], .cu (bagC nct_List_Int nq_List_Int (v_r260.fSpaces.map (eL (eI .i64)))) []] (.agg [.srf 0, .srf 1]), .c, .dl 1, .sx [96, 97] (nTakeS 96 97 39 1 (((v_s229).toNat) * 1 + 0) 0 3 1 nct_List_Int nq_List_Int [none, none] (v_r260.fSpaces.map (eL (eI .i64))) (v_y263.map (eI .i64)) [.srf 97, .d (.v noB), .d (.v noB)]), .c, .c, .e 137 [96] (.ept 96 1 ((v_s229).toNat) 0) [], .e 142 [96] (.srf 105) [], .c, .u (.d (.v (.int .i64 (v_r260.fCells.length : Int)))), .bd, .w (v_a265.map (eI .i64)), .e 172 [96] (.ept 96 1 ((v_s229).toNat) 0) [], .e 177 [96] (dd) [(96, .cu (outC 39 1 (minus nq_List_Int (((v_s229).toNat) * 1 + 0)) [some (((v_s229).toNat) * 1 + 0), none] (v_r260.fSpaces.map (eL (eI .i64)))) [.srf 106, .srf 167, .d (.v noB)])], .c, .bd, .w (v_a266.map (eI .u8)), .c, .c, .c, .dl 1, .sx [96, 106, 167] (nClose 96 106 167 39 1 nct_List_Int nq_List_Int [none, none] ((v_r260.fSpaces.set ((v_s229).toNat) v_a265).map (eL (eI .i64))) [.srf 106, .srf 167, .d (.v noB)] 0), .sx [96, 232] (nFrz 96 232 39 1 ((v_r260.fSpaces.set ((v_s229).toNat) v_a265).map (eL (eI .i64))))]) (by kernel_rfl) (by kernel_rfl) (by kernel_rfl) (.cons (G_cow_space_ok n v_r228 v_s229 _ h94) (.cons (nf h105) (.cons (getI_ob (f := (eL (eI .i64))) h106) (.cons (len_ob (f := (eI .i64)) (l := v_y253)) (.cons (bf h108) (.cons (G_cow_copied_h_ok n v_r228 _ h109) (.cons (show 0 + 2 ≤ 2 by decide) (.cons (ntakeS (l := 96) (B := 97) (ty := 39) (sz := 1) (i := (v_s229).toNat) (off := 0) (j := 0) (e := 3) (s := 1) (ct := nct_List_Int) (q := nq_List_Int) (hs := [none, none]) (xs := (v_r260.fSpaces.map (eL (eI .i64)))) (ys := (v_y263.map (eI .i64))) (fs := [.srf 97, .d (.v noB), .d (.v noB)]) (y := ((eL (eI .i64)) v_y263)) (all_fits (fun _ => rfl)) (get_ob (f := (eL (eI .i64))) h111) rfl (by simp only [nq_List_Int, minus, plus, qpre, Bool.and_eq_true, Bool.or_eq_true, Bool.not_eq_true', decide_eq_true_eq, decide_eq_false_iff_not, and_true, and_false, true_and, false_and, or_true, or_false, true_or, false_or, not_true_eq_false, not_false_eq_true] <;> omega) rfl rfl (by decide) rfl (by decide)) (.cons (nidx (P := Try.prog) (T := TT) (t := 23) (l := 96) (ty := 39) (sz := 1) (q := (minus nq_List_Int (((v_s229).toNat) * 1 + 0))) (hs := [some (((v_s229).toNat) * 1 + 0), none]) (xs := (v_r260.fSpaces.map (eL (eI .i64)))) (fs := [.srf 106, .srf 105, .d (.v noB)]) (x := (.tmp 32)) (i := (.tmp 33)) (ik := .i64) (j := v_s229) (by kernel_rfl) h112.1 (by rw [List.length_map]; exact h112.2)) (.cons (nloadH (P := Try.prog) (T := TT) (t := 39) (l := 96) (ty := 39) (sz := 1) (i := (v_s229).toNat) (off := 0) (q := (minus nq_List_Int (((v_s229).toNat) * 1 + 0))) (hs := [some (((v_s229).toNat) * 1 + 0), none]) (xs := (v_r260.fSpaces.map (eL (eI .i64)))) (fs := [.srf 106, .srf 105, .d (.v noB)]) (x := (.tmp 34)) (j := 0) (f := .srf 105) (by kernel_rfl) (by rw [List.length_map]; omega) (all_fits (fun _ => rfl)) rfl rfl) (.cons (len_ob (f := (eI .u8)) (l := v_r260.fCells)) (.cons (app_ob (f := (eI .i64)) (s := 1) h114 (fun _ => rfl)).1 (.cons (app_ob (f := (eI .i64)) (s := 1) h114 (fun _ => rfl)).2.1 (.cons (app_ob (f := (eI .i64)) (s := 1) h114 (fun _ => rfl)).2.2.1 (.cons (app_ob (f := (eI .i64)) (s := 1) h114 (fun _ => rfl)).2.2.2 (.cons (nidx (P := Try.prog) (T := TT) (t := 23) (l := 96) (ty := 39) (sz := 1) (q := (minus nq_List_Int (((v_s229).toNat) * 1 + 0))) (hs := [some (((v_s229).toNat) * 1 + 0), none]) (xs := (v_r260.fSpaces.map (eL (eI .i64)))) (fs := [.srf 106, .srf 105, .d (.v noB)]) (x := (.tmp 29)) (i := (.tmp 30)) (ik := .i64) (j := v_s229) (by kernel_rfl) h115.1 (by rw [List.length_map]; exact h115.2)) (.cons (nput (P := Try.prog) (T := TT) (t := 39) (l := 96) (L := 167) (ty := 39) (sz := 1) (i := (v_s229).toNat) (off := 0) (j := 0) (q := (minus nq_List_Int (((v_s229).toNat) * 1 + 0))) (hs := [some (((v_s229).toNat) * 1 + 0), none]) (xs := (v_r260.fSpaces.map (eL (eI .i64)))) (fs := [.srf 106, .srf 105, .d (.v noB)]) (x := (.tmp 41)) (z := (.tmp 40)) (by kernel_rfl) (by rw [List.length_map]; exact h116) (by decide) (all_fits (fun _ => rfl)) (by rw [Bool.eq_false_iff, ne_eq]; simp only [nq_List_Int, minus, plus, qpre, Bool.and_eq_true, Bool.or_eq_true, Bool.not_eq_true', decide_eq_true_eq, decide_eq_false_iff_not, and_true, and_false, true_and, false_and, or_true, or_false, true_or, false_or, not_true_eq_false, not_false_eq_true] <;> omega) (.inr rfl) (by intro j' hj' h; rcases j' with _ | _ | j' <;> simp at h hj' <;> omega) ⟨_, rfl⟩ (by decide)) (.cons (app_ob (f := (eI .u8)) (s := 1) h117 (fun _ => rfl)).1 (.cons (app_ob (f := (eI .u8)) (s := 1) h117 (fun _ => rfl)).2.1 (.cons (app_ob (f := (eI .u8)) (s := 1) h117 (fun _ => rfl)).2.2.1 (.cons (app_ob (f := (eI .u8)) (s := 1) h117 (fun _ => rfl)).2.2.2 (.cons (show 0 + 1 ≤ 2 by decide) (.cons (show 0 + 2 ≤ 2 by decide) (.cons (nclose' (l := 96) (B := 106) (L := 167) (ty := 39) (sz := 1) (i := (v_s229).toNat) (off := 0) (j := 0) (e := 3) (s := 1) (ct := nct_List_Int) (q := (minus nq_List_Int (((v_s229).toNat) * 1 + 0))) (q' := nq_List_Int) (hs := [some (((v_s229).toNat) * 1 + 0), none]) (xs := (v_r260.fSpaces.map (eL (eI .i64)))) (ys := (v_a265.map (eI .i64))) (fs := [.srf 106, .srf 167, .d (.v noB)]) (y := ((eL (eI .i64)) v_y263)) (y' := (.sl (v_a265.map (eI .i64)))) (set_ob (f := (eL (eI .i64))) (l := v_r260.fSpaces) (k := (v_s229).toNat) (z := v_a265) (p := .sl (v_a265.map (eI .i64))) rfl) (by decide) (by decide) (by decide) (all_fits (fun _ => rfl)) (get_ob (f := (eL (eI .i64))) h111) (by decide) rfl rfl (by rw [Bool.eq_false_iff, ne_eq]; simp only [nq_List_Int, minus, plus, qpre, Bool.and_eq_true, Bool.or_eq_true, Bool.not_eq_true', decide_eq_true_eq, decide_eq_false_iff_not, and_true, and_false, true_and, false_and, or_true, or_false, true_or, false_or, not_true_eq_false, not_false_eq_true] <;> omega) rfl (by intro j' hj' h; rcases j' with _ | _ | j' <;> simp at h hj' <;> omega) rfl rfl rfl (by intro k hk; rw [Bool.eq_iff_iff]; simp only [nq_List_Int, minus, plus, qpre, Bool.and_eq_true, Bool.or_eq_true, Bool.not_eq_true', decide_eq_true_eq, decide_eq_false_iff_not, and_true, and_false, true_and, false_and, or_true, or_false, true_or, false_or, not_true_eq_false, not_false_eq_true] <;> omega)) (.cons (nfrz (l := 96) (B := 232) (ty := 39) (sz := 1) (ct := nct_List_Int) (q := nq_List_Int) (hs := [none, none]) (xs := ((v_r260.fSpaces.set ((v_s229).toNat) v_a265).map (eL (eI .i64)))) (fs := [.srf 232, .d (.v noB), .d (.v noB)]) (by decide) (all_fits (fun _ => rfl)) (by intro j k h; rcases j with _ | _ | j <;> simp at h) rfl) .nil)))))))))))))))))))))))))
            · rw [if_neg h116] at h; cases h
          · rw [if_neg h115] at h; cases h
        · rw [if_neg h113] at h; cases h
      · rw [if_neg h112] at h; cases h
  · rw [if_neg h105] at h
    obtain rfl := Option.some.inj h
    exact pend_sound TTok mix 14 (hs := [.c, .r ((eI .i64) v_r233), .t true, .c]) (by kernel_rfl) (by kernel_rfl) (by kernel_rfl) (.cons (G_cow_space_ok n v_r228 v_s229 _ h94) (.cons (nt h105) (.cons (show 0 + 2 ≤ 2 by decide) .nil)))
inductive G_cow_many_L1_R where
  | x0 (v_n357 : Int)
def G_cow_many_L1_ex : G_cow_many_L1_R → Ex
  | .x0 _ => .exit 2
def G_cow_many_L1_st (v_c335 : Int) (v_r334 : S_cow_Room) (v_x349 : Int) (v_y351 : (List Int)) : G_cow_many_L1_R → PS
  | .x0 v_n357 => ⟨(dd :: .d (.v (.int .i64 v_c335)) :: dd :: dd :: dd :: .d (.v (.int .i64 v_n357)) :: dd :: dd :: dd :: dd :: dd :: .d (.sl (v_r334.fSpaces.map (eL (eI .i64)))) :: .d (.v (.int .i64 (v_r334.fSpaces.length : Int))) :: .d (.v (.int .i64 v_x349)) :: (dds 17 [])), []⟩
def G_cow_many_L1_hd (v_c335 : Int) (v_r334 : S_cow_Room) (v_x349 : Int) (v_y351 : (List Int)) (v_n352 : Int) (v_x353 : Int) : PS := ⟨(dd :: .d (.v (.int .i64 v_c335)) :: dd :: dd :: dd :: .d (.v (.int .i64 v_n352)) :: dd :: dd :: dd :: dd :: dd :: .d (.sl (v_r334.fSpaces.map (eL (eI .i64)))) :: .d (.v (.int .i64 (v_r334.fSpaces.length : Int))) :: .d (.v (.int .i64 v_x349)) :: dd :: dd :: dd :: .d (.sl (v_y351.map (eI .i64))) :: .d (.v (.int .i64 (v_y351.length : Int))) :: .d (.v (.int .i64 v_x353)) :: (dds 11 [])), []⟩
def G_cow_many_L1 (n : Nat) (v_c335 : Int) (v_r334 : S_cow_Room) (v_x349 : Int) (v_y351 : (List Int)) : Nat → Int → Int → Option G_cow_many_L1_R
  | 0, _, _ => none
  | k + 1, v_n352, v_x353 =>
    if v_x353 < (v_y351.length : Int) then
     (getI v_y351 v_x353).bind fun (v_y356 : Int) =>
     if v_y356 = v_c335 then
      G_cow_many_L1 n v_c335 v_r334 v_x349 v_y351 k (wi .i64 (v_n352 + 1)) (wi .i64 (v_x353 + 1))
     else
      G_cow_many_L1 n v_c335 v_r334 v_x349 v_y351 k v_n352 (wi .i64 (v_x353 + 1))
    else
     some (.x0 v_n352)
theorem G_cow_many_L1_ok {Fi : Ex → PS → Prop} (hF : KC 31 Fi) (ks : List Fr) (n : Nat) (v_c335 : Int) (v_r334 : S_cow_Room) (v_x349 : Int) (v_y351 : (List Int))  : ∀ (k : Nat) (v_n352 : Int) (v_x353 : Int) (o : G_cow_many_L1_R), G_cow_many_L1 n v_c335 v_r334 v_x349 v_y351 k v_n352 v_x353 = some o → RunE Try.prog 31 Fi ks (G_cow_many_L1_ex o) (G_cow_many_L1_st v_c335 v_r334 v_x349 v_y351 o) → RunE Try.prog 31 Fi (.l k (cP (cB (cR (cR (cB (cL (cR (cR (cP (cB (cR (cL (cR (cR (bodyOf Try.f62))))))))))))))) :: ks) .normal (G_cow_many_L1_hd v_c335 v_r334 v_x349 v_y351 v_n352 v_x353)
  | 0, v_n352, v_x353, o, h, q => by rw [G_cow_many_L1] at h; cases h
  | k + 1, v_n352, v_x353, o, h, q => by
    rw [G_cow_many_L1] at h
    by_cases h154 : v_x353 < (v_y351.length : Int)
    · rw [if_pos h154] at h
      obtain ⟨v_y356, h158, h⟩ := bind_some h
      by_cases h160 : v_y356 = v_c335
      · rw [if_pos h160] at h
        exact pkk_sound TTok mix hF 16 (hs := [.t true, .y ((eI .i64) v_y356), .c, .t true]) (ts := []) (s := []) (l := [1, 5, 11, 12, 13, 17, 18, 19]) (by kernel_rfl) (by kernel_rfl) (.cons (dt h154) (.cons (getI_ob (f := (eI .i64)) h158) (.cons (bt h160) .nil))) (G_cow_many_L1_ok hF ks n v_c335 v_r334 v_x349 v_y351 k (wi .i64 (v_n352 + 1)) (wi .i64 (v_x353 + 1)) _ h q)
      · rw [if_neg h160] at h
        exact pkk_sound TTok mix hF 16 (hs := [.t true, .y ((eI .i64) v_y356), .c, .t false]) (ts := []) (s := []) (l := [1, 5, 11, 12, 13, 17, 18, 19]) (by kernel_rfl) (by kernel_rfl) (.cons (dt h154) (.cons (getI_ob (f := (eI .i64)) h158) (.cons (bf h160) .nil))) (G_cow_many_L1_ok hF ks n v_c335 v_r334 v_x349 v_y351 k v_n352 (wi .i64 (v_x353 + 1)) _ h q)
    · rw [if_neg h154] at h
      cases h
      exact pkk_sound TTok mix hF 8 (hs := [.t false]) (ts := []) (s := []) (l := [1, 5, 11, 12, 13]) (by kernel_rfl) (by kernel_rfl) (.cons (df h154) .nil) q
inductive G_cow_many_L2_R where
  | x0 (v_n360 : Int)
def G_cow_many_L2_ex : G_cow_many_L2_R → Ex
  | .x0 _ => .exit 0
def G_cow_many_L2_st (v_c335 : Int) (v_r334 : S_cow_Room) : G_cow_many_L2_R → PS
  | .x0 v_n360 => ⟨(dd :: dd :: dd :: dd :: dd :: .d (.v (.int .i64 v_n360)) :: (dds 25 [])), []⟩
def G_cow_many_L2_hd (v_c335 : Int) (v_r334 : S_cow_Room) (v_n348 : Int) (v_x349 : Int) : PS := ⟨(dd :: .d (.v (.int .i64 v_c335)) :: dd :: dd :: dd :: .d (.v (.int .i64 v_n348)) :: dd :: dd :: dd :: dd :: dd :: .d (.sl (v_r334.fSpaces.map (eL (eI .i64)))) :: .d (.v (.int .i64 (v_r334.fSpaces.length : Int))) :: .d (.v (.int .i64 v_x349)) :: (dds 17 [])), []⟩
def G_cow_many_L2 (n : Nat) (v_c335 : Int) (v_r334 : S_cow_Room) : Nat → Int → Int → Option G_cow_many_L2_R
  | 0, _, _ => none
  | k + 1, v_n348, v_x349 =>
    if v_x349 < (v_r334.fSpaces.length : Int) then
     (getI v_r334.fSpaces v_x349).bind fun (v_y351 : (List Int)) =>
     (G_cow_many_L1 n v_c335 v_r334 v_x349 v_y351 n v_n348 0).bind fun v_o358 => match v_o358 with
     | .x0 v_z359 =>
       G_cow_many_L2 n v_c335 v_r334 k v_z359 (wi .i64 (v_x349 + 1))
    else
     some (.x0 v_n348)
theorem G_cow_many_L2_ok {Fi : Ex → PS → Prop} (hF : KC 31 Fi) (ks : List Fr) (n : Nat) (v_c335 : Int) (v_r334 : S_cow_Room)  : ∀ (k : Nat) (v_n348 : Int) (v_x349 : Int) (o : G_cow_many_L2_R), G_cow_many_L2 n v_c335 v_r334 k v_n348 v_x349 = some o → RunE Try.prog 31 Fi ks (G_cow_many_L2_ex o) (G_cow_many_L2_st v_c335 v_r334 o) → RunE Try.prog 31 Fi (.l k (cP (cB (cR (cL (cR (cR (bodyOf Try.f62))))))) :: ks) .normal (G_cow_many_L2_hd v_c335 v_r334 v_n348 v_x349)
  | 0, v_n348, v_x349, o, h, q => by rw [G_cow_many_L2] at h; cases h
  | k + 1, v_n348, v_x349, o, h, q => by
    rw [G_cow_many_L2] at h
    by_cases h152 : v_x349 < (v_r334.fSpaces.length : Int)
    · rw [if_pos h152] at h
      obtain ⟨v_y351, h153, h⟩ := bind_some h
      obtain ⟨v_o358, h161, h⟩ := bind_some h
      refine pkk_sound TTok mix hF 14 (hs := [.t true, .y ((eL (eI .i64)) v_y351), .c, .u (.d (.v (.int .i64 (v_y351.length : Int)))), .n n]) (ts := []) (s := []) (l := [1, 5, 11, 12, 13, 17, 18, 19]) (by kernel_rfl) (by kernel_rfl) (.cons (dt h152) (.cons (getI_ob (f := (eL (eI .i64))) h153) (.cons (len_ob (f := (eI .i64)) (l := v_y351)) .nil))) (G_cow_many_L1_ok hF (.b 2 :: .b 1 :: .s (cR (cR (cR (cP (cB (cR (cL (cR (cR (bodyOf Try.f62)))))))))) :: .l k (cP (cB (cR (cL (cR (cR (bodyOf Try.f62))))))) :: ks) n v_c335 v_r334 v_x349 v_y351 n v_n348 0 _ h161 ?_)
      cases v_o358 with
      | x0 v_z359 =>
        try dsimp only at h
        exact pkk_sound TTok mix hF 3 (hs := []) (ts := []) (s := []) (l := [1, 5, 11, 12, 13]) (by kernel_rfl) (by kernel_rfl) .nil (G_cow_many_L2_ok hF ks n v_c335 v_r334 k v_z359 (wi .i64 (v_x349 + 1)) _ h q)
    · rw [if_neg h152] at h
      cases h
      exact pkk_sound TTok mix hF 8 (hs := [.t false]) (ts := []) (s := []) (l := [5]) (by kernel_rfl) (by kernel_rfl) (.cons (df h152) .nil) q
/- ringhall/cow.many -/
def G_cow_many (n : Nat) (v_r334 : S_cow_Room) (v_c335 : Int) : Option (Int) :=
  (G_cow_many_L2 n v_c335 v_r334 n 0 0).bind fun v_o361 => match v_o361 with
  | .x0 v_z362 =>
    some v_z362
theorem G_cow_many_ok (n : Nat) (v_r334 : S_cow_Room) (v_c335 : Int) (r : Int) (h : G_cow_many n v_r334 v_c335 = some r) : Ret Try.prog 62 [eS_cow_Room v_r334, (eI .i64) v_c335] ((eI .i64) r) := by
  refine ret_run (n := 31) (fn := Try.f62) (c := bodyOf Try.f62) (by kernel_rfl) (by kernel_rfl) (by kernel_rfl) (by kernel_rfl) ?_
  have hF : KC 31 (FinR Try.prog Try.f62 ((eI .i64) r)) := FinR.kc' (by kernel_rfl)
  unfold G_cow_many at h
  obtain ⟨v_o361, h162, h⟩ := bind_some h
  refine pkk_sound TTok mix hF 9 (hs := [.c, .u (.d (.v (.int .i64 (v_r334.fSpaces.length : Int)))), .n n]) (ts := []) (s := []) (l := [1, 5, 11, 12, 13]) (by kernel_rfl) (by kernel_rfl) (.cons (len_ob (f := (eL (eI .i64))) (l := v_r334.fSpaces)) .nil) (G_cow_many_L2_ok hF (.b 0 :: .s (cR (cR (cR (bodyOf Try.f62)))) :: []) n v_c335 v_r334 n 0 0 _ h162 ?_)
  cases v_o361 with
  | x0 v_z362 =>
    try dsimp only at h
    obtain rfl := Option.some.inj h
    exact pend_sound TTok mix 4 (hs := []) (by kernel_rfl) (by kernel_rfl) (by kernel_rfl) .nil
inductive G_cow_Write_C1_R where
  | x0 (v_x314 : Bool)
def G_cow_Write_C1_ex : G_cow_Write_C1_R → Ex
  | .x0 _ => .normal
def G_cow_Write_C1_st (v_s283 : Int) (v_k284 : Int) (v_b285 : Int) (v_r282 : S_cow_Room) : G_cow_Write_C1_R → PS
  | .x0 v_x314 => ⟨(dd :: .d (.v (.int .i64 v_s283)) :: .d (.v (.int .i64 v_k284)) :: .d (.v (.int .u8 v_b285)) :: .ref 0 0 :: dd :: dd :: dd :: .ref 1 0 :: (dds 12 (.d (.v (.bool v_x314)) :: (dds 50 [])))), [.box [.d (.sl (v_r282.fCells.map (eI .u8))), .d (.sl (v_r282.fSpaces.map (eL (eI .i64))))], .box [.d (vnil), .d (vnil)]]⟩
def G_cow_Write_C1_hd (v_s283 : Int) (v_k284 : Int) (v_b285 : Int) (v_r282 : S_cow_Room)  : PS := ⟨(dd :: .d (.v (.int .i64 v_s283)) :: .d (.v (.int .i64 v_k284)) :: .d (.v (.int .u8 v_b285)) :: .ref 0 0 :: dd :: dd :: dd :: .ref 1 0 :: (dds 63 [])), [.box [.d (.sl (v_r282.fCells.map (eI .u8))), .d (.sl (v_r282.fSpaces.map (eL (eI .i64))))], .box [.d (vnil), .d (vnil)]]⟩
def G_cow_Write_C1 (n : Nat) (v_s283 : Int) (v_k284 : Int) (v_b285 : Int) (v_r282 : S_cow_Room) : Option G_cow_Write_C1_R :=
  if v_k284 < 0 then
   some (.x0 true)
  else
   (getI v_r282.fSpaces v_s283).bind fun (v_y315 : (List Int)) =>
   some (.x0 (decide (v_k284 ≥ (v_y315.length : Int))))
theorem G_cow_Write_C1_ok {Fi : Ex → PS → Prop} (hF : KC 72 Fi) (ks : List Fr) (n : Nat) (v_s283 : Int) (v_k284 : Int) (v_b285 : Int) (v_r282 : S_cow_Room)  (o : G_cow_Write_C1_R) (h : G_cow_Write_C1 n v_s283 v_k284 v_b285 v_r282 = some o) (q : RunE Try.prog 72 Fi ks (G_cow_Write_C1_ex o) (G_cow_Write_C1_st v_s283 v_k284 v_b285 v_r282 o)) : RunE Try.prog 72 Fi (.s (cL (cF (cR (cB (cL (cR (cR (bodyOf Try.f10)))))))) :: ks) .normal (G_cow_Write_C1_hd v_s283 v_k284 v_b285 v_r282) := by
  unfold G_cow_Write_C1 at h
  by_cases h142 : v_k284 < 0
  · rw [if_pos h142] at h
    cases h
    exact pkk_sound TTok mix hF 1 (hs := [.t true, .c, .c, .c, .c, .c, .c, .c]) (ts := []) (s := [0, 1]) (l := [1, 2, 3, 4, 8, 21]) (by kernel_rfl) (by kernel_rfl) (.cons (dt h142) .nil) q
  · rw [if_neg h142] at h
    obtain ⟨v_y315, h143, h⟩ := bind_some h
    cases h
    exact pkk_sound TTok mix hF 1 (hs := [.t false, .c, .c, .c, .c, .c, .y ((eL (eI .i64)) v_y315), .c, .c, .c, .u (.d (.v (.int .i64 (v_y315.length : Int)))), .c]) (ts := []) (s := [0, 1]) (l := [1, 2, 3, 4, 8, 21]) (by kernel_rfl) (by kernel_rfl) (.cons (df h142) (.cons (getI_ob (f := (eL (eI .i64))) h143) (.cons (len_ob (f := (eI .i64)) (l := v_y315)) .nil))) q
/- ringhall/cow.Write -/
def G_cow_Write (n : Nat) (v_r282 : S_cow_Room) (v_s283 : Int) (v_k284 : Int) (v_b285 : Int) : Option (S_cow_Room × Bool × Int) :=
  (G_cow_space n v_r282 v_s283).bind fun (v_r288 : (Int)) =>
  if v_r288 = 0 then
   (G_cow_Write_C1 n v_s283 v_k284 v_b285 v_r282).bind fun v_o317 => match v_o317 with
   | .x0 v_z318 =>
     if v_z318 = true then
      some ((S_cow_Room.mk ([] : (List Int)) ([] : (List (List Int)))), false, 11)
     else
      (G_cow_copied_h n v_r282).bind fun (v_r326 : (S_cow_Room)) =>
      if 0 ≤ v_s283 ∧ (v_s283).toNat < v_r326.fSpaces.length then
       (v_r326.fSpaces[(v_s283).toNat]?).bind fun (v_y329 : (List Int)) =>
       if 0 ≤ v_k284 ∧ (v_k284).toNat < v_y329.length then
        (v_y329[(v_k284).toNat]?).bind fun (v_y330 : Int) =>
        (G_cow_many n v_r326 v_y330).bind fun (v_r363 : (Int)) =>
        if v_r363 = 1 then
         if 0 ≤ v_y330 ∧ (v_y330).toNat < v_r326.fCells.length then
          (v_r326.fCells[(v_y330).toNat]?).bind fun (v_y367 : Int) =>
          some ((S_cow_Room.mk (v_r326.fCells.set (v_y330).toNat v_b285) v_r326.fSpaces), false, 0)
         else none
        else
         if 0 ≤ v_s283 ∧ (v_s283).toNat < v_r326.fSpaces.length then
          if (v_s283).toNat < v_r326.fSpaces.length then
           if 0 ≤ v_k284 ∧ (v_k284).toNat < v_y329.length then
            (v_y329[(v_k284).toNat]?).bind fun (v_y374 : Int) =>
            (app 1 v_r326.fCells ([v_b285])).bind fun (v_a375 : (List Int)) =>
            some ((S_cow_Room.mk v_a375 (v_r326.fSpaces.set ((v_s283).toNat) (v_y329.set (v_k284).toNat (v_r326.fCells.length : Int)))), true, 0)
           else none
          else none
         else none
       else none
      else none
  else
   some ((S_cow_Room.mk ([] : (List Int)) ([] : (List (List Int)))), false, v_r288)
theorem G_cow_Write_ok (n : Nat) (v_r282 : S_cow_Room) (v_s283 : Int) (v_k284 : Int) (v_b285 : Int) (r : S_cow_Room × Bool × Int) (h : G_cow_Write n v_r282 v_s283 v_k284 v_b285 = some r) : Ret Try.prog 10 [eS_cow_Room v_r282, (eI .i64) v_s283, (eI .i64) v_k284, (eI .u8) v_b285] (.tup [eS_cow_Room r.1, eB r.2.1, (eI .i64) r.2.2]) := by
  refine ret_run (n := 72) (fn := Try.f10) (c := bodyOf Try.f10) (by kernel_rfl) (by kernel_rfl) (by kernel_rfl) (by kernel_rfl) ?_
  have hF : KC 72 (FinR Try.prog Try.f10 (.tup [eS_cow_Room r.1, eB r.2.1, (eI .i64) r.2.2])) := FinR.kc' (by kernel_rfl)
  unfold G_cow_Write at h
  obtain ⟨v_r288, h119, h⟩ := bind_some h
  by_cases h139 : v_r288 = 0
  · rw [if_pos h139] at h
    obtain ⟨v_o317, h144, h⟩ := bind_some h
    refine pkk_sound TTok mix hF 10 (hs := [.c, .r ((eI .i64) v_r288), .t false]) (ts := []) (s := [0, 5]) (l := [1, 2, 3, 4, 8]) (by kernel_rfl) (by kernel_rfl) (.cons (G_cow_space_ok n v_r282 v_s283 _ h119) (.cons (nf h139) .nil)) (G_cow_Write_C1_ok hF (.s (cR (cF (cR (cB (cL (cR (cR (bodyOf Try.f10)))))))) :: .b 0 :: .s (cR (cR (cR (bodyOf Try.f10)))) :: []) n v_s283 v_k284 v_b285 v_r282 _ h144 ?_)
    cases v_o317 with
    | x0 v_z318 =>
      try dsimp only at h
      by_cases h146 : v_z318 = true
      · rw [if_pos h146] at h
        obtain rfl := Option.some.inj h
        exact pend_sound TTok mix 6 (hs := [.t true, .c]) (by kernel_rfl) (by kernel_rfl) (by kernel_rfl) (.cons h146 (.cons (show 0 + 2 ≤ 2 by decide) .nil))
      · rw [if_neg h146] at h
        obtain ⟨v_r326, h147, h⟩ := bind_some h
        by_cases h148 : 0 ≤ v_s283 ∧ (v_s283).toNat < v_r326.fSpaces.length
        · rw [if_pos h148] at h
          obtain ⟨v_y329, h149, h⟩ := bind_some h
          by_cases h150 : 0 ≤ v_k284 ∧ (v_k284).toNat < v_y329.length
          · rw [if_pos h150] at h
            obtain ⟨v_y330, h151, h⟩ := bind_some h
            obtain ⟨v_r363, h163, h⟩ := bind_some h
            by_cases h164 : v_r363 = 1
            · rw [if_pos h164] at h
              by_cases h165 : 0 ≤ v_y330 ∧ (v_y330).toNat < v_r326.fCells.length
              · rw [if_pos h165] at h
                obtain ⟨v_y367, h166, h⟩ := bind_some h
                obtain rfl := Option.some.inj h
                exact pend_sound TTok mix 19 (hs := [.t false, .c, .h [] [] [.row 5 1 (v_r326.fCells.map (eI .u8)), .cu (outC 39 1 nq_List_Int [none, none] (v_r326.fSpaces.map (eL (eI .i64)))) [.srf 2, .d (.v noB), .d (.v noB)], .cu (bagC nct_List_Int nq_List_Int (v_r326.fSpaces.map (eL (eI .i64)))) []] (.agg [.srf 0, .srf 1]), .c, .c, .e 32 [8] (.ept 8 1 ((v_s283).toNat) 0) [], .e 37 [8, 9, 37, 38] (.srf 37) [(9, .none), (37, .row 3 1 (v_y329.map (eI .i64))), (38, .cu (bagC nct_List_Int (minus nq_List_Int (((v_s283).toNat) * 1 + 0)) (v_r326.fSpaces.map (eL (eI .i64)))) []), (8, .cu (outC 39 1 (minus nq_List_Int (((v_s283).toNat) * 1 + 0)) [some (((v_s283).toNat) * 1 + 0), none] (v_r326.fSpaces.map (eL (eI .i64)))) [.srf 38, .srf 37, .d (.v noB)])], .y ((eI .i64) v_y330), .c, .e 72 [7, 8, 38, 37] (.d (.v (.int .i64 v_r363))) [], .t true, .c, .w ((v_r326.fCells.set (v_y330).toNat v_b285).map (eI .u8)), .y ((eI .u8) v_y367), .c, .c, .dl 2, .sx [8, 38, 37] (nClose 8 38 37 39 1 nct_List_Int nq_List_Int [none, none] (v_r326.fSpaces.map (eL (eI .i64))) [.srf 38, .srf 37, .d (.v noB)] 0), .sx [8, 132] (nFrz 8 132 39 1 (v_r326.fSpaces.map (eL (eI .i64))))]) (by kernel_rfl) (by kernel_rfl) (by kernel_rfl) (.cons (vf h146) (.cons (G_cow_copied_h_ok n v_r282 _ h147) (.cons (show 0 + 2 ≤ 2 by decide) (.cons (nidx (P := Try.prog) (T := TT) (t := 23) (l := 8) (ty := 39) (sz := 1) (q := nq_List_Int) (hs := [none, none]) (xs := (v_r326.fSpaces.map (eL (eI .i64)))) (fs := [.srf 9, .d (.v noB), .d (.v noB)]) (x := (.tmp 38)) (i := (.tmp 39)) (ik := .i64) (j := v_s283) (by kernel_rfl) h148.1 (by rw [List.length_map]; exact h148.2)) (.cons (ntake (P := Try.prog) (T := TT) (t := 39) (l := 8) (ty := 39) (sz := 1) (i := (v_s283).toNat) (off := 0) (q := nq_List_Int) (hs := [none, none]) (xs := (v_r326.fSpaces.map (eL (eI .i64)))) (fs := [.srf 9, .d (.v noB), .d (.v noB)]) (x := (.tmp 40)) (B := 9) (nl := 37) (j := 0) (e := 3) (s := 1) (ct := nct_List_Int) (ys := (v_y329.map (eI .i64))) (y := ((eL (eI .i64)) v_y329)) (by kernel_rfl) (all_fits (fun _ => rfl)) (get_ob (f := (eL (eI .i64))) h149) rfl (by simp only [nq_List_Int, minus, plus, qpre, Bool.and_eq_true, Bool.or_eq_true, Bool.not_eq_true', decide_eq_true_eq, decide_eq_false_iff_not, and_true, and_false, true_and, false_and, or_true, or_false, true_or, false_or, not_true_eq_false, not_false_eq_true] <;> omega) rfl rfl (by decide) rfl (by decide)) (.cons (idx_ob (f := (eI .i64)) h150) (.cons (get_ob (f := (eI .i64)) h151) (.cons (ncall (P := Try.prog) (T := TT) (fv := .d (.clo 62 [])) (vs := [.agg [.srf 7, .srf 8], .d (.v (.int .i64 v_y330))]) (f := .func 62) (args := #[(.tmp 45), (.tmp 46)]) (tys := #[25, 3]) (m0 := [(7, .row 5 1 (v_r326.fCells.map (eI .u8))), (8, .cu (outC 39 1 (minus nq_List_Int (((v_s283).toNat) * 1 + 0)) [some (((v_s283).toNat) * 1 + 0), none] (v_r326.fSpaces.map (eL (eI .i64)))) [.srf 38, .srf 37, .d (.v noB)]), (38, .cu (bagC nct_List_Int (minus nq_List_Int (((v_s283).toNat) * 1 + 0)) (v_r326.fSpaces.map (eL (eI .i64)))) []), (37, .row 3 1 (v_y329.map (eI .i64)))]) [(7, (.sl (v_r326.fCells.map (eI .u8)))), (8, (.sl (v_r326.fSpaces.map (eL (eI .i64)))))] (lend_cons (l := 7) (p := (.sl (v_r326.fCells.map (eI .u8)))) (Lend.row 7 5 1 (v_r326.fCells.map (eI .u8)) (List.mem_cons_self ..)) (lend_cons (l := 8) (p := (.sl (v_r326.fSpaces.map (eL (eI .i64))))) (Lend.nst 8 38 39 1 nct_List_Int (minus nq_List_Int (((v_s283).toNat) * 1 + 0)) [some (((v_s283).toNat) * 1 + 0), none] (v_r326.fSpaces.map (eL (eI .i64))) [.srf 38, .srf 37, .d (.v noB)] (List.mem_cons_of_mem _ (List.mem_cons_self ..)) (List.mem_cons_of_mem _ (List.mem_cons_of_mem _ (List.mem_cons_self ..))) rfl (all_fits (fun _ => rfl)) (hole1 ⟨37, 3, 1, (v_y329.map (eI .i64)), rfl, (List.mem_cons_of_mem _ (List.mem_cons_of_mem _ (List.mem_cons_of_mem _ (List.mem_cons_self ..)))), fl_get (all_fits (fun _ => rfl)) (get_ob (f := (eL (eI .i64))) h149) rfl⟩)) lend_nil)) rfl rfl (G_cow_many_ok n v_r326 v_y330 _ h163) (by rfl)) (.cons (bt h164) (.cons (idx_ob (f := (eI .u8)) h165) (.cons (get_ob (f := (eI .u8)) h166) (.cons (Eq.refl (pcells (.v (.int .u8 v_b285)))) (.cons (set_ob (f := (eI .u8)) (l := v_r326.fCells) (k := (v_y330).toNat) (z := v_b285) (p := .v (.int .u8 v_b285)) rfl) (.cons (show 0 + 2 ≤ 2 by decide) (.cons (nclose_same (l := 8) (B := 38) (L := 37) (ty := 39) (sz := 1) (i := (v_s283).toNat) (off := 0) (j := 0) (e := 3) (s := 1) (ct := nct_List_Int) (q := (minus nq_List_Int (((v_s283).toNat) * 1 + 0))) (q' := nq_List_Int) (hs := [some (((v_s283).toNat) * 1 + 0), none]) (xs := (v_r326.fSpaces.map (eL (eI .i64)))) (ys := (v_y329.map (eI .i64))) (fs := [.srf 38, .srf 37, .d (.v noB)]) (y := ((eL (eI .i64)) v_y329)) (by decide) (by decide) (by decide) (all_fits (fun _ => rfl)) (get_ob (f := (eL (eI .i64))) h149) (by decide) rfl (by rw [Bool.eq_false_iff, ne_eq]; simp only [nq_List_Int, minus, plus, qpre, Bool.and_eq_true, Bool.or_eq_true, Bool.not_eq_true', decide_eq_true_eq, decide_eq_false_iff_not, and_true, and_false, true_and, false_and, or_true, or_false, true_or, false_or, not_true_eq_false, not_false_eq_true] <;> omega) rfl (by intro j' hj' h; rcases j' with _ | _ | j' <;> simp at h hj' <;> omega) rfl rfl rfl (by intro k hk; rw [Bool.eq_iff_iff]; simp only [nq_List_Int, minus, plus, qpre, Bool.and_eq_true, Bool.or_eq_true, Bool.not_eq_true', decide_eq_true_eq, decide_eq_false_iff_not, and_true, and_false, true_and, false_and, or_true, or_false, true_or, false_or, not_true_eq_false, not_false_eq_true] <;> omega)) (.cons (nfrz (l := 8) (B := 132) (ty := 39) (sz := 1) (ct := nct_List_Int) (q := nq_List_Int) (hs := [none, none]) (xs := (v_r326.fSpaces.map (eL (eI .i64)))) (fs := [.srf 132, .d (.v noB), .d (.v noB)]) (by decide) (all_fits (fun _ => rfl)) (by intro j k h; rcases j with _ | _ | j <;> simp at h) rfl) .nil))))))))))))))))
              · rw [if_neg h165] at h; cases h
            · rw [if_neg h164] at h
              by_cases h167 : 0 ≤ v_s283 ∧ (v_s283).toNat < v_r326.fSpaces.length
              · rw [if_pos h167] at h
                by_cases h168 : (v_s283).toNat < v_r326.fSpaces.length
                · rw [if_pos h168] at h
                  by_cases h169 : 0 ≤ v_k284 ∧ (v_k284).toNat < v_y329.length
                  · rw [if_pos h169] at h
                    obtain ⟨v_y374, h170, h⟩ := bind_some h
                    obtain ⟨v_a375, h171, h⟩ := bind_some h
                    obtain rfl := Option.some.inj h
                    exact pend_sound TTok mix 21 (hs := [.t false, .c, .h [] [] [.row 5 1 (v_r326.fCells.map (eI .u8)), .cu (outC 39 1 nq_List_Int [none, none] (v_r326.fSpaces.map (eL (eI .i64)))) [.srf 2, .d (.v noB), .d (.v noB)], .cu (bagC nct_List_Int nq_List_Int (v_r326.fSpaces.map (eL (eI .i64)))) []] (.agg [.srf 0, .srf 1]), .c, .c, .e 32 [8] (.ept 8 1 ((v_s283).toNat) 0) [], .e 37 [8, 9, 37, 38] (.srf 37) [(9, .none), (37, .row 3 1 (v_y329.map (eI .i64))), (38, .cu (bagC nct_List_Int (minus nq_List_Int (((v_s283).toNat) * 1 + 0)) (v_r326.fSpaces.map (eL (eI .i64)))) []), (8, .cu (outC 39 1 (minus nq_List_Int (((v_s283).toNat) * 1 + 0)) [some (((v_s283).toNat) * 1 + 0), none] (v_r326.fSpaces.map (eL (eI .i64)))) [.srf 38, .srf 37, .d (.v noB)])], .y ((eI .i64) v_y330), .c, .e 72 [7, 8, 38, 37] (.d (.v (.int .i64 v_r363))) [], .t false, .c, .e 97 [8] (.ept 8 1 ((v_s283).toNat) 0) [], .e 102 [8] (.srf 37) [], .c, .u (.d (.v (.int .i64 (v_r326.fCells.length : Int)))), .w ((v_y329.set (v_k284).toNat (v_r326.fCells.length : Int)).map (eI .i64)), .y ((eI .i64) v_y374), .c, .bd, .w (v_a375.map (eI .u8)), .c, .c, .c, .dl 1, .sx [8, 38, 37] (nClose 8 38 37 39 1 nct_List_Int nq_List_Int [none, none] ((v_r326.fSpaces.set ((v_s283).toNat) (v_y329.set (v_k284).toNat (v_r326.fCells.length : Int))).map (eL (eI .i64))) [.srf 38, .srf 37, .d (.v noB)] 0), .sx [8, 192] (nFrz 8 192 39 1 ((v_r326.fSpaces.set ((v_s283).toNat) (v_y329.set (v_k284).toNat (v_r326.fCells.length : Int))).map (eL (eI .i64))))]) (by kernel_rfl) (by kernel_rfl) (by kernel_rfl) (.cons (vf h146) (.cons (G_cow_copied_h_ok n v_r282 _ h147) (.cons (show 0 + 2 ≤ 2 by decide) (.cons (nidx (P := Try.prog) (T := TT) (t := 23) (l := 8) (ty := 39) (sz := 1) (q := nq_List_Int) (hs := [none, none]) (xs := (v_r326.fSpaces.map (eL (eI .i64)))) (fs := [.srf 9, .d (.v noB), .d (.v noB)]) (x := (.tmp 38)) (i := (.tmp 39)) (ik := .i64) (j := v_s283) (by kernel_rfl) h148.1 (by rw [List.length_map]; exact h148.2)) (.cons (ntake (P := Try.prog) (T := TT) (t := 39) (l := 8) (ty := 39) (sz := 1) (i := (v_s283).toNat) (off := 0) (q := nq_List_Int) (hs := [none, none]) (xs := (v_r326.fSpaces.map (eL (eI .i64)))) (fs := [.srf 9, .d (.v noB), .d (.v noB)]) (x := (.tmp 40)) (B := 9) (nl := 37) (j := 0) (e := 3) (s := 1) (ct := nct_List_Int) (ys := (v_y329.map (eI .i64))) (y := ((eL (eI .i64)) v_y329)) (by kernel_rfl) (all_fits (fun _ => rfl)) (get_ob (f := (eL (eI .i64))) h149) rfl (by simp only [nq_List_Int, minus, plus, qpre, Bool.and_eq_true, Bool.or_eq_true, Bool.not_eq_true', decide_eq_true_eq, decide_eq_false_iff_not, and_true, and_false, true_and, false_and, or_true, or_false, true_or, false_or, not_true_eq_false, not_false_eq_true] <;> omega) rfl rfl (by decide) rfl (by decide)) (.cons (idx_ob (f := (eI .i64)) h150) (.cons (get_ob (f := (eI .i64)) h151) (.cons (ncall (P := Try.prog) (T := TT) (fv := .d (.clo 62 [])) (vs := [.agg [.srf 7, .srf 8], .d (.v (.int .i64 v_y330))]) (f := .func 62) (args := #[(.tmp 45), (.tmp 46)]) (tys := #[25, 3]) (m0 := [(7, .row 5 1 (v_r326.fCells.map (eI .u8))), (8, .cu (outC 39 1 (minus nq_List_Int (((v_s283).toNat) * 1 + 0)) [some (((v_s283).toNat) * 1 + 0), none] (v_r326.fSpaces.map (eL (eI .i64)))) [.srf 38, .srf 37, .d (.v noB)]), (38, .cu (bagC nct_List_Int (minus nq_List_Int (((v_s283).toNat) * 1 + 0)) (v_r326.fSpaces.map (eL (eI .i64)))) []), (37, .row 3 1 (v_y329.map (eI .i64)))]) [(7, (.sl (v_r326.fCells.map (eI .u8)))), (8, (.sl (v_r326.fSpaces.map (eL (eI .i64)))))] (lend_cons (l := 7) (p := (.sl (v_r326.fCells.map (eI .u8)))) (Lend.row 7 5 1 (v_r326.fCells.map (eI .u8)) (List.mem_cons_self ..)) (lend_cons (l := 8) (p := (.sl (v_r326.fSpaces.map (eL (eI .i64))))) (Lend.nst 8 38 39 1 nct_List_Int (minus nq_List_Int (((v_s283).toNat) * 1 + 0)) [some (((v_s283).toNat) * 1 + 0), none] (v_r326.fSpaces.map (eL (eI .i64))) [.srf 38, .srf 37, .d (.v noB)] (List.mem_cons_of_mem _ (List.mem_cons_self ..)) (List.mem_cons_of_mem _ (List.mem_cons_of_mem _ (List.mem_cons_self ..))) rfl (all_fits (fun _ => rfl)) (hole1 ⟨37, 3, 1, (v_y329.map (eI .i64)), rfl, (List.mem_cons_of_mem _ (List.mem_cons_of_mem _ (List.mem_cons_of_mem _ (List.mem_cons_self ..)))), fl_get (all_fits (fun _ => rfl)) (get_ob (f := (eL (eI .i64))) h149) rfl⟩)) lend_nil)) rfl rfl (G_cow_many_ok n v_r326 v_y330 _ h163) (by rfl)) (.cons (bf h164) (.cons (nidx (P := Try.prog) (T := TT) (t := 23) (l := 8) (ty := 39) (sz := 1) (q := (minus nq_List_Int (((v_s283).toNat) * 1 + 0))) (hs := [some (((v_s283).toNat) * 1 + 0), none]) (xs := (v_r326.fSpaces.map (eL (eI .i64)))) (fs := [.srf 38, .srf 37, .d (.v noB)]) (x := (.tmp 56)) (i := (.tmp 57)) (ik := .i64) (j := v_s283) (by kernel_rfl) h167.1 (by rw [List.length_map]; exact h167.2)) (.cons (nloadH (P := Try.prog) (T := TT) (t := 39) (l := 8) (ty := 39) (sz := 1) (i := (v_s283).toNat) (off := 0) (q := (minus nq_List_Int (((v_s283).toNat) * 1 + 0))) (hs := [some (((v_s283).toNat) * 1 + 0), none]) (xs := (v_r326.fSpaces.map (eL (eI .i64)))) (fs := [.srf 38, .srf 37, .d (.v noB)]) (x := (.tmp 58)) (j := 0) (f := .srf 37) (by kernel_rfl) (by rw [List.length_map]; omega) (all_fits (fun _ => rfl)) rfl rfl) (.cons (len_ob (f := (eI .u8)) (l := v_r326.fCells)) (.cons (idx_ob (f := (eI .i64)) h169) (.cons (get_ob (f := (eI .i64)) h170) (.cons (Eq.refl (pcells (.v (.int .i64 (v_r326.fCells.length : Int))))) (.cons (set_ob (f := (eI .i64)) (l := v_y329) (k := (v_k284).toNat) (z := (v_r326.fCells.length : Int)) (p := .v (.int .i64 (v_r326.fCells.length : Int))) rfl) (.cons (app_ob (f := (eI .u8)) (s := 1) h171 (fun _ => rfl)).1 (.cons (app_ob (f := (eI .u8)) (s := 1) h171 (fun _ => rfl)).2.1 (.cons (app_ob (f := (eI .u8)) (s := 1) h171 (fun _ => rfl)).2.2.1 (.cons (app_ob (f := (eI .u8)) (s := 1) h171 (fun _ => rfl)).2.2.2 (.cons (show 0 + 1 ≤ 2 by decide) (.cons (show 0 + 2 ≤ 2 by decide) (.cons (nclose' (l := 8) (B := 38) (L := 37) (ty := 39) (sz := 1) (i := (v_s283).toNat) (off := 0) (j := 0) (e := 3) (s := 1) (ct := nct_List_Int) (q := (minus nq_List_Int (((v_s283).toNat) * 1 + 0))) (q' := nq_List_Int) (hs := [some (((v_s283).toNat) * 1 + 0), none]) (xs := (v_r326.fSpaces.map (eL (eI .i64)))) (ys := ((v_y329.set (v_k284).toNat (v_r326.fCells.length : Int)).map (eI .i64))) (fs := [.srf 38, .srf 37, .d (.v noB)]) (y := ((eL (eI .i64)) v_y329)) (y' := (.sl ((v_y329.set (v_k284).toNat (v_r326.fCells.length : Int)).map (eI .i64)))) (set_ob (f := (eL (eI .i64))) (l := v_r326.fSpaces) (k := (v_s283).toNat) (z := (v_y329.set (v_k284).toNat (v_r326.fCells.length : Int))) (p := .sl ((v_y329.set (v_k284).toNat (v_r326.fCells.length : Int)).map (eI .i64))) rfl) (by decide) (by decide) (by decide) (all_fits (fun _ => rfl)) (get_ob (f := (eL (eI .i64))) h149) (by decide) rfl rfl (by rw [Bool.eq_false_iff, ne_eq]; simp only [nq_List_Int, minus, plus, qpre, Bool.and_eq_true, Bool.or_eq_true, Bool.not_eq_true', decide_eq_true_eq, decide_eq_false_iff_not, and_true, and_false, true_and, false_and, or_true, or_false, true_or, false_or, not_true_eq_false, not_false_eq_true] <;> omega) rfl (by intro j' hj' h; rcases j' with _ | _ | j' <;> simp at h hj' <;> omega) rfl rfl rfl (by intro k hk; rw [Bool.eq_iff_iff]; simp only [nq_List_Int, minus, plus, qpre, Bool.and_eq_true, Bool.or_eq_true, Bool.not_eq_true', decide_eq_true_eq, decide_eq_false_iff_not, and_true, and_false, true_and, false_and, or_true, or_false, true_or, false_or, not_true_eq_false, not_false_eq_true] <;> omega)) (.cons (nfrz (l := 8) (B := 192) (ty := 39) (sz := 1) (ct := nct_List_Int) (q := nq_List_Int) (hs := [none, none]) (xs := ((v_r326.fSpaces.set ((v_s283).toNat) (v_y329.set (v_k284).toNat (v_r326.fCells.length : Int))).map (eL (eI .i64)))) (fs := [.srf 192, .d (.v noB), .d (.v noB)]) (by decide) (all_fits (fun _ => rfl)) (by intro j k h; rcases j with _ | _ | j <;> simp at h) rfl) .nil))))))))))))))))))))))))
                  · rw [if_neg h169] at h; cases h
                · rw [if_neg h168] at h; cases h
              · rw [if_neg h167] at h; cases h
          · rw [if_neg h150] at h; cases h
        · rw [if_neg h148] at h; cases h
  · rw [if_neg h139] at h
    obtain rfl := Option.some.inj h
    exact pend_sound TTok mix 14 (hs := [.c, .r ((eI .i64) v_r288), .t true, .c]) (by kernel_rfl) (by kernel_rfl) (by kernel_rfl) (.cons (G_cow_space_ok n v_r282 v_s283 _ h119) (.cons (nt h139) (.cons (show 0 + 2 ≤ 2 by decide) .nil)))
/- slices.Delete[[][]int,[]int] -/
def G_slices_Delete_int_int_raw (n : Nat) (v_s420 : (List Value)) (v_i421 : Int) (v_j422 : Int) : Option ((List Value)) :=
  if ((0 : Int) ≤ v_i421 ∧ v_i421 ≤ v_j422 ∧ v_j422 ≤ (v_s420.length : Int) ∧ (v_s420.length : Int) ≤ (v_s420.length : Int)) then
   if v_i421 = v_j422 then
    some v_s420
   else
    if ((0 : Int) ≤ v_i421 ∧ v_i421 ≤ (v_s420.length : Int)) then
     if ((0 : Int) ≤ v_j422 ∧ v_j422 ≤ (v_s420.length : Int)) then
      if v_i421.toNat ≤ v_j422.toNat ∧ v_j422.toNat ≤ v_s420.length ∧ v_s420.length ≤ v_s420.length then
       if ((0 : Int) ≤ (((v_i421.toNat + (v_s420.length - v_j422.toNat)) : Nat) : Int) ∧ (((v_i421.toNat + (v_s420.length - v_j422.toNat)) : Nat) : Int) ≤ (v_s420.length : Int) ∧ (v_s420.length : Int) ≤ ((delR v_s420 v_i421.toNat v_j422.toNat v_s420.length).length : Int)) then
        if ((v_i421.toNat + (v_s420.length - v_j422.toNat)) : Nat) ≤ v_s420.length ∧ v_s420.length ≤ (delR v_s420 v_i421.toNat v_j422.toNat v_s420.length).length then
         if (v_i421.toNat + (v_s420.length - v_j422.toNat)) ≤ (clrR (delR v_s420 v_i421.toNat v_j422.toNat v_s420.length) ((v_i421.toNat + (v_s420.length - v_j422.toNat)) : Nat) v_s420.length (Value.slice none 0 0)).length then
          some ((clrR (delR v_s420 v_i421.toNat v_j422.toNat v_s420.length) ((v_i421.toNat + (v_s420.length - v_j422.toNat)) : Nat) v_s420.length (Value.slice none 0 0)).take (v_i421.toNat + (v_s420.length - v_j422.toNat)))
         else none
        else none
       else none
      else none
     else none
    else none
  else none
theorem G_slices_Delete_int_int_raw_ok (n : Nat) (v_s420 : (List Value)) (v_i421 : Int) (v_j422 : Int) (r : (List Value)) (h : G_slices_Delete_int_int_raw n v_s420 v_i421 v_j422 = some r) : RetH Try.prog 63 [.srf 0, .d ((eI .i64) v_i421), .d ((eI .i64) v_j422)] [.row 39 1 (v_s420.map PV.v)] (.srf 1) [.none, .row 39 1 (r.map PV.v)] := by
  refine retH_run (n := 33) (fn := Try.f63) (c := bodyOf Try.f63) (by kernel_rfl) (by kernel_rfl) (by kernel_rfl) (by kernel_rfl) ?_
  have hF : KC 33 (FinH Try.prog Try.f63 [.row 39 1 (v_s420.map PV.v)] (.srf 1) [.none, .row 39 1 (r.map PV.v)]) := FinH.kc' (by kernel_rfl)
  unfold G_slices_Delete_int_int_raw at h
  by_cases h177 : ((0 : Int) ≤ v_i421 ∧ v_i421 ≤ v_j422 ∧ v_j422 ≤ (v_s420.length : Int) ∧ (v_s420.length : Int) ≤ (v_s420.length : Int))
  · rw [if_pos h177] at h
    by_cases h178 : v_i421 = v_j422
    · rw [if_pos h178] at h
      obtain rfl := Option.some.inj h
      exact pendH_sound TTok mix 13 (hs := [.u (.d (.v (.int .i64 (v_s420.length : Int)))), .e 32 [0] (dd) [], .t true, .dl 4, .mv 0]) [0, 62] (by kernel_rfl) (by kernel_rfl) (by kernel_rfl) (.cons (len_ob (f := PV.v) (l := v_s420)) (.cons (xs111 (P := Try.prog) (T := TT) (f := PV.v) (t := 23) (e := 39) (s := 1) (l := 0) (L := v_s420) (x := (.tmp 8)) (lo := (.tmp 9)) (hi := (.tmp 10)) (mx := (.tmp 12)) (a := v_i421) (ka := .i64) (b := v_j422) (kb := .i64) (c := (v_s420.length : Int)) (kc := .i64) (by kernel_rfl) h177) (.cons (bt h178) .nil)))
    · rw [if_neg h178] at h
      by_cases h179 : ((0 : Int) ≤ v_i421 ∧ v_i421 ≤ (v_s420.length : Int))
      · rw [if_pos h179] at h
        by_cases h180 : ((0 : Int) ≤ v_j422 ∧ v_j422 ≤ (v_s420.length : Int))
        · rw [if_pos h180] at h
          by_cases h181 : v_i421.toNat ≤ v_j422.toNat ∧ v_j422.toNat ≤ v_s420.length ∧ v_s420.length ≤ v_s420.length
          · rw [if_pos h181] at h
            by_cases h182 : ((0 : Int) ≤ (((v_i421.toNat + (v_s420.length - v_j422.toNat)) : Nat) : Int) ∧ (((v_i421.toNat + (v_s420.length - v_j422.toNat)) : Nat) : Int) ≤ (v_s420.length : Int) ∧ (v_s420.length : Int) ≤ ((delR v_s420 v_i421.toNat v_j422.toNat v_s420.length).length : Int))
            · rw [if_pos h182] at h
              by_cases h183 : ((v_i421.toNat + (v_s420.length - v_j422.toNat)) : Nat) ≤ v_s420.length ∧ v_s420.length ≤ (delR v_s420 v_i421.toNat v_j422.toNat v_s420.length).length
              · rw [if_pos h183] at h
                by_cases h184 : (v_i421.toNat + (v_s420.length - v_j422.toNat)) ≤ (clrR (delR v_s420 v_i421.toNat v_j422.toNat v_s420.length) ((v_i421.toNat + (v_s420.length - v_j422.toNat)) : Nat) v_s420.length (Value.slice none 0 0)).length
                · rw [if_pos h184] at h
                  obtain rfl := Option.some.inj h
                  exact pendH_sound TTok mix 18 (hs := [.u (.d (.v (.int .i64 (v_s420.length : Int)))), .e 32 [0] (dd) [], .t false, .u (.d (.v (.int .i64 (v_s420.length : Int)))), .e 77 [0] (.ssl 0 0 v_i421.toNat 1) [], .e 92 [0] (.ssl 0 v_j422.toNat v_s420.length 1) [], .e 97 [0] (.ssl 0 0 (v_i421.toNat + (v_s420.length - v_j422.toNat)) 1) [(0, .row 39 1 ((delR v_s420 v_i421.toNat v_j422.toNat v_s420.length).map PV.v))], .e 117 [] (.d (.v (.int .i64 (((v_i421.toNat + (v_s420.length - v_j422.toNat)) : Nat) : Int)))) [], .e 127 [0] (.ssl 0 ((v_i421.toNat + (v_s420.length - v_j422.toNat)) : Nat) v_s420.length 1) [], .e 132 [0] (dd) [(0, .row 39 1 ((clrR (delR v_s420 v_i421.toNat v_j422.toNat v_s420.length) ((v_i421.toNat + (v_s420.length - v_j422.toNat)) : Nat) v_s420.length (Value.slice none 0 0)).map PV.v))], .e 137 [0, 137] (.srf 137) [(0, .none), (137, .row 39 1 (((clrR (delR v_s420 v_i421.toNat v_j422.toNat v_s420.length) ((v_i421.toNat + (v_s420.length - v_j422.toNat)) : Nat) v_s420.length (Value.slice none 0 0)).take (v_i421.toNat + (v_s420.length - v_j422.toNat))).map PV.v))]]) [0, 137] (by kernel_rfl) (by kernel_rfl) (by kernel_rfl) (.cons (len_ob (f := PV.v) (l := v_s420)) (.cons (xs111 (P := Try.prog) (T := TT) (f := PV.v) (t := 23) (e := 39) (s := 1) (l := 0) (L := v_s420) (x := (.tmp 8)) (lo := (.tmp 9)) (hi := (.tmp 10)) (mx := (.tmp 12)) (a := v_i421) (ka := .i64) (b := v_j422) (kb := .i64) (c := (v_s420.length : Int)) (kc := .i64) (by kernel_rfl) h177) (.cons (bf h178) (.cons (len_ob (f := PV.v) (l := v_s420)) (.cons (xs01 (P := Try.prog) (T := TT) (f := PV.v) (t := 23) (e := 39) (s := 1) (l := 0) (L := v_s420) (x := (.tmp 20)) (hi := (.tmp 21)) (b := v_i421) (kb := .i64) (by kernel_rfl) h179) (.cons (xs10 (P := Try.prog) (T := TT) (f := PV.v) (t := 23) (e := 39) (s := 1) (l := 0) (L := v_s420) (x := (.tmp 23)) (lo := (.tmp 24)) (a := v_j422) (ka := .i64) (by kernel_rfl) h180) (.cons (xapp (ti := ⟨1, 24, .sl 3, [.sl]⟩) (P := Try.prog) (T := TT) (f := PV.v) (t := 23) (e := 39) (s := 1) (l := 0) (i := v_i421.toNat) (j := v_j422.toNat) (q := v_s420.length) (L := v_s420) (x := (.tmp 22)) (y := (.tmp 25)) (by kernel_rfl) (by kernel_rfl) h181) (.cons (xlen (P := Try.prog) (T := TT) (t := 23) (e := 39) (s := 1) (l := 0) (i := 0) (j := (v_i421.toNat + (v_s420.length - v_j422.toNat))) (x := (.tmp 28)) (by kernel_rfl)) (.cons (xt11 (P := Try.prog) (T := TT) (f := PV.v) (t := 23) (e := 39) (s := 1) (l := 0) (L := (delR v_s420 v_i421.toNat v_j422.toNat v_s420.length)) (x := (.tmp 27)) (lo := (.tmp 29)) (hi := (.tmp 30)) (a := (((v_i421.toNat + (v_s420.length - v_j422.toNat)) : Nat) : Int)) (ka := .i64) (b := (v_s420.length : Int)) (kb := .i64) (i := (v_i421.toNat + (v_s420.length - v_j422.toNat))) (by kernel_rfl) h182) (.cons (xclrZ (ti := ⟨1, 24, .sl 3, [.sl]⟩) (P := Try.prog) (T := TT) (f := PV.v) (t := 23) (e := 39) (s := 1) (l := 0) (i := ((v_i421.toNat + (v_s420.length - v_j422.toNat)) : Nat)) (j := v_s420.length) (z := (Value.slice none 0 0)) (zz := Z.sl) (L := (delR v_s420 v_i421.toNat v_j422.toNat v_s420.length)) (x := (.tmp 31)) (by kernel_rfl) (by kernel_rfl) (by kernel_rfl) (by kernel_rfl) (by kernel_rfl) (by decide) rfl h183) (.cons (xmv (P := Try.prog) (T := TT) (f := PV.v) (e := 39) (s := 1) (l := 0) (nl := 137) (L := (clrR (delR v_s420 v_i421.toNat v_j422.toNat v_s420.length) ((v_i421.toNat + (v_s420.length - v_j422.toNat)) : Nat) v_s420.length (Value.slice none 0 0))) (i := (v_i421.toNat + (v_s420.length - v_j422.toNat))) (x := (.tmp 0)) h184) .nil)))))))))))
                · rw [if_neg h184] at h; cases h
              · rw [if_neg h183] at h; cases h
            · rw [if_neg h182] at h; cases h
          · rw [if_neg h181] at h; cases h
        · rw [if_neg h180] at h; cases h
      · rw [if_neg h179] at h; cases h
  · rw [if_neg h177] at h; cases h
theorem G_slices_Delete_int_int_raw_sp {n i j : Nat} {l : List Value} (hij : i ≤ j) (hj : j ≤ l.length) : G_slices_Delete_int_int_raw n l (i : Int) (j : Int) = some (l.take i ++ l.drop j) := by
  unfold G_slices_Delete_int_int_raw
  rw [if_pos (by omega)]
  by_cases e : (i : Int) = (j : Int)
  · rw [if_pos e]
    have e : i = j := by omega
    subst e; simp
  · rw [if_neg e]
    simp only [Int.toNat_natCast]
    have hd : (delR l i j l.length).length = l.length := delR_len hij hj
    rw [if_pos (by omega), if_pos (by omega), if_pos (by omega), hd, if_pos (by omega), if_pos (by omega), if_pos (by rw [clrR_len (by omega) (by rw [hd]; omega), hd]; omega)]
    rw [cut_take hij hj]
theorem G_slices_Delete_int_int_raw_ret (n : Nat) : ∀ (us : List Value) (i j : Nat), i ≤ j → j ≤ us.length → RetH Try.prog 63 [.srf 0, .d (.v (.int .i64 i)), .d (.v (.int .i64 j))] [.row 39 1 (us.map .v)] (.srf 1) [.none, .row 39 1 ((us.take i ++ us.drop j).map .v)] :=
  fun us i j h1 h2 => G_slices_Delete_int_int_raw_ok n us i j _ (G_slices_Delete_int_int_raw_sp h1 h2)
inductive G_cow_Drop_L1_R where
  | x0 (v_w442 : (List Int)) (v_w443 : (List Int)) (v_w444 : (List Int))
def G_cow_Drop_L1_ex : G_cow_Drop_L1_R → Ex
  | .x0 _ _ _ => .exit 0
def G_cow_Drop_L1_st (v_r417 : (S_cow_Room)) (v_s398 : Int) : G_cow_Drop_L1_R → PS
  | .x0 v_w442 v_w443 v_w444 => ⟨(dd :: dd :: .ref 0 0 :: dd :: .ref 4 0 :: dd :: dd :: dd :: .srf 5 :: .srf 6 :: (dds 82 [])), [.box [.srf 1, .srf 2], .row 5 1 (v_w442.map (eI .u8)), .cu (outC 39 1 nq_List_Int [none, none] ((v_r417.fSpaces.take v_s398.toNat ++ v_r417.fSpaces.drop (wi .i64 (v_s398 + 1)).toNat).map (eL (eI .i64)))) [.srf 3, .d (.v noB), .d (.v noB)], .cu (bagC nct_List_Int nq_List_Int ((v_r417.fSpaces.take v_s398.toNat ++ v_r417.fSpaces.drop (wi .i64 (v_s398 + 1)).toNat).map (eL (eI .i64)))) [], .box [.d (vnil), .d (vnil)], .row 5 1 (v_w443.map (eI .u8)), .row 3 1 (v_w444.map (eI .i64))]⟩
def G_cow_Drop_L1_hd (v_r417 : (S_cow_Room)) (v_s398 : Int) (v_x433 : Int) (v_w434 : (List Int)) (v_w435 : (List Int)) (v_w436 : (List Int)) : PS := ⟨(dd :: dd :: .ref 0 0 :: dd :: .ref 4 0 :: dd :: dd :: dd :: .srf 5 :: .srf 6 :: (dds 28 (.srf 1 :: .d (.v (.int .i64 (v_r417.fCells.length : Int))) :: .d (.v (.int .i64 v_x433)) :: (dds 51 [])))), [.box [.srf 1, .srf 2], .row 5 1 (v_w434.map (eI .u8)), .cu (outC 39 1 nq_List_Int [none, none] ((v_r417.fSpaces.take v_s398.toNat ++ v_r417.fSpaces.drop (wi .i64 (v_s398 + 1)).toNat).map (eL (eI .i64)))) [.srf 3, .d (.v noB), .d (.v noB)], .cu (bagC nct_List_Int nq_List_Int ((v_r417.fSpaces.take v_s398.toNat ++ v_r417.fSpaces.drop (wi .i64 (v_s398 + 1)).toNat).map (eL (eI .i64)))) [], .box [.d (vnil), .d (vnil)], .row 5 1 (v_w435.map (eI .u8)), .row 3 1 (v_w436.map (eI .i64))]⟩
def G_cow_Drop_L1 (n : Nat) (v_r417 : (S_cow_Room)) (v_s398 : Int) : Nat → Int → (List Int) → (List Int) → (List Int) → Option G_cow_Drop_L1_R
  | 0, _, _, _, _ => none
  | k + 1, v_x433, v_w434, v_w435, v_w436 =>
    if v_x433 < (v_r417.fCells.length : Int) then
     if 0 ≤ v_x433 ∧ (v_x433).toNat < v_w434.length then
      (v_w434[(v_x433).toNat]?).bind fun (v_y438 : Int) =>
      if 0 ≤ v_x433 ∧ (v_x433).toNat < v_w436.length then
       (v_w436[(v_x433).toNat]?).bind fun (v_y439 : Int) =>
       (G_cow_many n (S_cow_Room.mk v_w434 (v_r417.fSpaces.take v_s398.toNat ++ v_r417.fSpaces.drop (wi .i64 (v_s398 + 1)).toNat)) v_x433).bind fun (v_r440 : (Int)) =>
       if v_r440 > 0 then
        (app 1 v_w435 ([v_y438])).bind fun (v_a441 : (List Int)) =>
        G_cow_Drop_L1 n v_r417 v_s398 k (wi .i64 (v_x433 + 1)) v_w434 v_a441 (v_w436.set (v_x433).toNat (v_w435.length : Int))
       else
        G_cow_Drop_L1 n v_r417 v_s398 k (wi .i64 (v_x433 + 1)) v_w434 v_w435 (v_w436.set (v_x433).toNat (v_w435.length : Int))
      else none
     else none
    else
     some (.x0 v_w434 v_w435 v_w436)
theorem G_cow_Drop_L1_ok {Fi : Ex → PS → Prop} (hF : KC 92 Fi) (ks : List Fr) (n : Nat) (v_r417 : (S_cow_Room)) (v_s398 : Int)  : ∀ (k : Nat) (v_x433 : Int) (v_w434 : (List Int)) (v_w435 : (List Int)) (v_w436 : (List Int)) (o : G_cow_Drop_L1_R), G_cow_Drop_L1 n v_r417 v_s398 k v_x433 v_w434 v_w435 v_w436 = some o → RunE Try.prog 92 Fi ks (G_cow_Drop_L1_ex o) (G_cow_Drop_L1_st v_r417 v_s398 o) → RunE Try.prog 92 Fi (.l k (cP (cB (cR (cL (cR (cR (cR (cR (cR (cR (bodyOf Try.f11))))))))))) :: ks) .normal (G_cow_Drop_L1_hd v_r417 v_s398 v_x433 v_w434 v_w435 v_w436)
  | 0, v_x433, v_w434, v_w435, v_w436, o, h, q => by rw [G_cow_Drop_L1] at h; cases h
  | k + 1, v_x433, v_w434, v_w435, v_w436, o, h, q => by
    rw [G_cow_Drop_L1] at h
    by_cases h187 : v_x433 < (v_r417.fCells.length : Int)
    · rw [if_pos h187] at h
      by_cases h188 : 0 ≤ v_x433 ∧ (v_x433).toNat < v_w434.length
      · rw [if_pos h188] at h
        obtain ⟨v_y438, h189, h⟩ := bind_some h
        by_cases h190 : 0 ≤ v_x433 ∧ (v_x433).toNat < v_w436.length
        · rw [if_pos h190] at h
          obtain ⟨v_y439, h191, h⟩ := bind_some h
          obtain ⟨v_r440, h192, h⟩ := bind_some h
          by_cases h193 : v_r440 > 0
          · rw [if_pos h193] at h
            obtain ⟨v_a441, h194, h⟩ := bind_some h
            exact pkk_sound TTok mix hF 18 (hs := [.t true, .y ((eI .u8) v_y438), .u (.d (.v (.int .i64 (v_w435.length : Int)))), .w ((v_w436.set (v_x433).toNat (v_w435.length : Int)).map (eI .i64)), .y ((eI .i64) v_y439), .c, .e 77 [1, 2, 3] (.d (.v (.int .i64 v_r440))) [], .t true, .bd, .w (v_a441.map (eI .u8))]) (ts := []) (s := [0, 1, 2, 3, 4, 102, 6]) (l := [2, 4, 8, 9, 38, 39, 40]) (by kernel_rfl) (by kernel_rfl) (.cons (dt h187) (.cons (idx_ob (f := (eI .u8)) h188) (.cons (get_ob (f := (eI .u8)) h189) (.cons (len_ob (f := (eI .u8)) (l := v_w435)) (.cons (idx_ob (f := (eI .i64)) h190) (.cons (get_ob (f := (eI .i64)) h191) (.cons (Eq.refl (pcells (.v (.int .i64 (v_w435.length : Int))))) (.cons (set_ob (f := (eI .i64)) (l := v_w436) (k := (v_x433).toNat) (z := (v_w435.length : Int)) (p := .v (.int .i64 (v_w435.length : Int))) rfl) (.cons (ncall (P := Try.prog) (T := TT) (fv := .d (.clo 62 [])) (vs := [.agg [.srf 1, .srf 2], .d (.v (.int .i64 v_x433))]) (f := .func 62) (args := #[(.tmp 50), (.tmp 51)]) (tys := #[25, 3]) (m0 := [(1, .row 5 1 (v_w434.map (eI .u8))), (2, .cu (outC 39 1 nq_List_Int [none, none] ((v_r417.fSpaces.take v_s398.toNat ++ v_r417.fSpaces.drop (wi .i64 (v_s398 + 1)).toNat).map (eL (eI .i64)))) [.srf 3, .d (.v noB), .d (.v noB)]), (3, .cu (bagC nct_List_Int nq_List_Int ((v_r417.fSpaces.take v_s398.toNat ++ v_r417.fSpaces.drop (wi .i64 (v_s398 + 1)).toNat).map (eL (eI .i64)))) [])]) [(1, (.sl (v_w434.map (eI .u8)))), (2, (.sl ((v_r417.fSpaces.take v_s398.toNat ++ v_r417.fSpaces.drop (wi .i64 (v_s398 + 1)).toNat).map (eL (eI .i64)))))] (lend_cons (l := 1) (p := (.sl (v_w434.map (eI .u8)))) (Lend.row 1 5 1 (v_w434.map (eI .u8)) (List.mem_cons_self ..)) (lend_cons (l := 2) (p := (.sl ((v_r417.fSpaces.take v_s398.toNat ++ v_r417.fSpaces.drop (wi .i64 (v_s398 + 1)).toNat).map (eL (eI .i64))))) (Lend.nst 2 3 39 1 nct_List_Int nq_List_Int [none, none] ((v_r417.fSpaces.take v_s398.toNat ++ v_r417.fSpaces.drop (wi .i64 (v_s398 + 1)).toNat).map (eL (eI .i64))) [.srf 3, .d (.v noB), .d (.v noB)] (List.mem_cons_of_mem _ (List.mem_cons_self ..)) (List.mem_cons_of_mem _ (List.mem_cons_of_mem _ (List.mem_cons_self ..))) rfl (all_fits (fun _ => rfl)) hole0) lend_nil)) rfl rfl (G_cow_many_ok n (S_cow_Room.mk v_w434 (v_r417.fSpaces.take v_s398.toNat ++ v_r417.fSpaces.drop (wi .i64 (v_s398 + 1)).toNat)) v_x433 _ h192) (by rfl)) (.cons (dt h193) (.cons (app_ob (f := (eI .u8)) (s := 1) h194 (fun _ => rfl)).1 (.cons (app_ob (f := (eI .u8)) (s := 1) h194 (fun _ => rfl)).2.1 (.cons (app_ob (f := (eI .u8)) (s := 1) h194 (fun _ => rfl)).2.2.1 (.cons (app_ob (f := (eI .u8)) (s := 1) h194 (fun _ => rfl)).2.2.2 .nil)))))))))))))) (G_cow_Drop_L1_ok hF ks n v_r417 v_s398 k (wi .i64 (v_x433 + 1)) v_w434 v_a441 (v_w436.set (v_x433).toNat (v_w435.length : Int)) _ h q)
          · rw [if_neg h193] at h
            exact pkk_sound TTok mix hF 18 (hs := [.t true, .y ((eI .u8) v_y438), .u (.d (.v (.int .i64 (v_w435.length : Int)))), .w ((v_w436.set (v_x433).toNat (v_w435.length : Int)).map (eI .i64)), .y ((eI .i64) v_y439), .c, .e 77 [1, 2, 3] (.d (.v (.int .i64 v_r440))) [], .t false]) (ts := []) (s := [0, 1, 2, 3, 4, 5, 6]) (l := [2, 4, 8, 9, 38, 39, 40]) (by kernel_rfl) (by kernel_rfl) (.cons (dt h187) (.cons (idx_ob (f := (eI .u8)) h188) (.cons (get_ob (f := (eI .u8)) h189) (.cons (len_ob (f := (eI .u8)) (l := v_w435)) (.cons (idx_ob (f := (eI .i64)) h190) (.cons (get_ob (f := (eI .i64)) h191) (.cons (Eq.refl (pcells (.v (.int .i64 (v_w435.length : Int))))) (.cons (set_ob (f := (eI .i64)) (l := v_w436) (k := (v_x433).toNat) (z := (v_w435.length : Int)) (p := .v (.int .i64 (v_w435.length : Int))) rfl) (.cons (ncall (P := Try.prog) (T := TT) (fv := .d (.clo 62 [])) (vs := [.agg [.srf 1, .srf 2], .d (.v (.int .i64 v_x433))]) (f := .func 62) (args := #[(.tmp 50), (.tmp 51)]) (tys := #[25, 3]) (m0 := [(1, .row 5 1 (v_w434.map (eI .u8))), (2, .cu (outC 39 1 nq_List_Int [none, none] ((v_r417.fSpaces.take v_s398.toNat ++ v_r417.fSpaces.drop (wi .i64 (v_s398 + 1)).toNat).map (eL (eI .i64)))) [.srf 3, .d (.v noB), .d (.v noB)]), (3, .cu (bagC nct_List_Int nq_List_Int ((v_r417.fSpaces.take v_s398.toNat ++ v_r417.fSpaces.drop (wi .i64 (v_s398 + 1)).toNat).map (eL (eI .i64)))) [])]) [(1, (.sl (v_w434.map (eI .u8)))), (2, (.sl ((v_r417.fSpaces.take v_s398.toNat ++ v_r417.fSpaces.drop (wi .i64 (v_s398 + 1)).toNat).map (eL (eI .i64)))))] (lend_cons (l := 1) (p := (.sl (v_w434.map (eI .u8)))) (Lend.row 1 5 1 (v_w434.map (eI .u8)) (List.mem_cons_self ..)) (lend_cons (l := 2) (p := (.sl ((v_r417.fSpaces.take v_s398.toNat ++ v_r417.fSpaces.drop (wi .i64 (v_s398 + 1)).toNat).map (eL (eI .i64))))) (Lend.nst 2 3 39 1 nct_List_Int nq_List_Int [none, none] ((v_r417.fSpaces.take v_s398.toNat ++ v_r417.fSpaces.drop (wi .i64 (v_s398 + 1)).toNat).map (eL (eI .i64))) [.srf 3, .d (.v noB), .d (.v noB)] (List.mem_cons_of_mem _ (List.mem_cons_self ..)) (List.mem_cons_of_mem _ (List.mem_cons_of_mem _ (List.mem_cons_self ..))) rfl (all_fits (fun _ => rfl)) hole0) lend_nil)) rfl rfl (G_cow_many_ok n (S_cow_Room.mk v_w434 (v_r417.fSpaces.take v_s398.toNat ++ v_r417.fSpaces.drop (wi .i64 (v_s398 + 1)).toNat)) v_x433 _ h192) (by rfl)) (.cons (df h193) .nil)))))))))) (G_cow_Drop_L1_ok hF ks n v_r417 v_s398 k (wi .i64 (v_x433 + 1)) v_w434 v_w435 (v_w436.set (v_x433).toNat (v_w435.length : Int)) _ h q)
        · rw [if_neg h190] at h; cases h
      · rw [if_neg h188] at h; cases h
    · rw [if_neg h187] at h
      cases h
      exact pkk_sound TTok mix hF 8 (hs := [.t false]) (ts := []) (s := [0, 1, 2, 3, 4, 5, 6]) (l := [2, 4, 8, 9]) (by kernel_rfl) (by kernel_rfl) (.cons (df h187) .nil) q
inductive G_cow_Drop_L3_R where
  | x0 (v_w512 : (List Int)) (v_w513 : (List (List Int))) (v_w514 : (List Int)) (v_w515 : (List Int))
def G_cow_Drop_L3_ex : G_cow_Drop_L3_R → Ex
  | .x0 _ _ _ _ => .exit 4
def G_cow_Drop_L3_st (v_r417 : (S_cow_Room)) (v_s398 : Int) (v_x487 : Int) (v_y493 : (List Int)) (v_w489 : (List (List Int))) : G_cow_Drop_L3_R → PS
  | .x0 v_w512 v_w513 v_w514 v_w515 => ⟨(dd :: dd :: .ref 0 0 :: dd :: .ref 4 0 :: dd :: dd :: dd :: .srf 5 :: .srf 6 :: (dds 50 (.srf 2 :: .d (.v (.int .i64 ((v_r417.fSpaces.take v_s398.toNat ++ v_r417.fSpaces.drop (wi .i64 (v_s398 + 1)).toNat).length : Int))) :: .d (.v (.int .i64 v_x487)) :: (dds 29 [])))), [.box [.srf 1, .srf 2], .row 5 1 (v_w512.map (eI .u8)), .cu (outC 39 1 nq_List_Int [none, none] (v_w513.map (eL (eI .i64)))) [.srf 3, .d (.v noB), .d (.v noB)], .cu (bagC nct_List_Int nq_List_Int (v_w513.map (eL (eI .i64)))) [], .box [.d (vnil), .d (vnil)], .row 5 1 (v_w514.map (eI .u8)), .row 3 1 (v_w515.map (eI .i64))]⟩
def G_cow_Drop_L3_hd (v_r417 : (S_cow_Room)) (v_s398 : Int) (v_x487 : Int) (v_y493 : (List Int)) (v_w489 : (List (List Int))) (v_x502 : Int) (v_w503 : (List Int)) (v_w504 : (List Int)) (v_w505 : (List Int)) (v_w506 : (List Int)) : PS := ⟨(dd :: dd :: .ref 0 0 :: dd :: .ref 5 0 :: dd :: dd :: dd :: .srf 6 :: .srf 7 :: dd :: dd :: dd :: .srf 4 :: (dds 46 (.srf 2 :: .d (.v (.int .i64 ((v_r417.fSpaces.take v_s398.toNat ++ v_r417.fSpaces.drop (wi .i64 (v_s398 + 1)).toNat).length : Int))) :: .d (.v (.int .i64 v_x487)) :: dd :: dd :: dd :: .srf 4 :: .d (.v (.int .i64 (v_y493.length : Int))) :: .d (.v (.int .i64 v_x502)) :: (dds 23 [])))), [.box [.srf 1, .srf 2], .row 5 1 (v_w503.map (eI .u8)), .cu (outC 39 1 (minus nq_List_Int (((v_x487).toNat) * 1 + 0)) [some (((v_x487).toNat) * 1 + 0), none] (v_w489.map (eL (eI .i64)))) [.srf 3, .srf 4, .d (.v noB)], .cu (bagC nct_List_Int (minus nq_List_Int (((v_x487).toNat) * 1 + 0)) (v_w489.map (eL (eI .i64)))) [], .row 3 1 (v_w504.map (eI .i64)), .box [.d (vnil), .d (vnil)], .row 5 1 (v_w505.map (eI .u8)), .row 3 1 (v_w506.map (eI .i64))]⟩
def G_cow_Drop_L3 (n : Nat) (v_r417 : (S_cow_Room)) (v_s398 : Int) (v_x487 : Int) (v_y493 : (List Int)) (v_w489 : (List (List Int))) : Nat → Int → (List Int) → (List Int) → (List Int) → (List Int) → Option G_cow_Drop_L3_R
  | 0, _, _, _, _, _ => none
  | k + 1, v_x502, v_w503, v_w504, v_w505, v_w506 =>
    if v_x502 < (v_y493.length : Int) then
     if 0 ≤ v_x502 ∧ (v_x502).toNat < v_w504.length then
      (v_w504[(v_x502).toNat]?).bind fun (v_y508 : Int) =>
      if 0 ≤ v_y508 ∧ (v_y508).toNat < v_w506.length then
       (v_w506[(v_y508).toNat]?).bind fun (v_y509 : Int) =>
       if 0 ≤ v_x502 ∧ (v_x502).toNat < v_w504.length then
        (v_w504[(v_x502).toNat]?).bind fun (v_y510 : Int) =>
        G_cow_Drop_L3 n v_r417 v_s398 v_x487 v_y493 v_w489 k (wi .i64 (v_x502 + 1)) v_w503 (v_w504.set (v_x502).toNat v_y509) v_w505 v_w506
       else none
      else none
     else none
    else
     (v_w489[(v_x487).toNat]?).bind fun (v_y511 : (List Int)) =>
     some (.x0 v_w503 (v_w489.set ((v_x487).toNat) v_w504) v_w505 v_w506)
theorem G_cow_Drop_L3_ok {Fi : Ex → PS → Prop} (hF : KC 92 Fi) (ks : List Fr) (n : Nat) (v_r417 : (S_cow_Room)) (v_s398 : Int) (v_x487 : Int) (v_y493 : (List Int)) (v_w489 : (List (List Int)))  : ∀ (k : Nat) (v_x502 : Int) (v_w503 : (List Int)) (v_w504 : (List Int)) (v_w505 : (List Int)) (v_w506 : (List Int)) (o : G_cow_Drop_L3_R), G_cow_Drop_L3 n v_r417 v_s398 v_x487 v_y493 v_w489 k v_x502 v_w503 v_w504 v_w505 v_w506 = some o → RunE Try.prog 92 Fi ks (G_cow_Drop_L3_ex o) (G_cow_Drop_L3_st v_r417 v_s398 v_x487 v_y493 v_w489 o) → RunE Try.prog 92 Fi (.l k (cP (cB (cR (cR (cB (cL (cR (cR (cP (cB (cR (cL (cR (cR (cR (cR (cR (cR (cR (bodyOf Try.f11)))))))))))))))))))) :: ks) .normal (G_cow_Drop_L3_hd v_r417 v_s398 v_x487 v_y493 v_w489 v_x502 v_w503 v_w504 v_w505 v_w506)
  | 0, v_x502, v_w503, v_w504, v_w505, v_w506, o, h, q => by rw [G_cow_Drop_L3] at h; cases h
  | k + 1, v_x502, v_w503, v_w504, v_w505, v_w506, o, h, q => by
    rw [G_cow_Drop_L3] at h
    by_cases h225 : v_x502 < (v_y493.length : Int)
    · rw [if_pos h225] at h
      by_cases h226 : 0 ≤ v_x502 ∧ (v_x502).toNat < v_w504.length
      · rw [if_pos h226] at h
        obtain ⟨v_y508, h227, h⟩ := bind_some h
        by_cases h228 : 0 ≤ v_y508 ∧ (v_y508).toNat < v_w506.length
        · rw [if_pos h228] at h
          obtain ⟨v_y509, h229, h⟩ := bind_some h
          by_cases h230 : 0 ≤ v_x502 ∧ (v_x502).toNat < v_w504.length
          · rw [if_pos h230] at h
            obtain ⟨v_y510, h231, h⟩ := bind_some h
            exact pkk_sound TTok mix hF 13 (hs := [.t true, .y ((eI .i64) v_y508), .y ((eI .i64) v_y509), .w ((v_w504.set (v_x502).toNat v_y509).map (eI .i64)), .y ((eI .i64) v_y510)]) (ts := []) (s := [0, 1, 2, 3, 4, 5, 6, 7]) (l := [2, 4, 8, 9, 13, 60, 61, 62, 66, 67, 68]) (by kernel_rfl) (by kernel_rfl) (.cons (dt h225) (.cons (idx_ob (f := (eI .i64)) h226) (.cons (get_ob (f := (eI .i64)) h227) (.cons (idx_ob (f := (eI .i64)) h228) (.cons (get_ob (f := (eI .i64)) h229) (.cons (idx_ob (f := (eI .i64)) h230) (.cons (get_ob (f := (eI .i64)) h231) (.cons (Eq.refl (pcells (.v (.int .i64 v_y509)))) (.cons (set_ob (f := (eI .i64)) (l := v_w504) (k := (v_x502).toNat) (z := v_y509) (p := .v (.int .i64 v_y509)) rfl) .nil))))))))) (G_cow_Drop_L3_ok hF ks n v_r417 v_s398 v_x487 v_y493 v_w489 k (wi .i64 (v_x502 + 1)) v_w503 (v_w504.set (v_x502).toNat v_y509) v_w505 v_w506 _ h q)
          · rw [if_neg h230] at h; cases h
        · rw [if_neg h228] at h; cases h
      · rw [if_neg h226] at h; cases h
    · rw [if_neg h225] at h
      obtain ⟨v_y511, h232, h⟩ := bind_some h
      cases h
      exact pkk_sound TTok mix hF 9 (hs := [.t false, .dl 3, .sx [2, 3, 4] (nClose 2 3 4 39 1 nct_List_Int nq_List_Int [none, none] ((v_w489.set ((v_x487).toNat) v_w504).map (eL (eI .i64))) [.srf 3, .srf 4, .d (.v noB)] 0)]) (ts := []) (s := [0, 1, 2, 13, 5, 6, 7]) (l := [2, 4, 8, 9, 60, 61, 62]) (by kernel_rfl) (by kernel_rfl) (.cons (df h225) (.cons (nclose' (l := 2) (B := 3) (L := 4) (ty := 39) (sz := 1) (i := (v_x487).toNat) (off := 0) (j := 0) (e := 3) (s := 1) (ct := nct_List_Int) (q := (minus nq_List_Int (((v_x487).toNat) * 1 + 0))) (q' := nq_List_Int) (hs := [some (((v_x487).toNat) * 1 + 0), none]) (xs := (v_w489.map (eL (eI .i64)))) (ys := (v_w504.map (eI .i64))) (fs := [.srf 3, .srf 4, .d (.v noB)]) (y := ((eL (eI .i64)) v_y511)) (y' := (.sl (v_w504.map (eI .i64)))) (set_ob (f := (eL (eI .i64))) (l := v_w489) (k := (v_x487).toNat) (z := v_w504) (p := .sl (v_w504.map (eI .i64))) rfl) (by decide) (by decide) (by decide) (all_fits (fun _ => rfl)) (get_ob (f := (eL (eI .i64))) h232) (by decide) rfl rfl (by rw [Bool.eq_false_iff, ne_eq]; simp only [nq_List_Int, minus, plus, qpre, Bool.and_eq_true, Bool.or_eq_true, Bool.not_eq_true', decide_eq_true_eq, decide_eq_false_iff_not, and_true, and_false, true_and, false_and, or_true, or_false, true_or, false_or, not_true_eq_false, not_false_eq_true] <;> omega) rfl (by intro j' hj' h; rcases j' with _ | _ | j' <;> simp at h hj' <;> omega) rfl rfl rfl (by intro k hk; rw [Bool.eq_iff_iff]; simp only [nq_List_Int, minus, plus, qpre, Bool.and_eq_true, Bool.or_eq_true, Bool.not_eq_true', decide_eq_true_eq, decide_eq_false_iff_not, and_true, and_false, true_and, false_and, or_true, or_false, true_or, false_or, not_true_eq_false, not_false_eq_true] <;> omega)) .nil)) q
inductive G_cow_Drop_L4_R where
  | x0 (v_w521 : (List Int)) (v_w522 : (List (List Int))) (v_w523 : (List Int))
def G_cow_Drop_L4_ex : G_cow_Drop_L4_R → Ex
  | .x0 _ _ _ => .exit 2
def G_cow_Drop_L4_st (v_r417 : (S_cow_Room)) (v_s398 : Int) : G_cow_Drop_L4_R → PS
  | .x0 v_w521 v_w522 v_w523 => ⟨(dd :: dd :: .ref 0 0 :: dd :: .ref 4 0 :: dd :: dd :: dd :: .srf 5 :: (dds 83 [])), [.box [.srf 1, .srf 2], .row 5 1 (v_w521.map (eI .u8)), .cu (outC 39 1 nq_List_Int [none, none] (v_w522.map (eL (eI .i64)))) [.srf 3, .d (.v noB), .d (.v noB)], .cu (bagC nct_List_Int nq_List_Int (v_w522.map (eL (eI .i64)))) [], .box [.d (vnil), .d (vnil)], .row 5 1 (v_w523.map (eI .u8))]⟩
def G_cow_Drop_L4_hd (v_r417 : (S_cow_Room)) (v_s398 : Int) (v_x487 : Int) (v_w488 : (List Int)) (v_w489 : (List (List Int))) (v_w490 : (List Int)) (v_w491 : (List Int)) : PS := ⟨(dd :: dd :: .ref 0 0 :: dd :: .ref 4 0 :: dd :: dd :: dd :: .srf 5 :: .srf 6 :: (dds 50 (.srf 2 :: .d (.v (.int .i64 ((v_r417.fSpaces.take v_s398.toNat ++ v_r417.fSpaces.drop (wi .i64 (v_s398 + 1)).toNat).length : Int))) :: .d (.v (.int .i64 v_x487)) :: (dds 29 [])))), [.box [.srf 1, .srf 2], .row 5 1 (v_w488.map (eI .u8)), .cu (outC 39 1 nq_List_Int [none, none] (v_w489.map (eL (eI .i64)))) [.srf 3, .d (.v noB), .d (.v noB)], .cu (bagC nct_List_Int nq_List_Int (v_w489.map (eL (eI .i64)))) [], .box [.d (vnil), .d (vnil)], .row 5 1 (v_w490.map (eI .u8)), .row 3 1 (v_w491.map (eI .i64))]⟩
def G_cow_Drop_L4 (n : Nat) (v_r417 : (S_cow_Room)) (v_s398 : Int) : Nat → Int → (List Int) → (List (List Int)) → (List Int) → (List Int) → Option G_cow_Drop_L4_R
  | 0, _, _, _, _, _ => none
  | k + 1, v_x487, v_w488, v_w489, v_w490, v_w491 =>
    if v_x487 < ((v_r417.fSpaces.take v_s398.toNat ++ v_r417.fSpaces.drop (wi .i64 (v_s398 + 1)).toNat).length : Int) then
     if 0 ≤ v_x487 ∧ (v_x487).toNat < v_w489.length then
      (v_w489[(v_x487).toNat]?).bind fun (v_y493 : (List Int)) =>
      (G_cow_Drop_L3 n v_r417 v_s398 v_x487 v_y493 v_w489 n 0 v_w488 v_y493 v_w490 v_w491).bind fun v_o516 => match v_o516 with
      | .x0 v_z517 v_z518 v_z519 v_z520 =>
        G_cow_Drop_L4 n v_r417 v_s398 k (wi .i64 (v_x487 + 1)) v_z517 v_z518 v_z519 v_z520
     else none
    else
     some (.x0 v_w488 v_w489 v_w490)
theorem G_cow_Drop_L4_ok {Fi : Ex → PS → Prop} (hF : KC 92 Fi) (ks : List Fr) (n : Nat) (v_r417 : (S_cow_Room)) (v_s398 : Int)  : ∀ (k : Nat) (v_x487 : Int) (v_w488 : (List Int)) (v_w489 : (List (List Int))) (v_w490 : (List Int)) (v_w491 : (List Int)) (o : G_cow_Drop_L4_R), G_cow_Drop_L4 n v_r417 v_s398 k v_x487 v_w488 v_w489 v_w490 v_w491 = some o → RunE Try.prog 92 Fi ks (G_cow_Drop_L4_ex o) (G_cow_Drop_L4_st v_r417 v_s398 o) → RunE Try.prog 92 Fi (.l k (cP (cB (cR (cL (cR (cR (cR (cR (cR (cR (cR (bodyOf Try.f11)))))))))))) :: ks) .normal (G_cow_Drop_L4_hd v_r417 v_s398 v_x487 v_w488 v_w489 v_w490 v_w491)
  | 0, v_x487, v_w488, v_w489, v_w490, v_w491, o, h, q => by rw [G_cow_Drop_L4] at h; cases h
  | k + 1, v_x487, v_w488, v_w489, v_w490, v_w491, o, h, q => by
    rw [G_cow_Drop_L4] at h
    by_cases h215 : v_x487 < ((v_r417.fSpaces.take v_s398.toNat ++ v_r417.fSpaces.drop (wi .i64 (v_s398 + 1)).toNat).length : Int)
    · rw [if_pos h215] at h
      by_cases h216 : 0 ≤ v_x487 ∧ (v_x487).toNat < v_w489.length
      · rw [if_pos h216] at h
        obtain ⟨v_y493, h217, h⟩ := bind_some h
        obtain ⟨v_o516, h233, h⟩ := bind_some h
        refine pkk_sound TTok mix hF 14 (hs := [.t true, .e 12 [2] (.ept 2 1 ((v_x487).toNat) 0) [], .e 17 [2, 3, 17, 18] (.srf 17) [(3, .none), (17, .row 3 1 (v_y493.map (eI .i64))), (18, .cu (bagC nct_List_Int (minus nq_List_Int (((v_x487).toNat) * 1 + 0)) (v_w489.map (eL (eI .i64)))) []), (2, .cu (outC 39 1 (minus nq_List_Int (((v_x487).toNat) * 1 + 0)) [some (((v_x487).toNat) * 1 + 0), none] (v_w489.map (eL (eI .i64)))) [.srf 18, .srf 17, .d (.v noB)])], .u (.d (.v (.int .i64 (v_y493.length : Int)))), .n n]) (ts := []) (s := [0, 1, 2, 18, 17, 4, 5, 6]) (l := [2, 4, 8, 9, 13, 60, 61, 62, 66, 67, 68]) (by kernel_rfl) (by kernel_rfl) (.cons (dt h215) (.cons (nidx (P := Try.prog) (T := TT) (t := 23) (l := 2) (ty := 39) (sz := 1) (q := nq_List_Int) (hs := [none, none]) (xs := (v_w489.map (eL (eI .i64)))) (fs := [.srf 3, .d (.v noB), .d (.v noB)]) (x := (.tmp 60)) (i := (.tmp 62)) (ik := .i64) (j := v_x487) (by kernel_rfl) h216.1 (by rw [List.length_map]; exact h216.2)) (.cons (ntake (P := Try.prog) (T := TT) (t := 39) (l := 2) (ty := 39) (sz := 1) (i := (v_x487).toNat) (off := 0) (q := nq_List_Int) (hs := [none, none]) (xs := (v_w489.map (eL (eI .i64)))) (fs := [.srf 3, .d (.v noB), .d (.v noB)]) (x := (.tmp 64)) (B := 3) (nl := 17) (j := 0) (e := 3) (s := 1) (ct := nct_List_Int) (ys := (v_y493.map (eI .i64))) (y := ((eL (eI .i64)) v_y493)) (by kernel_rfl) (all_fits (fun _ => rfl)) (get_ob (f := (eL (eI .i64))) h217) rfl (by simp only [nq_List_Int, minus, plus, qpre, Bool.and_eq_true, Bool.or_eq_true, Bool.not_eq_true', decide_eq_true_eq, decide_eq_false_iff_not, and_true, and_false, true_and, false_and, or_true, or_false, true_or, false_or, not_true_eq_false, not_false_eq_true] <;> omega) rfl rfl (by decide) rfl (by decide)) (.cons (len_ob (f := (eI .i64)) (l := v_y493)) .nil)))) (G_cow_Drop_L3_ok hF (.b 4 :: .b 3 :: .s (cR (cR (cR (cP (cB (cR (cL (cR (cR (cR (cR (cR (cR (cR (bodyOf Try.f11))))))))))))))) :: .l k (cP (cB (cR (cL (cR (cR (cR (cR (cR (cR (cR (bodyOf Try.f11)))))))))))) :: ks) n v_r417 v_s398 v_x487 v_y493 v_w489 n 0 v_w488 v_y493 v_w490 v_w491 _ h233 ?_)
        cases v_o516 with
        | x0 v_z517 v_z518 v_z519 v_z520 =>
          try dsimp only at h
          exact pkk_sound TTok mix hF 3 (hs := []) (ts := []) (s := [0, 1, 2, 3, 4, 5, 6]) (l := [2, 4, 8, 9, 60, 61, 62]) (by kernel_rfl) (by kernel_rfl) .nil (G_cow_Drop_L4_ok hF ks n v_r417 v_s398 k (wi .i64 (v_x487 + 1)) v_z517 v_z518 v_z519 v_z520 _ h q)
      · rw [if_neg h216] at h; cases h
    · rw [if_neg h215] at h
      cases h
      exact pkk_sound TTok mix hF 8 (hs := [.t false]) (ts := []) (s := [0, 1, 2, 3, 4, 5]) (l := [2, 4, 8]) (by kernel_rfl) (by kernel_rfl) (.cons (df h215) .nil) q
/- ringhall/cow.Drop -/
def G_cow_Drop (n : Nat) (v_r397 : S_cow_Room) (v_s398 : Int) : Option (S_cow_Room × Int × Int) :=
  (G_cow_space n v_r397 v_s398).bind fun (v_r402 : (Int)) =>
  if v_r402 = 0 then
   (G_cow_copied_h n v_r397).bind fun (v_r417 : (S_cow_Room)) =>
   if 0 ≤ v_s398 ∧ v_s398 ≤ (wi .i64 (v_s398 + 1)) ∧ (wi .i64 (v_s398 + 1)) ≤ (v_r417.fSpaces.length : Int) then
    (mkL 8 0 (v_r417.fCells.length : Int)).bind fun (v_m427 : (List Int)) =>
    (G_cow_Drop_L1 n v_r417 v_s398 n 0 v_r417.fCells ([] : List Int) v_m427).bind fun v_o445 => match v_o445 with
    | .x0 v_z446 v_z447 v_z448 =>
      (G_cow_Drop_L4 n v_r417 v_s398 n 0 v_z446 (v_r417.fSpaces.take v_s398.toNat ++ v_r417.fSpaces.drop (wi .i64 (v_s398 + 1)).toNat) v_z447 v_z448).bind fun v_o524 => match v_o524 with
      | .x0 v_z525 v_z526 v_z527 =>
        some ((S_cow_Room.mk v_z527 v_z526), (wi .i64 ((v_z525.length : Int) - (v_z527.length : Int))), 0)
   else none
  else
   some ((S_cow_Room.mk ([] : (List Int)) ([] : (List (List Int)))), 0, v_r402)
theorem G_cow_Drop_ok (n : Nat) (v_r397 : S_cow_Room) (v_s398 : Int) (r : S_cow_Room × Int × Int) (h : G_cow_Drop n v_r397 v_s398 = some r) : Ret Try.prog 11 [eS_cow_Room v_r397, (eI .i64) v_s398] (.tup [eS_cow_Room r.1, (eI .i64) r.2.1, (eI .i64) r.2.2]) := by
  refine ret_run (n := 92) (fn := Try.f11) (c := bodyOf Try.f11) (by kernel_rfl) (by kernel_rfl) (by kernel_rfl) (by kernel_rfl) ?_
  have hF : KC 92 (FinR Try.prog Try.f11 (.tup [eS_cow_Room r.1, (eI .i64) r.2.1, (eI .i64) r.2.2])) := FinR.kc' (by kernel_rfl)
  unfold G_cow_Drop at h
  obtain ⟨v_r402, h173, h⟩ := bind_some h
  by_cases h175 : v_r402 = 0
  · rw [if_pos h175] at h
    obtain ⟨v_r417, h176, h⟩ := bind_some h
    by_cases h185 : 0 ≤ v_s398 ∧ v_s398 ≤ (wi .i64 (v_s398 + 1)) ∧ (wi .i64 (v_s398 + 1)) ≤ (v_r417.fSpaces.length : Int)
    · rw [if_pos h185] at h
      obtain ⟨v_m427, h186, h⟩ := bind_some h
      obtain ⟨v_o445, h195, h⟩ := bind_some h
      refine pkk_sound TTok mix hF 22 (hs := [.c, .r ((eI .i64) v_r402), .t false, .c, .h [] [] [.row 5 1 (v_r417.fCells.map (eI .u8)), .cu (outC 39 1 nq_List_Int [none, none] (v_r417.fSpaces.map (eL (eI .i64)))) [.srf 2, .d (.v noB), .d (.v noB)], .cu (bagC nct_List_Int nq_List_Int (v_r417.fSpaces.map (eL (eI .i64)))) []] (.agg [.srf 0, .srf 1]), .c, .c, .e 90 [56, 57, 90, 91] (.srf 90) [(56, .none), (57, .none), (91, .cu (bagC nct_List_Int nq_List_Int ((v_r417.fSpaces.take v_s398.toNat ++ v_r417.fSpaces.drop (wi .i64 (v_s398 + 1)).toNat).map (eL (eI .i64)))) []), (90, .cu (outC 39 1 nq_List_Int [none, none] ((v_r417.fSpaces.take v_s398.toNat ++ v_r417.fSpaces.drop (wi .i64 (v_s398 + 1)).toNat).map (eL (eI .i64)))) [.srf 91, .d (.v noB), .d (.v noB)])], .c, .c, .u (.d (.v (.int .i64 (v_r417.fCells.length : Int)))), .w (v_m427.map (eI .i64)), .c, .u (.d (.v (.int .i64 (v_r417.fCells.length : Int)))), .n n]) (ts := [(8, 5, 1)]) (s := [0, 55, 90, 91, 5, 155, 125]) (l := [2, 4, 8, 9, 38, 39, 40]) (by kernel_rfl) (by kernel_rfl) (.cons (G_cow_space_ok n v_r397 v_s398 _ h173) (.cons (nf h175) (.cons (G_cow_copied_h_ok n v_r397 _ h176) (.cons (show 0 + 2 ≤ 2 by decide) (.cons (ndel' (P := Try.prog) (T := TT) (f' := (eI .i64)) (W := v_r417.fSpaces) (l := 56) (B := 57) (nl := 90) (ty := 39) (i := v_s398) (j := (wi .i64 (v_s398 + 1))) (ct := nct_List_Int) (q := nq_List_Int) (hs := [none, none]) (fs := [.srf 57, .d (.v noB), .d (.v noB)]) (f := .func 63) (x := (.tmp 27)) (y := (.tmp 28)) (z := (.tmp 30)) (tys := #[23, 3, 3]) (fv := .d (.clo 63 [])) (g := 63) h185 rfl (fun k => decide_eq_true (Nat.zero_le k)) (fun _ _ => rfl) (by decide) rfl (G_slices_Delete_int_int_raw_ret n)) (.cons (show 1 + 1 ≤ 2 by decide) (.cons (len_ob (f := (eI .u8)) (l := v_r417.fCells)) (.cons (mkL_ob (f := (eI .i64)) (p := .v (.int .i64 0)) h186 rfl).1 (.cons (mkL_ob (f := (eI .i64)) (p := .v (.int .i64 0)) h186 rfl).2.1 (.cons (mkL_ob (f := (eI .i64)) (p := .v (.int .i64 0)) h186 rfl).2.2.1 (.cons (mkL_ob (f := (eI .i64)) (p := .v (.int .i64 0)) h186 rfl).2.2.2.1 (.cons (mkL_ob (f := (eI .i64)) (p := .v (.int .i64 0)) h186 rfl).2.2.2.2 (.cons (len_ob (f := (eI .u8)) (l := v_r417.fCells)) .nil))))))))))))) (G_cow_Drop_L1_ok hF (.b 0 :: .s (cR (cR (cR (cR (cR (cR (cR (bodyOf Try.f11)))))))) :: []) n v_r417 v_s398 n 0 v_r417.fCells ([] : List Int) v_m427 _ h195 ?_)
      cases v_o445 with
      | x0 v_z446 v_z447 v_z448 =>
        try dsimp only at h
        obtain ⟨v_o524, h234, h⟩ := bind_some h
        refine pkk_sound TTok mix hF 6 (hs := [.c, .e 17 [2] (.d (.v (.int .i64 ((v_r417.fSpaces.take v_s398.toNat ++ v_r417.fSpaces.drop (wi .i64 (v_s398 + 1)).toNat).length : Int)))) [], .n n]) (ts := []) (s := [0, 1, 2, 3, 4, 5, 6]) (l := [2, 4, 8, 9, 60, 61, 62]) (by kernel_rfl) (by kernel_rfl) (.cons (nlen' (P := Try.prog) (T := TT) (t := 23) (l := 2) (ty := 39) (sz := 1) (N := (v_r417.fSpaces.take v_s398.toNat ++ v_r417.fSpaces.drop (wi .i64 (v_s398 + 1)).toNat).length) (q := nq_List_Int) (hs := [none, none]) (xs := ((v_r417.fSpaces.take v_s398.toNat ++ v_r417.fSpaces.drop (wi .i64 (v_s398 + 1)).toNat).map (eL (eI .i64)))) (fs := [.srf 3, .d (.v noB), .d (.v noB)]) (x := (.tmp 60)) (by simp) (by kernel_rfl)) .nil) (G_cow_Drop_L4_ok hF (.b 2 :: .s (cR (cR (cR (cR (cR (cR (cR (cR (bodyOf Try.f11))))))))) :: []) n v_r417 v_s398 n 0 v_z446 (v_r417.fSpaces.take v_s398.toNat ++ v_r417.fSpaces.drop (wi .i64 (v_s398 + 1)).toNat) v_z447 v_z448 _ h234 ?_)
        cases v_o524 with
        | x0 v_z525 v_z526 v_z527 =>
          try dsimp only at h
          obtain rfl := Option.some.inj h
          exact pend_sound TTok mix 9 (hs := [.c, .u (.d (.v (.int .i64 (v_z525.length : Int)))), .u (.d (.v (.int .i64 (v_z527.length : Int)))), .c, .c, .c, .dl 1, .sx [2, 3] (nFrz 2 3 39 1 (v_z526.map (eL (eI .i64))))]) (by kernel_rfl) (by kernel_rfl) (by kernel_rfl) (.cons (len_ob (f := (eI .u8)) (l := v_z525)) (.cons (len_ob (f := (eI .u8)) (l := v_z527)) (.cons (show 0 + 1 ≤ 2 by decide) (.cons (show 0 + 2 ≤ 2 by decide) (.cons (nfrz (l := 2) (B := 3) (ty := 39) (sz := 1) (ct := nct_List_Int) (q := nq_List_Int) (hs := [none, none]) (xs := (v_z526.map (eL (eI .i64)))) (fs := [.srf 3, .d (.v noB), .d (.v noB)]) (by decide) (all_fits (fun _ => rfl)) (by intro j k h; rcases j with _ | _ | j <;> simp at h) rfl) .nil)))))
    · rw [if_neg h185] at h; cases h
  · rw [if_neg h175] at h
    obtain rfl := Option.some.inj h
    exact pend_sound TTok mix 12 (hs := [.c, .r ((eI .i64) v_r402), .t true, .c]) (by kernel_rfl) (by kernel_rfl) (by kernel_rfl) (.cons (G_cow_space_ok n v_r397 v_s398 _ h173) (.cons (nt h175) (.cons (show 0 + 2 ≤ 2 by decide) .nil)))
/- ringhall/ringref2.In -/
def G_ringref2_In (n : Nat) (v_n617 : Int) (v_least618 : Int) (v_most619 : Int) : Option (Bool) :=
  if v_n617 ≥ v_least618 then
   some (decide (v_n617 ≤ v_most619))
  else
   some false
theorem G_ringref2_In_ok (n : Nat) (v_n617 : Int) (v_least618 : Int) (v_most619 : Int) (r : Bool) (h : G_ringref2_In n v_n617 v_least618 v_most619 = some r) : Ret Try.prog 14 [(eI .i64) v_n617, (eI .i64) v_least618, (eI .i64) v_most619] (eB r) := by
  refine ret_run (n := 15) (fn := Try.f14) (c := bodyOf Try.f14) (by kernel_rfl) (by kernel_rfl) (by kernel_rfl) (by kernel_rfl) ?_
  have hF : KC 15 (FinR Try.prog Try.f14 (eB r)) := FinR.kc' (by kernel_rfl)
  unfold G_ringref2_In at h
  by_cases h245 : v_n617 ≥ v_least618
  · rw [if_pos h245] at h
    obtain rfl := Option.some.inj h
    exact pend_sound TTok mix 5 (hs := [.t true, .c, .c]) (by kernel_rfl) (by kernel_rfl) (by kernel_rfl) (.cons (dt h245) .nil)
  · rw [if_neg h245] at h
    obtain rfl := Option.some.inj h
    exact pend_sound TTok mix 5 (hs := [.t false, .c, .c]) (by kernel_rfl) (by kernel_rfl) (by kernel_rfl) (.cons (df h245) .nil)
inductive G_ringref2_Rooms_C1_R where
  | x0 (v_x588 : Bool)
def G_ringref2_Rooms_C1_ex : G_ringref2_Rooms_C1_R → Ex
  | .x0 _ => .normal
def G_ringref2_Rooms_C1_st (v_r583 : S_cow_Room) : G_ringref2_Rooms_C1_R → PS
  | .x0 v_x588 => ⟨(dd :: .ref 0 0 :: (dds 16 (.d (.v (.bool v_x588)) :: (dds 38 [])))), [.box [.d (.sl (v_r583.fCells.map (eI .u8))), .d (.sl (v_r583.fSpaces.map (eL (eI .i64))))]]⟩
def G_ringref2_Rooms_C1_hd (v_r583 : S_cow_Room)  : PS := ⟨(dd :: .ref 0 0 :: (dds 55 [])), [.box [.d (.sl (v_r583.fCells.map (eI .u8))), .d (.sl (v_r583.fSpaces.map (eL (eI .i64))))]]⟩
def G_ringref2_Rooms_C1 (n : Nat) (v_r583 : S_cow_Room) : Option G_ringref2_Rooms_C1_R :=
  if (v_r583.fCells.length : Int) > 64 then
   some (.x0 true)
  else
   some (.x0 (decide ((v_r583.fSpaces.length : Int) > 8)))
theorem G_ringref2_Rooms_C1_ok {Fi : Ex → PS → Prop} (hF : KC 57 Fi) (ks : List Fr) (n : Nat) (v_r583 : S_cow_Room)  (o : G_ringref2_Rooms_C1_R) (h : G_ringref2_Rooms_C1 n v_r583 = some o) (q : RunE Try.prog 57 Fi ks (G_ringref2_Rooms_C1_ex o) (G_ringref2_Rooms_C1_st v_r583 o)) : RunE Try.prog 57 Fi (.s (cL (cL (cR (bodyOf Try.f12)))) :: ks) .normal (G_ringref2_Rooms_C1_hd v_r583) := by
  unfold G_ringref2_Rooms_C1 at h
  by_cases h237 : (v_r583.fCells.length : Int) > 64
  · rw [if_pos h237] at h
    cases h
    exact pkk_sound TTok mix hF 1 (hs := [.c, .u (.d (.v (.int .i64 (v_r583.fCells.length : Int)))), .t true, .c, .c, .c]) (ts := []) (s := [0]) (l := [1, 18]) (by kernel_rfl) (by kernel_rfl) (.cons (len_ob (f := (eI .u8)) (l := v_r583.fCells)) (.cons (dt h237) .nil)) q
  · rw [if_neg h237] at h
    cases h
    exact pkk_sound TTok mix hF 1 (hs := [.c, .u (.d (.v (.int .i64 (v_r583.fCells.length : Int)))), .t false, .c, .c, .c, .u (.d (.v (.int .i64 (v_r583.fSpaces.length : Int)))), .c]) (ts := []) (s := [0]) (l := [1, 18]) (by kernel_rfl) (by kernel_rfl) (.cons (len_ob (f := (eI .u8)) (l := v_r583.fCells)) (.cons (df h237) (.cons (len_ob (f := (eL (eI .i64))) (l := v_r583.fSpaces)) .nil))) q
inductive G_ringref2_Rooms_L3_R where
  | x0 (v_x663 : Int)
  | x1 (v_b665 : (Fin 64 → Bool))
def G_ringref2_Rooms_L3_ex : G_ringref2_Rooms_L3_R → Ex
  | .x0 _ => .ret
  | .x1 _ => .exit 2
def G_ringref2_Rooms_L3_st (v_r583 : S_cow_Room) (v_x641 : Int) (v_y644 : (List Int)) : G_ringref2_Rooms_L3_R → PS
  | .x0 v_x663 => ⟨(dd :: dd :: .d (.v (.int .i64 v_x663)) :: (dds 54 [])), []⟩
  | .x1 v_b665 => ⟨(dd :: .ref 0 0 :: dd :: .ref 1 0 :: (dds 16 (.d (.sl (v_r583.fSpaces.map (eL (eI .i64)))) :: .d (.v (.int .i64 (v_r583.fSpaces.length : Int))) :: .d (.v (.int .i64 v_x641)) :: (dds 34 [])))), [.box [.d (.sl (v_r583.fCells.map (eI .u8))), .d (.sl (v_r583.fSpaces.map (eL (eI .i64))))], .box ((cA_t114 v_b665).map FV.d)]⟩
def G_ringref2_Rooms_L3_hd (v_r583 : S_cow_Room) (v_x641 : Int) (v_y644 : (List Int)) (v_x655 : Int) (v_b656 : (Fin 64 → Bool)) : PS := ⟨(dd :: .ref 0 0 :: dd :: .ref 1 0 :: (dds 16 (.d (.sl (v_r583.fSpaces.map (eL (eI .i64)))) :: .d (.v (.int .i64 (v_r583.fSpaces.length : Int))) :: .d (.v (.int .i64 v_x641)) :: dd :: dd :: dd :: dd :: dd :: dd :: .d (.sl (v_y644.map (eI .i64))) :: .d (.v (.int .i64 (v_y644.length : Int))) :: .d (.v (.int .i64 v_x655)) :: (dds 25 [])))), [.box [.d (.sl (v_r583.fCells.map (eI .u8))), .d (.sl (v_r583.fSpaces.map (eL (eI .i64))))], .box ((cA_t114 v_b656).map FV.d)]⟩
def G_ringref2_Rooms_L3 (n : Nat) (v_r583 : S_cow_Room) (v_x641 : Int) (v_y644 : (List Int)) : Nat → Int → (Fin 64 → Bool) → Option G_ringref2_Rooms_L3_R
  | 0, _, _ => none
  | k + 1, v_x655, v_b656 =>
    if v_x655 < (v_y644.length : Int) then
     (getI v_y644 v_x655).bind fun (v_y661 : Int) =>
     (G_ringref2_In n v_y661 0 (wi .i64 ((v_r583.fCells.length : Int) - 1))).bind fun (v_r662 : (Bool)) =>
     if v_r662 = true then
      if 0 ≤ v_y661 ∧ v_y661 < (64 : Int) then
       (getA v_b656 v_y661).bind fun (v_y664 : Bool) =>
       G_ringref2_Rooms_L3 n v_r583 v_x641 v_y644 k (wi .i64 (v_x655 + 1)) (setA v_b656 v_y661 true)
      else none
     else
      some (.x0 1)
    else
     some (.x1 v_b656)
theorem G_ringref2_Rooms_L3_ok {Fi : Ex → PS → Prop} (hF : KC 57 Fi) (ks : List Fr) (n : Nat) (v_r583 : S_cow_Room) (v_x641 : Int) (v_y644 : (List Int))  : ∀ (k : Nat) (v_x655 : Int) (v_b656 : (Fin 64 → Bool)) (o : G_ringref2_Rooms_L3_R), G_ringref2_Rooms_L3 n v_r583 v_x641 v_y644 k v_x655 v_b656 = some o → RunE Try.prog 57 Fi ks (G_ringref2_Rooms_L3_ex o) (G_ringref2_Rooms_L3_st v_r583 v_x641 v_y644 o) → RunE Try.prog 57 Fi (.l k (cP (cB (cR (cR (cR (cB (cL (cR (cR (cP (cB (cR (cL (cR (cR (cR (bodyOf Try.f12))))))))))))))))) :: ks) .normal (G_ringref2_Rooms_L3_hd v_r583 v_x641 v_y644 v_x655 v_b656)
  | 0, v_x655, v_b656, o, h, q => by rw [G_ringref2_Rooms_L3] at h; cases h
  | k + 1, v_x655, v_b656, o, h, q => by
    rw [G_ringref2_Rooms_L3] at h
    by_cases h281 : v_x655 < (v_y644.length : Int)
    · rw [if_pos h281] at h
      obtain ⟨v_y661, h287, h⟩ := bind_some h
      obtain ⟨v_r662, h288, h⟩ := bind_some h
      by_cases h289 : v_r662 = true
      · rw [if_pos h289] at h
        by_cases h290 : 0 ≤ v_y661 ∧ v_y661 < (64 : Int)
        · rw [if_pos h290] at h
          obtain ⟨v_y664, h291, h⟩ := bind_some h
          exact pkk_sound TTok mix hF 18 (hs := [.t true, .y ((eI .i64) v_y661), .c, .c, .u (.d (.v (.int .i64 (v_r583.fCells.length : Int)))), .r (eB v_r662), .t false, .x ((cA_t114 (setA v_b656 v_y661 true)).map FV.d), .c]) (ts := []) (s := [0, 1]) (l := [1, 3, 20, 21, 22, 29, 30, 31]) (by kernel_rfl) (by kernel_rfl) (.cons (dt h281) (.cons (getI_ob (f := (eI .i64)) h287) (.cons (len_ob (f := (eI .u8)) (l := v_r583.fCells)) (.cons (G_ringref2_In_ok n v_y661 0 (wi .i64 ((v_r583.fCells.length : Int) - 1)) _ h288) (.cons (bnf h289) (.cons h290 (.cons (arr_store (γ := FV) (sz := 1) (g := (fun x => [.d (.v (.bool x))])) (pre := []) (post := []) (o := 0) (y := true) (zs := [.d (.v (.bool true))]) (fun _ => rfl) h291 rfl (Nat.le_of_ble_eq_true rfl)).1 (.cons (arr_store (γ := FV) (sz := 1) (g := (fun x => [.d (.v (.bool x))])) (pre := []) (post := []) (o := 0) (y := true) (zs := [.d (.v (.bool true))]) (fun _ => rfl) h291 rfl (Nat.le_of_ble_eq_true rfl)).2 .nil)))))))) (G_ringref2_Rooms_L3_ok hF ks n v_r583 v_x641 v_y644 k (wi .i64 (v_x655 + 1)) (setA v_b656 v_y661 true) _ h q)
        · rw [if_neg h290] at h; cases h
      · rw [if_neg h289] at h
        cases h
        exact pkk_sound TTok mix hF 21 (hs := [.t true, .y ((eI .i64) v_y661), .c, .c, .u (.d (.v (.int .i64 (v_r583.fCells.length : Int)))), .r (eB v_r662), .t true]) (ts := []) (s := []) (l := [2]) (by kernel_rfl) (by kernel_rfl) (.cons (dt h281) (.cons (getI_ob (f := (eI .i64)) h287) (.cons (len_ob (f := (eI .u8)) (l := v_r583.fCells)) (.cons (G_ringref2_In_ok n v_y661 0 (wi .i64 ((v_r583.fCells.length : Int) - 1)) _ h288) (.cons (bnt (vf h289)) .nil))))) q
    · rw [if_neg h281] at h
      cases h
      exact pkk_sound TTok mix hF 8 (hs := [.t false]) (ts := []) (s := [0, 1]) (l := [1, 3, 20, 21, 22]) (by kernel_rfl) (by kernel_rfl) (.cons (df h281) .nil) q
inductive G_ringref2_Rooms_L4_R where
  | x0 (v_x645 : Int)
  | x1 (v_b670 : (Fin 64 → Bool))
def G_ringref2_Rooms_L4_ex : G_ringref2_Rooms_L4_R → Ex
  | .x0 _ => .ret
  | .x1 _ => .exit 0
def G_ringref2_Rooms_L4_st (v_r583 : S_cow_Room) : G_ringref2_Rooms_L4_R → PS
  | .x0 v_x645 => ⟨(dd :: dd :: .d (.v (.int .i64 v_x645)) :: (dds 54 [])), []⟩
  | .x1 v_b670 => ⟨(dd :: .ref 0 0 :: dd :: .ref 1 0 :: (dds 53 [])), [.box [.d (.sl (v_r583.fCells.map (eI .u8))), .d (.sl (v_r583.fSpaces.map (eL (eI .i64))))], .box ((cA_t114 v_b670).map FV.d)]⟩
def G_ringref2_Rooms_L4_hd (v_r583 : S_cow_Room) (v_x641 : Int) (v_b642 : (Fin 64 → Bool)) : PS := ⟨(dd :: .ref 0 0 :: dd :: .ref 1 0 :: (dds 16 (.d (.sl (v_r583.fSpaces.map (eL (eI .i64)))) :: .d (.v (.int .i64 (v_r583.fSpaces.length : Int))) :: .d (.v (.int .i64 v_x641)) :: (dds 34 [])))), [.box [.d (.sl (v_r583.fCells.map (eI .u8))), .d (.sl (v_r583.fSpaces.map (eL (eI .i64))))], .box ((cA_t114 v_b642).map FV.d)]⟩
def G_ringref2_Rooms_L4 (n : Nat) (v_r583 : S_cow_Room) : Nat → Int → (Fin 64 → Bool) → Option G_ringref2_Rooms_L4_R
  | 0, _, _ => none
  | k + 1, v_x641, v_b642 =>
    if v_x641 < (v_r583.fSpaces.length : Int) then
     (getI v_r583.fSpaces v_x641).bind fun (v_y644 : (List Int)) =>
     if (v_y644.length : Int) > 8 then
      some (.x0 2)
     else
      (G_ringref2_Rooms_L3 n v_r583 v_x641 v_y644 n 0 v_b642).bind fun v_o666 => match v_o666 with
      | .x0 v_z667 =>
        some (.x0 v_z667)
      | .x1 v_z669 =>
        G_ringref2_Rooms_L4 n v_r583 k (wi .i64 (v_x641 + 1)) v_z669
    else
     some (.x1 v_b642)
theorem G_ringref2_Rooms_L4_ok {Fi : Ex → PS → Prop} (hF : KC 57 Fi) (ks : List Fr) (n : Nat) (v_r583 : S_cow_Room)  : ∀ (k : Nat) (v_x641 : Int) (v_b642 : (Fin 64 → Bool)) (o : G_ringref2_Rooms_L4_R), G_ringref2_Rooms_L4 n v_r583 k v_x641 v_b642 = some o → RunE Try.prog 57 Fi ks (G_ringref2_Rooms_L4_ex o) (G_ringref2_Rooms_L4_st v_r583 o) → RunE Try.prog 57 Fi (.l k (cP (cB (cR (cL (cR (cR (cR (bodyOf Try.f12)))))))) :: ks) .normal (G_ringref2_Rooms_L4_hd v_r583 v_x641 v_b642)
  | 0, v_x641, v_b642, o, h, q => by rw [G_ringref2_Rooms_L4] at h; cases h
  | k + 1, v_x641, v_b642, o, h, q => by
    rw [G_ringref2_Rooms_L4] at h
    by_cases h267 : v_x641 < (v_r583.fSpaces.length : Int)
    · rw [if_pos h267] at h
      obtain ⟨v_y644, h268, h⟩ := bind_some h
      by_cases h269 : (v_y644.length : Int) > 8
      · rw [if_pos h269] at h
        cases h
        exact pkk_sound TTok mix hF 21 (hs := [.t true, .y ((eL (eI .i64)) v_y644), .c, .u (.d (.v (.int .i64 (v_y644.length : Int)))), .t true]) (ts := []) (s := []) (l := [2]) (by kernel_rfl) (by kernel_rfl) (.cons (dt h267) (.cons (getI_ob (f := (eL (eI .i64))) h268) (.cons (len_ob (f := (eI .i64)) (l := v_y644)) (.cons (dt h269) .nil)))) q
      · rw [if_neg h269] at h
        obtain ⟨v_o666, h292, h⟩ := bind_some h
        refine pkk_sound TTok mix hF 19 (hs := [.t true, .y ((eL (eI .i64)) v_y644), .c, .u (.d (.v (.int .i64 (v_y644.length : Int)))), .t false, .u (.d (.v (.int .i64 (v_y644.length : Int)))), .n n]) (ts := []) (s := [0, 1]) (l := [1, 3, 20, 21, 22, 29, 30, 31]) (by kernel_rfl) (by kernel_rfl) (.cons (dt h267) (.cons (getI_ob (f := (eL (eI .i64))) h268) (.cons (len_ob (f := (eI .i64)) (l := v_y644)) (.cons (df h269) (.cons (len_ob (f := (eI .i64)) (l := v_y644)) .nil))))) (G_ringref2_Rooms_L3_ok hF (.b 2 :: .b 1 :: .s (cR (cR (cR (cP (cB (cR (cL (cR (cR (cR (bodyOf Try.f12))))))))))) :: .l k (cP (cB (cR (cL (cR (cR (cR (bodyOf Try.f12)))))))) :: ks) n v_r583 v_x641 v_y644 n 0 v_b642 _ h292 ?_)
        cases v_o666 with
        | x0 v_z667 =>
          try dsimp only at h
          cases h
          exact pkk_sound TTok mix hF 4 (hs := []) (ts := []) (s := []) (l := [2]) (by kernel_rfl) (by kernel_rfl) .nil q
        | x1 v_z669 =>
          try dsimp only at h
          exact pkk_sound TTok mix hF 3 (hs := []) (ts := []) (s := [0, 1]) (l := [1, 3, 20, 21, 22]) (by kernel_rfl) (by kernel_rfl) .nil (G_ringref2_Rooms_L4_ok hF ks n v_r583 k (wi .i64 (v_x641 + 1)) v_z669 _ h q)
    · rw [if_neg h267] at h
      cases h
      exact pkk_sound TTok mix hF 8 (hs := [.t false]) (ts := []) (s := [0, 1]) (l := [1, 3]) (by kernel_rfl) (by kernel_rfl) (.cons (df h267) .nil) q
inductive G_ringref2_Rooms_L5_R where
  | x0 (v_x688 : Int)
  | x1 
def G_ringref2_Rooms_L5_ex : G_ringref2_Rooms_L5_R → Ex
  | .x0 _ => .ret
  | .x1  => .exit 4
def G_ringref2_Rooms_L5_st (v_r583 : S_cow_Room) (v_z673 : (Fin 64 → Bool)) : G_ringref2_Rooms_L5_R → PS
  | .x0 v_x688 => ⟨(dd :: dd :: .d (.v (.int .i64 v_x688)) :: (dds 54 [])), []⟩
  | .x1  => ⟨(dds 57 []), []⟩
def G_ringref2_Rooms_L5_hd (v_r583 : S_cow_Room) (v_z673 : (Fin 64 → Bool)) (v_x684 : Int) : PS := ⟨(dd :: dd :: dd :: .ref 0 0 :: (dds 44 [.d (.v (.int .i64 (v_r583.fCells.length : Int))), .d (.v (.int .i64 v_x684)), dd, dd, dd, dd, dd, dd, dd])), [.box ((cA_t114 v_z673).map FV.d)]⟩
def G_ringref2_Rooms_L5 (n : Nat) (v_r583 : S_cow_Room) (v_z673 : (Fin 64 → Bool)) : Nat → Int → Option G_ringref2_Rooms_L5_R
  | 0, _ => none
  | k + 1, v_x684 =>
    if v_x684 < (v_r583.fCells.length : Int) then
     if 0 ≤ v_x684 ∧ v_x684 < (64 : Int) then
      (getA v_z673 v_x684).bind fun (v_y687 : Bool) =>
      if v_y687 = true then
       G_ringref2_Rooms_L5 n v_r583 v_z673 k (wi .i64 (v_x684 + 1))
      else
       some (.x0 3)
     else none
    else
     some (.x1 )
theorem G_ringref2_Rooms_L5_ok {Fi : Ex → PS → Prop} (hF : KC 57 Fi) (ks : List Fr) (n : Nat) (v_r583 : S_cow_Room) (v_z673 : (Fin 64 → Bool))  : ∀ (k : Nat) (v_x684 : Int) (o : G_ringref2_Rooms_L5_R), G_ringref2_Rooms_L5 n v_r583 v_z673 k v_x684 = some o → RunE Try.prog 57 Fi ks (G_ringref2_Rooms_L5_ex o) (G_ringref2_Rooms_L5_st v_r583 v_z673 o) → RunE Try.prog 57 Fi (.l k (cP (cB (cR (cL (cR (cR (cR (cR (bodyOf Try.f12))))))))) :: ks) .normal (G_ringref2_Rooms_L5_hd v_r583 v_z673 v_x684)
  | 0, v_x684, o, h, q => by rw [G_ringref2_Rooms_L5] at h; cases h
  | k + 1, v_x684, o, h, q => by
    rw [G_ringref2_Rooms_L5] at h
    by_cases h294 : v_x684 < (v_r583.fCells.length : Int)
    · rw [if_pos h294] at h
      by_cases h298 : 0 ≤ v_x684 ∧ v_x684 < (64 : Int)
      · rw [if_pos h298] at h
        obtain ⟨v_y687, h299, h⟩ := bind_some h
        by_cases h300 : v_y687 = true
        · rw [if_pos h300] at h
          exact pkk_sound TTok mix hF 16 (hs := [.t true, .l (.d (.v (.bool v_y687))), .t false]) (ts := []) (s := [0]) (l := [3, 48, 49]) (by kernel_rfl) (by kernel_rfl) (.cons (dt h294) (.cons h298 (.cons (arr_cell (γ := FV) (sz := 1) (g := (fun x => [.d (.v (.bool x))])) (pre := []) (post := []) (o := 0) (fun _ => rfl) h299 rfl) (.cons (bnf h300) .nil)))) (G_ringref2_Rooms_L5_ok hF ks n v_r583 v_z673 k (wi .i64 (v_x684 + 1)) _ h q)
        · rw [if_neg h300] at h
          cases h
          exact pkk_sound TTok mix hF 19 (hs := [.t true, .l (.d (.v (.bool v_y687))), .t true]) (ts := []) (s := []) (l := [2]) (by kernel_rfl) (by kernel_rfl) (.cons (dt h294) (.cons h298 (.cons (arr_cell (γ := FV) (sz := 1) (g := (fun x => [.d (.v (.bool x))])) (pre := []) (post := []) (o := 0) (fun _ => rfl) h299 rfl) (.cons (bnt (vf h300)) .nil)))) q
      · rw [if_neg h298] at h; cases h
    · rw [if_neg h294] at h
      cases h
      exact pkk_sound TTok mix hF 8 (hs := [.t false]) (ts := []) (s := []) (l := []) (by kernel_rfl) (by kernel_rfl) (.cons (df h294) .nil) q
/- ringhall/ringref2.Rooms -/
def G_ringref2_Rooms (n : Nat) (v_r583 : S_cow_Room) : Option (Int) :=
  (G_ringref2_Rooms_C1 n v_r583).bind fun v_o590 => match v_o590 with
  | .x0 v_z591 =>
    if v_z591 = true then
     some 2
    else
     (G_ringref2_Rooms_L4 n v_r583 n 0 (fun (_ : Fin 64) => false)).bind fun v_o671 => match v_o671 with
     | .x0 v_z672 =>
       some v_z672
     | .x1 v_z673 =>
       (G_ringref2_Rooms_L5 n v_r583 v_z673 n 0).bind fun v_o689 => match v_o689 with
       | .x0 v_z690 =>
         some v_z690
       | .x1  =>
         some 0
theorem G_ringref2_Rooms_ok (n : Nat) (v_r583 : S_cow_Room) (r : Int) (h : G_ringref2_Rooms n v_r583 = some r) : Ret Try.prog 12 [eS_cow_Room v_r583] ((eI .i64) r) := by
  refine ret_run (n := 57) (fn := Try.f12) (c := bodyOf Try.f12) (by kernel_rfl) (by kernel_rfl) (by kernel_rfl) (by kernel_rfl) ?_
  have hF : KC 57 (FinR Try.prog Try.f12 ((eI .i64) r)) := FinR.kc' (by kernel_rfl)
  unfold G_ringref2_Rooms at h
  obtain ⟨v_o590, h238, h⟩ := bind_some h
  refine pkk_sound TTok mix hF 4 (hs := []) (ts := []) (s := [0]) (l := [1]) (by kernel_rfl) (by kernel_rfl) .nil (G_ringref2_Rooms_C1_ok hF (.s (cR (cL (cR (bodyOf Try.f12)))) :: .s (cR (cR (bodyOf Try.f12))) :: []) n v_r583 _ h238 ?_)
  cases v_o590 with
  | x0 v_z591 =>
    try dsimp only at h
    by_cases h239 : v_z591 = true
    · rw [if_pos h239] at h
      obtain rfl := Option.some.inj h
      exact pend_sound TTok mix 5 (hs := [.t true]) (by kernel_rfl) (by kernel_rfl) (by kernel_rfl) (.cons h239 .nil)
    · rw [if_neg h239] at h
      obtain ⟨v_o671, h293, h⟩ := bind_some h
      refine pkk_sound TTok mix hF 9 (hs := [.t false, .c, .u (.d (.v (.int .i64 (v_r583.fSpaces.length : Int)))), .n n]) (ts := []) (s := [0, 1]) (l := [1, 3, 20, 21, 22]) (by kernel_rfl) (by kernel_rfl) (.cons (vf h239) (.cons (len_ob (f := (eL (eI .i64))) (l := v_r583.fSpaces)) .nil)) (G_ringref2_Rooms_L4_ok hF (.b 0 :: .s (cR (cR (cR (cR (bodyOf Try.f12))))) :: []) n v_r583 n 0 (fun (_ : Fin 64) => false) _ h293 ?_)
      cases v_o671 with
      | x0 v_z672 =>
        try dsimp only at h
        obtain rfl := Option.some.inj h
        exact pend_sound TTok mix 2 (hs := []) (by kernel_rfl) (by kernel_rfl) (by kernel_rfl) .nil
      | x1 v_z673 =>
        try dsimp only at h
        obtain ⟨v_o689, h301, h⟩ := bind_some h
        refine pkk_sound TTok mix hF 6 (hs := [.c, .u (.d (.v (.int .i64 (v_r583.fCells.length : Int)))), .n n]) (ts := []) (s := [1]) (l := [3, 48, 49]) (by kernel_rfl) (by kernel_rfl) (.cons (len_ob (f := (eI .u8)) (l := v_r583.fCells)) .nil) (G_ringref2_Rooms_L5_ok hF (.b 4 :: .s (cR (cR (cR (cR (cR (bodyOf Try.f12)))))) :: []) n v_r583 v_z673 n 0 _ h301 ?_)
        cases v_o689 with
        | x0 v_z690 =>
          try dsimp only at h
          obtain rfl := Option.some.inj h
          exact pend_sound TTok mix 2 (hs := []) (by kernel_rfl) (by kernel_rfl) (by kernel_rfl) .nil
        | x1  =>
          try dsimp only at h
          obtain rfl := Option.some.inj h
          exact pend_sound TTok mix 4 (hs := []) (by kernel_rfl) (by kernel_rfl) (by kernel_rfl) .nil
inductive G_ringref2_RoomSame_C1_R where
  | x0 (v_x908 : Bool)
def G_ringref2_RoomSame_C1_ex : G_ringref2_RoomSame_C1_R → Ex
  | .x0 _ => .normal
def G_ringref2_RoomSame_C1_st (v_a899 : S_cow_Room) (v_b900 : S_cow_Room) : G_ringref2_RoomSame_C1_R → PS
  | .x0 v_x908 => ⟨(dd :: dd :: .ref 0 0 :: .ref 1 0 :: (dds 18 (.d (.v (.bool v_x908)) :: (dds 47 [])))), [.box [.d (.sl (v_a899.fCells.map (eI .u8))), .d (.sl (v_a899.fSpaces.map (eL (eI .i64))))], .box [.d (.sl (v_b900.fCells.map (eI .u8))), .d (.sl (v_b900.fSpaces.map (eL (eI .i64))))]]⟩
def G_ringref2_RoomSame_C1_hd (v_a899 : S_cow_Room) (v_b900 : S_cow_Room)  : PS := ⟨(dd :: dd :: .ref 0 0 :: .ref 1 0 :: (dds 66 [])), [.box [.d (.sl (v_a899.fCells.map (eI .u8))), .d (.sl (v_a899.fSpaces.map (eL (eI .i64))))], .box [.d (.sl (v_b900.fCells.map (eI .u8))), .d (.sl (v_b900.fSpaces.map (eL (eI .i64))))]]⟩
def G_ringref2_RoomSame_C1 (n : Nat) (v_a899 : S_cow_Room) (v_b900 : S_cow_Room) : Option G_ringref2_RoomSame_C1_R :=
  if (!((b2s v_a899.fCells).toList == (b2s v_b900.fCells).toList)) = true then
   some (.x0 true)
  else
   some (.x0 ((v_a899.fSpaces.length : Int) != (v_b900.fSpaces.length : Int)))
theorem G_ringref2_RoomSame_C1_ok {Fi : Ex → PS → Prop} (hF : KC 70 Fi) (ks : List Fr) (n : Nat) (v_a899 : S_cow_Room) (v_b900 : S_cow_Room)  (o : G_ringref2_RoomSame_C1_R) (h : G_ringref2_RoomSame_C1 n v_a899 v_b900 = some o) (q : RunE Try.prog 70 Fi ks (G_ringref2_RoomSame_C1_ex o) (G_ringref2_RoomSame_C1_st v_a899 v_b900 o)) : RunE Try.prog 70 Fi (.s (cL (cL (cR (bodyOf Try.f15)))) :: ks) .normal (G_ringref2_RoomSame_C1_hd v_a899 v_b900) := by
  unfold G_ringref2_RoomSame_C1 at h
  by_cases h314 : (!((b2s v_a899.fCells).toList == (b2s v_b900.fCells).toList)) = true
  · rw [if_pos h314] at h
    cases h
    exact pkk_sound TTok mix hF 1 (hs := [.c, .e 12 [] (.d (.v (.string (b2s v_a899.fCells)))) [], .c, .e 27 [] (.d (.v (.string (b2s v_b900.fCells)))) [], .t true, .c, .c, .c, .c, .c, .c]) (ts := []) (s := [0, 1]) (l := [2, 3, 22]) (by kernel_rfl) (by kernel_rfl) (.cons (xb2sD (L := v_a899.fCells) (P := Try.prog) (T := TT) (src := 22) (dst := 9) (e := 5) (s := 1) (x := (.tmp 8)) (by kernel_rfl) (by kernel_rfl) (by kernel_rfl)) (.cons (xb2sD (L := v_b900.fCells) (P := Try.prog) (T := TT) (src := 22) (dst := 9) (e := 5) (s := 1) (x := (.tmp 11)) (by kernel_rfl) (by kernel_rfl) (by kernel_rfl)) (.cons h314 .nil))) q
  · rw [if_neg h314] at h
    cases h
    exact pkk_sound TTok mix hF 1 (hs := [.c, .e 12 [] (.d (.v (.string (b2s v_a899.fCells)))) [], .c, .e 27 [] (.d (.v (.string (b2s v_b900.fCells)))) [], .t false, .c, .c, .c, .u (.d (.v (.int .i64 (v_a899.fSpaces.length : Int)))), .c, .c, .c, .c, .u (.d (.v (.int .i64 (v_b900.fSpaces.length : Int)))), .c]) (ts := []) (s := [0, 1]) (l := [2, 3, 22]) (by kernel_rfl) (by kernel_rfl) (.cons (xb2sD (L := v_a899.fCells) (P := Try.prog) (T := TT) (src := 22) (dst := 9) (e := 5) (s := 1) (x := (.tmp 8)) (by kernel_rfl) (by kernel_rfl) (by kernel_rfl)) (.cons (xb2sD (L := v_b900.fCells) (P := Try.prog) (T := TT) (src := 22) (dst := 9) (e := 5) (s := 1) (x := (.tmp 11)) (by kernel_rfl) (by kernel_rfl) (by kernel_rfl)) (.cons (vf h314) (.cons (len_ob (f := (eL (eI .i64))) (l := v_a899.fSpaces)) (.cons (len_ob (f := (eL (eI .i64))) (l := v_b900.fSpaces)) .nil))))) q
inductive G_ringref2_RoomSame_L2_R where
  | x0 (v_x946 : Bool)
  | x1 
def G_ringref2_RoomSame_L2_ex : G_ringref2_RoomSame_L2_R → Ex
  | .x0 _ => .ret
  | .x1  => .exit 2
def G_ringref2_RoomSame_L2_st (v_x930 : Int) (v_a899 : S_cow_Room) (v_y935 : (List Int)) (v_b900 : S_cow_Room) : G_ringref2_RoomSame_L2_R → PS
  | .x0 v_x946 => ⟨(dd :: dd :: dd :: dd :: .d (.v (.bool v_x946)) :: (dds 65 [])), []⟩
  | .x1  => ⟨(dd :: dd :: .ref 0 0 :: .ref 1 0 :: (dds 21 (.d (.v (.int .i64 (v_a899.fSpaces.length : Int))) :: .d (.v (.int .i64 v_x930)) :: (dds 43 [])))), [.box [.d (.sl (v_a899.fCells.map (eI .u8))), .d (.sl (v_a899.fSpaces.map (eL (eI .i64))))], .box [.d (.sl (v_b900.fCells.map (eI .u8))), .d (.sl (v_b900.fSpaces.map (eL (eI .i64))))]]⟩
def G_ringref2_RoomSame_L2_hd (v_x930 : Int) (v_a899 : S_cow_Room) (v_y935 : (List Int)) (v_b900 : S_cow_Room) (v_x936 : Int) : PS := ⟨(dd :: dd :: .ref 0 0 :: .ref 1 0 :: dd :: .d (.v (.int .i64 v_x930)) :: (dds 19 (.d (.v (.int .i64 (v_a899.fSpaces.length : Int))) :: .d (.v (.int .i64 v_x930)) :: (dds 20 (.d (.v (.int .i64 (v_y935.length : Int))) :: .d (.v (.int .i64 v_x936)) :: (dds 21 [])))))), [.box [.d (.sl (v_a899.fCells.map (eI .u8))), .d (.sl (v_a899.fSpaces.map (eL (eI .i64))))], .box [.d (.sl (v_b900.fCells.map (eI .u8))), .d (.sl (v_b900.fSpaces.map (eL (eI .i64))))]]⟩
def G_ringref2_RoomSame_L2 (n : Nat) (v_x930 : Int) (v_a899 : S_cow_Room) (v_y935 : (List Int)) (v_b900 : S_cow_Room) : Nat → Int → Option G_ringref2_RoomSame_L2_R
  | 0, _ => none
  | k + 1, v_x936 =>
    if v_x936 < (v_y935.length : Int) then
     (getI v_a899.fSpaces v_x930).bind fun (v_y942 : (List Int)) =>
     (getI v_y942 v_x936).bind fun (v_y943 : Int) =>
     (getI v_b900.fSpaces v_x930).bind fun (v_y944 : (List Int)) =>
     (getI v_y944 v_x936).bind fun (v_y945 : Int) =>
     if v_y943 = v_y945 then
      G_ringref2_RoomSame_L2 n v_x930 v_a899 v_y935 v_b900 k (wi .i64 (v_x936 + 1))
     else
      some (.x0 false)
    else
     some (.x1 )
theorem G_ringref2_RoomSame_L2_ok {Fi : Ex → PS → Prop} (hF : KC 70 Fi) (ks : List Fr) (n : Nat) (v_x930 : Int) (v_a899 : S_cow_Room) (v_y935 : (List Int)) (v_b900 : S_cow_Room)  : ∀ (k : Nat) (v_x936 : Int) (o : G_ringref2_RoomSame_L2_R), G_ringref2_RoomSame_L2 n v_x930 v_a899 v_y935 v_b900 k v_x936 = some o → RunE Try.prog 70 Fi ks (G_ringref2_RoomSame_L2_ex o) (G_ringref2_RoomSame_L2_st v_x930 v_a899 v_y935 v_b900 o) → RunE Try.prog 70 Fi (.l k (cP (cB (cR (cR (cR (cB (cL (cR (cR (cP (cB (cR (cL (cR (cR (bodyOf Try.f15)))))))))))))))) :: ks) .normal (G_ringref2_RoomSame_L2_hd v_x930 v_a899 v_y935 v_b900 v_x936)
  | 0, v_x936, o, h, q => by rw [G_ringref2_RoomSame_L2] at h; cases h
  | k + 1, v_x936, o, h, q => by
    rw [G_ringref2_RoomSame_L2] at h
    by_cases h322 : v_x936 < (v_y935.length : Int)
    · rw [if_pos h322] at h
      obtain ⟨v_y942, h328, h⟩ := bind_some h
      obtain ⟨v_y943, h329, h⟩ := bind_some h
      obtain ⟨v_y944, h330, h⟩ := bind_some h
      obtain ⟨v_y945, h331, h⟩ := bind_some h
      by_cases h332 : v_y943 = v_y945
      · rw [if_pos h332] at h
        exact pkk_sound TTok mix hF 16 (hs := [.t true, .c, .y ((eL (eI .i64)) v_y942), .c, .y ((eI .i64) v_y943), .c, .c, .y ((eL (eI .i64)) v_y944), .c, .y ((eI .i64) v_y945), .c, .t false]) (ts := []) (s := [0, 1]) (l := [2, 3, 5, 25, 26, 47, 48]) (by kernel_rfl) (by kernel_rfl) (.cons (dt h322) (.cons (getI_ob (f := (eL (eI .i64))) h328) (.cons (getI_ob (f := (eI .i64)) h329) (.cons (getI_ob (f := (eL (eI .i64))) h330) (.cons (getI_ob (f := (eI .i64)) h331) (.cons (nf h332) .nil)))))) (G_ringref2_RoomSame_L2_ok hF ks n v_x930 v_a899 v_y935 v_b900 k (wi .i64 (v_x936 + 1)) _ h q)
      · rw [if_neg h332] at h
        cases h
        exact pkk_sound TTok mix hF 19 (hs := [.t true, .c, .y ((eL (eI .i64)) v_y942), .c, .y ((eI .i64) v_y943), .c, .c, .y ((eL (eI .i64)) v_y944), .c, .y ((eI .i64) v_y945), .c, .t true]) (ts := []) (s := []) (l := [4]) (by kernel_rfl) (by kernel_rfl) (.cons (dt h322) (.cons (getI_ob (f := (eL (eI .i64))) h328) (.cons (getI_ob (f := (eI .i64)) h329) (.cons (getI_ob (f := (eL (eI .i64))) h330) (.cons (getI_ob (f := (eI .i64)) h331) (.cons (nt h332) .nil)))))) q
    · rw [if_neg h322] at h
      cases h
      exact pkk_sound TTok mix hF 8 (hs := [.t false]) (ts := []) (s := [0, 1]) (l := [2, 3, 25, 26]) (by kernel_rfl) (by kernel_rfl) (.cons (df h322) .nil) q
inductive G_ringref2_RoomSame_L3_R where
  | x0 (v_x934 : Bool)
  | x1 
def G_ringref2_RoomSame_L3_ex : G_ringref2_RoomSame_L3_R → Ex
  | .x0 _ => .ret
  | .x1  => .exit 0
def G_ringref2_RoomSame_L3_st (v_a899 : S_cow_Room) (v_b900 : S_cow_Room) : G_ringref2_RoomSame_L3_R → PS
  | .x0 v_x934 => ⟨(dd :: dd :: dd :: dd :: .d (.v (.bool v_x934)) :: (dds 65 [])), []⟩
  | .x1  => ⟨(dds 70 []), []⟩
def G_ringref2_RoomSame_L3_hd (v_a899 : S_cow_Room) (v_b900 : S_cow_Room) (v_x930 : Int) : PS := ⟨(dd :: dd :: .ref 0 0 :: .ref 1 0 :: (dds 21 (.d (.v (.int .i64 (v_a899.fSpaces.length : Int))) :: .d (.v (.int .i64 v_x930)) :: (dds 43 [])))), [.box [.d (.sl (v_a899.fCells.map (eI .u8))), .d (.sl (v_a899.fSpaces.map (eL (eI .i64))))], .box [.d (.sl (v_b900.fCells.map (eI .u8))), .d (.sl (v_b900.fSpaces.map (eL (eI .i64))))]]⟩
def G_ringref2_RoomSame_L3 (n : Nat) (v_a899 : S_cow_Room) (v_b900 : S_cow_Room) : Nat → Int → Option G_ringref2_RoomSame_L3_R
  | 0, _ => none
  | k + 1, v_x930 =>
    if v_x930 < (v_a899.fSpaces.length : Int) then
     (getI v_a899.fSpaces v_x930).bind fun (v_y932 : (List Int)) =>
     (getI v_b900.fSpaces v_x930).bind fun (v_y933 : (List Int)) =>
     if (v_y932.length : Int) = (v_y933.length : Int) then
      (getI v_a899.fSpaces v_x930).bind fun (v_y935 : (List Int)) =>
      (G_ringref2_RoomSame_L2 n v_x930 v_a899 v_y935 v_b900 n 0).bind fun v_o947 => match v_o947 with
      | .x0 v_z948 =>
        some (.x0 v_z948)
      | .x1  =>
        G_ringref2_RoomSame_L3 n v_a899 v_b900 k (wi .i64 (v_x930 + 1))
     else
      some (.x0 false)
    else
     some (.x1 )
theorem G_ringref2_RoomSame_L3_ok {Fi : Ex → PS → Prop} (hF : KC 70 Fi) (ks : List Fr) (n : Nat) (v_a899 : S_cow_Room) (v_b900 : S_cow_Room)  : ∀ (k : Nat) (v_x930 : Int) (o : G_ringref2_RoomSame_L3_R), G_ringref2_RoomSame_L3 n v_a899 v_b900 k v_x930 = some o → RunE Try.prog 70 Fi ks (G_ringref2_RoomSame_L3_ex o) (G_ringref2_RoomSame_L3_st v_a899 v_b900 o) → RunE Try.prog 70 Fi (.l k (cP (cB (cR (cL (cR (cR (bodyOf Try.f15))))))) :: ks) .normal (G_ringref2_RoomSame_L3_hd v_a899 v_b900 v_x930)
  | 0, v_x930, o, h, q => by rw [G_ringref2_RoomSame_L3] at h; cases h
  | k + 1, v_x930, o, h, q => by
    rw [G_ringref2_RoomSame_L3] at h
    by_cases h317 : v_x930 < (v_a899.fSpaces.length : Int)
    · rw [if_pos h317] at h
      obtain ⟨v_y932, h318, h⟩ := bind_some h
      obtain ⟨v_y933, h319, h⟩ := bind_some h
      by_cases h320 : (v_y932.length : Int) = (v_y933.length : Int)
      · rw [if_pos h320] at h
        obtain ⟨v_y935, h321, h⟩ := bind_some h
        obtain ⟨v_o947, h333, h⟩ := bind_some h
        refine pkk_sound TTok mix hF 19 (hs := [.t true, .c, .y ((eL (eI .i64)) v_y932), .c, .u (.d (.v (.int .i64 (v_y932.length : Int)))), .c, .y ((eL (eI .i64)) v_y933), .c, .u (.d (.v (.int .i64 (v_y933.length : Int)))), .t false, .c, .y ((eL (eI .i64)) v_y935), .c, .u (.d (.v (.int .i64 (v_y935.length : Int)))), .n n]) (ts := []) (s := [0, 1]) (l := [2, 3, 5, 25, 26, 47, 48]) (by kernel_rfl) (by kernel_rfl) (.cons (dt h317) (.cons (getI_ob (f := (eL (eI .i64))) h318) (.cons (len_ob (f := (eI .i64)) (l := v_y932)) (.cons (getI_ob (f := (eL (eI .i64))) h319) (.cons (len_ob (f := (eI .i64)) (l := v_y933)) (.cons (nf h320) (.cons (getI_ob (f := (eL (eI .i64))) h321) (.cons (len_ob (f := (eI .i64)) (l := v_y935)) .nil)))))))) (G_ringref2_RoomSame_L2_ok hF (.b 2 :: .b 1 :: .s (cR (cR (cR (cP (cB (cR (cL (cR (cR (bodyOf Try.f15)))))))))) :: .l k (cP (cB (cR (cL (cR (cR (bodyOf Try.f15))))))) :: ks) n v_x930 v_a899 v_y935 v_b900 n 0 _ h333 ?_)
        cases v_o947 with
        | x0 v_z948 =>
          try dsimp only at h
          cases h
          exact pkk_sound TTok mix hF 4 (hs := []) (ts := []) (s := []) (l := [4]) (by kernel_rfl) (by kernel_rfl) .nil q
        | x1  =>
          try dsimp only at h
          exact pkk_sound TTok mix hF 3 (hs := []) (ts := []) (s := [0, 1]) (l := [2, 3, 25, 26]) (by kernel_rfl) (by kernel_rfl) .nil (G_ringref2_RoomSame_L3_ok hF ks n v_a899 v_b900 k (wi .i64 (v_x930 + 1)) _ h q)
      · rw [if_neg h320] at h
        cases h
        exact pkk_sound TTok mix hF 21 (hs := [.t true, .c, .y ((eL (eI .i64)) v_y932), .c, .u (.d (.v (.int .i64 (v_y932.length : Int)))), .c, .y ((eL (eI .i64)) v_y933), .c, .u (.d (.v (.int .i64 (v_y933.length : Int)))), .t true]) (ts := []) (s := []) (l := [4]) (by kernel_rfl) (by kernel_rfl) (.cons (dt h317) (.cons (getI_ob (f := (eL (eI .i64))) h318) (.cons (len_ob (f := (eI .i64)) (l := v_y932)) (.cons (getI_ob (f := (eL (eI .i64))) h319) (.cons (len_ob (f := (eI .i64)) (l := v_y933)) (.cons (nt h320) .nil)))))) q
    · rw [if_neg h317] at h
      cases h
      exact pkk_sound TTok mix hF 8 (hs := [.t false]) (ts := []) (s := []) (l := []) (by kernel_rfl) (by kernel_rfl) (.cons (df h317) .nil) q
/- ringhall/ringref2.RoomSame -/
def G_ringref2_RoomSame (n : Nat) (v_a899 : S_cow_Room) (v_b900 : S_cow_Room) : Option (Bool) :=
  (G_ringref2_RoomSame_C1 n v_a899 v_b900).bind fun v_o910 => match v_o910 with
  | .x0 v_z911 =>
    if v_z911 = true then
     some false
    else
     (G_ringref2_RoomSame_L3 n v_a899 v_b900 n 0).bind fun v_o950 => match v_o950 with
     | .x0 v_z951 =>
       some v_z951
     | .x1  =>
       some true
theorem G_ringref2_RoomSame_ok (n : Nat) (v_a899 : S_cow_Room) (v_b900 : S_cow_Room) (r : Bool) (h : G_ringref2_RoomSame n v_a899 v_b900 = some r) : Ret Try.prog 15 [eS_cow_Room v_a899, eS_cow_Room v_b900] (eB r) := by
  refine ret_run (n := 70) (fn := Try.f15) (c := bodyOf Try.f15) (by kernel_rfl) (by kernel_rfl) (by kernel_rfl) (by kernel_rfl) ?_
  have hF : KC 70 (FinR Try.prog Try.f15 (eB r)) := FinR.kc' (by kernel_rfl)
  unfold G_ringref2_RoomSame at h
  obtain ⟨v_o910, h315, h⟩ := bind_some h
  refine pkk_sound TTok mix hF 4 (hs := []) (ts := []) (s := [0, 5]) (l := [2, 3]) (by kernel_rfl) (by kernel_rfl) .nil (G_ringref2_RoomSame_C1_ok hF (.s (cR (cL (cR (bodyOf Try.f15)))) :: .s (cR (cR (bodyOf Try.f15))) :: []) n v_a899 v_b900 _ h315 ?_)
  cases v_o910 with
  | x0 v_z911 =>
    try dsimp only at h
    by_cases h316 : v_z911 = true
    · rw [if_pos h316] at h
      obtain rfl := Option.some.inj h
      exact pend_sound TTok mix 5 (hs := [.t true]) (by kernel_rfl) (by kernel_rfl) (by kernel_rfl) (.cons h316 .nil)
    · rw [if_neg h316] at h
      obtain ⟨v_o950, h334, h⟩ := bind_some h
      refine pkk_sound TTok mix hF 7 (hs := [.t false, .c, .u (.d (.v (.int .i64 (v_a899.fSpaces.length : Int)))), .n n]) (ts := []) (s := [0, 1]) (l := [2, 3, 25, 26]) (by kernel_rfl) (by kernel_rfl) (.cons (vf h316) (.cons (len_ob (f := (eL (eI .i64))) (l := v_a899.fSpaces)) .nil)) (G_ringref2_RoomSame_L3_ok hF (.b 0 :: .s (cR (cR (cR (bodyOf Try.f15)))) :: []) n v_a899 v_b900 n 0 _ h334 ?_)
      cases v_o950 with
      | x0 v_z951 =>
        try dsimp only at h
        obtain rfl := Option.some.inj h
        exact pend_sound TTok mix 2 (hs := []) (by kernel_rfl) (by kernel_rfl) (by kernel_rfl) .nil
      | x1  =>
        try dsimp only at h
        obtain rfl := Option.some.inj h
        exact pend_sound TTok mix 4 (hs := []) (by kernel_rfl) (by kernel_rfl) (by kernel_rfl) .nil
inductive G_ringref2_RoomMany_L1_R where
  | x0 (v_n1385 : Int)
def G_ringref2_RoomMany_L1_ex : G_ringref2_RoomMany_L1_R → Ex
  | .x0 _ => .exit 2
def G_ringref2_RoomMany_L1_st (v_c1363 : Int) (v_r1362 : S_cow_Room) (v_x1377 : Int) (v_y1379 : (List Int)) : G_ringref2_RoomMany_L1_R → PS
  | .x0 v_n1385 => ⟨(dd :: .d (.v (.int .i64 v_c1363)) :: dd :: dd :: dd :: .d (.v (.int .i64 v_n1385)) :: dd :: dd :: dd :: dd :: dd :: .d (.sl (v_r1362.fSpaces.map (eL (eI .i64)))) :: .d (.v (.int .i64 (v_r1362.fSpaces.length : Int))) :: .d (.v (.int .i64 v_x1377)) :: (dds 17 [])), []⟩
def G_ringref2_RoomMany_L1_hd (v_c1363 : Int) (v_r1362 : S_cow_Room) (v_x1377 : Int) (v_y1379 : (List Int)) (v_n1380 : Int) (v_x1381 : Int) : PS := ⟨(dd :: .d (.v (.int .i64 v_c1363)) :: dd :: dd :: dd :: .d (.v (.int .i64 v_n1380)) :: dd :: dd :: dd :: dd :: dd :: .d (.sl (v_r1362.fSpaces.map (eL (eI .i64)))) :: .d (.v (.int .i64 (v_r1362.fSpaces.length : Int))) :: .d (.v (.int .i64 v_x1377)) :: dd :: dd :: dd :: .d (.sl (v_y1379.map (eI .i64))) :: .d (.v (.int .i64 (v_y1379.length : Int))) :: .d (.v (.int .i64 v_x1381)) :: (dds 11 [])), []⟩
def G_ringref2_RoomMany_L1 (n : Nat) (v_c1363 : Int) (v_r1362 : S_cow_Room) (v_x1377 : Int) (v_y1379 : (List Int)) : Nat → Int → Int → Option G_ringref2_RoomMany_L1_R
  | 0, _, _ => none
  | k + 1, v_n1380, v_x1381 =>
    if v_x1381 < (v_y1379.length : Int) then
     (getI v_y1379 v_x1381).bind fun (v_y1384 : Int) =>
     if v_y1384 = v_c1363 then
      G_ringref2_RoomMany_L1 n v_c1363 v_r1362 v_x1377 v_y1379 k (wi .i64 (v_n1380 + 1)) (wi .i64 (v_x1381 + 1))
     else
      G_ringref2_RoomMany_L1 n v_c1363 v_r1362 v_x1377 v_y1379 k v_n1380 (wi .i64 (v_x1381 + 1))
    else
     some (.x0 v_n1380)
theorem G_ringref2_RoomMany_L1_ok {Fi : Ex → PS → Prop} (hF : KC 31 Fi) (ks : List Fr) (n : Nat) (v_c1363 : Int) (v_r1362 : S_cow_Room) (v_x1377 : Int) (v_y1379 : (List Int))  : ∀ (k : Nat) (v_n1380 : Int) (v_x1381 : Int) (o : G_ringref2_RoomMany_L1_R), G_ringref2_RoomMany_L1 n v_c1363 v_r1362 v_x1377 v_y1379 k v_n1380 v_x1381 = some o → RunE Try.prog 31 Fi ks (G_ringref2_RoomMany_L1_ex o) (G_ringref2_RoomMany_L1_st v_c1363 v_r1362 v_x1377 v_y1379 o) → RunE Try.prog 31 Fi (.l k (cP (cB (cR (cR (cB (cL (cR (cR (cP (cB (cR (cL (cR (cR (bodyOf Try.f20))))))))))))))) :: ks) .normal (G_ringref2_RoomMany_L1_hd v_c1363 v_r1362 v_x1377 v_y1379 v_n1380 v_x1381)
  | 0, v_n1380, v_x1381, o, h, q => by rw [G_ringref2_RoomMany_L1] at h; cases h
  | k + 1, v_n1380, v_x1381, o, h, q => by
    rw [G_ringref2_RoomMany_L1] at h
    by_cases h502 : v_x1381 < (v_y1379.length : Int)
    · rw [if_pos h502] at h
      obtain ⟨v_y1384, h506, h⟩ := bind_some h
      by_cases h508 : v_y1384 = v_c1363
      · rw [if_pos h508] at h
        exact pkk_sound TTok mix hF 16 (hs := [.t true, .y ((eI .i64) v_y1384), .c, .t true]) (ts := []) (s := []) (l := [1, 5, 11, 12, 13, 17, 18, 19]) (by kernel_rfl) (by kernel_rfl) (.cons (dt h502) (.cons (getI_ob (f := (eI .i64)) h506) (.cons (bt h508) .nil))) (G_ringref2_RoomMany_L1_ok hF ks n v_c1363 v_r1362 v_x1377 v_y1379 k (wi .i64 (v_n1380 + 1)) (wi .i64 (v_x1381 + 1)) _ h q)
      · rw [if_neg h508] at h
        exact pkk_sound TTok mix hF 16 (hs := [.t true, .y ((eI .i64) v_y1384), .c, .t false]) (ts := []) (s := []) (l := [1, 5, 11, 12, 13, 17, 18, 19]) (by kernel_rfl) (by kernel_rfl) (.cons (dt h502) (.cons (getI_ob (f := (eI .i64)) h506) (.cons (bf h508) .nil))) (G_ringref2_RoomMany_L1_ok hF ks n v_c1363 v_r1362 v_x1377 v_y1379 k v_n1380 (wi .i64 (v_x1381 + 1)) _ h q)
    · rw [if_neg h502] at h
      cases h
      exact pkk_sound TTok mix hF 8 (hs := [.t false]) (ts := []) (s := []) (l := [1, 5, 11, 12, 13]) (by kernel_rfl) (by kernel_rfl) (.cons (df h502) .nil) q
inductive G_ringref2_RoomMany_L2_R where
  | x0 (v_n1388 : Int)
def G_ringref2_RoomMany_L2_ex : G_ringref2_RoomMany_L2_R → Ex
  | .x0 _ => .exit 0
def G_ringref2_RoomMany_L2_st (v_c1363 : Int) (v_r1362 : S_cow_Room) : G_ringref2_RoomMany_L2_R → PS
  | .x0 v_n1388 => ⟨(dd :: dd :: dd :: dd :: dd :: .d (.v (.int .i64 v_n1388)) :: (dds 25 [])), []⟩
def G_ringref2_RoomMany_L2_hd (v_c1363 : Int) (v_r1362 : S_cow_Room) (v_n1376 : Int) (v_x1377 : Int) : PS := ⟨(dd :: .d (.v (.int .i64 v_c1363)) :: dd :: dd :: dd :: .d (.v (.int .i64 v_n1376)) :: dd :: dd :: dd :: dd :: dd :: .d (.sl (v_r1362.fSpaces.map (eL (eI .i64)))) :: .d (.v (.int .i64 (v_r1362.fSpaces.length : Int))) :: .d (.v (.int .i64 v_x1377)) :: (dds 17 [])), []⟩
def G_ringref2_RoomMany_L2 (n : Nat) (v_c1363 : Int) (v_r1362 : S_cow_Room) : Nat → Int → Int → Option G_ringref2_RoomMany_L2_R
  | 0, _, _ => none
  | k + 1, v_n1376, v_x1377 =>
    if v_x1377 < (v_r1362.fSpaces.length : Int) then
     (getI v_r1362.fSpaces v_x1377).bind fun (v_y1379 : (List Int)) =>
     (G_ringref2_RoomMany_L1 n v_c1363 v_r1362 v_x1377 v_y1379 n v_n1376 0).bind fun v_o1386 => match v_o1386 with
     | .x0 v_z1387 =>
       G_ringref2_RoomMany_L2 n v_c1363 v_r1362 k v_z1387 (wi .i64 (v_x1377 + 1))
    else
     some (.x0 v_n1376)
theorem G_ringref2_RoomMany_L2_ok {Fi : Ex → PS → Prop} (hF : KC 31 Fi) (ks : List Fr) (n : Nat) (v_c1363 : Int) (v_r1362 : S_cow_Room)  : ∀ (k : Nat) (v_n1376 : Int) (v_x1377 : Int) (o : G_ringref2_RoomMany_L2_R), G_ringref2_RoomMany_L2 n v_c1363 v_r1362 k v_n1376 v_x1377 = some o → RunE Try.prog 31 Fi ks (G_ringref2_RoomMany_L2_ex o) (G_ringref2_RoomMany_L2_st v_c1363 v_r1362 o) → RunE Try.prog 31 Fi (.l k (cP (cB (cR (cL (cR (cR (bodyOf Try.f20))))))) :: ks) .normal (G_ringref2_RoomMany_L2_hd v_c1363 v_r1362 v_n1376 v_x1377)
  | 0, v_n1376, v_x1377, o, h, q => by rw [G_ringref2_RoomMany_L2] at h; cases h
  | k + 1, v_n1376, v_x1377, o, h, q => by
    rw [G_ringref2_RoomMany_L2] at h
    by_cases h500 : v_x1377 < (v_r1362.fSpaces.length : Int)
    · rw [if_pos h500] at h
      obtain ⟨v_y1379, h501, h⟩ := bind_some h
      obtain ⟨v_o1386, h509, h⟩ := bind_some h
      refine pkk_sound TTok mix hF 14 (hs := [.t true, .y ((eL (eI .i64)) v_y1379), .c, .u (.d (.v (.int .i64 (v_y1379.length : Int)))), .n n]) (ts := []) (s := []) (l := [1, 5, 11, 12, 13, 17, 18, 19]) (by kernel_rfl) (by kernel_rfl) (.cons (dt h500) (.cons (getI_ob (f := (eL (eI .i64))) h501) (.cons (len_ob (f := (eI .i64)) (l := v_y1379)) .nil))) (G_ringref2_RoomMany_L1_ok hF (.b 2 :: .b 1 :: .s (cR (cR (cR (cP (cB (cR (cL (cR (cR (bodyOf Try.f20)))))))))) :: .l k (cP (cB (cR (cL (cR (cR (bodyOf Try.f20))))))) :: ks) n v_c1363 v_r1362 v_x1377 v_y1379 n v_n1376 0 _ h509 ?_)
      cases v_o1386 with
      | x0 v_z1387 =>
        try dsimp only at h
        exact pkk_sound TTok mix hF 3 (hs := []) (ts := []) (s := []) (l := [1, 5, 11, 12, 13]) (by kernel_rfl) (by kernel_rfl) .nil (G_ringref2_RoomMany_L2_ok hF ks n v_c1363 v_r1362 k v_z1387 (wi .i64 (v_x1377 + 1)) _ h q)
    · rw [if_neg h500] at h
      cases h
      exact pkk_sound TTok mix hF 8 (hs := [.t false]) (ts := []) (s := []) (l := [5]) (by kernel_rfl) (by kernel_rfl) (.cons (df h500) .nil) q
/- ringhall/ringref2.RoomMany -/
def G_ringref2_RoomMany (n : Nat) (v_r1362 : S_cow_Room) (v_c1363 : Int) : Option (Int) :=
  (G_ringref2_RoomMany_L2 n v_c1363 v_r1362 n 0 0).bind fun v_o1389 => match v_o1389 with
  | .x0 v_z1390 =>
    some v_z1390
theorem G_ringref2_RoomMany_ok (n : Nat) (v_r1362 : S_cow_Room) (v_c1363 : Int) (r : Int) (h : G_ringref2_RoomMany n v_r1362 v_c1363 = some r) : Ret Try.prog 20 [eS_cow_Room v_r1362, (eI .i64) v_c1363] ((eI .i64) r) := by
  refine ret_run (n := 31) (fn := Try.f20) (c := bodyOf Try.f20) (by kernel_rfl) (by kernel_rfl) (by kernel_rfl) (by kernel_rfl) ?_
  have hF : KC 31 (FinR Try.prog Try.f20 ((eI .i64) r)) := FinR.kc' (by kernel_rfl)
  unfold G_ringref2_RoomMany at h
  obtain ⟨v_o1389, h510, h⟩ := bind_some h
  refine pkk_sound TTok mix hF 9 (hs := [.c, .u (.d (.v (.int .i64 (v_r1362.fSpaces.length : Int)))), .n n]) (ts := []) (s := []) (l := [1, 5, 11, 12, 13]) (by kernel_rfl) (by kernel_rfl) (.cons (len_ob (f := (eL (eI .i64))) (l := v_r1362.fSpaces)) .nil) (G_ringref2_RoomMany_L2_ok hF (.b 0 :: .s (cR (cR (cR (bodyOf Try.f20)))) :: []) n v_c1363 v_r1362 n 0 0 _ h510 ?_)
  cases v_o1389 with
  | x0 v_z1390 =>
    try dsimp only at h
    obtain rfl := Option.some.inj h
    exact pend_sound TTok mix 4 (hs := []) (by kernel_rfl) (by kernel_rfl) (by kernel_rfl) .nil
inductive G_ringref2_RoomDrop_h_L1_R where
  | x0 (v_w1353 : (List Int)) (v_w1354 : (List (List Int)))
def G_ringref2_RoomDrop_h_L1_ex : G_ringref2_RoomDrop_h_L1_R → Ex
  | .x0 _ _ => .exit 0
def G_ringref2_RoomDrop_h_L1_st (v_s1321 : Int) (v_r1320 : S_cow_Room) : G_ringref2_RoomDrop_h_L1_R → PS
  | .x0 v_w1353 v_w1354 => ⟨(dd :: dd :: dd :: dd :: .ref 0 0 :: dd :: .ref 3 0 :: (dds 83 [])), [.box [.d (vnil), .srf 1], .cu (outC 39 1 nq_List_Int [none, none] (([] : List (List Int)).map (eL (eI .i64)))) [.srf 2, .d (.v noB), .d (.v noB)], .cu (bagC nct_List_Int nq_List_Int (([] : List (List Int)).map (eL (eI .i64)))) [], .box [.srf 4, .srf 5], .row 5 1 (v_w1353.map (eI .u8)), .cu (outC 39 1 nq_List_Int [none, none] (v_w1354.map (eL (eI .i64)))) [.srf 6, .d (.v noB), .d (.v noB)], .cu (bagC nct_List_Int nq_List_Int (v_w1354.map (eL (eI .i64)))) []]⟩
def G_ringref2_RoomDrop_h_L1_hd (v_s1321 : Int) (v_r1320 : S_cow_Room) (v_x1346 : Int) (v_w1347 : (List Int)) (v_w1348 : (List (List Int))) : PS := ⟨(dd :: .d (.v (.int .i64 v_s1321)) :: dd :: dd :: .ref 0 0 :: dd :: .ref 3 0 :: (dds 12 (.d (.sl (v_r1320.fSpaces.map (eL (eI .i64)))) :: .d (.v (.int .i64 (v_r1320.fSpaces.length : Int))) :: .d (.v (.int .i64 v_x1346)) :: (dds 68 [])))), [.box [.d (vnil), .srf 1], .cu (outC 39 1 nq_List_Int [none, none] (([] : List (List Int)).map (eL (eI .i64)))) [.srf 2, .d (.v noB), .d (.v noB)], .cu (bagC nct_List_Int nq_List_Int (([] : List (List Int)).map (eL (eI .i64)))) [], .box [.srf 4, .srf 5], .row 5 1 (v_w1347.map (eI .u8)), .cu (outC 39 1 nq_List_Int [none, none] (v_w1348.map (eL (eI .i64)))) [.srf 6, .d (.v noB), .d (.v noB)], .cu (bagC nct_List_Int nq_List_Int (v_w1348.map (eL (eI .i64)))) []]⟩
def G_ringref2_RoomDrop_h_L1 (n : Nat) (v_s1321 : Int) (v_r1320 : S_cow_Room) : Nat → Int → (List Int) → (List (List Int)) → Option G_ringref2_RoomDrop_h_L1_R
  | 0, _, _, _ => none
  | k + 1, v_x1346, v_w1347, v_w1348 =>
    if v_x1346 < (v_r1320.fSpaces.length : Int) then
     (getI v_r1320.fSpaces v_x1346).bind fun (v_y1350 : (List Int)) =>
     if v_x1346 = v_s1321 then
      G_ringref2_RoomDrop_h_L1 n v_s1321 v_r1320 k (wi .i64 (v_x1346 + 1)) v_w1347 v_w1348
     else
      (app 8 ([] : (List Int)) v_y1350).bind fun (v_a1351 : (List Int)) =>
      (app 24 v_w1348 [v_a1351]).bind fun (v_a1352 : (List (List Int))) =>
      G_ringref2_RoomDrop_h_L1 n v_s1321 v_r1320 k (wi .i64 (v_x1346 + 1)) v_w1347 v_a1352
    else
     some (.x0 v_w1347 v_w1348)
theorem G_ringref2_RoomDrop_h_L1_ok {Fi : Ex → PS → Prop} (hF : KC 90 Fi) (ks : List Fr) (n : Nat) (v_s1321 : Int) (v_r1320 : S_cow_Room)  : ∀ (k : Nat) (v_x1346 : Int) (v_w1347 : (List Int)) (v_w1348 : (List (List Int))) (o : G_ringref2_RoomDrop_h_L1_R), G_ringref2_RoomDrop_h_L1 n v_s1321 v_r1320 k v_x1346 v_w1347 v_w1348 = some o → RunE Try.prog 90 Fi ks (G_ringref2_RoomDrop_h_L1_ex o) (G_ringref2_RoomDrop_h_L1_st v_s1321 v_r1320 o) → RunE Try.prog 90 Fi (.l k (cP (cB (cR (cL (cR (cR (bodyOf Try.f16))))))) :: ks) .normal (G_ringref2_RoomDrop_h_L1_hd v_s1321 v_r1320 v_x1346 v_w1347 v_w1348)
  | 0, v_x1346, v_w1347, v_w1348, o, h, q => by rw [G_ringref2_RoomDrop_h_L1] at h; cases h
  | k + 1, v_x1346, v_w1347, v_w1348, o, h, q => by
    rw [G_ringref2_RoomDrop_h_L1] at h
    by_cases h493 : v_x1346 < (v_r1320.fSpaces.length : Int)
    · rw [if_pos h493] at h
      obtain ⟨v_y1350, h494, h⟩ := bind_some h
      by_cases h495 : v_x1346 = v_s1321
      · rw [if_pos h495] at h
        exact pkk_sound TTok mix hF 16 (hs := [.t true, .y ((eL (eI .i64)) v_y1350), .c, .t false]) (ts := []) (s := [0, 1, 2, 3, 4, 5, 6]) (l := [1, 4, 6, 19, 20, 21]) (by kernel_rfl) (by kernel_rfl) (.cons (dt h493) (.cons (getI_ob (f := (eL (eI .i64))) h494) (.cons (nf h495) .nil))) (G_ringref2_RoomDrop_h_L1_ok hF ks n v_s1321 v_r1320 k (wi .i64 (v_x1346 + 1)) v_w1347 v_w1348 _ h q)
      · rw [if_neg h495] at h
        obtain ⟨v_a1351, h496, h⟩ := bind_some h
        obtain ⟨v_a1352, h497, h⟩ := bind_some h
        exact pkk_sound TTok mix hF 17 (hs := [.t true, .y ((eL (eI .i64)) v_y1350), .c, .t true, .c, .w (v_a1351.map (eI .i64)), .e 72 [67, 72] (.srf 72) [(72, .cu (oneC 39) [.srf 67])], .e 77 [5, 6, 72, 67, 77, 78] (.srf 77) [(5, .none), (6, .none), (72, .none), (78, .cu (bagC nct_List_Int (minus nq_List_Int (v_w1348.length * 1 + 0)) (v_a1352.map (eL (eI .i64)))) []), (77, .cu (outC 39 1 (minus nq_List_Int (v_w1348.length * 1 + 0)) [some (v_w1348.length * 1 + 0), none] (v_a1352.map (eL (eI .i64)))) [.srf 78, .srf 67, .d (.v noB)])], .c, .dl 2, .sx [77, 78, 67] (nClose 77 78 67 39 1 nct_List_Int nq_List_Int [none, none] (v_a1352.map (eL (eI .i64))) [.srf 78, .srf 67, .d (.v noB)] 0)]) (ts := []) (s := [0, 1, 2, 3, 4, 77, 102]) (l := [1, 4, 6, 19, 20, 21]) (by kernel_rfl) (by kernel_rfl) (.cons (dt h493) (.cons (getI_ob (f := (eL (eI .i64))) h494) (.cons (nt h495) (.cons (app_ob (f := (eI .i64)) (s := 1) h496 (fun _ => rfl)).1 (.cons (app_ob (f := (eI .i64)) (s := 1) h496 (fun _ => rfl)).2.1 (.cons (app_ob (f := (eI .i64)) (s := 1) h496 (fun _ => rfl)).2.2.1 (.cons (app_ob (f := (eI .i64)) (s := 1) h496 (fun _ => rfl)).2.2.2 (.cons (nbs (P := Try.prog) (T := TT) (t := 23) (L := 67) (nl := 72) (ty := 39) (e := 3) (s := 1) (ys := (v_a1351.map (eI .i64))) (x := (.tmp 32)) (ti := ⟨1, 24, .sl 3, [.sl]⟩) (by kernel_rfl) (by kernel_rfl) (by decide)) (.cons (napp' (P := Try.prog) (T := TT) (f' := (eI .i64)) (W := v_w1348) (Z := v_a1352) (Y := v_a1351) (t := 23) (l := 5) (B := 6) (l2 := 72) (L := 67) (nl := 77) (ty := 39) (e := 3) (s := 1) (ti := ⟨1, 24, .sl 3, [.sl]⟩) (ct := nct_List_Int) (q := nq_List_Int) (hs := [none, none]) (fs := [.srf 6, .d (.v noB), .d (.v noB)]) (x := (.tmp 30)) (y := (.tmp 33)) h497 (by kernel_rfl) (by kernel_rfl) (by kernel_rfl) rfl (fun k => decide_eq_true (Nat.zero_le k)) (fun _ _ => rfl) (by decide) (by decide) (by decide) (by decide) (by decide) (by decide)) (.cons (show 1 + 1 ≤ 2 by decide) (.cons (nclose_same (l := 77) (B := 78) (L := 67) (ty := 39) (sz := 1) (i := v_w1348.length) (off := 0) (j := 0) (e := 3) (s := 1) (ct := nct_List_Int) (q := (minus nq_List_Int (v_w1348.length * 1 + 0))) (q' := nq_List_Int) (hs := [some (v_w1348.length * 1 + 0), none]) (xs := (v_a1352.map (eL (eI .i64)))) (ys := (v_a1351.map (eI .i64))) (fs := [.srf 78, .srf 67, .d (.v noB)]) (y := ((eL (eI .i64)) v_a1351)) (by decide) (by decide) (by decide) (all_fits (fun _ => rfl)) (get_ob (f := (eL (eI .i64))) (app_snoc h497).2.1) (by decide) rfl (by rw [Bool.eq_false_iff, ne_eq]; simp only [nq_List_Int, minus, plus, qpre, Bool.and_eq_true, Bool.or_eq_true, Bool.not_eq_true', decide_eq_true_eq, decide_eq_false_iff_not, and_true, and_false, true_and, false_and, or_true, or_false, true_or, false_or, not_true_eq_false, not_false_eq_true] <;> omega) rfl (by intro j' hj' h; rcases j' with _ | _ | j' <;> simp at h hj' <;> omega) rfl rfl rfl (by intro k hk; rw [Bool.eq_iff_iff]; simp only [nq_List_Int, minus, plus, qpre, Bool.and_eq_true, Bool.or_eq_true, Bool.not_eq_true', decide_eq_true_eq, decide_eq_false_iff_not, and_true, and_false, true_and, false_and, or_true, or_false, true_or, false_or, not_true_eq_false, not_false_eq_true] <;> omega)) .nil))))))))))) (G_ringref2_RoomDrop_h_L1_ok hF ks n v_s1321 v_r1320 k (wi .i64 (v_x1346 + 1)) v_w1347 v_a1352 _ h q)
    · rw [if_neg h493] at h
      cases h
      exact pkk_sound TTok mix hF 8 (hs := [.t false]) (ts := []) (s := [0, 1, 2, 3, 4, 5, 6]) (l := [4, 6]) (by kernel_rfl) (by kernel_rfl) (.cons (df h493) .nil) q
inductive G_ringref2_RoomDrop_h_L6_R where
  | x0 (v_w1492 : (List Int)) (v_w1493 : (List (List Int)))
def G_ringref2_RoomDrop_h_L6_ex : G_ringref2_RoomDrop_h_L6_R → Ex
  | .x0 _ _ => .exit 6
def G_ringref2_RoomDrop_h_L6_st (v_gone1444 : Int) (v_c1445 : Int) (v_w1447 : (List (List Int))) (v_x1473 : Int) (v_y1477 : (List Int)) (v_w1475 : (List (List Int))) : G_ringref2_RoomDrop_h_L6_R → PS
  | .x0 v_w1492 v_w1493 => ⟨(dd :: dd :: dd :: dd :: .ref 0 0 :: dd :: .ref 3 0 :: dd :: dd :: .d (.v (.int .i64 (wi .i64 (v_gone1444 + 1)))) :: .d (.v (.int .i64 v_c1445)) :: (dds 52 (.srf 5 :: .d (.v (.int .i64 (v_w1447.length : Int))) :: .d (.v (.int .i64 v_x1473)) :: (dds 24 [])))), [.box [.d (vnil), .srf 1], .cu (outC 39 1 nq_List_Int [none, none] (([] : List (List Int)).map (eL (eI .i64)))) [.srf 2, .d (.v noB), .d (.v noB)], .cu (bagC nct_List_Int nq_List_Int (([] : List (List Int)).map (eL (eI .i64)))) [], .box [.srf 4, .srf 5], .row 5 1 (v_w1492.map (eI .u8)), .cu (outC 39 1 nq_List_Int [none, none] (v_w1493.map (eL (eI .i64)))) [.srf 6, .d (.v noB), .d (.v noB)], .cu (bagC nct_List_Int nq_List_Int (v_w1493.map (eL (eI .i64)))) []]⟩
def G_ringref2_RoomDrop_h_L6_hd (v_gone1444 : Int) (v_c1445 : Int) (v_w1447 : (List (List Int))) (v_x1473 : Int) (v_y1477 : (List Int)) (v_w1475 : (List (List Int))) (v_x1484 : Int) (v_w1485 : (List Int)) (v_w1486 : (List Int)) : PS := ⟨(dd :: dd :: dd :: dd :: .ref 0 0 :: dd :: .ref 3 0 :: dd :: dd :: .d (.v (.int .i64 (wi .i64 (v_gone1444 + 1)))) :: .d (.v (.int .i64 v_c1445)) :: dd :: .srf 7 :: (dds 50 (.srf 5 :: .d (.v (.int .i64 (v_w1447.length : Int))) :: .d (.v (.int .i64 v_x1473)) :: dd :: dd :: dd :: dd :: .d (.v (.int .i64 (v_y1477.length : Int))) :: .d (.v (.int .i64 v_x1484)) :: (dds 18 [])))), [.box [.d (vnil), .srf 1], .cu (outC 39 1 nq_List_Int [none, none] (([] : List (List Int)).map (eL (eI .i64)))) [.srf 2, .d (.v noB), .d (.v noB)], .cu (bagC nct_List_Int nq_List_Int (([] : List (List Int)).map (eL (eI .i64)))) [], .box [.srf 4, .srf 5], .row 5 1 (v_w1485.map (eI .u8)), .cu (outC 39 1 (minus nq_List_Int (((v_x1473).toNat) * 1 + 0)) [some (((v_x1473).toNat) * 1 + 0), none] (v_w1475.map (eL (eI .i64)))) [.srf 6, .srf 7, .d (.v noB)], .cu (bagC nct_List_Int (minus nq_List_Int (((v_x1473).toNat) * 1 + 0)) (v_w1475.map (eL (eI .i64)))) [], .row 3 1 (v_w1486.map (eI .i64))]⟩
def G_ringref2_RoomDrop_h_L6 (n : Nat) (v_gone1444 : Int) (v_c1445 : Int) (v_w1447 : (List (List Int))) (v_x1473 : Int) (v_y1477 : (List Int)) (v_w1475 : (List (List Int))) : Nat → Int → (List Int) → (List Int) → Option G_ringref2_RoomDrop_h_L6_R
  | 0, _, _, _ => none
  | k + 1, v_x1484, v_w1485, v_w1486 =>
    if v_x1484 < (v_y1477.length : Int) then
     if 0 ≤ v_x1484 ∧ (v_x1484).toNat < v_w1486.length then
      (v_w1486[(v_x1484).toNat]?).bind fun (v_y1488 : Int) =>
      if v_y1488 > v_c1445 then
       if 0 ≤ v_x1484 ∧ (v_x1484).toNat < v_w1486.length then
        (v_w1486[(v_x1484).toNat]?).bind fun (v_y1489 : Int) =>
        if 0 ≤ v_x1484 ∧ (v_x1484).toNat < v_w1486.length then
         (v_w1486[(v_x1484).toNat]?).bind fun (v_y1490 : Int) =>
         G_ringref2_RoomDrop_h_L6 n v_gone1444 v_c1445 v_w1447 v_x1473 v_y1477 v_w1475 k (wi .i64 (v_x1484 + 1)) v_w1485 (v_w1486.set (v_x1484).toNat (wi .i64 (v_y1489 - 1)))
        else none
       else none
      else
       G_ringref2_RoomDrop_h_L6 n v_gone1444 v_c1445 v_w1447 v_x1473 v_y1477 v_w1475 k (wi .i64 (v_x1484 + 1)) v_w1485 v_w1486
     else none
    else
     (v_w1475[(v_x1473).toNat]?).bind fun (v_y1491 : (List Int)) =>
     some (.x0 v_w1485 (v_w1475.set ((v_x1473).toNat) v_w1486))
theorem G_ringref2_RoomDrop_h_L6_ok {Fi : Ex → PS → Prop} (hF : KC 90 Fi) (ks : List Fr) (n : Nat) (v_gone1444 : Int) (v_c1445 : Int) (v_w1447 : (List (List Int))) (v_x1473 : Int) (v_y1477 : (List Int)) (v_w1475 : (List (List Int)))  : ∀ (k : Nat) (v_x1484 : Int) (v_w1485 : (List Int)) (v_w1486 : (List Int)) (o : G_ringref2_RoomDrop_h_L6_R), G_ringref2_RoomDrop_h_L6 n v_gone1444 v_c1445 v_w1447 v_x1473 v_y1477 v_w1475 k v_x1484 v_w1485 v_w1486 = some o → RunE Try.prog 90 Fi ks (G_ringref2_RoomDrop_h_L6_ex o) (G_ringref2_RoomDrop_h_L6_st v_gone1444 v_c1445 v_w1447 v_x1473 v_y1477 v_w1475 o) → RunE Try.prog 90 Fi (.l k (cP (cB (cR (cR (cB (cL (cR (cR (cP (cB (cR (cR (cR (cR (cB (cL (cR (cP (cB (cR (cL (cR (cR (cR (cR (bodyOf Try.f16)))))))))))))))))))))))))) :: ks) .normal (G_ringref2_RoomDrop_h_L6_hd v_gone1444 v_c1445 v_w1447 v_x1473 v_y1477 v_w1475 v_x1484 v_w1485 v_w1486)
  | 0, v_x1484, v_w1485, v_w1486, o, h, q => by rw [G_ringref2_RoomDrop_h_L6] at h; cases h
  | k + 1, v_x1484, v_w1485, v_w1486, o, h, q => by
    rw [G_ringref2_RoomDrop_h_L6] at h
    by_cases h597 : v_x1484 < (v_y1477.length : Int)
    · rw [if_pos h597] at h
      by_cases h598 : 0 ≤ v_x1484 ∧ (v_x1484).toNat < v_w1486.length
      · rw [if_pos h598] at h
        obtain ⟨v_y1488, h599, h⟩ := bind_some h
        by_cases h600 : v_y1488 > v_c1445
        · rw [if_pos h600] at h
          by_cases h601 : 0 ≤ v_x1484 ∧ (v_x1484).toNat < v_w1486.length
          · rw [if_pos h601] at h
            obtain ⟨v_y1489, h602, h⟩ := bind_some h
            by_cases h603 : 0 ≤ v_x1484 ∧ (v_x1484).toNat < v_w1486.length
            · rw [if_pos h603] at h
              obtain ⟨v_y1490, h604, h⟩ := bind_some h
              exact pkk_sound TTok mix hF 16 (hs := [.t true, .y ((eI .i64) v_y1488), .t true, .y ((eI .i64) v_y1489), .w ((v_w1486.set (v_x1484).toNat (wi .i64 (v_y1489 - 1))).map (eI .i64)), .y ((eI .i64) v_y1490)]) (ts := []) (s := [0, 1, 2, 3, 4, 5, 6, 7]) (l := [4, 6, 9, 10, 12, 63, 64, 65, 70, 71]) (by kernel_rfl) (by kernel_rfl) (.cons (dt h597) (.cons (idx_ob (f := (eI .i64)) h598) (.cons (get_ob (f := (eI .i64)) h599) (.cons (dt h600) (.cons (idx_ob (f := (eI .i64)) h601) (.cons (get_ob (f := (eI .i64)) h602) (.cons (idx_ob (f := (eI .i64)) h603) (.cons (get_ob (f := (eI .i64)) h604) (.cons (Eq.refl (pcells (.v (.int .i64 (wi .i64 (v_y1489 - 1)))))) (.cons (set_ob (f := (eI .i64)) (l := v_w1486) (k := (v_x1484).toNat) (z := (wi .i64 (v_y1489 - 1))) (p := .v (.int .i64 (wi .i64 (v_y1489 - 1)))) rfl) .nil)))))))))) (G_ringref2_RoomDrop_h_L6_ok hF ks n v_gone1444 v_c1445 v_w1447 v_x1473 v_y1477 v_w1475 k (wi .i64 (v_x1484 + 1)) v_w1485 (v_w1486.set (v_x1484).toNat (wi .i64 (v_y1489 - 1))) _ h q)
            · rw [if_neg h603] at h; cases h
          · rw [if_neg h601] at h; cases h
        · rw [if_neg h600] at h
          exact pkk_sound TTok mix hF 16 (hs := [.t true, .y ((eI .i64) v_y1488), .t false]) (ts := []) (s := [0, 1, 2, 3, 4, 5, 6, 7]) (l := [4, 6, 9, 10, 12, 63, 64, 65, 70, 71]) (by kernel_rfl) (by kernel_rfl) (.cons (dt h597) (.cons (idx_ob (f := (eI .i64)) h598) (.cons (get_ob (f := (eI .i64)) h599) (.cons (df h600) .nil)))) (G_ringref2_RoomDrop_h_L6_ok hF ks n v_gone1444 v_c1445 v_w1447 v_x1473 v_y1477 v_w1475 k (wi .i64 (v_x1484 + 1)) v_w1485 v_w1486 _ h q)
      · rw [if_neg h598] at h; cases h
    · rw [if_neg h597] at h
      obtain ⟨v_y1491, h605, h⟩ := bind_some h
      cases h
      exact pkk_sound TTok mix hF 9 (hs := [.t false, .dl 3, .sx [5, 6, 7] (nClose 5 6 7 39 1 nct_List_Int nq_List_Int [none, none] ((v_w1475.set ((v_x1473).toNat) v_w1486).map (eL (eI .i64))) [.srf 6, .srf 7, .d (.v noB)] 0)]) (ts := []) (s := [0, 1, 2, 3, 4, 5, 13]) (l := [4, 6, 9, 10, 63, 64, 65]) (by kernel_rfl) (by kernel_rfl) (.cons (df h597) (.cons (nclose' (l := 5) (B := 6) (L := 7) (ty := 39) (sz := 1) (i := (v_x1473).toNat) (off := 0) (j := 0) (e := 3) (s := 1) (ct := nct_List_Int) (q := (minus nq_List_Int (((v_x1473).toNat) * 1 + 0))) (q' := nq_List_Int) (hs := [some (((v_x1473).toNat) * 1 + 0), none]) (xs := (v_w1475.map (eL (eI .i64)))) (ys := (v_w1486.map (eI .i64))) (fs := [.srf 6, .srf 7, .d (.v noB)]) (y := ((eL (eI .i64)) v_y1491)) (y' := (.sl (v_w1486.map (eI .i64)))) (set_ob (f := (eL (eI .i64))) (l := v_w1475) (k := (v_x1473).toNat) (z := v_w1486) (p := .sl (v_w1486.map (eI .i64))) rfl) (by decide) (by decide) (by decide) (all_fits (fun _ => rfl)) (get_ob (f := (eL (eI .i64))) h605) (by decide) rfl rfl (by rw [Bool.eq_false_iff, ne_eq]; simp only [nq_List_Int, minus, plus, qpre, Bool.and_eq_true, Bool.or_eq_true, Bool.not_eq_true', decide_eq_true_eq, decide_eq_false_iff_not, and_true, and_false, true_and, false_and, or_true, or_false, true_or, false_or, not_true_eq_false, not_false_eq_true] <;> omega) rfl (by intro j' hj' h; rcases j' with _ | _ | j' <;> simp at h hj' <;> omega) rfl rfl rfl (by intro k hk; rw [Bool.eq_iff_iff]; simp only [nq_List_Int, minus, plus, qpre, Bool.and_eq_true, Bool.or_eq_true, Bool.not_eq_true', decide_eq_true_eq, decide_eq_false_iff_not, and_true, and_false, true_and, false_and, or_true, or_false, true_or, false_or, not_true_eq_false, not_false_eq_true] <;> omega)) .nil)) q
inductive G_ringref2_RoomDrop_h_L7_R where
  | x0 (v_w1497 : (List Int)) (v_w1498 : (List (List Int)))
def G_ringref2_RoomDrop_h_L7_ex : G_ringref2_RoomDrop_h_L7_R → Ex
  | .x0 _ _ => .exit 4
def G_ringref2_RoomDrop_h_L7_st (v_gone1444 : Int) (v_c1445 : Int) (v_w1447 : (List (List Int))) : G_ringref2_RoomDrop_h_L7_R → PS
  | .x0 v_w1497 v_w1498 => ⟨(dd :: dd :: dd :: dd :: .ref 0 0 :: dd :: .ref 3 0 :: dd :: dd :: .d (.v (.int .i64 (wi .i64 (v_gone1444 + 1)))) :: .d (.v (.int .i64 v_c1445)) :: (dds 79 [])), [.box [.d (vnil), .srf 1], .cu (outC 39 1 nq_List_Int [none, none] (([] : List (List Int)).map (eL (eI .i64)))) [.srf 2, .d (.v noB), .d (.v noB)], .cu (bagC nct_List_Int nq_List_Int (([] : List (List Int)).map (eL (eI .i64)))) [], .box [.srf 4, .srf 5], .row 5 1 (v_w1497.map (eI .u8)), .cu (outC 39 1 nq_List_Int [none, none] (v_w1498.map (eL (eI .i64)))) [.srf 6, .d (.v noB), .d (.v noB)], .cu (bagC nct_List_Int nq_List_Int (v_w1498.map (eL (eI .i64)))) []]⟩
def G_ringref2_RoomDrop_h_L7_hd (v_gone1444 : Int) (v_c1445 : Int) (v_w1447 : (List (List Int))) (v_x1473 : Int) (v_w1474 : (List Int)) (v_w1475 : (List (List Int))) : PS := ⟨(dd :: dd :: dd :: dd :: .ref 0 0 :: dd :: .ref 3 0 :: dd :: dd :: .d (.v (.int .i64 (wi .i64 (v_gone1444 + 1)))) :: .d (.v (.int .i64 v_c1445)) :: (dds 52 (.srf 5 :: .d (.v (.int .i64 (v_w1447.length : Int))) :: .d (.v (.int .i64 v_x1473)) :: (dds 24 [])))), [.box [.d (vnil), .srf 1], .cu (outC 39 1 nq_List_Int [none, none] (([] : List (List Int)).map (eL (eI .i64)))) [.srf 2, .d (.v noB), .d (.v noB)], .cu (bagC nct_List_Int nq_List_Int (([] : List (List Int)).map (eL (eI .i64)))) [], .box [.srf 4, .srf 5], .row 5 1 (v_w1474.map (eI .u8)), .cu (outC 39 1 nq_List_Int [none, none] (v_w1475.map (eL (eI .i64)))) [.srf 6, .d (.v noB), .d (.v noB)], .cu (bagC nct_List_Int nq_List_Int (v_w1475.map (eL (eI .i64)))) []]⟩
def G_ringref2_RoomDrop_h_L7 (n : Nat) (v_gone1444 : Int) (v_c1445 : Int) (v_w1447 : (List (List Int))) : Nat → Int → (List Int) → (List (List Int)) → Option G_ringref2_RoomDrop_h_L7_R
  | 0, _, _, _ => none
  | k + 1, v_x1473, v_w1474, v_w1475 =>
    if v_x1473 < (v_w1447.length : Int) then
     if 0 ≤ v_x1473 ∧ (v_x1473).toNat < v_w1475.length then
      (v_w1475[(v_x1473).toNat]?).bind fun (v_y1477 : (List Int)) =>
      (G_ringref2_RoomDrop_h_L6 n v_gone1444 v_c1445 v_w1447 v_x1473 v_y1477 v_w1475 n 0 v_w1474 v_y1477).bind fun v_o1494 => match v_o1494 with
      | .x0 v_z1495 v_z1496 =>
        G_ringref2_RoomDrop_h_L7 n v_gone1444 v_c1445 v_w1447 k (wi .i64 (v_x1473 + 1)) v_z1495 v_z1496
     else none
    else
     some (.x0 v_w1474 v_w1475)
theorem G_ringref2_RoomDrop_h_L7_ok {Fi : Ex → PS → Prop} (hF : KC 90 Fi) (ks : List Fr) (n : Nat) (v_gone1444 : Int) (v_c1445 : Int) (v_w1447 : (List (List Int)))  : ∀ (k : Nat) (v_x1473 : Int) (v_w1474 : (List Int)) (v_w1475 : (List (List Int))) (o : G_ringref2_RoomDrop_h_L7_R), G_ringref2_RoomDrop_h_L7 n v_gone1444 v_c1445 v_w1447 k v_x1473 v_w1474 v_w1475 = some o → RunE Try.prog 90 Fi ks (G_ringref2_RoomDrop_h_L7_ex o) (G_ringref2_RoomDrop_h_L7_st v_gone1444 v_c1445 v_w1447 o) → RunE Try.prog 90 Fi (.l k (cP (cB (cR (cR (cR (cR (cB (cL (cR (cP (cB (cR (cL (cR (cR (cR (cR (bodyOf Try.f16)))))))))))))))))) :: ks) .normal (G_ringref2_RoomDrop_h_L7_hd v_gone1444 v_c1445 v_w1447 v_x1473 v_w1474 v_w1475)
  | 0, v_x1473, v_w1474, v_w1475, o, h, q => by rw [G_ringref2_RoomDrop_h_L7] at h; cases h
  | k + 1, v_x1473, v_w1474, v_w1475, o, h, q => by
    rw [G_ringref2_RoomDrop_h_L7] at h
    by_cases h586 : v_x1473 < (v_w1447.length : Int)
    · rw [if_pos h586] at h
      by_cases h587 : 0 ≤ v_x1473 ∧ (v_x1473).toNat < v_w1475.length
      · rw [if_pos h587] at h
        obtain ⟨v_y1477, h588, h⟩ := bind_some h
        obtain ⟨v_o1494, h606, h⟩ := bind_some h
        refine pkk_sound TTok mix hF 14 (hs := [.t true, .e 12 [5] (.ept 5 1 ((v_x1473).toNat) 0) [], .e 17 [5, 6, 17, 18] (.srf 17) [(6, .none), (17, .row 3 1 (v_y1477.map (eI .i64))), (18, .cu (bagC nct_List_Int (minus nq_List_Int (((v_x1473).toNat) * 1 + 0)) (v_w1475.map (eL (eI .i64)))) []), (5, .cu (outC 39 1 (minus nq_List_Int (((v_x1473).toNat) * 1 + 0)) [some (((v_x1473).toNat) * 1 + 0), none] (v_w1475.map (eL (eI .i64)))) [.srf 18, .srf 17, .d (.v noB)])], .u (.d (.v (.int .i64 (v_y1477.length : Int)))), .n n]) (ts := []) (s := [0, 1, 2, 3, 4, 5, 18, 17]) (l := [4, 6, 9, 10, 12, 63, 64, 65, 70, 71]) (by kernel_rfl) (by kernel_rfl) (.cons (dt h586) (.cons (nidx (P := Try.prog) (T := TT) (t := 23) (l := 5) (ty := 39) (sz := 1) (q := nq_List_Int) (hs := [none, none]) (xs := (v_w1475.map (eL (eI .i64)))) (fs := [.srf 6, .d (.v noB), .d (.v noB)]) (x := (.tmp 63)) (i := (.tmp 65)) (ik := .i64) (j := v_x1473) (by kernel_rfl) h587.1 (by rw [List.length_map]; exact h587.2)) (.cons (ntake (P := Try.prog) (T := TT) (t := 39) (l := 5) (ty := 39) (sz := 1) (i := (v_x1473).toNat) (off := 0) (q := nq_List_Int) (hs := [none, none]) (xs := (v_w1475.map (eL (eI .i64)))) (fs := [.srf 6, .d (.v noB), .d (.v noB)]) (x := (.tmp 67)) (B := 6) (nl := 17) (j := 0) (e := 3) (s := 1) (ct := nct_List_Int) (ys := (v_y1477.map (eI .i64))) (y := ((eL (eI .i64)) v_y1477)) (by kernel_rfl) (all_fits (fun _ => rfl)) (get_ob (f := (eL (eI .i64))) h588) rfl (by simp only [nq_List_Int, minus, plus, qpre, Bool.and_eq_true, Bool.or_eq_true, Bool.not_eq_true', decide_eq_true_eq, decide_eq_false_iff_not, and_true, and_false, true_and, false_and, or_true, or_false, true_or, false_or, not_true_eq_false, not_false_eq_true] <;> omega) rfl rfl (by decide) rfl (by decide)) (.cons (len_ob (f := (eI .i64)) (l := v_y1477)) .nil)))) (G_ringref2_RoomDrop_h_L6_ok hF (.b 6 :: .b 5 :: .s (cR (cR (cR (cP (cB (cR (cR (cR (cR (cB (cL (cR (cP (cB (cR (cL (cR (cR (cR (cR (bodyOf Try.f16))))))))))))))))))))) :: .l k (cP (cB (cR (cR (cR (cR (cB (cL (cR (cP (cB (cR (cL (cR (cR (cR (cR (bodyOf Try.f16)))))))))))))))))) :: ks) n v_gone1444 v_c1445 v_w1447 v_x1473 v_y1477 v_w1475 n 0 v_w1474 v_y1477 _ h606 ?_)
        cases v_o1494 with
        | x0 v_z1495 v_z1496 =>
          try dsimp only at h
          exact pkk_sound TTok mix hF 3 (hs := []) (ts := []) (s := [0, 1, 2, 3, 4, 5, 6]) (l := [4, 6, 9, 10, 63, 64, 65]) (by kernel_rfl) (by kernel_rfl) .nil (G_ringref2_RoomDrop_h_L7_ok hF ks n v_gone1444 v_c1445 v_w1447 k (wi .i64 (v_x1473 + 1)) v_z1495 v_z1496 _ h q)
      · rw [if_neg h587] at h; cases h
    · rw [if_neg h586] at h
      cases h
      exact pkk_sound TTok mix hF 8 (hs := [.t false]) (ts := []) (s := [0, 1, 2, 3, 4, 5, 6]) (l := [4, 6, 9, 10]) (by kernel_rfl) (by kernel_rfl) (.cons (df h586) .nil) q
inductive G_ringref2_RoomDrop_h_L8_R where
  | x0 (v_gone1502 : Int) (v_w1503 : (List Int)) (v_w1504 : (List (List Int)))
def G_ringref2_RoomDrop_h_L8_ex : G_ringref2_RoomDrop_h_L8_R → Ex
  | .x0 _ _ _ => .exit 2
def G_ringref2_RoomDrop_h_L8_st  : G_ringref2_RoomDrop_h_L8_R → PS
  | .x0 v_gone1502 v_w1503 v_w1504 => ⟨(dd :: dd :: dd :: dd :: .ref 0 0 :: dd :: .ref 3 0 :: dd :: dd :: .d (.v (.int .i64 v_gone1502)) :: (dds 80 [])), [.box [.d (vnil), .srf 1], .cu (outC 39 1 nq_List_Int [none, none] (([] : List (List Int)).map (eL (eI .i64)))) [.srf 2, .d (.v noB), .d (.v noB)], .cu (bagC nct_List_Int nq_List_Int (([] : List (List Int)).map (eL (eI .i64)))) [], .box [.srf 4, .srf 5], .row 5 1 (v_w1503.map (eI .u8)), .cu (outC 39 1 nq_List_Int [none, none] (v_w1504.map (eL (eI .i64)))) [.srf 6, .d (.v noB), .d (.v noB)], .cu (bagC nct_List_Int nq_List_Int (v_w1504.map (eL (eI .i64)))) []]⟩
def G_ringref2_RoomDrop_h_L8_hd  (v_gone1444 : Int) (v_c1445 : Int) (v_w1446 : (List Int)) (v_w1447 : (List (List Int))) : PS := ⟨(dd :: dd :: dd :: dd :: .ref 0 0 :: dd :: .ref 3 0 :: dd :: dd :: .d (.v (.int .i64 v_gone1444)) :: .d (.v (.int .i64 v_c1445)) :: (dds 79 [])), [.box [.d (vnil), .srf 1], .cu (outC 39 1 nq_List_Int [none, none] (([] : List (List Int)).map (eL (eI .i64)))) [.srf 2, .d (.v noB), .d (.v noB)], .cu (bagC nct_List_Int nq_List_Int (([] : List (List Int)).map (eL (eI .i64)))) [], .box [.srf 4, .srf 5], .row 5 1 (v_w1446.map (eI .u8)), .cu (outC 39 1 nq_List_Int [none, none] (v_w1447.map (eL (eI .i64)))) [.srf 6, .d (.v noB), .d (.v noB)], .cu (bagC nct_List_Int nq_List_Int (v_w1447.map (eL (eI .i64)))) []]⟩
def G_ringref2_RoomDrop_h_L8 (n : Nat)  : Nat → Int → Int → (List Int) → (List (List Int)) → Option G_ringref2_RoomDrop_h_L8_R
  | 0, _, _, _, _ => none
  | k + 1, v_gone1444, v_c1445, v_w1446, v_w1447 =>
    if v_c1445 ≥ 0 then
     (G_ringref2_RoomMany n (S_cow_Room.mk v_w1446 v_w1447) v_c1445).bind fun (v_r1449 : (Int)) =>
     if v_r1449 > 0 then
      G_ringref2_RoomDrop_h_L8 n  k v_gone1444 (wi .i64 (v_c1445 - 1)) v_w1446 v_w1447
     else
      if ((0 : Int) ≤ v_c1445 ∧ v_c1445 ≤ (v_w1446.length : Int)) then
       if ((0 : Int) ≤ (wi .i64 (v_c1445 + 1)) ∧ (wi .i64 (v_c1445 + 1)) ≤ (v_w1446.length : Int)) then
        if v_c1445.toNat ≤ (wi .i64 (v_c1445 + 1)).toNat ∧ (wi .i64 (v_c1445 + 1)).toNat ≤ v_w1446.length ∧ v_w1446.length ≤ v_w1446.length then
         (G_ringref2_RoomDrop_h_L7 n v_gone1444 v_c1445 v_w1447 n 0 (v_w1446.take v_c1445.toNat ++ (v_w1446.take v_w1446.length).drop ((wi .i64 (v_c1445 + 1)).toNat)) v_w1447).bind fun v_o1499 => match v_o1499 with
         | .x0 v_z1500 v_z1501 =>
           G_ringref2_RoomDrop_h_L8 n  k (wi .i64 (v_gone1444 + 1)) (wi .i64 (v_c1445 - 1)) v_z1500 v_z1501
        else none
       else none
      else none
    else
     some (.x0 v_gone1444 v_w1446 v_w1447)
theorem G_ringref2_RoomDrop_h_L8_ok {Fi : Ex → PS → Prop} (hF : KC 90 Fi) (ks : List Fr) (n : Nat)   : ∀ (k : Nat) (v_gone1444 : Int) (v_c1445 : Int) (v_w1446 : (List Int)) (v_w1447 : (List (List Int))) (o : G_ringref2_RoomDrop_h_L8_R), G_ringref2_RoomDrop_h_L8 n  k v_gone1444 v_c1445 v_w1446 v_w1447 = some o → RunE Try.prog 90 Fi ks (G_ringref2_RoomDrop_h_L8_ex o) (G_ringref2_RoomDrop_h_L8_st  o) → RunE Try.prog 90 Fi (.l k (cP (cB (cR (cL (cR (cR (cR (cR (bodyOf Try.f16))))))))) :: ks) .normal (G_ringref2_RoomDrop_h_L8_hd  v_gone1444 v_c1445 v_w1446 v_w1447)
  | 0, v_gone1444, v_c1445, v_w1446, v_w1447, o, h, q => by rw [G_ringref2_RoomDrop_h_L8] at h; cases h
  | k + 1, v_gone1444, v_c1445, v_w1446, v_w1447, o, h, q => by
    rw [G_ringref2_RoomDrop_h_L8] at h
    by_cases h559 : v_c1445 ≥ 0
    · rw [if_pos h559] at h
      obtain ⟨v_r1449, h560, h⟩ := bind_some h
      by_cases h561 : v_r1449 > 0
      · rw [if_pos h561] at h
        exact pkk_sound TTok mix hF 16 (hs := [.t true, .c, .e 27 [4, 5, 6] (.d (.v (.int .i64 v_r1449))) [], .t true]) (ts := []) (s := [0, 1, 2, 3, 4, 5, 6]) (l := [4, 6, 9, 10]) (by kernel_rfl) (by kernel_rfl) (.cons (dt h559) (.cons (ncall (P := Try.prog) (T := TT) (fv := .d (.clo 20 [])) (vs := [.agg [.srf 4, .srf 5], .d (.v (.int .i64 v_c1445))]) (f := .func 20) (args := #[(.tmp 45), (.tmp 46)]) (tys := #[25, 3]) (m0 := [(4, .row 5 1 (v_w1446.map (eI .u8))), (5, .cu (outC 39 1 nq_List_Int [none, none] (v_w1447.map (eL (eI .i64)))) [.srf 6, .d (.v noB), .d (.v noB)]), (6, .cu (bagC nct_List_Int nq_List_Int (v_w1447.map (eL (eI .i64)))) [])]) [(4, (.sl (v_w1446.map (eI .u8)))), (5, (.sl (v_w1447.map (eL (eI .i64)))))] (lend_cons (l := 4) (p := (.sl (v_w1446.map (eI .u8)))) (Lend.row 4 5 1 (v_w1446.map (eI .u8)) (List.mem_cons_self ..)) (lend_cons (l := 5) (p := (.sl (v_w1447.map (eL (eI .i64))))) (Lend.nst 5 6 39 1 nct_List_Int nq_List_Int [none, none] (v_w1447.map (eL (eI .i64))) [.srf 6, .d (.v noB), .d (.v noB)] (List.mem_cons_of_mem _ (List.mem_cons_self ..)) (List.mem_cons_of_mem _ (List.mem_cons_of_mem _ (List.mem_cons_self ..))) rfl (all_fits (fun _ => rfl)) hole0) lend_nil)) rfl rfl (G_ringref2_RoomMany_ok n (S_cow_Room.mk v_w1446 v_w1447) v_c1445 _ h560) (by rfl)) (.cons (dt h561) .nil))) (G_ringref2_RoomDrop_h_L8_ok hF ks n  k v_gone1444 (wi .i64 (v_c1445 - 1)) v_w1446 v_w1447 _ h q)
      · rw [if_neg h561] at h
        by_cases h562 : ((0 : Int) ≤ v_c1445 ∧ v_c1445 ≤ (v_w1446.length : Int))
        · rw [if_pos h562] at h
          by_cases h563 : ((0 : Int) ≤ (wi .i64 (v_c1445 + 1)) ∧ (wi .i64 (v_c1445 + 1)) ≤ (v_w1446.length : Int))
          · rw [if_pos h563] at h
            by_cases h564 : v_c1445.toNat ≤ (wi .i64 (v_c1445 + 1)).toNat ∧ (wi .i64 (v_c1445 + 1)).toNat ≤ v_w1446.length ∧ v_w1446.length ≤ v_w1446.length
            · rw [if_pos h564] at h
              obtain ⟨v_o1499, h607, h⟩ := bind_some h
              refine pkk_sound TTok mix hF 21 (hs := [.t true, .c, .e 27 [4, 5, 6] (.d (.v (.int .i64 v_r1449))) [], .t false, .c, .e 67 [4] (.ssl 4 0 v_c1445.toNat 1) [], .c, .e 92 [4] (.ssl 4 ((wi .i64 (v_c1445 + 1)).toNat) v_w1446.length 1) [], .e 97 [4, 97] (.srf 97) [(4, .none), (97, .row 5 1 ((v_w1446.take v_c1445.toNat ++ (v_w1446.take v_w1446.length).drop ((wi .i64 (v_c1445 + 1)).toNat)).map (eI .u8)))], .c, .c, .e 122 [5] (.d (.v (.int .i64 (v_w1447.length : Int)))) [], .n n]) (ts := []) (s := [0, 1, 2, 3, 97, 5, 6]) (l := [4, 6, 9, 10, 63, 64, 65]) (by kernel_rfl) (by kernel_rfl) (.cons (dt h559) (.cons (ncall (P := Try.prog) (T := TT) (fv := .d (.clo 20 [])) (vs := [.agg [.srf 4, .srf 5], .d (.v (.int .i64 v_c1445))]) (f := .func 20) (args := #[(.tmp 45), (.tmp 46)]) (tys := #[25, 3]) (m0 := [(4, .row 5 1 (v_w1446.map (eI .u8))), (5, .cu (outC 39 1 nq_List_Int [none, none] (v_w1447.map (eL (eI .i64)))) [.srf 6, .d (.v noB), .d (.v noB)]), (6, .cu (bagC nct_List_Int nq_List_Int (v_w1447.map (eL (eI .i64)))) [])]) [(4, (.sl (v_w1446.map (eI .u8)))), (5, (.sl (v_w1447.map (eL (eI .i64)))))] (lend_cons (l := 4) (p := (.sl (v_w1446.map (eI .u8)))) (Lend.row 4 5 1 (v_w1446.map (eI .u8)) (List.mem_cons_self ..)) (lend_cons (l := 5) (p := (.sl (v_w1447.map (eL (eI .i64))))) (Lend.nst 5 6 39 1 nct_List_Int nq_List_Int [none, none] (v_w1447.map (eL (eI .i64))) [.srf 6, .d (.v noB), .d (.v noB)] (List.mem_cons_of_mem _ (List.mem_cons_self ..)) (List.mem_cons_of_mem _ (List.mem_cons_of_mem _ (List.mem_cons_self ..))) rfl (all_fits (fun _ => rfl)) hole0) lend_nil)) rfl rfl (G_ringref2_RoomMany_ok n (S_cow_Room.mk v_w1446 v_w1447) v_c1445 _ h560) (by rfl)) (.cons (df h561) (.cons (xs01 (P := Try.prog) (T := TT) (f := (eI .u8)) (t := 22) (e := 5) (s := 1) (l := 4) (L := v_w1446) (x := (.tmp 52)) (hi := (.tmp 53)) (b := v_c1445) (kb := .i64) (by kernel_rfl) h562) (.cons (xs10 (P := Try.prog) (T := TT) (f := (eI .u8)) (t := 22) (e := 5) (s := 1) (l := 4) (L := v_w1446) (x := (.tmp 56)) (lo := (.tmp 58)) (a := (wi .i64 (v_c1445 + 1))) (ka := .i64) (by kernel_rfl) h563) (.cons (xappR (ti := ⟨1, 1, .int .u8, [.i .u8]⟩) (P := Try.prog) (T := TT) (f := (eI .u8)) (t := 22) (e := 5) (s := 1) (l := 4) (nl := 97) (i := v_c1445.toNat) (j := (wi .i64 (v_c1445 + 1)).toNat) (q := v_w1446.length) (L := v_w1446) (x := (.tmp 54)) (y := (.tmp 59)) (by kernel_rfl) (by kernel_rfl) (by decide) h564) (.cons (show 0 + 1 ≤ 2 by decide) (.cons (nlen' (P := Try.prog) (T := TT) (t := 23) (l := 5) (ty := 39) (sz := 1) (N := v_w1447.length) (q := nq_List_Int) (hs := [none, none]) (xs := (v_w1447.map (eL (eI .i64)))) (fs := [.srf 6, .d (.v noB), .d (.v noB)]) (x := (.tmp 63)) (by simp) (by kernel_rfl)) .nil)))))))) (G_ringref2_RoomDrop_h_L7_ok hF (.b 4 :: .b 3 :: .s (cR (cR (cP (cB (cR (cL (cR (cR (cR (cR (bodyOf Try.f16))))))))))) :: .l k (cP (cB (cR (cL (cR (cR (cR (cR (bodyOf Try.f16))))))))) :: ks) n v_gone1444 v_c1445 v_w1447 n 0 (v_w1446.take v_c1445.toNat ++ (v_w1446.take v_w1446.length).drop ((wi .i64 (v_c1445 + 1)).toNat)) v_w1447 _ h607 ?_)
              cases v_o1499 with
              | x0 v_z1500 v_z1501 =>
                try dsimp only at h
                exact pkk_sound TTok mix hF 3 (hs := []) (ts := []) (s := [0, 1, 2, 3, 4, 5, 6]) (l := [4, 6, 9, 10]) (by kernel_rfl) (by kernel_rfl) .nil (G_ringref2_RoomDrop_h_L8_ok hF ks n  k (wi .i64 (v_gone1444 + 1)) (wi .i64 (v_c1445 - 1)) v_z1500 v_z1501 _ h q)
            · rw [if_neg h564] at h; cases h
          · rw [if_neg h563] at h; cases h
        · rw [if_neg h562] at h; cases h
    · rw [if_neg h559] at h
      cases h
      exact pkk_sound TTok mix hF 8 (hs := [.t false]) (ts := []) (s := [0, 1, 2, 3, 4, 5, 6]) (l := [4, 6, 9]) (by kernel_rfl) (by kernel_rfl) (.cons (df h559) .nil) q
/- ringhall/ringref2.RoomDrop -/
def G_ringref2_RoomDrop_h (n : Nat) (v_r1320 : S_cow_Room) (v_s1321 : Int) : Option (S_cow_Room × Int) :=
  (app 1 ([] : (List Int)) v_r1320.fCells).bind fun (v_a1322 : (List Int)) =>
  (G_ringref2_RoomDrop_h_L1 n v_s1321 v_r1320 n 0 v_a1322 ([] : List (List Int))).bind fun v_o1355 => match v_o1355 with
  | .x0 v_z1356 v_z1357 =>
    (G_ringref2_RoomDrop_h_L8 n  n 0 (wi .i64 ((v_z1356.length : Int) - 1)) v_z1356 v_z1357).bind fun v_o1505 => match v_o1505 with
    | .x0 v_z1506 v_z1507 v_z1508 =>
      some ((S_cow_Room.mk v_z1507 v_z1508), v_z1506)
theorem G_ringref2_RoomDrop_h_ok (n : Nat) (v_r1320 : S_cow_Room) (v_s1321 : Int) (r : S_cow_Room × Int) (h : G_ringref2_RoomDrop_h n v_r1320 v_s1321 = some r) : RetH Try.prog 16 [.d (eS_cow_Room v_r1320), .d ((eI .i64) v_s1321)] [] (.tup [.agg [.srf 0, .srf 1], .d ((eI .i64) r.2)]) [.row 5 1 (r.1.fCells.map (eI .u8)), .cu (outC 39 1 nq_List_Int [none, none] (r.1.fSpaces.map (eL (eI .i64)))) [.srf 2, .d (.v noB), .d (.v noB)], .cu (bagC nct_List_Int nq_List_Int (r.1.fSpaces.map (eL (eI .i64)))) []] := by
  refine retH_run (n := 90) (fn := Try.f16) (c := bodyOf Try.f16) (by kernel_rfl) (by kernel_rfl) (by kernel_rfl) (by kernel_rfl) ?_
  have hF : KC 90 (FinH Try.prog Try.f16 [] (.tup [.agg [.srf 0, .srf 1], .d ((eI .i64) r.2)]) [.row 5 1 (r.1.fCells.map (eI .u8)), .cu (outC 39 1 nq_List_Int [none, none] (r.1.fSpaces.map (eL (eI .i64)))) [.srf 2, .d (.v noB), .d (.v noB)], .cu (bagC nct_List_Int nq_List_Int (r.1.fSpaces.map (eL (eI .i64)))) []]) := FinH.kc' (by kernel_rfl)
  unfold G_ringref2_RoomDrop_h at h
  obtain ⟨v_a1322, h468, h⟩ := bind_some h
  obtain ⟨v_o1355, h498, h⟩ := bind_some h
  refine pkk_sound TTok mix hF 13 (hs := [.c, .w (v_a1322.map (eI .u8)), .c, .c, .u (.d (.v (.int .i64 (v_r1320.fSpaces.length : Int)))), .dl 1, .tb 5 1 39 1, .sx [65] (nThaw 65 39 1 nct_List_Int nq_List_Int [none, none] (([] : List (List Int)).map (eL (eI .i64)))), .tb 35 1 39 1, .sx [67] (nThaw 67 39 1 nct_List_Int nq_List_Int [none, none] (([] : List (List Int)).map (eL (eI .i64)))), .n n]) (ts := []) (s := [5, 65, 66, 35, 25, 67, 68]) (l := [1, 4, 6, 19, 20, 21]) (by kernel_rfl) (by kernel_rfl) (.cons (app_ob (f := (eI .u8)) (s := 1) h468 (fun _ => rfl)).1 (.cons (app_ob (f := (eI .u8)) (s := 1) h468 (fun _ => rfl)).2.1 (.cons (app_ob (f := (eI .u8)) (s := 1) h468 (fun _ => rfl)).2.2.1 (.cons (app_ob (f := (eI .u8)) (s := 1) h468 (fun _ => rfl)).2.2.2 (.cons (show 0 + 2 ≤ 2 by decide) (.cons (len_ob (f := (eL (eI .i64))) (l := v_r1320.fSpaces)) (.cons (nthaw (l := 65) (ty := 39) (sz := 1) (ct := nct_List_Int) (q := nq_List_Int) (hs := [none, none]) (xs := (([] : List (List Int)).map (eL (eI .i64)))) (all_fits (fun _ => rfl)) (by intro j k h; rcases j with _ | _ | j <;> simp at h) (by intro k hk; simp at hk)) (.cons (nthaw (l := 67) (ty := 39) (sz := 1) (ct := nct_List_Int) (q := nq_List_Int) (hs := [none, none]) (xs := (([] : List (List Int)).map (eL (eI .i64)))) (all_fits (fun _ => rfl)) (by intro j k h; rcases j with _ | _ | j <;> simp at h) (by intro k hk; simp at hk)) .nil)))))))) (G_ringref2_RoomDrop_h_L1_ok hF (.b 0 :: .s (cR (cR (cR (bodyOf Try.f16)))) :: []) n v_s1321 v_r1320 n 0 v_a1322 ([] : List (List Int)) _ h498 ?_)
  cases v_o1355 with
  | x0 v_z1356 v_z1357 =>
    try dsimp only at h
    obtain ⟨v_o1505, h608, h⟩ := bind_some h
    refine pkk_sound TTok mix hF 8 (hs := [.c, .u (.d (.v (.int .i64 (v_z1356.length : Int)))), .n n]) (ts := []) (s := [0, 1, 2, 3, 4, 5, 6]) (l := [4, 6, 9, 10]) (by kernel_rfl) (by kernel_rfl) (.cons (len_ob (f := (eI .u8)) (l := v_z1356)) .nil) (G_ringref2_RoomDrop_h_L8_ok hF (.b 2 :: .s (cR (cR (cR (cR (cR (bodyOf Try.f16)))))) :: []) n  n 0 (wi .i64 ((v_z1356.length : Int) - 1)) v_z1356 v_z1357 _ h608 ?_)
    cases v_o1505 with
    | x0 v_z1506 v_z1507 v_z1508 =>
      try dsimp only at h
      obtain rfl := Option.some.inj h
      exact pendH_sound TTok mix 4 (hs := [.c, .c]) [4, 5, 6] (by kernel_rfl) (by kernel_rfl) (by kernel_rfl) (.cons (show 0 + 2 ≤ 2 by decide) .nil)
inductive G_slices_Equal_byte_byte_L1_R where
  | x0 (v_x1542 : Bool)
  | x1 
def G_slices_Equal_byte_byte_L1_ex : G_slices_Equal_byte_byte_L1_R → Ex
  | .x0 _ => .ret
  | .x1  => .exit 0
def G_slices_Equal_byte_byte_L1_st (v_s1531 : (List Int)) (v_s1532 : (List Int)) : G_slices_Equal_byte_byte_L1_R → PS
  | .x0 v_x1542 => ⟨(dd :: dd :: dd :: dd :: .d (.v (.bool v_x1542)) :: (dds 21 [])), []⟩
  | .x1  => ⟨(dds 26 []), []⟩
def G_slices_Equal_byte_byte_L1_hd (v_s1531 : (List Int)) (v_s1532 : (List Int)) (v_x1536 : Int) : PS := ⟨(.d (.sl (v_s1531.map (eI .u8))) :: .d (.sl (v_s1532.map (eI .u8))) :: (dds 10 (.d (.v (.int .i64 (v_s1531.length : Int))) :: .d (.v (.int .i64 v_x1536)) :: (dds 12 [])))), []⟩
def G_slices_Equal_byte_byte_L1 (n : Nat) (v_s1531 : (List Int)) (v_s1532 : (List Int)) : Nat → Int → Option G_slices_Equal_byte_byte_L1_R
  | 0, _ => none
  | k + 1, v_x1536 =>
    if v_x1536 < (v_s1531.length : Int) then
     (getI v_s1531 v_x1536).bind fun (v_y1540 : Int) =>
     (getI v_s1532 v_x1536).bind fun (v_y1541 : Int) =>
     if v_y1540 = v_y1541 then
      G_slices_Equal_byte_byte_L1 n v_s1531 v_s1532 k (wi .i64 (v_x1536 + 1))
     else
      some (.x0 false)
    else
     some (.x1 )
theorem G_slices_Equal_byte_byte_L1_ok {Fi : Ex → PS → Prop} (hF : KC 26 Fi) (ks : List Fr) (n : Nat) (v_s1531 : (List Int)) (v_s1532 : (List Int))  : ∀ (k : Nat) (v_x1536 : Int) (o : G_slices_Equal_byte_byte_L1_R), G_slices_Equal_byte_byte_L1 n v_s1531 v_s1532 k v_x1536 = some o → RunE Try.prog 26 Fi ks (G_slices_Equal_byte_byte_L1_ex o) (G_slices_Equal_byte_byte_L1_st v_s1531 v_s1532 o) → RunE Try.prog 26 Fi (.l k (cP (cB (cR (cL (cR (cR (bodyOf Try.f17))))))) :: ks) .normal (G_slices_Equal_byte_byte_L1_hd v_s1531 v_s1532 v_x1536)
  | 0, v_x1536, o, h, q => by rw [G_slices_Equal_byte_byte_L1] at h; cases h
  | k + 1, v_x1536, o, h, q => by
    rw [G_slices_Equal_byte_byte_L1] at h
    by_cases h611 : v_x1536 < (v_s1531.length : Int)
    · rw [if_pos h611] at h
      obtain ⟨v_y1540, h615, h⟩ := bind_some h
      obtain ⟨v_y1541, h616, h⟩ := bind_some h
      by_cases h617 : v_y1540 = v_y1541
      · rw [if_pos h617] at h
        exact pkk_sound TTok mix hF 16 (hs := [.t true, .y ((eI .u8) v_y1540), .c, .y ((eI .u8) v_y1541), .c, .t false]) (ts := []) (s := []) (l := [0, 1, 12, 13]) (by kernel_rfl) (by kernel_rfl) (.cons (dt h611) (.cons (getI_ob (f := (eI .u8)) h615) (.cons (getI_ob (f := (eI .u8)) h616) (.cons (nf h617) .nil)))) (G_slices_Equal_byte_byte_L1_ok hF ks n v_s1531 v_s1532 k (wi .i64 (v_x1536 + 1)) _ h q)
      · rw [if_neg h617] at h
        cases h
        exact pkk_sound TTok mix hF 19 (hs := [.t true, .y ((eI .u8) v_y1540), .c, .y ((eI .u8) v_y1541), .c, .t true]) (ts := []) (s := []) (l := [4]) (by kernel_rfl) (by kernel_rfl) (.cons (dt h611) (.cons (getI_ob (f := (eI .u8)) h615) (.cons (getI_ob (f := (eI .u8)) h616) (.cons (nt h617) .nil)))) q
    · rw [if_neg h611] at h
      cases h
      exact pkk_sound TTok mix hF 8 (hs := [.t false]) (ts := []) (s := []) (l := []) (by kernel_rfl) (by kernel_rfl) (.cons (df h611) .nil) q
/- slices.Equal[[]byte,byte] -/
def G_slices_Equal_byte_byte (n : Nat) (v_s1531 : (List Int)) (v_s1532 : (List Int)) : Option (Bool) :=
  if (v_s1531.length : Int) = (v_s1532.length : Int) then
   (G_slices_Equal_byte_byte_L1 n v_s1531 v_s1532 n 0).bind fun v_o1543 => match v_o1543 with
   | .x0 v_z1544 =>
     some v_z1544
   | .x1  =>
     some true
  else
   some false
theorem G_slices_Equal_byte_byte_ok (n : Nat) (v_s1531 : (List Int)) (v_s1532 : (List Int)) (r : Bool) (h : G_slices_Equal_byte_byte n v_s1531 v_s1532 = some r) : Ret Try.prog 17 [(eL (eI .u8)) v_s1531, (eL (eI .u8)) v_s1532] (eB r) := by
  refine ret_run (n := 26) (fn := Try.f17) (c := bodyOf Try.f17) (by kernel_rfl) (by kernel_rfl) (by kernel_rfl) (by kernel_rfl) ?_
  have hF : KC 26 (FinR Try.prog Try.f17 (eB r)) := FinR.kc' (by kernel_rfl)
  unfold G_slices_Equal_byte_byte at h
  by_cases h610 : (v_s1531.length : Int) = (v_s1532.length : Int)
  · rw [if_pos h610] at h
    obtain ⟨v_o1543, h618, h⟩ := bind_some h
    refine pkk_sound TTok mix hF 12 (hs := [.u (.d (.v (.int .i64 (v_s1531.length : Int)))), .u (.d (.v (.int .i64 (v_s1532.length : Int)))), .t false, .u (.d (.v (.int .i64 (v_s1531.length : Int)))), .n n]) (ts := []) (s := []) (l := [0, 1, 12, 13]) (by kernel_rfl) (by kernel_rfl) (.cons (len_ob (f := (eI .u8)) (l := v_s1531)) (.cons (len_ob (f := (eI .u8)) (l := v_s1532)) (.cons (nf h610) (.cons (len_ob (f := (eI .u8)) (l := v_s1531)) .nil)))) (G_slices_Equal_byte_byte_L1_ok hF (.b 0 :: .s (cR (cR (cR (bodyOf Try.f17)))) :: []) n v_s1531 v_s1532 n 0 _ h618 ?_)
    cases v_o1543 with
    | x0 v_z1544 =>
      try dsimp only at h
      obtain rfl := Option.some.inj h
      exact pend_sound TTok mix 2 (hs := []) (by kernel_rfl) (by kernel_rfl) (by kernel_rfl) .nil
    | x1  =>
      try dsimp only at h
      obtain rfl := Option.some.inj h
      exact pend_sound TTok mix 4 (hs := []) (by kernel_rfl) (by kernel_rfl) (by kernel_rfl) .nil
  · rw [if_neg h610] at h
    obtain rfl := Option.some.inj h
    exact pend_sound TTok mix 10 (hs := [.u (.d (.v (.int .i64 (v_s1531.length : Int)))), .u (.d (.v (.int .i64 (v_s1532.length : Int)))), .t true]) (by kernel_rfl) (by kernel_rfl) (by kernel_rfl) (.cons (len_ob (f := (eI .u8)) (l := v_s1531)) (.cons (len_ob (f := (eI .u8)) (l := v_s1532)) (.cons (nt h610) .nil)))
inductive G_ringref2_RoomOwn_h_L1_R where
  | x0 (v_w1731 : (List Int)) (v_w1732 : (List (List Int)))
def G_ringref2_RoomOwn_h_L1_ex : G_ringref2_RoomOwn_h_L1_R → Ex
  | .x0 _ _ => .exit 0
def G_ringref2_RoomOwn_h_L1_st (v_r1705 : S_cow_Room) : G_ringref2_RoomOwn_h_L1_R → PS
  | .x0 v_w1731 v_w1732 => ⟨(dd :: dd :: .ref 0 0 :: .ref 3 0 :: (dds 22 [])), [.box [.d (vnil), .srf 1], .cu (outC 39 1 nq_List_Int [none, none] (([] : List (List Int)).map (eL (eI .i64)))) [.srf 2, .d (.v noB), .d (.v noB)], .cu (bagC nct_List_Int nq_List_Int (([] : List (List Int)).map (eL (eI .i64)))) [], .box [.srf 4, .srf 5], .row 5 1 (v_w1731.map (eI .u8)), .cu (outC 39 1 nq_List_Int [none, none] (v_w1732.map (eL (eI .i64)))) [.srf 6, .d (.v noB), .d (.v noB)], .cu (bagC nct_List_Int nq_List_Int (v_w1732.map (eL (eI .i64)))) []]⟩
def G_ringref2_RoomOwn_h_L1_hd (v_r1705 : S_cow_Room) (v_x1724 : Int) (v_w1725 : (List Int)) (v_w1726 : (List (List Int))) : PS := ⟨(dd :: dd :: .ref 0 0 :: .ref 3 0 :: dd :: dd :: dd :: dd :: dd :: dd :: dd :: .d (.sl (v_r1705.fSpaces.map (eL (eI .i64)))) :: .d (.v (.int .i64 (v_r1705.fSpaces.length : Int))) :: .d (.v (.int .i64 v_x1724)) :: (dds 12 [])), [.box [.d (vnil), .srf 1], .cu (outC 39 1 nq_List_Int [none, none] (([] : List (List Int)).map (eL (eI .i64)))) [.srf 2, .d (.v noB), .d (.v noB)], .cu (bagC nct_List_Int nq_List_Int (([] : List (List Int)).map (eL (eI .i64)))) [], .box [.srf 4, .srf 5], .row 5 1 (v_w1725.map (eI .u8)), .cu (outC 39 1 nq_List_Int [none, none] (v_w1726.map (eL (eI .i64)))) [.srf 6, .d (.v noB), .d (.v noB)], .cu (bagC nct_List_Int nq_List_Int (v_w1726.map (eL (eI .i64)))) []]⟩
def G_ringref2_RoomOwn_h_L1 (n : Nat) (v_r1705 : S_cow_Room) : Nat → Int → (List Int) → (List (List Int)) → Option G_ringref2_RoomOwn_h_L1_R
  | 0, _, _, _ => none
  | k + 1, v_x1724, v_w1725, v_w1726 =>
    if v_x1724 < (v_r1705.fSpaces.length : Int) then
     (getI v_r1705.fSpaces v_x1724).bind fun (v_y1728 : (List Int)) =>
     (app 8 ([] : (List Int)) v_y1728).bind fun (v_a1729 : (List Int)) =>
     (app 24 v_w1726 [v_a1729]).bind fun (v_a1730 : (List (List Int))) =>
     G_ringref2_RoomOwn_h_L1 n v_r1705 k (wi .i64 (v_x1724 + 1)) v_w1725 v_a1730
    else
     some (.x0 v_w1725 v_w1726)
theorem G_ringref2_RoomOwn_h_L1_ok {Fi : Ex → PS → Prop} (hF : KC 26 Fi) (ks : List Fr) (n : Nat) (v_r1705 : S_cow_Room)  : ∀ (k : Nat) (v_x1724 : Int) (v_w1725 : (List Int)) (v_w1726 : (List (List Int))) (o : G_ringref2_RoomOwn_h_L1_R), G_ringref2_RoomOwn_h_L1 n v_r1705 k v_x1724 v_w1725 v_w1726 = some o → RunE Try.prog 26 Fi ks (G_ringref2_RoomOwn_h_L1_ex o) (G_ringref2_RoomOwn_h_L1_st v_r1705 o) → RunE Try.prog 26 Fi (.l k (cP (cB (cR (cL (cR (cR (bodyOf Try.f18))))))) :: ks) .normal (G_ringref2_RoomOwn_h_L1_hd v_r1705 v_x1724 v_w1725 v_w1726)
  | 0, v_x1724, v_w1725, v_w1726, o, h, q => by rw [G_ringref2_RoomOwn_h_L1] at h; cases h
  | k + 1, v_x1724, v_w1725, v_w1726, o, h, q => by
    rw [G_ringref2_RoomOwn_h_L1] at h
    by_cases h644 : v_x1724 < (v_r1705.fSpaces.length : Int)
    · rw [if_pos h644] at h
      obtain ⟨v_y1728, h645, h⟩ := bind_some h
      obtain ⟨v_a1729, h646, h⟩ := bind_some h
      obtain ⟨v_a1730, h647, h⟩ := bind_some h
      exact pkk_sound TTok mix hF 14 (hs := [.t true, .y ((eL (eI .i64)) v_y1728), .c, .c, .w (v_a1729.map (eI .i64)), .e 47 [42, 47] (.srf 47) [(47, .cu (oneC 39) [.srf 42])], .e 52 [5, 6, 47, 42, 52, 53] (.srf 52) [(5, .none), (6, .none), (47, .none), (53, .cu (bagC nct_List_Int (minus nq_List_Int (v_w1726.length * 1 + 0)) (v_a1730.map (eL (eI .i64)))) []), (52, .cu (outC 39 1 (minus nq_List_Int (v_w1726.length * 1 + 0)) [some (v_w1726.length * 1 + 0), none] (v_a1730.map (eL (eI .i64)))) [.srf 53, .srf 42, .d (.v noB)])], .c, .dl 2, .sx [52, 53, 42] (nClose 52 53 42 39 1 nct_List_Int nq_List_Int [none, none] (v_a1730.map (eL (eI .i64))) [.srf 53, .srf 42, .d (.v noB)] 0)]) (ts := []) (s := [0, 1, 2, 3, 4, 52, 77]) (l := [2, 3, 11, 12, 13]) (by kernel_rfl) (by kernel_rfl) (.cons (dt h644) (.cons (getI_ob (f := (eL (eI .i64))) h645) (.cons (app_ob (f := (eI .i64)) (s := 1) h646 (fun _ => rfl)).1 (.cons (app_ob (f := (eI .i64)) (s := 1) h646 (fun _ => rfl)).2.1 (.cons (app_ob (f := (eI .i64)) (s := 1) h646 (fun _ => rfl)).2.2.1 (.cons (app_ob (f := (eI .i64)) (s := 1) h646 (fun _ => rfl)).2.2.2 (.cons (nbs (P := Try.prog) (T := TT) (t := 23) (L := 42) (nl := 47) (ty := 39) (e := 3) (s := 1) (ys := (v_a1729.map (eI .i64))) (x := (.tmp 20)) (ti := ⟨1, 24, .sl 3, [.sl]⟩) (by kernel_rfl) (by kernel_rfl) (by decide)) (.cons (napp' (P := Try.prog) (T := TT) (f' := (eI .i64)) (W := v_w1726) (Z := v_a1730) (Y := v_a1729) (t := 23) (l := 5) (B := 6) (l2 := 47) (L := 42) (nl := 52) (ty := 39) (e := 3) (s := 1) (ti := ⟨1, 24, .sl 3, [.sl]⟩) (ct := nct_List_Int) (q := nq_List_Int) (hs := [none, none]) (fs := [.srf 6, .d (.v noB), .d (.v noB)]) (x := (.tmp 18)) (y := (.tmp 21)) h647 (by kernel_rfl) (by kernel_rfl) (by kernel_rfl) rfl (fun k => decide_eq_true (Nat.zero_le k)) (fun _ _ => rfl) (by decide) (by decide) (by decide) (by decide) (by decide) (by decide)) (.cons (show 1 + 1 ≤ 2 by decide) (.cons (nclose_same (l := 52) (B := 53) (L := 42) (ty := 39) (sz := 1) (i := v_w1726.length) (off := 0) (j := 0) (e := 3) (s := 1) (ct := nct_List_Int) (q := (minus nq_List_Int (v_w1726.length * 1 + 0))) (q' := nq_List_Int) (hs := [some (v_w1726.length * 1 + 0), none]) (xs := (v_a1730.map (eL (eI .i64)))) (ys := (v_a1729.map (eI .i64))) (fs := [.srf 53, .srf 42, .d (.v noB)]) (y := ((eL (eI .i64)) v_a1729)) (by decide) (by decide) (by decide) (all_fits (fun _ => rfl)) (get_ob (f := (eL (eI .i64))) (app_snoc h647).2.1) (by decide) rfl (by rw [Bool.eq_false_iff, ne_eq]; simp only [nq_List_Int, minus, plus, qpre, Bool.and_eq_true, Bool.or_eq_true, Bool.not_eq_true', decide_eq_true_eq, decide_eq_false_iff_not, and_true, and_false, true_and, false_and, or_true, or_false, true_or, false_or, not_true_eq_false, not_false_eq_true] <;> omega) rfl (by intro j' hj' h; rcases j' with _ | _ | j' <;> simp at h hj' <;> omega) rfl rfl rfl (by intro k hk; rw [Bool.eq_iff_iff]; simp only [nq_List_Int, minus, plus, qpre, Bool.and_eq_true, Bool.or_eq_true, Bool.not_eq_true', decide_eq_true_eq, decide_eq_false_iff_not, and_true, and_false, true_and, false_and, or_true, or_false, true_or, false_or, not_true_eq_false, not_false_eq_true] <;> omega)) .nil)))))))))) (G_ringref2_RoomOwn_h_L1_ok hF ks n v_r1705 k (wi .i64 (v_x1724 + 1)) v_w1725 v_a1730 _ h q)
    · rw [if_neg h644] at h
      cases h
      exact pkk_sound TTok mix hF 8 (hs := [.t false]) (ts := []) (s := [0, 1, 2, 3, 4, 5, 6]) (l := [2, 3]) (by kernel_rfl) (by kernel_rfl) (.cons (df h644) .nil) q
/- ringhall/ringref2.RoomOwn -/
def G_ringref2_RoomOwn_h (n : Nat) (v_r1705 : S_cow_Room) : Option (S_cow_Room) :=
  (app 1 ([] : (List Int)) v_r1705.fCells).bind fun (v_a1706 : (List Int)) =>
  (G_ringref2_RoomOwn_h_L1 n v_r1705 n 0 v_a1706 ([] : List (List Int))).bind fun v_o1733 => match v_o1733 with
  | .x0 v_z1734 v_z1735 =>
    some (S_cow_Room.mk v_z1734 v_z1735)
theorem G_ringref2_RoomOwn_h_ok (n : Nat) (v_r1705 : S_cow_Room) (r : S_cow_Room) (h : G_ringref2_RoomOwn_h n v_r1705 = some r) : RetH Try.prog 18 [.d (eS_cow_Room v_r1705)] [] (.agg [.srf 0, .srf 1]) [.row 5 1 (r.fCells.map (eI .u8)), .cu (outC 39 1 nq_List_Int [none, none] (r.fSpaces.map (eL (eI .i64)))) [.srf 2, .d (.v noB), .d (.v noB)], .cu (bagC nct_List_Int nq_List_Int (r.fSpaces.map (eL (eI .i64)))) []] := by
  refine retH_run (n := 26) (fn := Try.f18) (c := bodyOf Try.f18) (by kernel_rfl) (by kernel_rfl) (by kernel_rfl) (by kernel_rfl) ?_
  have hF : KC 26 (FinH Try.prog Try.f18 [] (.agg [.srf 0, .srf 1]) [.row 5 1 (r.fCells.map (eI .u8)), .cu (outC 39 1 nq_List_Int [none, none] (r.fSpaces.map (eL (eI .i64)))) [.srf 2, .d (.v noB), .d (.v noB)], .cu (bagC nct_List_Int nq_List_Int (r.fSpaces.map (eL (eI .i64)))) []]) := FinH.kc' (by kernel_rfl)
  unfold G_ringref2_RoomOwn_h at h
  obtain ⟨v_a1706, h630, h⟩ := bind_some h
  obtain ⟨v_o1733, h648, h⟩ := bind_some h
  refine pkk_sound TTok mix hF 13 (hs := [.c, .w (v_a1706.map (eI .u8)), .c, .c, .u (.d (.v (.int .i64 (v_r1705.fSpaces.length : Int)))), .dl 1, .tb 5 1 39 1, .sx [60] (nThaw 60 39 1 nct_List_Int nq_List_Int [none, none] (([] : List (List Int)).map (eL (eI .i64)))), .tb 30 1 39 1, .sx [62] (nThaw 62 39 1 nct_List_Int nq_List_Int [none, none] (([] : List (List Int)).map (eL (eI .i64)))), .n n]) (ts := []) (s := [5, 60, 61, 30, 20, 62, 63]) (l := [2, 3, 11, 12, 13]) (by kernel_rfl) (by kernel_rfl) (.cons (app_ob (f := (eI .u8)) (s := 1) h630 (fun _ => rfl)).1 (.cons (app_ob (f := (eI .u8)) (s := 1) h630 (fun _ => rfl)).2.1 (.cons (app_ob (f := (eI .u8)) (s := 1) h630 (fun _ => rfl)).2.2.1 (.cons (app_ob (f := (eI .u8)) (s := 1) h630 (fun _ => rfl)).2.2.2 (.cons (show 0 + 2 ≤ 2 by decide) (.cons (len_ob (f := (eL (eI .i64))) (l := v_r1705.fSpaces)) (.cons (nthaw (l := 60) (ty := 39) (sz := 1) (ct := nct_List_Int) (q := nq_List_Int) (hs := [none, none]) (xs := (([] : List (List Int)).map (eL (eI .i64)))) (all_fits (fun _ => rfl)) (by intro j k h; rcases j with _ | _ | j <;> simp at h) (by intro k hk; simp at hk)) (.cons (nthaw (l := 62) (ty := 39) (sz := 1) (ct := nct_List_Int) (q := nq_List_Int) (hs := [none, none]) (xs := (([] : List (List Int)).map (eL (eI .i64)))) (all_fits (fun _ => rfl)) (by intro j k h; rcases j with _ | _ | j <;> simp at h) (by intro k hk; simp at hk)) .nil)))))))) (G_ringref2_RoomOwn_h_L1_ok hF (.b 0 :: .s (cR (cR (cR (bodyOf Try.f18)))) :: []) n v_r1705 n 0 v_a1706 ([] : List (List Int)) _ h648 ?_)
  cases v_o1733 with
  | x0 v_z1734 v_z1735 =>
    try dsimp only at h
    obtain rfl := Option.some.inj h
    exact pendH_sound TTok mix 4 (hs := [.c, .c]) [4, 5, 6] (by kernel_rfl) (by kernel_rfl) (by kernel_rfl) (.cons (show 0 + 2 ≤ 2 by decide) .nil)
inductive G_ringlaw2_CowTells_C1_R where
  | x0 (v_x3790 : Bool)
def G_ringlaw2_CowTells_C1_ex : G_ringlaw2_CowTells_C1_R → Ex
  | .x0 _ => .normal
def G_ringlaw2_CowTells_C1_st (v_s2 : Int) (v_k3 : Int) (v_b4 : Int) (v_r3564 : ((List Int) × Int)) (v_r3571 : (S_cow_Room × Int)) (v_r3582 : (S_cow_Room × Int)) (v_r3597 : (S_cow_Room × Bool × Int)) (v_r3618 : (S_cow_Room × Int × Int)) (v_r3671 : (Int)) (v_r1 : S_cow_Room) : G_ringlaw2_CowTells_C1_R → PS
  | .x0 v_x3790 => ⟨(dd :: .d (.v (.int .i64 v_s2)) :: .d (.v (.int .i64 v_k3)) :: .d (.v (.int .u8 v_b4)) :: .ref 0 0 :: dd :: dd :: dd :: dd :: .d (.sl (v_r3564.1.map (eI .u8))) :: .d (.v (.int .i64 v_r3564.2)) :: .ref 1 0 :: .d (.v (.int .i64 v_r3571.2)) :: .ref 2 0 :: .d (.v (.int .i64 v_r3582.2)) :: .ref 3 0 :: .d (.v (.bool v_r3597.2.1)) :: .d (.v (.int .i64 v_r3597.2.2)) :: .ref 4 0 :: .d (.v (.int .i64 v_r3618.2.1)) :: .d (.v (.int .i64 v_r3618.2.2)) :: .ref 5 0 :: .d (.v (.int .i64 v_r3671)) :: (dds 62 (.d (.v (.bool v_x3790)) :: (dds 248 [])))), [.box [.d (.sl (v_r1.fCells.map (eI .u8))), .d (.sl (v_r1.fSpaces.map (eL (eI .i64))))], .box [.d (.sl (v_r3571.1.fCells.map (eI .u8))), .d (.sl (v_r3571.1.fSpaces.map (eL (eI .i64))))], .box [.d (.sl (v_r3582.1.fCells.map (eI .u8))), .d (.sl (v_r3582.1.fSpaces.map (eL (eI .i64))))], .box [.d (.sl (v_r3597.1.fCells.map (eI .u8))), .d (.sl (v_r3597.1.fSpaces.map (eL (eI .i64))))], .box [.d (.sl (v_r3618.1.fCells.map (eI .u8))), .d (.sl (v_r3618.1.fSpaces.map (eL (eI .i64))))], .box [.d (vnil), .d (vnil)]]⟩
def G_ringlaw2_CowTells_C1_hd (v_s2 : Int) (v_k3 : Int) (v_b4 : Int) (v_r3564 : ((List Int) × Int)) (v_r3571 : (S_cow_Room × Int)) (v_r3582 : (S_cow_Room × Int)) (v_r3597 : (S_cow_Room × Bool × Int)) (v_r3618 : (S_cow_Room × Int × Int)) (v_r3671 : (Int)) (v_r1 : S_cow_Room)  : PS := ⟨(dd :: .d (.v (.int .i64 v_s2)) :: .d (.v (.int .i64 v_k3)) :: .d (.v (.int .u8 v_b4)) :: .ref 0 0 :: dd :: dd :: dd :: dd :: .d (.sl (v_r3564.1.map (eI .u8))) :: .d (.v (.int .i64 v_r3564.2)) :: .ref 1 0 :: .d (.v (.int .i64 v_r3571.2)) :: .ref 2 0 :: .d (.v (.int .i64 v_r3582.2)) :: .ref 3 0 :: .d (.v (.bool v_r3597.2.1)) :: .d (.v (.int .i64 v_r3597.2.2)) :: .ref 4 0 :: .d (.v (.int .i64 v_r3618.2.1)) :: .d (.v (.int .i64 v_r3618.2.2)) :: .ref 5 0 :: .d (.v (.int .i64 v_r3671)) :: (dds 311 [])), [.box [.d (.sl (v_r1.fCells.map (eI .u8))), .d (.sl (v_r1.fSpaces.map (eL (eI .i64))))], .box [.d (.sl (v_r3571.1.fCells.map (eI .u8))), .d (.sl (v_r3571.1.fSpaces.map (eL (eI .i64))))], .box [.d (.sl (v_r3582.1.fCells.map (eI .u8))), .d (.sl (v_r3582.1.fSpaces.map (eL (eI .i64))))], .box [.d (.sl (v_r3597.1.fCells.map (eI .u8))), .d (.sl (v_r3597.1.fSpaces.map (eL (eI .i64))))], .box [.d (.sl (v_r3618.1.fCells.map (eI .u8))), .d (.sl (v_r3618.1.fSpaces.map (eL (eI .i64))))], .box [.d (vnil), .d (vnil)]]⟩
def G_ringlaw2_CowTells_C1 (n : Nat) (v_s2 : Int) (v_k3 : Int) (v_b4 : Int) (v_r3564 : ((List Int) × Int)) (v_r3571 : (S_cow_Room × Int)) (v_r3582 : (S_cow_Room × Int)) (v_r3597 : (S_cow_Room × Bool × Int)) (v_r3618 : (S_cow_Room × Int × Int)) (v_r3671 : (Int)) (v_r1 : S_cow_Room) : Option G_ringlaw2_CowTells_C1_R :=
  if v_r3671 = 0 then
   (G_ringref2_In n v_s2 0 (wi .i64 ((v_r1.fSpaces.length : Int) - 1))).bind fun (v_r3789 : (Bool)) =>
   some (.x0 (!v_r3789))
  else
   some (.x0 false)
theorem G_ringlaw2_CowTells_C1_ok {Fi : Ex → PS → Prop} (hF : KC 334 Fi) (ks : List Fr) (n : Nat) (v_s2 : Int) (v_k3 : Int) (v_b4 : Int) (v_r3564 : ((List Int) × Int)) (v_r3571 : (S_cow_Room × Int)) (v_r3582 : (S_cow_Room × Int)) (v_r3597 : (S_cow_Room × Bool × Int)) (v_r3618 : (S_cow_Room × Int × Int)) (v_r3671 : (Int)) (v_r1 : S_cow_Room)  (o : G_ringlaw2_CowTells_C1_R) (h : G_ringlaw2_CowTells_C1 n v_s2 v_k3 v_b4 v_r3564 v_r3571 v_r3582 v_r3597 v_r3618 v_r3671 v_r1 = some o) (q : RunE Try.prog 334 Fi ks (G_ringlaw2_CowTells_C1_ex o) (G_ringlaw2_CowTells_C1_st v_s2 v_k3 v_b4 v_r3564 v_r3571 v_r3582 v_r3597 v_r3618 v_r3671 v_r1 o)) : RunE Try.prog 334 Fi (.s (cL (cL (cR (cR (cR (cR (cR (cR (cR (cR (cR (bodyOf Try.f3)))))))))))) :: ks) .normal (G_ringlaw2_CowTells_C1_hd v_s2 v_k3 v_b4 v_r3564 v_r3571 v_r3582 v_r3597 v_r3618 v_r3671 v_r1) := by
  unfold G_ringlaw2_CowTells_C1 at h
  by_cases h992 : v_r3671 = 0
  · rw [if_pos h992] at h
    obtain ⟨v_r3789, h993, h⟩ := bind_some h
    cases h
    exact pkk_sound TTok mix hF 1 (hs := [.t true, .c, .c, .c, .c, .u (.d (.v (.int .i64 (v_r1.fSpaces.length : Int)))), .c, .c, .r (eB v_r3789), .c]) (ts := []) (s := [0, 1, 2, 3, 4, 5]) (l := [1, 2, 3, 4, 9, 10, 11, 12, 13, 14, 15, 16, 17, 18, 19, 20, 21, 22, 85]) (by kernel_rfl) (by kernel_rfl) (.cons (bt h992) (.cons (len_ob (f := (eL (eI .i64))) (l := v_r1.fSpaces)) (.cons (G_ringref2_In_ok n v_s2 0 (wi .i64 ((v_r1.fSpaces.length : Int) - 1)) _ h993) .nil))) q
  · rw [if_neg h992] at h
    cases h
    exact pkk_sound TTok mix hF 1 (hs := [.t false, .c, .c, .c, .c, .c, .c]) (ts := []) (s := [0, 1, 2, 3, 4, 5]) (l := [1, 2, 3, 4, 9, 10, 11, 12, 13, 14, 15, 16, 17, 18, 19, 20, 21, 22, 85]) (by kernel_rfl) (by kernel_rfl) (.cons (bf h992) .nil) q
inductive G_ringlaw2_CowTells_C2_R where
  | x0 (v_x3951 : Bool)
def G_ringlaw2_CowTells_C2_ex : G_ringlaw2_CowTells_C2_R → Ex
  | .x0 _ => .normal
def G_ringlaw2_CowTells_C2_st (v_see3841 : (List Int)) (v_e3842 : Int) (v_e3843 : Int) (v_e3844 : Int) (v_copied3845 : Bool) (v_e3846 : Int) (v_gone3847 : Int) (v_e3848 : Int) (v_bad3849 : Int) (v_b3837 : S_cow_Room) (v_b3838 : S_cow_Room) (v_b3839 : S_cow_Room) (v_b3840 : S_cow_Room) : G_ringlaw2_CowTells_C2_R → PS
  | .x0 v_x3951 => ⟨(dds 8 (.d (.v (.bool v_x3951)) :: (dds 325 []))), []⟩
def G_ringlaw2_CowTells_C2_hd (v_see3841 : (List Int)) (v_e3842 : Int) (v_e3843 : Int) (v_e3844 : Int) (v_copied3845 : Bool) (v_e3846 : Int) (v_gone3847 : Int) (v_e3848 : Int) (v_bad3849 : Int) (v_b3837 : S_cow_Room) (v_b3838 : S_cow_Room) (v_b3839 : S_cow_Room) (v_b3840 : S_cow_Room)  : PS := ⟨(dds 9 (.d (.sl (v_see3841.map (eI .u8))) :: .d (.v (.int .i64 v_e3842)) :: .ref 0 0 :: .d (.v (.int .i64 v_e3843)) :: .ref 1 0 :: .d (.v (.int .i64 v_e3844)) :: .ref 2 0 :: .d (.v (.bool v_copied3845)) :: .d (.v (.int .i64 v_e3846)) :: .ref 3 0 :: .d (.v (.int .i64 v_gone3847)) :: .d (.v (.int .i64 v_e3848)) :: .ref 4 0 :: .d (.v (.int .i64 v_bad3849)) :: (dds 311 []))), [.box [.d (.sl (v_b3837.fCells.map (eI .u8))), .d (.sl (v_b3837.fSpaces.map (eL (eI .i64))))], .box [.d (.sl (v_b3838.fCells.map (eI .u8))), .d (.sl (v_b3838.fSpaces.map (eL (eI .i64))))], .box [.d (.sl (v_b3839.fCells.map (eI .u8))), .d (.sl (v_b3839.fSpaces.map (eL (eI .i64))))], .box [.d (.sl (v_b3840.fCells.map (eI .u8))), .d (.sl (v_b3840.fSpaces.map (eL (eI .i64))))], .box [.d (vnil), .d (vnil)]]⟩
def G_ringlaw2_CowTells_C2 (n : Nat) (v_see3841 : (List Int)) (v_e3842 : Int) (v_e3843 : Int) (v_e3844 : Int) (v_copied3845 : Bool) (v_e3846 : Int) (v_gone3847 : Int) (v_e3848 : Int) (v_bad3849 : Int) (v_b3837 : S_cow_Room) (v_b3838 : S_cow_Room) (v_b3839 : S_cow_Room) (v_b3840 : S_cow_Room) : Option G_ringlaw2_CowTells_C2_R :=
  if (v_see3841.length : Int) = 0 then
   if v_e3842 = v_bad3849 then
    (G_ringref2_RoomSame n v_b3837 (S_cow_Room.mk ([] : (List Int)) ([] : (List (List Int))))).bind fun (v_r3947 : (Bool)) =>
    if v_r3947 = true then
     if v_e3843 = v_bad3849 then
      (G_ringref2_RoomSame n v_b3838 (S_cow_Room.mk ([] : (List Int)) ([] : (List (List Int))))).bind fun (v_r3948 : (Bool)) =>
      if v_r3948 = true then
       if v_e3844 = v_bad3849 then
        (G_ringref2_RoomSame n v_b3839 (S_cow_Room.mk ([] : (List Int)) ([] : (List (List Int))))).bind fun (v_r3949 : (Bool)) =>
        if v_r3949 = true then
         if v_copied3845 = true then
          some (.x0 false)
         else
          if v_e3846 = v_bad3849 then
           (G_ringref2_RoomSame n v_b3840 (S_cow_Room.mk ([] : (List Int)) ([] : (List (List Int))))).bind fun (v_r3950 : (Bool)) =>
           if v_r3950 = true then
            if v_gone3847 = 0 then
             some (.x0 (v_e3848 == v_bad3849))
            else
             some (.x0 false)
           else
            some (.x0 false)
          else
           some (.x0 false)
        else
         some (.x0 false)
       else
        some (.x0 false)
      else
       some (.x0 false)
     else
      some (.x0 false)
    else
     some (.x0 false)
   else
    some (.x0 false)
  else
   some (.x0 false)
theorem G_ringlaw2_CowTells_C2_e0 {Fi : Ex → PS → Prop} (hF : KC 334 Fi) (ks : List Fr) (n : Nat) (v_see3841 : (List Int)) (v_e3842 : Int) (v_e3843 : Int) (v_e3844 : Int) (v_copied3845 : Bool) (v_e3846 : Int) (v_gone3847 : Int) (v_e3848 : Int) (v_bad3849 : Int) (v_b3837 : S_cow_Room) (v_b3838 : S_cow_Room) (v_b3839 : S_cow_Room) (v_b3840 : S_cow_Room)  (h1044 : (v_see3841.length : Int) = 0) (h1045 : v_e3842 = v_bad3849) (v_r3947 : (Bool)) (h1046 : G_ringref2_RoomSame n v_b3837 (S_cow_Room.mk ([] : (List Int)) ([] : (List (List Int)))) = some v_r3947) (h1047 : v_r3947 = true) (h1048 : v_e3843 = v_bad3849) (v_r3948 : (Bool)) (h1049 : G_ringref2_RoomSame n v_b3838 (S_cow_Room.mk ([] : (List Int)) ([] : (List (List Int)))) = some v_r3948) (h1050 : v_r3948 = true) (h1051 : v_e3844 = v_bad3849) (v_r3949 : (Bool)) (h1052 : G_ringref2_RoomSame n v_b3839 (S_cow_Room.mk ([] : (List Int)) ([] : (List (List Int)))) = some v_r3949) (h1053 : v_r3949 = true) (h1054 : v_copied3845 = true) (q : RunE Try.prog 334 Fi ks (G_ringlaw2_CowTells_C2_ex (.x0 false)) (G_ringlaw2_CowTells_C2_st v_see3841 v_e3842 v_e3843 v_e3844 v_copied3845 v_e3846 v_gone3847 v_e3848 v_bad3849 v_b3837 v_b3838 v_b3839 v_b3840 (.x0 false))) : RunE Try.prog 334 Fi (.s (cL (cT (cR (cL (cR (cR (cR (cR (cR (cR (cR (cR (cR (cR (bodyOf Try.f3))))))))))))))) :: ks) .normal (G_ringlaw2_CowTells_C2_hd v_see3841 v_e3842 v_e3843 v_e3844 v_copied3845 v_e3846 v_gone3847 v_e3848 v_bad3849 v_b3837 v_b3838 v_b3839 v_b3840) := pkk_sound TTok mix hF 1 (hs := [.u (.d (.v (.int .i64 (v_see3841.length : Int)))), .t true, .c, .c, .t true, .c, .c, .c, .c, .r (eB v_r3947), .t true, .c, .c, .t true, .c, .c, .c, .c, .r (eB v_r3948), .t true, .c, .c, .t true, .c, .c, .c, .c, .r (eB v_r3949), .t true, .c, .t false, .c, .c, .c, .c, .c, .c, .c, .c, .c, .c]) (ts := []) (s := []) (l := [8]) (by kernel_rfl) (by kernel_rfl) (.cons (len_ob (f := (eI .u8)) (l := v_see3841)) (.cons (bt h1044) (.cons (bt h1045) (.cons (G_ringref2_RoomSame_ok n v_b3837 (S_cow_Room.mk ([] : (List Int)) ([] : (List (List Int)))) _ h1046) (.cons h1047 (.cons (bt h1048) (.cons (G_ringref2_RoomSame_ok n v_b3838 (S_cow_Room.mk ([] : (List Int)) ([] : (List (List Int)))) _ h1049) (.cons h1050 (.cons (bt h1051) (.cons (G_ringref2_RoomSame_ok n v_b3839 (S_cow_Room.mk ([] : (List Int)) ([] : (List (List Int)))) _ h1052) (.cons h1053 (.cons (bnf h1054) .nil)))))))))))) q
theorem G_ringlaw2_CowTells_C2_e1 {Fi : Ex → PS → Prop} (hF : KC 334 Fi) (ks : List Fr) (n : Nat) (v_see3841 : (List Int)) (v_e3842 : Int) (v_e3843 : Int) (v_e3844 : Int) (v_copied3845 : Bool) (v_e3846 : Int) (v_gone3847 : Int) (v_e3848 : Int) (v_bad3849 : Int) (v_b3837 : S_cow_Room) (v_b3838 : S_cow_Room) (v_b3839 : S_cow_Room) (v_b3840 : S_cow_Room)  (h1044 : (v_see3841.length : Int) = 0) (h1045 : v_e3842 = v_bad3849) (v_r3947 : (Bool)) (h1046 : G_ringref2_RoomSame n v_b3837 (S_cow_Room.mk ([] : (List Int)) ([] : (List (List Int)))) = some v_r3947) (h1047 : v_r3947 = true) (h1048 : v_e3843 = v_bad3849) (v_r3948 : (Bool)) (h1049 : G_ringref2_RoomSame n v_b3838 (S_cow_Room.mk ([] : (List Int)) ([] : (List (List Int)))) = some v_r3948) (h1050 : v_r3948 = true) (h1051 : v_e3844 = v_bad3849) (v_r3949 : (Bool)) (h1052 : G_ringref2_RoomSame n v_b3839 (S_cow_Room.mk ([] : (List Int)) ([] : (List (List Int)))) = some v_r3949) (h1053 : v_r3949 = true) (h1054 : ¬ (v_copied3845 = true)) (h1055 : v_e3846 = v_bad3849) (v_r3950 : (Bool)) (h1056 : G_ringref2_RoomSame n v_b3840 (S_cow_Room.mk ([] : (List Int)) ([] : (List (List Int)))) = some v_r3950) (h1057 : v_r3950 = true) (h1058 : v_gone3847 = 0) (q : RunE Try.prog 334 Fi ks (G_ringlaw2_CowTells_C2_ex (.x0 (v_e3848 == v_bad3849))) (G_ringlaw2_CowTells_C2_st v_see3841 v_e3842 v_e3843 v_e3844 v_copied3845 v_e3846 v_gone3847 v_e3848 v_bad3849 v_b3837 v_b3838 v_b3839 v_b3840 (.x0 (v_e3848 == v_bad3849)))) : RunE Try.prog 334 Fi (.s (cL (cT (cR (cL (cR (cR (cR (cR (cR (cR (cR (cR (cR (cR (bodyOf Try.f3))))))))))))))) :: ks) .normal (G_ringlaw2_CowTells_C2_hd v_see3841 v_e3842 v_e3843 v_e3844 v_copied3845 v_e3846 v_gone3847 v_e3848 v_bad3849 v_b3837 v_b3838 v_b3839 v_b3840) := pkk_sound TTok mix hF 1 (hs := [.u (.d (.v (.int .i64 (v_see3841.length : Int)))), .t true, .c, .c, .t true, .c, .c, .c, .c, .r (eB v_r3947), .t true, .c, .c, .t true, .c, .c, .c, .c, .r (eB v_r3948), .t true, .c, .c, .t true, .c, .c, .c, .c, .r (eB v_r3949), .t true, .c, .t true, .c, .c, .t true, .c, .c, .c, .c, .r (eB v_r3950), .t true, .c, .t true, .c, .c]) (ts := []) (s := []) (l := [8]) (by kernel_rfl) (by kernel_rfl) (.cons (len_ob (f := (eI .u8)) (l := v_see3841)) (.cons (bt h1044) (.cons (bt h1045) (.cons (G_ringref2_RoomSame_ok n v_b3837 (S_cow_Room.mk ([] : (List Int)) ([] : (List (List Int)))) _ h1046) (.cons h1047 (.cons (bt h1048) (.cons (G_ringref2_RoomSame_ok n v_b3838 (S_cow_Room.mk ([] : (List Int)) ([] : (List (List Int)))) _ h1049) (.cons h1050 (.cons (bt h1051) (.cons (G_ringref2_RoomSame_ok n v_b3839 (S_cow_Room.mk ([] : (List Int)) ([] : (List (List Int)))) _ h1052) (.cons h1053 (.cons (bnt (vf h1054)) (.cons (bt h1055) (.cons (G_ringref2_RoomSame_ok n v_b3840 (S_cow_Room.mk ([] : (List Int)) ([] : (List (List Int)))) _ h1056) (.cons h1057 (.cons (bt h1058) .nil)))))))))))))))) q
theorem G_ringlaw2_CowTells_C2_e2 {Fi : Ex → PS → Prop} (hF : KC 334 Fi) (ks : List Fr) (n : Nat) (v_see3841 : (List Int)) (v_e3842 : Int) (v_e3843 : Int) (v_e3844 : Int) (v_copied3845 : Bool) (v_e3846 : Int) (v_gone3847 : Int) (v_e3848 : Int) (v_bad3849 : Int) (v_b3837 : S_cow_Room) (v_b3838 : S_cow_Room) (v_b3839 : S_cow_Room) (v_b3840 : S_cow_Room)  (h1044 : (v_see3841.length : Int) = 0) (h1045 : v_e3842 = v_bad3849) (v_r3947 : (Bool)) (h1046 : G_ringref2_RoomSame n v_b3837 (S_cow_Room.mk ([] : (List Int)) ([] : (List (List Int)))) = some v_r3947) (h1047 : v_r3947 = true) (h1048 : v_e3843 = v_bad3849) (v_r3948 : (Bool)) (h1049 : G_ringref2_RoomSame n v_b3838 (S_cow_Room.mk ([] : (List Int)) ([] : (List (List Int)))) = some v_r3948) (h1050 : v_r3948 = true) (h1051 : v_e3844 = v_bad3849) (v_r3949 : (Bool)) (h1052 : G_ringref2_RoomSame n v_b3839 (S_cow_Room.mk ([] : (List Int)) ([] : (List (List Int)))) = some v_r3949) (h1053 : v_r3949 = true) (h1054 : ¬ (v_copied3845 = true)) (h1055 : v_e3846 = v_bad3849) (v_r3950 : (Bool)) (h1056 : G_ringref2_RoomSame n v_b3840 (S_cow_Room.mk ([] : (List Int)) ([] : (List (List Int)))) = some v_r3950) (h1057 : v_r3950 = true) (h1058 : ¬ (v_gone3847 = 0)) (q : RunE Try.prog 334 Fi ks (G_ringlaw2_CowTells_C2_ex (.x0 false)) (G_ringlaw2_CowTells_C2_st v_see3841 v_e3842 v_e3843 v_e3844 v_copied3845 v_e3846 v_gone3847 v_e3848 v_bad3849 v_b3837 v_b3838 v_b3839 v_b3840 (.x0 false))) : RunE Try.prog 334 Fi (.s (cL (cT (cR (cL (cR (cR (cR (cR (cR (cR (cR (cR (cR (cR (bodyOf Try.f3))))))))))))))) :: ks) .normal (G_ringlaw2_CowTells_C2_hd v_see3841 v_e3842 v_e3843 v_e3844 v_copied3845 v_e3846 v_gone3847 v_e3848 v_bad3849 v_b3837 v_b3838 v_b3839 v_b3840) := pkk_sound TTok mix hF 1 (hs := [.u (.d (.v (.int .i64 (v_see3841.length : Int)))), .t true, .c, .c, .t true, .c, .c, .c, .c, .r (eB v_r3947), .t true, .c, .c, .t true, .c, .c, .c, .c, .r (eB v_r3948), .t true, .c, .c, .t true, .c, .c, .c, .c, .r (eB v_r3949), .t true, .c, .t true, .c, .c, .t true, .c, .c, .c, .c, .r (eB v_r3950), .t true, .c, .t false, .c, .c]) (ts := []) (s := []) (l := [8]) (by kernel_rfl) (by kernel_rfl) (.cons (len_ob (f := (eI .u8)) (l := v_see3841)) (.cons (bt h1044) (.cons (bt h1045) (.cons (G_ringref2_RoomSame_ok n v_b3837 (S_cow_Room.mk ([] : (List Int)) ([] : (List (List Int)))) _ h1046) (.cons h1047 (.cons (bt h1048) (.cons (G_ringref2_RoomSame_ok n v_b3838 (S_cow_Room.mk ([] : (List Int)) ([] : (List (List Int)))) _ h1049) (.cons h1050 (.cons (bt h1051) (.cons (G_ringref2_RoomSame_ok n v_b3839 (S_cow_Room.mk ([] : (List Int)) ([] : (List (List Int)))) _ h1052) (.cons h1053 (.cons (bnt (vf h1054)) (.cons (bt h1055) (.cons (G_ringref2_RoomSame_ok n v_b3840 (S_cow_Room.mk ([] : (List Int)) ([] : (List (List Int)))) _ h1056) (.cons h1057 (.cons (bf h1058) .nil)))))))))))))))) q
theorem G_ringlaw2_CowTells_C2_e3 {Fi : Ex → PS → Prop} (hF : KC 334 Fi) (ks : List Fr) (n : Nat) (v_see3841 : (List Int)) (v_e3842 : Int) (v_e3843 : Int) (v_e3844 : Int) (v_copied3845 : Bool) (v_e3846 : Int) (v_gone3847 : Int) (v_e3848 : Int) (v_bad3849 : Int) (v_b3837 : S_cow_Room) (v_b3838 : S_cow_Room) (v_b3839 : S_cow_Room) (v_b3840 : S_cow_Room)  (h1044 : (v_see3841.length : Int) = 0) (h1045 : v_e3842 = v_bad3849) (v_r3947 : (Bool)) (h1046 : G_ringref2_RoomSame n v_b3837 (S_cow_Room.mk ([] : (List Int)) ([] : (List (List Int)))) = some v_r3947) (h1047 : v_r3947 = true) (h1048 : v_e3843 = v_bad3849) (v_r3948 : (Bool)) (h1049 : G_ringref2_RoomSame n v_b3838 (S_cow_Room.mk ([] : (List Int)) ([] : (List (List Int)))) = some v_r3948) (h1050 : v_r3948 = true) (h1051 : v_e3844 = v_bad3849) (v_r3949 : (Bool)) (h1052 : G_ringref2_RoomSame n v_b3839 (S_cow_Room.mk ([] : (List Int)) ([] : (List (List Int)))) = some v_r3949) (h1053 : v_r3949 = true) (h1054 : ¬ (v_copied3845 = true)) (h1055 : v_e3846 = v_bad3849) (v_r3950 : (Bool)) (h1056 : G_ringref2_RoomSame n v_b3840 (S_cow_Room.mk ([] : (List Int)) ([] : (List (List Int)))) = some v_r3950) (h1057 : ¬ (v_r3950 = true)) (q : RunE Try.prog 334 Fi ks (G_ringlaw2_CowTells_C2_ex (.x0 false)) (G_ringlaw2_CowTells_C2_st v_see3841 v_e3842 v_e3843 v_e3844 v_copied3845 v_e3846 v_gone3847 v_e3848 v_bad3849 v_b3837 v_b3838 v_b3839 v_b3840 (.x0 false))) : RunE Try.prog 334 Fi (.s (cL (cT (cR (cL (cR (cR (cR (cR (cR (cR (cR (cR (cR (cR (bodyOf Try.f3))))))))))))))) :: ks) .normal (G_ringlaw2_CowTells_C2_hd v_see3841 v_e3842 v_e3843 v_e3844 v_copied3845 v_e3846 v_gone3847 v_e3848 v_bad3849 v_b3837 v_b3838 v_b3839 v_b3840) := pkk_sound TTok mix hF 1 (hs := [.u (.d (.v (.int .i64 (v_see3841.length : Int)))), .t true, .c, .c, .t true, .c, .c, .c, .c, .r (eB v_r3947), .t true, .c, .c, .t true, .c, .c, .c, .c, .r (eB v_r3948), .t true, .c, .c, .t true, .c, .c, .c, .c, .r (eB v_r3949), .t true, .c, .t true, .c, .c, .t true, .c, .c, .c, .c, .r (eB v_r3950), .t false, .c, .c, .c, .c]) (ts := []) (s := []) (l := [8]) (by kernel_rfl) (by kernel_rfl) (.cons (len_ob (f := (eI .u8)) (l := v_see3841)) (.cons (bt h1044) (.cons (bt h1045) (.cons (G_ringref2_RoomSame_ok n v_b3837 (S_cow_Room.mk ([] : (List Int)) ([] : (List (List Int)))) _ h1046) (.cons h1047 (.cons (bt h1048) (.cons (G_ringref2_RoomSame_ok n v_b3838 (S_cow_Room.mk ([] : (List Int)) ([] : (List (List Int)))) _ h1049) (.cons h1050 (.cons (bt h1051) (.cons (G_ringref2_RoomSame_ok n v_b3839 (S_cow_Room.mk ([] : (List Int)) ([] : (List (List Int)))) _ h1052) (.cons h1053 (.cons (bnt (vf h1054)) (.cons (bt h1055) (.cons (G_ringref2_RoomSame_ok n v_b3840 (S_cow_Room.mk ([] : (List Int)) ([] : (List (List Int)))) _ h1056) (.cons (vf h1057) .nil))))))))))))))) q
theorem G_ringlaw2_CowTells_C2_e4 {Fi : Ex → PS → Prop} (hF : KC 334 Fi) (ks : List Fr) (n : Nat) (v_see3841 : (List Int)) (v_e3842 : Int) (v_e3843 : Int) (v_e3844 : Int) (v_copied3845 : Bool) (v_e3846 : Int) (v_gone3847 : Int) (v_e3848 : Int) (v_bad3849 : Int) (v_b3837 : S_cow_Room) (v_b3838 : S_cow_Room) (v_b3839 : S_cow_Room) (v_b3840 : S_cow_Room)  (h1044 : (v_see3841.length : Int) = 0) (h1045 : v_e3842 = v_bad3849) (v_r3947 : (Bool)) (h1046 : G_ringref2_RoomSame n v_b3837 (S_cow_Room.mk ([] : (List Int)) ([] : (List (List Int)))) = some v_r3947) (h1047 : v_r3947 = true) (h1048 : v_e3843 = v_bad3849) (v_r3948 : (Bool)) (h1049 : G_ringref2_RoomSame n v_b3838 (S_cow_Room.mk ([] : (List Int)) ([] : (List (List Int)))) = some v_r3948) (h1050 : v_r3948 = true) (h1051 : v_e3844 = v_bad3849) (v_r3949 : (Bool)) (h1052 : G_ringref2_RoomSame n v_b3839 (S_cow_Room.mk ([] : (List Int)) ([] : (List (List Int)))) = some v_r3949) (h1053 : v_r3949 = true) (h1054 : ¬ (v_copied3845 = true)) (h1055 : ¬ (v_e3846 = v_bad3849)) (q : RunE Try.prog 334 Fi ks (G_ringlaw2_CowTells_C2_ex (.x0 false)) (G_ringlaw2_CowTells_C2_st v_see3841 v_e3842 v_e3843 v_e3844 v_copied3845 v_e3846 v_gone3847 v_e3848 v_bad3849 v_b3837 v_b3838 v_b3839 v_b3840 (.x0 false))) : RunE Try.prog 334 Fi (.s (cL (cT (cR (cL (cR (cR (cR (cR (cR (cR (cR (cR (cR (cR (bodyOf Try.f3))))))))))))))) :: ks) .normal (G_ringlaw2_CowTells_C2_hd v_see3841 v_e3842 v_e3843 v_e3844 v_copied3845 v_e3846 v_gone3847 v_e3848 v_bad3849 v_b3837 v_b3838 v_b3839 v_b3840) := pkk_sound TTok mix hF 1 (hs := [.u (.d (.v (.int .i64 (v_see3841.length : Int)))), .t true, .c, .c, .t true, .c, .c, .c, .c, .r (eB v_r3947), .t true, .c, .c, .t true, .c, .c, .c, .c, .r (eB v_r3948), .t true, .c, .c, .t true, .c, .c, .c, .c, .r (eB v_r3949), .t true, .c, .t true, .c, .c, .t false, .c, .c, .c, .c, .c, .c, .c]) (ts := []) (s := []) (l := [8]) (by kernel_rfl) (by kernel_rfl) (.cons (len_ob (f := (eI .u8)) (l := v_see3841)) (.cons (bt h1044) (.cons (bt h1045) (.cons (G_ringref2_RoomSame_ok n v_b3837 (S_cow_Room.mk ([] : (List Int)) ([] : (List (List Int)))) _ h1046) (.cons h1047 (.cons (bt h1048) (.cons (G_ringref2_RoomSame_ok n v_b3838 (S_cow_Room.mk ([] : (List Int)) ([] : (List (List Int)))) _ h1049) (.cons h1050 (.cons (bt h1051) (.cons (G_ringref2_RoomSame_ok n v_b3839 (S_cow_Room.mk ([] : (List Int)) ([] : (List (List Int)))) _ h1052) (.cons h1053 (.cons (bnt (vf h1054)) (.cons (bf h1055) .nil))))))))))))) q
theorem G_ringlaw2_CowTells_C2_e5 {Fi : Ex → PS → Prop} (hF : KC 334 Fi) (ks : List Fr) (n : Nat) (v_see3841 : (List Int)) (v_e3842 : Int) (v_e3843 : Int) (v_e3844 : Int) (v_copied3845 : Bool) (v_e3846 : Int) (v_gone3847 : Int) (v_e3848 : Int) (v_bad3849 : Int) (v_b3837 : S_cow_Room) (v_b3838 : S_cow_Room) (v_b3839 : S_cow_Room) (v_b3840 : S_cow_Room)  (h1044 : (v_see3841.length : Int) = 0) (h1045 : v_e3842 = v_bad3849) (v_r3947 : (Bool)) (h1046 : G_ringref2_RoomSame n v_b3837 (S_cow_Room.mk ([] : (List Int)) ([] : (List (List Int)))) = some v_r3947) (h1047 : v_r3947 = true) (h1048 : v_e3843 = v_bad3849) (v_r3948 : (Bool)) (h1049 : G_ringref2_RoomSame n v_b3838 (S_cow_Room.mk ([] : (List Int)) ([] : (List (List Int)))) = some v_r3948) (h1050 : v_r3948 = true) (h1051 : v_e3844 = v_bad3849) (v_r3949 : (Bool)) (h1052 : G_ringref2_RoomSame n v_b3839 (S_cow_Room.mk ([] : (List Int)) ([] : (List (List Int)))) = some v_r3949) (h1053 : ¬ (v_r3949 = true)) (q : RunE Try.prog 334 Fi ks (G_ringlaw2_CowTells_C2_ex (.x0 false)) (G_ringlaw2_CowTells_C2_st v_see3841 v_e3842 v_e3843 v_e3844 v_copied3845 v_e3846 v_gone3847 v_e3848 v_bad3849 v_b3837 v_b3838 v_b3839 v_b3840 (.x0 false))) : RunE Try.prog 334 Fi (.s (cL (cT (cR (cL (cR (cR (cR (cR (cR (cR (cR (cR (cR (cR (bodyOf Try.f3))))))))))))))) :: ks) .normal (G_ringlaw2_CowTells_C2_hd v_see3841 v_e3842 v_e3843 v_e3844 v_copied3845 v_e3846 v_gone3847 v_e3848 v_bad3849 v_b3837 v_b3838 v_b3839 v_b3840) := pkk_sound TTok mix hF 1 (hs := [.u (.d (.v (.int .i64 (v_see3841.length : Int)))), .t true, .c, .c, .t true, .c, .c, .c, .c, .r (eB v_r3947), .t true, .c, .c, .t true, .c, .c, .c, .c, .r (eB v_r3948), .t true, .c, .c, .t true, .c, .c, .c, .c, .r (eB v_r3949), .t false, .c, .c, .c, .c, .c, .c, .c, .c, .c, .c, .c, .c]) (ts := []) (s := []) (l := [8]) (by kernel_rfl) (by kernel_rfl) (.cons (len_ob (f := (eI .u8)) (l := v_see3841)) (.cons (bt h1044) (.cons (bt h1045) (.cons (G_ringref2_RoomSame_ok n v_b3837 (S_cow_Room.mk ([] : (List Int)) ([] : (List (List Int)))) _ h1046) (.cons h1047 (.cons (bt h1048) (.cons (G_ringref2_RoomSame_ok n v_b3838 (S_cow_Room.mk ([] : (List Int)) ([] : (List (List Int)))) _ h1049) (.cons h1050 (.cons (bt h1051) (.cons (G_ringref2_RoomSame_ok n v_b3839 (S_cow_Room.mk ([] : (List Int)) ([] : (List (List Int)))) _ h1052) (.cons (vf h1053) .nil))))))))))) q
theorem G_ringlaw2_CowTells_C2_e6 {Fi : Ex → PS → Prop} (hF : KC 334 Fi) (ks : List Fr) (n : Nat) (v_see3841 : (List Int)) (v_e3842 : Int) (v_e3843 : Int) (v_e3844 : Int) (v_copied3845 : Bool) (v_e3846 : Int) (v_gone3847 : Int) (v_e3848 : Int) (v_bad3849 : Int) (v_b3837 : S_cow_Room) (v_b3838 : S_cow_Room) (v_b3839 : S_cow_Room) (v_b3840 : S_cow_Room)  (h1044 : (v_see3841.length : Int) = 0) (h1045 : v_e3842 = v_bad3849) (v_r3947 : (Bool)) (h1046 : G_ringref2_RoomSame n v_b3837 (S_cow_Room.mk ([] : (List Int)) ([] : (List (List Int)))) = some v_r3947) (h1047 : v_r3947 = true) (h1048 : v_e3843 = v_bad3849) (v_r3948 : (Bool)) (h1049 : G_ringref2_RoomSame n v_b3838 (S_cow_Room.mk ([] : (List Int)) ([] : (List (List Int)))) = some v_r3948) (h1050 : v_r3948 = true) (h1051 : ¬ (v_e3844 = v_bad3849)) (q : RunE Try.prog 334 Fi ks (G_ringlaw2_CowTells_C2_ex (.x0 false)) (G_ringlaw2_CowTells_C2_st v_see3841 v_e3842 v_e3843 v_e3844 v_copied3845 v_e3846 v_gone3847 v_e3848 v_bad3849 v_b3837 v_b3838 v_b3839 v_b3840 (.x0 false))) : RunE Try.prog 334 Fi (.s (cL (cT (cR (cL (cR (cR (cR (cR (cR (cR (cR (cR (cR (cR (bodyOf Try.f3))))))))))))))) :: ks) .normal (G_ringlaw2_CowTells_C2_hd v_see3841 v_e3842 v_e3843 v_e3844 v_copied3845 v_e3846 v_gone3847 v_e3848 v_bad3849 v_b3837 v_b3838 v_b3839 v_b3840) := pkk_sound TTok mix hF 1 (hs := [.u (.d (.v (.int .i64 (v_see3841.length : Int)))), .t true, .c, .c, .t true, .c, .c, .c, .c, .r (eB v_r3947), .t true, .c, .c, .t true, .c, .c, .c, .c, .r (eB v_r3948), .t true, .c, .c, .t false, .c, .c, .c, .c, .c, .c, .c, .c, .c, .c, .c, .c, .c, .c, .c]) (ts := []) (s := []) (l := [8]) (by kernel_rfl) (by kernel_rfl) (.cons (len_ob (f := (eI .u8)) (l := v_see3841)) (.cons (bt h1044) (.cons (bt h1045) (.cons (G_ringref2_RoomSame_ok n v_b3837 (S_cow_Room.mk ([] : (List Int)) ([] : (List (List Int)))) _ h1046) (.cons h1047 (.cons (bt h1048) (.cons (G_ringref2_RoomSame_ok n v_b3838 (S_cow_Room.mk ([] : (List Int)) ([] : (List (List Int)))) _ h1049) (.cons h1050 (.cons (bf h1051) .nil))))))))) q

end Go.Proofs.Ytpeakaeblibfmaa.pv
