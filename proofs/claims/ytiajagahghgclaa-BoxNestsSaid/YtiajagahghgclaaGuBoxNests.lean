/- What the functions compute, as functions over plain data, with their contracts: written by gen.py. -/
import Derived.Test.YtiajagahghgclaaProg
import Derived.Test.YtiajagahghgclaaQr
set_option maxRecDepth 100000
set_option linter.all false
namespace Go.Proofs.Ytiajagahghgclaa.pv
open Go.RowKit
def TT : List TI := [
⟨1, 0, .oth, []⟩,
⟨1, 8, .oth, [.nf]⟩,
⟨1, 8, .int .i64, [.i .i64]⟩,
⟨1, 8, .int .i64, [.i .i64]⟩,
⟨1, 1, .bool, [.b]⟩,
⟨1, 1, .int .u8, [.i .u8]⟩,
⟨1, 1, .int .u8, [.i .u8]⟩,
⟨4, 24, .st [(0, 2), (1, 3), (2, 4), (3, 6)], [.i .i64, .i .i64, .b, .i .u8]⟩,
⟨4, 24, .st [(0, 2), (1, 3), (2, 4), (3, 6)], [.i .i64, .i .i64, .b, .i .u8]⟩,
⟨1, 16, .str, [.s]⟩,
⟨1, 16, .str, [.s]⟩,
⟨1, 16, .str, [.s]⟩,
⟨1, 8, .int .u64, [.i .u64]⟩,
⟨2, 24, .st [(0, 9), (1, 12)], [.s, .i .u64]⟩,
⟨2, 24, .st [(0, 9), (1, 12)], [.s, .i .u64]⟩,
⟨1, 8, .oth, [.np]⟩,
⟨1, 8, .oth, [.np]⟩,
⟨1, 8, .oth, [.np]⟩,
⟨1, 8, .st [(0, 17)], [.np]⟩,
⟨1, 8, .st [(0, 17)], [.np]⟩,
⟨1, 16, .oth, [.ni]⟩,
⟨1, 4, .int .i32, [.i .i32]⟩,
⟨2, 16, .st [(0, 3), (1, 3)], [.i .i64, .i .i64]⟩,
⟨2, 16, .st [(0, 3), (1, 3)], [.i .i64, .i .i64]⟩,
⟨1, 8, .int .i64, [.i .i64]⟩,
⟨1, 0, .oth, []⟩,
⟨1, 8, .oth, [.nf]⟩,
⟨1, 0, .oth, []⟩,
⟨1, 8, .oth, [.nf]⟩,
⟨1, 24, .sl 23, [.sl]⟩,
⟨1, 8, .oth, [.nf]⟩,
⟨1, 8, .oth, [.nf]⟩,
⟨1, 8, .oth, [.nf]⟩,
⟨7, 32, .st [(0, 4), (1, 4), (2, 3), (3, 3), (4, 4), (5, 4), (6, 4)], [.b, .b, .i .i64, .i .i64, .b, .b, .b]⟩,
⟨7, 32, .st [(0, 4), (1, 4), (2, 3), (3, 3), (4, 4), (5, 4), (6, 4)], [.b, .b, .i .i64, .i .i64, .b, .b, .b]⟩,
⟨1, 4, .int .u32, [.i .u32]⟩,
⟨1, 0, .oth, []⟩,
⟨1, 8, .oth, [.nf]⟩,
⟨1, 0, .oth, []⟩,
⟨1, 8, .oth, [.nf]⟩,
⟨1, 8, .oth, [.nf]⟩,
⟨1, 8, .oth, [.nf]⟩,
⟨1, 8, .oth, [.nf]⟩,
⟨1, 8, .oth, [.nf]⟩,
⟨1, 0, .oth, []⟩,
⟨1, 8, .oth, [.nf]⟩,
⟨1, 8, .oth, [.nf]⟩,
⟨1, 8, .oth, [.nf]⟩,
⟨1, 8, .oth, [.nf]⟩,
⟨32, 32, .arr 32 5, List.replicate 32 (.i .u8)⟩,
⟨32, 32, .arr 32 5, List.replicate 32 (.i .u8)⟩,
⟨256, 256, .arr 256 4, List.replicate 256 (.b)⟩,
⟨1, 8, .oth, [.nf]⟩,
⟨1, 8, .oth, [.nf]⟩,
⟨1, 8, .oth, [.nf]⟩,
⟨1, 24, .sl 3, [.sl]⟩,
⟨1, 8, .oth, [.nf]⟩,
⟨1, 0, .oth, []⟩,
⟨1, 8, .oth, [.nf]⟩,
⟨1, 8, .oth, [.nf]⟩,
⟨1, 8, .oth, [.nf]⟩,
⟨1, 8, .oth, [.nf]⟩,
⟨1, 8, .oth, [.nf]⟩,
⟨1, 8, .oth, [.nf]⟩,
⟨1, 24, .sl 74, [.sl]⟩,
⟨1, 8, .oth, [.nf]⟩,
⟨1, 0, .oth, []⟩,
⟨1, 8, .oth, [.nf]⟩,
⟨1, 24, .sl 71, [.sl]⟩,
⟨1, 8, .oth, [.nf]⟩,
⟨1, 8, .oth, [.nf]⟩,
⟨3, 24, .arr 3 3, [.i .i64, .i .i64, .i .i64]⟩,
⟨1, 8, .oth, [.nf]⟩,
⟨3, 24, .st [(0, 3), (1, 3), (2, 3)], [.i .i64, .i .i64, .i .i64]⟩,
⟨3, 24, .st [(0, 3), (1, 3), (2, 3)], [.i .i64, .i .i64, .i .i64]⟩,
⟨1, 8, .oth, [.nf]⟩,
⟨1, 8, .oth, [.nf]⟩,
⟨1, 8, .int .u64, [.i .u64]⟩,
⟨2, 8, .st [(0, 4), (1, 35)], [.b, .i .u32]⟩,
⟨10, 40, .arr 5 78, [.b, .i .u32, .b, .i .u32, .b, .i .u32, .b, .i .u32, .b, .i .u32]⟩,
⟨1, 8, .oth, [.nf]⟩,
⟨1, 8, .oth, [.nf]⟩,
⟨5, 5, .arr 5 4, [.b, .b, .b, .b, .b]⟩,
⟨1, 8, .oth, [.nf]⟩,
⟨1, 8, .oth, [.nf]⟩,
⟨1, 8, .oth, [.nf]⟩,
⟨100, 100, .arr 100 4, List.replicate 100 (.b)⟩,
⟨1, 8, .oth, [.nf]⟩,
⟨4, 40, .st [(0, 17), (1, 17), (2, 17), (3, 9)], [.np, .np, .np, .s]⟩,
⟨4, 40, .st [(0, 17), (1, 17), (2, 17), (3, 9)], [.np, .np, .np, .s]⟩,
⟨0, 0, .arr 0 16, []⟩,
⟨0, 0, .st [(0, 90)], []⟩,
⟨0, 0, .st [(0, 90)], []⟩,
⟨1, 1, .int .u8, [.i .u8]⟩,
⟨1, 1, .int .u8, [.i .u8]⟩,
⟨1, 8, .oth, [.nf]⟩,
⟨1, 8, .oth, [.np]⟩,
⟨1, 4, .int .i32, [.i .i32]⟩,
⟨1, 4, .int .i32, [.i .i32]⟩,
⟨11, 48, .st [(0, 12), (1, 12), (2, 35), (3, 93), (4, 5), (5, 5), (6, 94), (7, 95), (8, 96), (9, 97), (10, 98)], [.i .u64, .i .u64, .i .u32, .i .u8, .i .u8, .i .u8, .i .u8, .nf, .np, .i .i32, .i .i32]⟩,
⟨11, 48, .st [(0, 12), (1, 12), (2, 35), (3, 93), (4, 5), (5, 5), (6, 94), (7, 95), (8, 96), (9, 97), (10, 98)], [.i .u64, .i .u64, .i .u32, .i .u8, .i .u8, .i .u8, .i .u8, .nf, .np, .i .i32, .i .i32]⟩,
⟨1, 8, .oth, [.np]⟩]
theorem TTok : TOk Try.prog TT := by unfold TOk; kernel_rfl
theorem mix : Try.prog.follows .mixedOrders = true := by kernel_rfl
structure S_box_Range where
  fIn : Int
  fOut : Int
  fN : Int
def eS_box_Range (x : S_box_Range) : PV := .agg [.v (.int .i64 x.fIn), .v (.int .i64 x.fOut), .v (.int .i64 x.fN)]
def eqS_box_Range (x y : S_box_Range) : Bool := ((x.fIn == y.fIn) && ((x.fOut == y.fOut) && ((x.fN == y.fN) && true)))
theorem eqS_box_Range_ok (x y : S_box_Range) : EqA Try.prog 74 [((.int .i64 x.fIn)), ((.int .i64 x.fOut)), ((.int .i64 x.fN))] [((.int .i64 y.fIn)), ((.int .i64 y.fOut)), ((.int .i64 y.fN))] (eqS_box_Range x y) := eqA_of TTok (by kernel_rfl) (by kernel_rfl) (by kernel_rfl)
/- ringhall/box.meet -/
def G_box_meet (n : Nat) (v_a20 : Int) (v_n21 : Int) (v_b22 : Int) (v_m23 : Int) : Option (Bool) :=
  if v_a20 < (wi .i64 (v_b22 + v_m23)) then
   some (decide (v_b22 < (wi .i64 (v_a20 + v_n21))))
  else
   some false
theorem G_box_meet_ok (n : Nat) (v_a20 : Int) (v_n21 : Int) (v_b22 : Int) (v_m23 : Int) (r : Bool) (h : G_box_meet n v_a20 v_n21 v_b22 v_m23 = some r) : Ret Try.prog 47 [(eI .i64) v_a20, (eI .i64) v_n21, (eI .i64) v_b22, (eI .i64) v_m23] (eB r) := by
  refine ret_run (n := 21) (fn := Try.f47) (c := bodyOf Try.f47) (by kernel_rfl) (by kernel_rfl) (by kernel_rfl) (by kernel_rfl) ?_
  have hF : KC 21 (FinR Try.prog Try.f47 (eB r)) := FinR.kc' (by kernel_rfl)
  unfold G_box_meet at h
  by_cases h20 : v_a20 < (wi .i64 (v_b22 + v_m23))
  · rw [if_pos h20] at h
    obtain rfl := Option.some.inj h
    exact pend_sound TTok mix 5 (hs := [.t true, .c, .c, .c, .c]) (by kernel_rfl) (by kernel_rfl) (by kernel_rfl) (.cons (dt h20) .nil)
  · rw [if_neg h20] at h
    obtain rfl := Option.some.inj h
    exact pend_sound TTok mix 5 (hs := [.t false, .c, .c, .c, .c]) (by kernel_rfl) (by kernel_rfl) (by kernel_rfl) (.cons (df h20) .nil)
inductive G_box_Check_C1_R where
  | x0 (v_x8 : Bool)
def G_box_Check_C1_ex : G_box_Check_C1_R → Ex
  | .x0 _ => .normal
def G_box_Check_C1_st (v_l5 : (List S_box_Range)) (v_x6 : Int) (v_y7 : S_box_Range) : G_box_Check_C1_R → PS
  | .x0 v_x8 => ⟨[.d (.sl (v_l5.map eS_box_Range)), dd, dd, .d (.v (.int .i64 v_x6)), .ref 0 0, dd, dd, dd, dd, dd, .d (.sl (v_l5.map eS_box_Range)), .d (.v (.int .i64 (v_l5.length : Int))), .d (.v (.int .i64 v_x6)), dd, dd, dd, dd, dd, dd, dd, dd, dd, dd, dd, dd, dd, dd, dd, dd, dd, dd, dd, dd, dd, dd, dd, dd, dd, dd, dd, dd, dd, dd, dd, dd, dd, dd, dd, dd, dd, .d (.v (.bool v_x8)), dd, dd, dd, dd, dd, dd, dd, dd, dd, dd, dd, dd, dd, dd, dd, dd, dd, dd, dd, dd, dd, dd, dd, dd, dd, dd, dd, dd, dd, dd], [.box [.d (.v (.int .i64 v_y7.fIn)), .d (.v (.int .i64 v_y7.fOut)), .d (.v (.int .i64 v_y7.fN))]]⟩
def G_box_Check_C1_hd (v_l5 : (List S_box_Range)) (v_x6 : Int) (v_y7 : S_box_Range)  : PS := ⟨[.d (.sl (v_l5.map eS_box_Range)), dd, dd, .d (.v (.int .i64 v_x6)), .ref 0 0, dd, dd, dd, dd, dd, .d (.sl (v_l5.map eS_box_Range)), .d (.v (.int .i64 (v_l5.length : Int))), .d (.v (.int .i64 v_x6)), dd, dd, dd, dd, dd, dd, dd, dd, dd, dd, dd, dd, dd, dd, dd, dd, dd, dd, dd, dd, dd, dd, dd, dd, dd, dd, dd, dd, dd, dd, dd, dd, dd, dd, dd, dd, dd, dd, dd, dd, dd, dd, dd, dd, dd, dd, dd, dd, dd, dd, dd, dd, dd, dd, dd, dd, dd, dd, dd, dd, dd, dd, dd, dd, dd, dd, dd, dd], [.box [.d (.v (.int .i64 v_y7.fIn)), .d (.v (.int .i64 v_y7.fOut)), .d (.v (.int .i64 v_y7.fN))]]⟩
def G_box_Check_C1 (n : Nat) (v_l5 : (List S_box_Range)) (v_x6 : Int) (v_y7 : S_box_Range) : Option G_box_Check_C1_R :=
  if v_y7.fN < 1 then
   some (.x0 true)
  else
   if v_y7.fN > 100 then
    some (.x0 true)
   else
    if v_y7.fIn < 0 then
     some (.x0 true)
    else
     if v_y7.fOut < 0 then
      some (.x0 true)
     else
      if v_y7.fIn > (wi .i64 (100 - v_y7.fN)) then
       some (.x0 true)
      else
       some (.x0 (decide (v_y7.fOut > (wi .i64 (100 - v_y7.fN)))))
theorem G_box_Check_C1_ok {Fi : Ex → PS → Prop} (hF : KC 81 Fi) (ks : List Fr) (n : Nat) (v_l5 : (List S_box_Range)) (v_x6 : Int) (v_y7 : S_box_Range)  (o : G_box_Check_C1_R) (h : G_box_Check_C1 n v_l5 v_x6 v_y7 = some o) (q : RunE Try.prog 81 Fi ks (G_box_Check_C1_ex o) (G_box_Check_C1_st v_l5 v_x6 v_y7 o)) : RunE Try.prog 81 Fi (.s (cL (cL (cR (cB (cL (cR (cR (cP (cB (cR (cL (cR (cR (bodyOf Try.f46)))))))))))))) :: ks) .normal (G_box_Check_C1_hd v_l5 v_x6 v_y7) := by
  unfold G_box_Check_C1 at h
  by_cases h9 : v_y7.fN < 1
  · rw [if_pos h9] at h
    cases h
    exact pkk_sound TTok mix hF 1 (hs := [.c, .t true, .c, .c, .c, .c, .c, .c, .c, .c, .c, .c, .c, .c, .c, .c, .c, .c, .c, .c, .c, .c]) (ts := []) (s := [0]) (l := [0, 3, 4, 10, 11, 12, 50]) (by kernel_rfl) (by kernel_rfl) (.cons (dt h9) .nil) q
  · rw [if_neg h9] at h
    by_cases h10 : v_y7.fN > 100
    · rw [if_pos h10] at h
      cases h
      exact pkk_sound TTok mix hF 1 (hs := [.c, .t false, .c, .c, .c, .t true, .c, .c, .c, .c, .c, .c, .c, .c, .c, .c, .c, .c, .c, .c, .c, .c, .c]) (ts := []) (s := [0]) (l := [0, 3, 4, 10, 11, 12, 50]) (by kernel_rfl) (by kernel_rfl) (.cons (df h9) (.cons (dt h10) .nil)) q
    · rw [if_neg h10] at h
      by_cases h11 : v_y7.fIn < 0
      · rw [if_pos h11] at h
        cases h
        exact pkk_sound TTok mix hF 1 (hs := [.c, .t false, .c, .c, .c, .t false, .c, .c, .c, .t true, .c, .c, .c, .c, .c, .c, .c, .c, .c, .c, .c, .c, .c, .c]) (ts := []) (s := [0]) (l := [0, 3, 4, 10, 11, 12, 50]) (by kernel_rfl) (by kernel_rfl) (.cons (df h9) (.cons (df h10) (.cons (dt h11) .nil))) q
      · rw [if_neg h11] at h
        by_cases h12 : v_y7.fOut < 0
        · rw [if_pos h12] at h
          cases h
          exact pkk_sound TTok mix hF 1 (hs := [.c, .t false, .c, .c, .c, .t false, .c, .c, .c, .t false, .c, .c, .c, .t true, .c, .c, .c, .c, .c, .c, .c, .c, .c, .c, .c]) (ts := []) (s := [0]) (l := [0, 3, 4, 10, 11, 12, 50]) (by kernel_rfl) (by kernel_rfl) (.cons (df h9) (.cons (df h10) (.cons (df h11) (.cons (dt h12) .nil)))) q
        · rw [if_neg h12] at h
          by_cases h13 : v_y7.fIn > (wi .i64 (100 - v_y7.fN))
          · rw [if_pos h13] at h
            cases h
            exact pkk_sound TTok mix hF 1 (hs := [.c, .t false, .c, .c, .c, .t false, .c, .c, .c, .t false, .c, .c, .c, .t false, .c, .c, .c, .c, .c, .c, .c, .t true, .c, .c, .c, .c, .c]) (ts := []) (s := [0]) (l := [0, 3, 4, 10, 11, 12, 50]) (by kernel_rfl) (by kernel_rfl) (.cons (df h9) (.cons (df h10) (.cons (df h11) (.cons (df h12) (.cons (dt h13) .nil))))) q
          · rw [if_neg h13] at h
            cases h
            exact pkk_sound TTok mix hF 1 (hs := [.c, .t false, .c, .c, .c, .t false, .c, .c, .c, .t false, .c, .c, .c, .t false, .c, .c, .c, .c, .c, .c, .c, .t false, .c, .c, .c, .c, .c, .c, .c]) (ts := []) (s := [0]) (l := [0, 3, 4, 10, 11, 12, 50]) (by kernel_rfl) (by kernel_rfl) (.cons (df h9) (.cons (df h10) (.cons (df h11) (.cons (df h12) (.cons (df h13) .nil))))) q
inductive G_box_Check_L2_R where
  | x0 (v_x32 : Int)
  | x1 
def G_box_Check_L2_ex : G_box_Check_L2_R → Ex
  | .x0 _ => .ret
  | .x1  => .exit 2
def G_box_Check_L2_st (v_l5 : (List S_box_Range)) (v_x6 : Int) (v_s17 : (List S_box_Range)) (v_y7 : S_box_Range) : G_box_Check_L2_R → PS
  | .x0 v_x32 => ⟨[dd, dd, .d (.v (.int .i64 v_x32)), dd, dd, dd, dd, dd, dd, dd, dd, dd, dd, dd, dd, dd, dd, dd, dd, dd, dd, dd, dd, dd, dd, dd, dd, dd, dd, dd, dd, dd, dd, dd, dd, dd, dd, dd, dd, dd, dd, dd, dd, dd, dd, dd, dd, dd, dd, dd, dd, dd, dd, dd, dd, dd, dd, dd, dd, dd, dd, dd, dd, dd, dd, dd, dd, dd, dd, dd, dd, dd, dd, dd, dd, dd, dd, dd, dd, dd, dd], []⟩
  | .x1  => ⟨[.d (.sl (v_l5.map eS_box_Range)), dd, dd, dd, dd, dd, dd, dd, dd, dd, .d (.sl (v_l5.map eS_box_Range)), .d (.v (.int .i64 (v_l5.length : Int))), .d (.v (.int .i64 v_x6)), dd, dd, dd, dd, dd, dd, dd, dd, dd, dd, dd, dd, dd, dd, dd, dd, dd, dd, dd, dd, dd, dd, dd, dd, dd, dd, dd, dd, dd, dd, dd, dd, dd, dd, dd, dd, dd, dd, dd, dd, dd, dd, dd, dd, dd, dd, dd, dd, dd, dd, dd, dd, dd, dd, dd, dd, dd, dd, dd, dd, dd, dd, dd, dd, dd, dd, dd, dd], []⟩
def G_box_Check_L2_hd (v_l5 : (List S_box_Range)) (v_x6 : Int) (v_s17 : (List S_box_Range)) (v_y7 : S_box_Range) (v_x18 : Int) : PS := ⟨[.d (.sl (v_l5.map eS_box_Range)), dd, dd, dd, .ref 0 0, dd, dd, dd, dd, dd, .d (.sl (v_l5.map eS_box_Range)), .d (.v (.int .i64 (v_l5.length : Int))), .d (.v (.int .i64 v_x6)), dd, dd, dd, dd, dd, dd, dd, dd, dd, dd, dd, dd, dd, dd, dd, dd, dd, dd, dd, dd, dd, dd, dd, dd, dd, dd, dd, dd, dd, dd, dd, dd, dd, dd, dd, dd, dd, dd, dd, dd, .d (.sl (v_s17.map eS_box_Range)), .d (.v (.int .i64 (v_s17.length : Int))), .d (.v (.int .i64 v_x18)), dd, dd, dd, dd, dd, dd, dd, dd, dd, dd, dd, dd, dd, dd, dd, dd, dd, dd, dd, dd, dd, dd, dd, dd, dd], [.box [.d (.v (.int .i64 v_y7.fIn)), .d (.v (.int .i64 v_y7.fOut)), .d (.v (.int .i64 v_y7.fN))]]⟩
def G_box_Check_L2 (n : Nat) (v_l5 : (List S_box_Range)) (v_x6 : Int) (v_s17 : (List S_box_Range)) (v_y7 : S_box_Range) : Nat → Int → Option G_box_Check_L2_R
  | 0, _ => none
  | k + 1, v_x18 =>
    if v_x18 < (v_s17.length : Int) then
     (getI v_s17 v_x18).bind fun (v_y28 : S_box_Range) =>
     (G_box_meet n v_y7.fIn v_y7.fN v_y28.fIn v_y28.fN).bind fun (v_r31 : (Bool)) =>
     if v_r31 = true then
      some (.x0 5)
     else
      (G_box_meet n v_y7.fOut v_y7.fN v_y28.fOut v_y28.fN).bind fun (v_r33 : (Bool)) =>
      if v_r33 = true then
       some (.x0 5)
      else
       G_box_Check_L2 n v_l5 v_x6 v_s17 v_y7 k (wi .i64 (v_x18 + 1))
    else
     some (.x1 )
theorem G_box_Check_L2_ok {Fi : Ex → PS → Prop} (hF : KC 81 Fi) (ks : List Fr) (n : Nat) (v_l5 : (List S_box_Range)) (v_x6 : Int) (v_s17 : (List S_box_Range)) (v_y7 : S_box_Range)  : ∀ (k : Nat) (v_x18 : Int) (o : G_box_Check_L2_R), G_box_Check_L2 n v_l5 v_x6 v_s17 v_y7 k v_x18 = some o → RunE Try.prog 81 Fi ks (G_box_Check_L2_ex o) (G_box_Check_L2_st v_l5 v_x6 v_s17 v_y7 o) → RunE Try.prog 81 Fi (.l k (cP (cB (cR (cR (cR (cB (cL (cR (cR (cP (cB (cR (cL (cR (cR (bodyOf Try.f46)))))))))))))))) :: ks) .normal (G_box_Check_L2_hd v_l5 v_x6 v_s17 v_y7 v_x18)
  | 0, v_x18, o, h, q => by rw [G_box_Check_L2] at h; cases h
  | k + 1, v_x18, o, h, q => by
    rw [G_box_Check_L2] at h
    by_cases h17 : v_x18 < (v_s17.length : Int)
    · rw [if_pos h17] at h
      obtain ⟨v_y28, h28, h⟩ := bind_some h
      obtain ⟨v_r31, h32, h⟩ := bind_some h
      by_cases h33 : v_r31 = true
      · rw [if_pos h33] at h
        cases h
        exact pkk_sound TTok mix hF 19 (hs := [.t true, .y (eS_box_Range v_y28), .c, .c, .c, .c, .c, .r (eB v_r31), .t true, .c, .c, .c, .c, .c, .c, .c, .c, .c]) (ts := []) (s := []) (l := [2]) (by kernel_rfl) (by kernel_rfl) (.cons (dt h17) (.cons (getI_ob (f := eS_box_Range) h28) (.cons (show 0 + 3 ≤ 3 by decide) (.cons (G_box_meet_ok n v_y7.fIn v_y7.fN v_y28.fIn v_y28.fN _ h32) (.cons h33 .nil))))) q
      · rw [if_neg h33] at h
        obtain ⟨v_r33, h34, h⟩ := bind_some h
        by_cases h35 : v_r33 = true
        · rw [if_pos h35] at h
          cases h
          exact pkk_sound TTok mix hF 19 (hs := [.t true, .y (eS_box_Range v_y28), .c, .c, .c, .c, .c, .r (eB v_r31), .t false, .c, .c, .c, .c, .c, .c, .c, .c, .c, .c, .c, .c, .r (eB v_r33), .t true]) (ts := []) (s := []) (l := [2]) (by kernel_rfl) (by kernel_rfl) (.cons (dt h17) (.cons (getI_ob (f := eS_box_Range) h28) (.cons (show 0 + 3 ≤ 3 by decide) (.cons (G_box_meet_ok n v_y7.fIn v_y7.fN v_y28.fIn v_y28.fN _ h32) (.cons (vf h33) (.cons (G_box_meet_ok n v_y7.fOut v_y7.fN v_y28.fOut v_y28.fN _ h34) (.cons h35 .nil))))))) q
        · rw [if_neg h35] at h
          exact pkk_sound TTok mix hF 16 (hs := [.t true, .y (eS_box_Range v_y28), .c, .c, .c, .c, .c, .r (eB v_r31), .t false, .c, .c, .c, .c, .c, .c, .c, .c, .c, .c, .c, .c, .r (eB v_r33), .t false]) (ts := []) (s := [0]) (l := [0, 4, 10, 11, 12, 53, 54, 55]) (by kernel_rfl) (by kernel_rfl) (.cons (dt h17) (.cons (getI_ob (f := eS_box_Range) h28) (.cons (show 0 + 3 ≤ 3 by decide) (.cons (G_box_meet_ok n v_y7.fIn v_y7.fN v_y28.fIn v_y28.fN _ h32) (.cons (vf h33) (.cons (G_box_meet_ok n v_y7.fOut v_y7.fN v_y28.fOut v_y28.fN _ h34) (.cons (vf h35) .nil))))))) (G_box_Check_L2_ok hF ks n v_l5 v_x6 v_s17 v_y7 k (wi .i64 (v_x18 + 1)) _ h q)
    · rw [if_neg h17] at h
      cases h
      exact pkk_sound TTok mix hF 8 (hs := [.t false]) (ts := []) (s := []) (l := [0, 10, 11, 12]) (by kernel_rfl) (by kernel_rfl) (.cons (df h17) .nil) q
inductive G_box_Check_L3_R where
  | x0 (v_x16 : Int)
  | x1 
def G_box_Check_L3_ex : G_box_Check_L3_R → Ex
  | .x0 _ => .ret
  | .x1  => .exit 0
def G_box_Check_L3_st (v_l5 : (List S_box_Range)) : G_box_Check_L3_R → PS
  | .x0 v_x16 => ⟨[dd, dd, .d (.v (.int .i64 v_x16)), dd, dd, dd, dd, dd, dd, dd, dd, dd, dd, dd, dd, dd, dd, dd, dd, dd, dd, dd, dd, dd, dd, dd, dd, dd, dd, dd, dd, dd, dd, dd, dd, dd, dd, dd, dd, dd, dd, dd, dd, dd, dd, dd, dd, dd, dd, dd, dd, dd, dd, dd, dd, dd, dd, dd, dd, dd, dd, dd, dd, dd, dd, dd, dd, dd, dd, dd, dd, dd, dd, dd, dd, dd, dd, dd, dd, dd, dd], []⟩
  | .x1  => ⟨[dd, dd, dd, dd, dd, dd, dd, dd, dd, dd, dd, dd, dd, dd, dd, dd, dd, dd, dd, dd, dd, dd, dd, dd, dd, dd, dd, dd, dd, dd, dd, dd, dd, dd, dd, dd, dd, dd, dd, dd, dd, dd, dd, dd, dd, dd, dd, dd, dd, dd, dd, dd, dd, dd, dd, dd, dd, dd, dd, dd, dd, dd, dd, dd, dd, dd, dd, dd, dd, dd, dd, dd, dd, dd, dd, dd, dd, dd, dd, dd, dd], []⟩
def G_box_Check_L3_hd (v_l5 : (List S_box_Range)) (v_x6 : Int) : PS := ⟨[.d (.sl (v_l5.map eS_box_Range)), dd, dd, dd, dd, dd, dd, dd, dd, dd, .d (.sl (v_l5.map eS_box_Range)), .d (.v (.int .i64 (v_l5.length : Int))), .d (.v (.int .i64 v_x6)), dd, dd, dd, dd, dd, dd, dd, dd, dd, dd, dd, dd, dd, dd, dd, dd, dd, dd, dd, dd, dd, dd, dd, dd, dd, dd, dd, dd, dd, dd, dd, dd, dd, dd, dd, dd, dd, dd, dd, dd, dd, dd, dd, dd, dd, dd, dd, dd, dd, dd, dd, dd, dd, dd, dd, dd, dd, dd, dd, dd, dd, dd, dd, dd, dd, dd, dd, dd], []⟩
def G_box_Check_L3 (n : Nat) (v_l5 : (List S_box_Range)) : Nat → Int → Option G_box_Check_L3_R
  | 0, _ => none
  | k + 1, v_x6 =>
    if v_x6 < (v_l5.length : Int) then
     (getI v_l5 v_x6).bind fun (v_y7 : S_box_Range) =>
     (G_box_Check_C1 n v_l5 v_x6 v_y7).bind fun v_o14 => match v_o14 with
     | .x0 v_z15 =>
       if v_z15 = true then
        some (.x0 1)
       else
        (sub v_l5 0 v_x6).bind fun (v_s17 : (List S_box_Range)) =>
        (G_box_Check_L2 n v_l5 v_x6 v_s17 v_y7 n 0).bind fun v_o35 => match v_o35 with
        | .x0 v_z36 =>
          some (.x0 v_z36)
        | .x1  =>
          G_box_Check_L3 n v_l5 k (wi .i64 (v_x6 + 1))
    else
     some (.x1 )
theorem G_box_Check_L3_ok {Fi : Ex → PS → Prop} (hF : KC 81 Fi) (ks : List Fr) (n : Nat) (v_l5 : (List S_box_Range))  : ∀ (k : Nat) (v_x6 : Int) (o : G_box_Check_L3_R), G_box_Check_L3 n v_l5 k v_x6 = some o → RunE Try.prog 81 Fi ks (G_box_Check_L3_ex o) (G_box_Check_L3_st v_l5 o) → RunE Try.prog 81 Fi (.l k (cP (cB (cR (cL (cR (cR (bodyOf Try.f46))))))) :: ks) .normal (G_box_Check_L3_hd v_l5 v_x6)
  | 0, v_x6, o, h, q => by rw [G_box_Check_L3] at h; cases h
  | k + 1, v_x6, o, h, q => by
    rw [G_box_Check_L3] at h
    by_cases h2 : v_x6 < (v_l5.length : Int)
    · rw [if_pos h2] at h
      obtain ⟨v_y7, h3, h⟩ := bind_some h
      obtain ⟨v_o14, h14, h⟩ := bind_some h
      refine pkk_sound TTok mix hF 12 (hs := [.t true, .y (eS_box_Range v_y7), .c]) (ts := []) (s := [12]) (l := [0, 3, 4, 10, 11, 12]) (by kernel_rfl) (by kernel_rfl) (.cons (dt h2) (.cons (getI_ob (f := eS_box_Range) h3) (.cons (show 0 + 3 ≤ 3 by decide) .nil))) (G_box_Check_C1_ok hF (.s (cR (cL (cR (cB (cL (cR (cR (cP (cB (cR (cL (cR (cR (bodyOf Try.f46)))))))))))))) :: .s (cR (cR (cB (cL (cR (cR (cP (cB (cR (cL (cR (cR (bodyOf Try.f46))))))))))))) :: .b 1 :: .s (cR (cR (cR (cP (cB (cR (cL (cR (cR (bodyOf Try.f46)))))))))) :: .l k (cP (cB (cR (cL (cR (cR (bodyOf Try.f46))))))) :: ks) n v_l5 v_x6 v_y7 _ h14 ?_)
      cases v_o14 with
      | x0 v_z15 =>
        dsimp only at h
        by_cases h15 : v_z15 = true
        · rw [if_pos h15] at h
          cases h
          exact pkk_sound TTok mix hF 8 (hs := [.t true]) (ts := []) (s := []) (l := [2]) (by kernel_rfl) (by kernel_rfl) (.cons h15 .nil) q
        · rw [if_neg h15] at h
          obtain ⟨v_s17, h16, h⟩ := bind_some h
          obtain ⟨v_o35, h36, h⟩ := bind_some h
          refine pkk_sound TTok mix hF 6 (hs := [.t false, .w (v_s17.map eS_box_Range), .u (.d (.v (.int .i64 (v_s17.length : Int)))), .n n]) (ts := []) (s := [0]) (l := [0, 4, 10, 11, 12, 53, 54, 55]) (by kernel_rfl) (by kernel_rfl) (.cons (vf h15) (.cons (sub_ob (f := eS_box_Range) (s := 3) h16 (fun _ => rfl)).1 (.cons (sub_ob (f := eS_box_Range) (s := 3) h16 (fun _ => rfl)).2.1 (.cons (sub_ob (f := eS_box_Range) (s := 3) h16 (fun _ => rfl)).2.2.1 (.cons (sub_ob (f := eS_box_Range) (s := 3) h16 (fun _ => rfl)).2.2.2.1 (.cons (sub_ob (f := eS_box_Range) (s := 3) h16 (fun _ => rfl)).2.2.2.2 (.cons (len_ob (f := eS_box_Range) (l := v_s17)) .nil))))))) (G_box_Check_L2_ok hF (.b 2 :: .b 1 :: .s (cR (cR (cR (cP (cB (cR (cL (cR (cR (bodyOf Try.f46)))))))))) :: .l k (cP (cB (cR (cL (cR (cR (bodyOf Try.f46))))))) :: ks) n v_l5 v_x6 v_s17 v_y7 n 0 _ h36 ?_)
          cases v_o35 with
          | x0 v_z36 =>
            dsimp only at h
            cases h
            exact pkk_sound TTok mix hF 4 (hs := []) (ts := []) (s := []) (l := [2]) (by kernel_rfl) (by kernel_rfl) .nil q
          | x1  =>
            dsimp only at h
            exact pkk_sound TTok mix hF 3 (hs := []) (ts := []) (s := []) (l := [0, 10, 11, 12]) (by kernel_rfl) (by kernel_rfl) .nil (G_box_Check_L3_ok hF ks n v_l5 k (wi .i64 (v_x6 + 1)) _ h q)
    · rw [if_neg h2] at h
      cases h
      exact pkk_sound TTok mix hF 8 (hs := [.t false]) (ts := []) (s := []) (l := []) (by kernel_rfl) (by kernel_rfl) (.cons (df h2) .nil) q
/- ringhall/box.Check -/
def G_box_Check (n : Nat) (v_l5 : (List S_box_Range)) : Option (Int) :=
  if (v_l5.length : Int) > 4 then
   some 2
  else
   (G_box_Check_L3 n v_l5 n 0).bind fun v_o38 => match v_o38 with
   | .x0 v_z39 =>
     some v_z39
   | .x1  =>
     some 0
theorem G_box_Check_ok (n : Nat) (v_l5 : (List S_box_Range)) (r : Int) (h : G_box_Check n v_l5 = some r) : Ret Try.prog 46 [(eL eS_box_Range) v_l5] ((eI .i64) r) := by
  refine ret_run (n := 81) (fn := Try.f46) (c := bodyOf Try.f46) (by kernel_rfl) (by kernel_rfl) (by kernel_rfl) (by kernel_rfl) ?_
  have hF : KC 81 (FinR Try.prog Try.f46 ((eI .i64) r)) := FinR.kc' (by kernel_rfl)
  unfold G_box_Check at h
  by_cases h1 : (v_l5.length : Int) > 4
  · rw [if_pos h1] at h
    obtain rfl := Option.some.inj h
    exact pend_sound TTok mix 10 (hs := [.u (.d (.v (.int .i64 (v_l5.length : Int)))), .t true]) (by kernel_rfl) (by kernel_rfl) (by kernel_rfl) (.cons (len_ob (f := eS_box_Range) (l := v_l5)) (.cons (dt h1) .nil))
  · rw [if_neg h1] at h
    obtain ⟨v_o38, h37, h⟩ := bind_some h
    refine pkk_sound TTok mix hF 12 (hs := [.u (.d (.v (.int .i64 (v_l5.length : Int)))), .t false, .u (.d (.v (.int .i64 (v_l5.length : Int)))), .n n]) (ts := []) (s := []) (l := [0, 10, 11, 12]) (by kernel_rfl) (by kernel_rfl) (.cons (len_ob (f := eS_box_Range) (l := v_l5)) (.cons (df h1) (.cons (len_ob (f := eS_box_Range) (l := v_l5)) .nil))) (G_box_Check_L3_ok hF (.b 0 :: .s (cR (cR (cR (bodyOf Try.f46)))) :: []) n v_l5 n 0 _ h37 ?_)
    cases v_o38 with
    | x0 v_z39 =>
      dsimp only at h
      obtain rfl := Option.some.inj h
      exact pend_sound TTok mix 2 (hs := []) (by kernel_rfl) (by kernel_rfl) (by kernel_rfl) .nil
    | x1  =>
      dsimp only at h
      obtain rfl := Option.some.inj h
      exact pend_sound TTok mix 4 (hs := []) (by kernel_rfl) (by kernel_rfl) (by kernel_rfl) .nil
inductive G_box_To_L1_R where
  | x0 (v_x44 : Int) (v_x45 : Int)
  | x1 
def G_box_To_L1_ex : G_box_To_L1_R → Ex
  | .x0 _ _ => .ret
  | .x1  => .exit 0
def G_box_To_L1_st (v_in4 : Int) (v_l3 : (List S_box_Range)) : G_box_To_L1_R → PS
  | .x0 v_x44 v_x45 => ⟨[dd, dd, dd, dd, .d (.v (.int .i64 v_x44)), .d (.v (.int .i64 v_x45)), dd, dd, dd, dd, dd, dd, dd, dd, dd, dd, dd, dd, dd, dd, dd, dd, dd, dd, dd, dd, dd, dd, dd, dd, dd, dd, dd, dd, dd, dd, dd, dd, dd, dd, dd], []⟩
  | .x1  => ⟨[dd, dd, dd, dd, dd, dd, dd, dd, dd, dd, dd, dd, dd, dd, dd, dd, dd, dd, dd, dd, dd, dd, dd, dd, dd, dd, dd, dd, dd, dd, dd, dd, dd, dd, dd, dd, dd, dd, dd, dd, dd], []⟩
def G_box_To_L1_hd (v_in4 : Int) (v_l3 : (List S_box_Range)) (v_x41 : Int) : PS := ⟨[dd, .d (.v (.int .i64 v_in4)), dd, dd, dd, dd, dd, dd, dd, dd, dd, dd, dd, dd, .d (.sl (v_l3.map eS_box_Range)), .d (.v (.int .i64 (v_l3.length : Int))), .d (.v (.int .i64 v_x41)), dd, dd, dd, dd, dd, dd, dd, dd, dd, dd, dd, dd, dd, dd, dd, dd, dd, dd, dd, dd, dd, dd, dd, dd], []⟩
def G_box_To_L1 (n : Nat) (v_in4 : Int) (v_l3 : (List S_box_Range)) : Nat → Int → Option G_box_To_L1_R
  | 0, _ => none
  | k + 1, v_x41 =>
    if v_x41 < (v_l3.length : Int) then
     (getI v_l3 v_x41).bind fun (v_y43 : S_box_Range) =>
     if v_in4 ≥ v_y43.fIn then
      if v_in4 < (wi .i64 (v_y43.fIn + v_y43.fN)) then
       some (.x0 (wi .i64 ((wi .i64 (v_y43.fOut + v_in4)) - v_y43.fIn)) 0)
      else
       G_box_To_L1 n v_in4 v_l3 k (wi .i64 (v_x41 + 1))
     else
      G_box_To_L1 n v_in4 v_l3 k (wi .i64 (v_x41 + 1))
    else
     some (.x1 )
theorem G_box_To_L1_ok {Fi : Ex → PS → Prop} (hF : KC 41 Fi) (ks : List Fr) (n : Nat) (v_in4 : Int) (v_l3 : (List S_box_Range))  : ∀ (k : Nat) (v_x41 : Int) (o : G_box_To_L1_R), G_box_To_L1 n v_in4 v_l3 k v_x41 = some o → RunE Try.prog 41 Fi ks (G_box_To_L1_ex o) (G_box_To_L1_st v_in4 v_l3 o) → RunE Try.prog 41 Fi (.l k (cP (cB (cR (cL (cR (cR (bodyOf Try.f45))))))) :: ks) .normal (G_box_To_L1_hd v_in4 v_l3 v_x41)
  | 0, v_x41, o, h, q => by rw [G_box_To_L1] at h; cases h
  | k + 1, v_x41, o, h, q => by
    rw [G_box_To_L1] at h
    by_cases h41 : v_x41 < (v_l3.length : Int)
    · rw [if_pos h41] at h
      obtain ⟨v_y43, h47, h⟩ := bind_some h
      by_cases h49 : v_in4 ≥ v_y43.fIn
      · rw [if_pos h49] at h
        by_cases h51 : v_in4 < (wi .i64 (v_y43.fIn + v_y43.fN))
        · rw [if_pos h51] at h
          cases h
          exact pkk_sound TTok mix hF 19 (hs := [.t true, .y (eS_box_Range v_y43), .c, .c, .t true, .c, .c, .c, .c, .c, .c, .c, .c, .t true, .c, .c]) (ts := []) (s := []) (l := [4, 5]) (by kernel_rfl) (by kernel_rfl) (.cons (dt h41) (.cons (getI_ob (f := eS_box_Range) h47) (.cons (show 0 + 3 ≤ 3 by decide) (.cons (dt h49) (.cons (dt h51) .nil))))) q
        · rw [if_neg h51] at h
          exact pkk_sound TTok mix hF 16 (hs := [.t true, .y (eS_box_Range v_y43), .c, .c, .t true, .c, .c, .c, .c, .c, .c, .c, .c, .t false]) (ts := []) (s := []) (l := [1, 14, 15, 16]) (by kernel_rfl) (by kernel_rfl) (.cons (dt h41) (.cons (getI_ob (f := eS_box_Range) h47) (.cons (show 0 + 3 ≤ 3 by decide) (.cons (dt h49) (.cons (df h51) .nil))))) (G_box_To_L1_ok hF ks n v_in4 v_l3 k (wi .i64 (v_x41 + 1)) _ h q)
      · rw [if_neg h49] at h
        exact pkk_sound TTok mix hF 16 (hs := [.t true, .y (eS_box_Range v_y43), .c, .c, .t false, .c, .c, .c, .c, .c, .c, .c]) (ts := []) (s := []) (l := [1, 14, 15, 16]) (by kernel_rfl) (by kernel_rfl) (.cons (dt h41) (.cons (getI_ob (f := eS_box_Range) h47) (.cons (show 0 + 3 ≤ 3 by decide) (.cons (df h49) .nil)))) (G_box_To_L1_ok hF ks n v_in4 v_l3 k (wi .i64 (v_x41 + 1)) _ h q)
    · rw [if_neg h41] at h
      cases h
      exact pkk_sound TTok mix hF 8 (hs := [.t false]) (ts := []) (s := []) (l := []) (by kernel_rfl) (by kernel_rfl) (.cons (df h41) .nil) q
/- ringhall/box.To -/
def G_box_To (n : Nat) (v_l3 : (List S_box_Range)) (v_in4 : Int) : Option (Int × Int) :=
  (G_box_Check n v_l3).bind fun (v_r40 : (Int)) =>
  if v_r40 = 0 then
   (G_box_To_L1 n v_in4 v_l3 n 0).bind fun v_o46 => match v_o46 with
   | .x0 v_z47 v_z48 =>
     some (v_z47, v_z48)
   | .x1  =>
     some (0, 4)
  else
   some (0, v_r40)
theorem G_box_To_ok (n : Nat) (v_l3 : (List S_box_Range)) (v_in4 : Int) (r : Int × Int) (h : G_box_To n v_l3 v_in4 = some r) : Ret Try.prog 45 [(eL eS_box_Range) v_l3, (eI .i64) v_in4] (.tup [(eI .i64) r.1, (eI .i64) r.2]) := by
  refine ret_run (n := 41) (fn := Try.f45) (c := bodyOf Try.f45) (by kernel_rfl) (by kernel_rfl) (by kernel_rfl) (by kernel_rfl) ?_
  have hF : KC 41 (FinR Try.prog Try.f45 (.tup [(eI .i64) r.1, (eI .i64) r.2])) := FinR.kc' (by kernel_rfl)
  unfold G_box_To at h
  obtain ⟨v_r40, h38, h⟩ := bind_some h
  by_cases h40 : v_r40 = 0
  · rw [if_pos h40] at h
    obtain ⟨v_o46, h52, h⟩ := bind_some h
    refine pkk_sound TTok mix hF 14 (hs := [.r ((eI .i64) v_r40), .t false, .u (.d (.v (.int .i64 (v_l3.length : Int)))), .n n]) (ts := []) (s := []) (l := [1, 14, 15, 16]) (by kernel_rfl) (by kernel_rfl) (.cons (G_box_Check_ok n v_l3 _ h38) (.cons (nf h40) (.cons (len_ob (f := eS_box_Range) (l := v_l3)) .nil))) (G_box_To_L1_ok hF (.b 0 :: .s (cR (cR (cR (bodyOf Try.f45)))) :: []) n v_in4 v_l3 n 0 _ h52 ?_)
    cases v_o46 with
    | x0 v_z47 v_z48 =>
      dsimp only at h
      obtain rfl := Option.some.inj h
      exact pend_sound TTok mix 2 (hs := []) (by kernel_rfl) (by kernel_rfl) (by kernel_rfl) .nil
    | x1  =>
      dsimp only at h
      obtain rfl := Option.some.inj h
      exact pend_sound TTok mix 4 (hs := []) (by kernel_rfl) (by kernel_rfl) (by kernel_rfl) .nil
  · rw [if_neg h40] at h
    obtain rfl := Option.some.inj h
    exact pend_sound TTok mix 12 (hs := [.r ((eI .i64) v_r40), .t true]) (by kernel_rfl) (by kernel_rfl) (by kernel_rfl) (.cons (G_box_Check_ok n v_l3 _ h38) (.cons (nt h40) .nil))
inductive G_box_Nest_L1_R where
  | x0 (v_m65 : Int) (v_w66 : (List S_box_Range))
def G_box_Nest_L1_ex : G_box_Nest_L1_R → Ex
  | .x0 _ _ => .exit 4
def G_box_Nest_L1_st (v_outer50 : (List S_box_Range)) (v_k57 : Int) (v_r59 : (Int × Int)) (v_inner51 : (List S_box_Range)) (v_x54 : Int) (v_y56 : S_box_Range) : G_box_Nest_L1_R → PS
  | .x0 v_m65 v_w66 => ⟨[.d (.sl (v_outer50.map eS_box_Range)), dd, dd, dd, dd, dd, dd, dd, .srf 0, dd, .ref 1 0, .d (.v (.int .i64 v_k57)), .d (.v (.int .i64 v_r59.1)), dd, .d (.v (.int .i64 v_m65)), dd, dd, dd, dd, dd, dd, dd, dd, dd, dd, dd, dd, .d (.sl (v_inner51.map eS_box_Range)), .d (.v (.int .i64 (v_inner51.length : Int))), .d (.v (.int .i64 v_x54)), dd, dd, dd, dd, dd, dd, dd, dd, dd, dd, dd, dd, dd, dd, dd, dd, dd, dd, dd, dd, dd, dd, dd, dd, dd, dd, dd, dd, dd, dd, dd, dd, dd, dd, dd, dd, dd, dd, dd, dd, dd, dd, dd, dd, dd, dd, dd, dd, dd, dd, dd, dd, dd, dd, dd, dd, dd, dd, dd, dd, dd, dd, dd, dd, dd], [.row 74 3 (v_w66.map eS_box_Range), .box [.d (.v (.int .i64 v_y56.fIn)), .d (.v (.int .i64 v_y56.fOut)), .d (.v (.int .i64 v_y56.fN))]]⟩
def G_box_Nest_L1_hd (v_outer50 : (List S_box_Range)) (v_k57 : Int) (v_r59 : (Int × Int)) (v_inner51 : (List S_box_Range)) (v_x54 : Int) (v_y56 : S_box_Range) (v_m61 : Int) (v_w62 : (List S_box_Range)) : PS := ⟨[.d (.sl (v_outer50.map eS_box_Range)), dd, dd, dd, dd, dd, dd, dd, .srf 0, dd, .ref 1 0, .d (.v (.int .i64 v_k57)), .d (.v (.int .i64 v_r59.1)), dd, .d (.v (.int .i64 v_m61)), dd, dd, dd, dd, dd, dd, dd, dd, dd, dd, dd, dd, .d (.sl (v_inner51.map eS_box_Range)), .d (.v (.int .i64 (v_inner51.length : Int))), .d (.v (.int .i64 v_x54)), dd, dd, dd, dd, dd, dd, dd, dd, dd, dd, dd, dd, dd, dd, dd, dd, dd, dd, dd, dd, dd, dd, dd, dd, dd, dd, dd, dd, dd, dd, dd, dd, dd, dd, dd, dd, dd, dd, dd, dd, dd, dd, dd, dd, dd, dd, dd, dd, dd, dd, dd, dd, dd, dd, dd, dd, dd, dd, dd, dd, dd, dd, dd, dd, dd], [.row 74 3 (v_w62.map eS_box_Range), .box [.d (.v (.int .i64 v_y56.fIn)), .d (.v (.int .i64 v_y56.fOut)), .d (.v (.int .i64 v_y56.fN))]]⟩
def G_box_Nest_L1 (n : Nat) (v_outer50 : (List S_box_Range)) (v_k57 : Int) (v_r59 : (Int × Int)) (v_inner51 : (List S_box_Range)) (v_x54 : Int) (v_y56 : S_box_Range) : Nat → Int → (List S_box_Range) → Option G_box_Nest_L1_R
  | 0, _, _ => none
  | k + 1, v_m61, v_w62 =>
    if (wi .i64 (v_k57 + v_m61)) < v_y56.fN then
     (G_box_To n v_outer50 (wi .i64 ((wi .i64 (v_y56.fOut + v_k57)) + v_m61))).bind fun (v_r64 : (Int × Int)) =>
     if v_r64.2 = 0 then
      if v_r64.1 = (wi .i64 (v_r59.1 + v_m61)) then
       G_box_Nest_L1 n v_outer50 v_k57 v_r59 v_inner51 v_x54 v_y56 k (wi .i64 (v_m61 + 1)) v_w62
      else
       some (.x0 v_m61 v_w62)
     else
      some (.x0 v_m61 v_w62)
    else
     some (.x0 v_m61 v_w62)
theorem G_box_Nest_L1_ok {Fi : Ex → PS → Prop} (hF : KC 95 Fi) (ks : List Fr) (n : Nat) (v_outer50 : (List S_box_Range)) (v_k57 : Int) (v_r59 : (Int × Int)) (v_inner51 : (List S_box_Range)) (v_x54 : Int) (v_y56 : S_box_Range)  : ∀ (k : Nat) (v_m61 : Int) (v_w62 : (List S_box_Range)) (o : G_box_Nest_L1_R), G_box_Nest_L1 n v_outer50 v_k57 v_r59 v_inner51 v_x54 v_y56 k v_m61 v_w62 = some o → RunE Try.prog 95 Fi ks (G_box_Nest_L1_ex o) (G_box_Nest_L1_st v_outer50 v_k57 v_r59 v_inner51 v_x54 v_y56 o) → RunE Try.prog 95 Fi (.l k (cP (cB (cL (cR (cR (cR (cB (cR (cP (cB (cR (cR (cB (cL (cR (cR (cP (cB (cR (cL (cR (cR (cR (cR (bodyOf Try.f35))))))))))))))))))))))))) :: ks) .normal (G_box_Nest_L1_hd v_outer50 v_k57 v_r59 v_inner51 v_x54 v_y56 v_m61 v_w62)
  | 0, v_m61, v_w62, o, h, q => by rw [G_box_Nest_L1] at h; cases h
  | k + 1, v_m61, v_w62, o, h, q => by
    rw [G_box_Nest_L1] at h
    by_cases h66 : (wi .i64 (v_k57 + v_m61)) < v_y56.fN
    · rw [if_pos h66] at h
      obtain ⟨v_r64, h71, h⟩ := bind_some h
      by_cases h73 : v_r64.2 = 0
      · rw [if_pos h73] at h
        by_cases h74 : v_r64.1 = (wi .i64 (v_r59.1 + v_m61))
        · rw [if_pos h74] at h
          exact pkk_sound TTok mix hF 16 (hs := [.c, .t true, .c, .r (.tup [(eI .i64) v_r64.1, (eI .i64) v_r64.2]), .t false, .c, .c, .c, .c, .t false]) (ts := []) (s := [0, 1]) (l := [0, 8, 10, 11, 12, 14, 27, 28, 29]) (by kernel_rfl) (by kernel_rfl) (.cons (dt h66) (.cons (G_box_To_ok n v_outer50 (wi .i64 ((wi .i64 (v_y56.fOut + v_k57)) + v_m61)) _ h71) (.cons (nf h73) (.cons (nf h74) .nil)))) (G_box_Nest_L1_ok hF ks n v_outer50 v_k57 v_r59 v_inner51 v_x54 v_y56 k (wi .i64 (v_m61 + 1)) v_w62 _ h q)
        · rw [if_neg h74] at h
          cases h
          exact pkk_sound TTok mix hF 17 (hs := [.c, .t true, .c, .r (.tup [(eI .i64) v_r64.1, (eI .i64) v_r64.2]), .t false, .c, .c, .c, .c, .t true]) (ts := []) (s := [0, 1]) (l := [0, 8, 10, 11, 12, 14, 27, 28, 29]) (by kernel_rfl) (by kernel_rfl) (.cons (dt h66) (.cons (G_box_To_ok n v_outer50 (wi .i64 ((wi .i64 (v_y56.fOut + v_k57)) + v_m61)) _ h71) (.cons (nf h73) (.cons (nt h74) .nil)))) q
      · rw [if_neg h73] at h
        cases h
        exact pkk_sound TTok mix hF 17 (hs := [.c, .t true, .c, .r (.tup [(eI .i64) v_r64.1, (eI .i64) v_r64.2]), .t true, .c, .c, .c, .c, .c]) (ts := []) (s := [0, 1]) (l := [0, 8, 10, 11, 12, 14, 27, 28, 29]) (by kernel_rfl) (by kernel_rfl) (.cons (dt h66) (.cons (G_box_To_ok n v_outer50 (wi .i64 ((wi .i64 (v_y56.fOut + v_k57)) + v_m61)) _ h71) (.cons (nt h73) .nil))) q
    · rw [if_neg h66] at h
      cases h
      exact pkk_sound TTok mix hF 8 (hs := [.c, .t false]) (ts := []) (s := [0, 1]) (l := [0, 8, 10, 11, 12, 14, 27, 28, 29]) (by kernel_rfl) (by kernel_rfl) (.cons (df h66) .nil) q
inductive G_box_Nest_L2_R where
  | x0 (v_x60 : Int)
  | x1 (v_w75 : (List S_box_Range))
def G_box_Nest_L2_ex : G_box_Nest_L2_R → Ex
  | .x0 _ => .ret
  | .x1 _ => .exit 2
def G_box_Nest_L2_st (v_outer50 : (List S_box_Range)) (v_inner51 : (List S_box_Range)) (v_x54 : Int) (v_y56 : S_box_Range) : G_box_Nest_L2_R → PS
  | .x0 v_x60 => ⟨[dd, dd, dd, dd, .d (vnil), .d (.v (.int .i64 v_x60)), dd, dd, dd, dd, dd, dd, dd, dd, dd, dd, dd, dd, dd, dd, dd, dd, dd, dd, dd, dd, dd, dd, dd, dd, dd, dd, dd, dd, dd, dd, dd, dd, dd, dd, dd, dd, dd, dd, dd, dd, dd, dd, dd, dd, dd, dd, dd, dd, dd, dd, dd, dd, dd, dd, dd, dd, dd, dd, dd, dd, dd, dd, dd, dd, dd, dd, dd, dd, dd, dd, dd, dd, dd, dd, dd, dd, dd, dd, dd, dd, dd, dd, dd, dd, dd, dd, dd, dd, dd], []⟩
  | .x1 v_w75 => ⟨[.d (.sl (v_outer50.map eS_box_Range)), dd, dd, dd, dd, dd, dd, dd, .srf 0, dd, dd, dd, dd, dd, dd, dd, dd, dd, dd, dd, dd, dd, dd, dd, dd, dd, dd, .d (.sl (v_inner51.map eS_box_Range)), .d (.v (.int .i64 (v_inner51.length : Int))), .d (.v (.int .i64 v_x54)), dd, dd, dd, dd, dd, dd, dd, dd, dd, dd, dd, dd, dd, dd, dd, dd, dd, dd, dd, dd, dd, dd, dd, dd, dd, dd, dd, dd, dd, dd, dd, dd, dd, dd, dd, dd, dd, dd, dd, dd, dd, dd, dd, dd, dd, dd, dd, dd, dd, dd, dd, dd, dd, dd, dd, dd, dd, dd, dd, dd, dd, dd, dd, dd, dd], [.row 74 3 (v_w75.map eS_box_Range)]⟩
def G_box_Nest_L2_hd (v_outer50 : (List S_box_Range)) (v_inner51 : (List S_box_Range)) (v_x54 : Int) (v_y56 : S_box_Range) (v_k57 : Int) (v_w58 : (List S_box_Range)) : PS := ⟨[.d (.sl (v_outer50.map eS_box_Range)), dd, dd, dd, dd, dd, dd, dd, .srf 0, dd, .ref 1 0, .d (.v (.int .i64 v_k57)), dd, dd, dd, dd, dd, dd, dd, dd, dd, dd, dd, dd, dd, dd, dd, .d (.sl (v_inner51.map eS_box_Range)), .d (.v (.int .i64 (v_inner51.length : Int))), .d (.v (.int .i64 v_x54)), dd, dd, dd, dd, dd, dd, dd, dd, dd, dd, dd, dd, dd, dd, dd, dd, dd, dd, dd, dd, dd, dd, dd, dd, dd, dd, dd, dd, dd, dd, dd, dd, dd, dd, dd, dd, dd, dd, dd, dd, dd, dd, dd, dd, dd, dd, dd, dd, dd, dd, dd, dd, dd, dd, dd, dd, dd, dd, dd, dd, dd, dd, dd, dd, dd], [.row 74 3 (v_w58.map eS_box_Range), .box [.d (.v (.int .i64 v_y56.fIn)), .d (.v (.int .i64 v_y56.fOut)), .d (.v (.int .i64 v_y56.fN))]]⟩
def G_box_Nest_L2 (n : Nat) (v_outer50 : (List S_box_Range)) (v_inner51 : (List S_box_Range)) (v_x54 : Int) (v_y56 : S_box_Range) : Nat → Int → (List S_box_Range) → Option G_box_Nest_L2_R
  | 0, _, _ => none
  | k + 1, v_k57, v_w58 =>
    if v_k57 < v_y56.fN then
     (G_box_To n v_outer50 (wi .i64 (v_y56.fOut + v_k57))).bind fun (v_r59 : (Int × Int)) =>
     if v_r59.2 = 0 then
      (G_box_Nest_L1 n v_outer50 v_k57 v_r59 v_inner51 v_x54 v_y56 n 1 v_w58).bind fun v_o71 => match v_o71 with
      | .x0 v_z72 v_z73 =>
        (app 24 v_z73 ([(S_box_Range.mk (wi .i64 (v_y56.fIn + v_k57)) v_r59.1 v_z72)])).bind fun (v_a74 : (List S_box_Range)) =>
        G_box_Nest_L2 n v_outer50 v_inner51 v_x54 v_y56 k (wi .i64 (v_k57 + v_z72)) v_a74
     else
      some (.x0 v_r59.2)
    else
     some (.x1 v_w58)
theorem G_box_Nest_L2_ok {Fi : Ex → PS → Prop} (hF : KC 95 Fi) (ks : List Fr) (n : Nat) (v_outer50 : (List S_box_Range)) (v_inner51 : (List S_box_Range)) (v_x54 : Int) (v_y56 : S_box_Range)  : ∀ (k : Nat) (v_k57 : Int) (v_w58 : (List S_box_Range)) (o : G_box_Nest_L2_R), G_box_Nest_L2 n v_outer50 v_inner51 v_x54 v_y56 k v_k57 v_w58 = some o → RunE Try.prog 95 Fi ks (G_box_Nest_L2_ex o) (G_box_Nest_L2_st v_outer50 v_inner51 v_x54 v_y56 o) → RunE Try.prog 95 Fi (.l k (cP (cB (cR (cR (cB (cL (cR (cR (cP (cB (cR (cL (cR (cR (cR (cR (bodyOf Try.f35))))))))))))))))) :: ks) .normal (G_box_Nest_L2_hd v_outer50 v_inner51 v_x54 v_y56 v_k57 v_w58)
  | 0, v_k57, v_w58, o, h, q => by rw [G_box_Nest_L2] at h; cases h
  | k + 1, v_k57, v_w58, o, h, q => by
    rw [G_box_Nest_L2] at h
    by_cases h62 : v_k57 < v_y56.fN
    · rw [if_pos h62] at h
      obtain ⟨v_r59, h63, h⟩ := bind_some h
      by_cases h65 : v_r59.2 = 0
      · rw [if_pos h65] at h
        obtain ⟨v_o71, h75, h⟩ := bind_some h
        refine pkk_sound TTok mix hF 19 (hs := [.c, .t true, .c, .r (.tup [(eI .i64) v_r59.1, (eI .i64) v_r59.2]), .t false, .n n]) (ts := []) (s := [0, 1]) (l := [0, 8, 10, 11, 12, 14, 27, 28, 29]) (by kernel_rfl) (by kernel_rfl) (.cons (dt h62) (.cons (G_box_To_ok n v_outer50 (wi .i64 (v_y56.fOut + v_k57)) _ h63) (.cons (nf h65) .nil))) (G_box_Nest_L1_ok hF (.b 4 :: .s (cR (cR (cR (cR (cB (cR (cP (cB (cR (cR (cB (cL (cR (cR (cP (cB (cR (cL (cR (cR (cR (cR (bodyOf Try.f35))))))))))))))))))))))) :: .b 3 :: .l k (cP (cB (cR (cR (cB (cL (cR (cR (cP (cB (cR (cL (cR (cR (cR (cR (bodyOf Try.f35))))))))))))))))) :: ks) n v_outer50 v_k57 v_r59 v_inner51 v_x54 v_y56 n 1 v_w58 _ h75 ?_)
        cases v_o71 with
        | x0 v_z72 v_z73 =>
          dsimp only at h
          obtain ⟨v_a74, h76, h⟩ := bind_some h
          exact pkk_sound TTok mix hF 5 (hs := [.c, .bd, .w (v_a74.map eS_box_Range)]) (ts := []) (s := [29, 1]) (l := [0, 8, 10, 11, 27, 28, 29]) (by kernel_rfl) (by kernel_rfl) (.cons (app_ob (f := eS_box_Range) (s := 3) h76 (fun _ => rfl)).1 (.cons (app_ob (f := eS_box_Range) (s := 3) h76 (fun _ => rfl)).2.1 (.cons (app_ob (f := eS_box_Range) (s := 3) h76 (fun _ => rfl)).2.2.1 (.cons (app_ob (f := eS_box_Range) (s := 3) h76 (fun _ => rfl)).2.2.2 .nil)))) (G_box_Nest_L2_ok hF ks n v_outer50 v_inner51 v_x54 v_y56 k (wi .i64 (v_k57 + v_z72)) v_a74 _ h q)
      · rw [if_neg h65] at h
        cases h
        exact pkk_sound TTok mix hF 19 (hs := [.c, .t true, .c, .r (.tup [(eI .i64) v_r59.1, (eI .i64) v_r59.2]), .t true]) (ts := []) (s := []) (l := [4, 5]) (by kernel_rfl) (by kernel_rfl) (.cons (dt h62) (.cons (G_box_To_ok n v_outer50 (wi .i64 (v_y56.fOut + v_k57)) _ h63) (.cons (nt h65) .nil))) q
    · rw [if_neg h62] at h
      cases h
      exact pkk_sound TTok mix hF 8 (hs := [.c, .t false]) (ts := []) (s := [0]) (l := [0, 8, 27, 28, 29]) (by kernel_rfl) (by kernel_rfl) (.cons (df h62) .nil) q
inductive G_box_Nest_L3_R where
  | x0 (v_x78 : Int)
  | x1 (v_w80 : (List S_box_Range))
def G_box_Nest_L3_ex : G_box_Nest_L3_R → Ex
  | .x0 _ => .ret
  | .x1 _ => .exit 0
def G_box_Nest_L3_st (v_outer50 : (List S_box_Range)) (v_inner51 : (List S_box_Range)) : G_box_Nest_L3_R → PS
  | .x0 v_x78 => ⟨[dd, dd, dd, dd, .d (vnil), .d (.v (.int .i64 v_x78)), dd, dd, dd, dd, dd, dd, dd, dd, dd, dd, dd, dd, dd, dd, dd, dd, dd, dd, dd, dd, dd, dd, dd, dd, dd, dd, dd, dd, dd, dd, dd, dd, dd, dd, dd, dd, dd, dd, dd, dd, dd, dd, dd, dd, dd, dd, dd, dd, dd, dd, dd, dd, dd, dd, dd, dd, dd, dd, dd, dd, dd, dd, dd, dd, dd, dd, dd, dd, dd, dd, dd, dd, dd, dd, dd, dd, dd, dd, dd, dd, dd, dd, dd, dd, dd, dd, dd, dd, dd], []⟩
  | .x1 v_w80 => ⟨[dd, dd, dd, dd, dd, dd, dd, dd, .srf 0, dd, dd, dd, dd, dd, dd, dd, dd, dd, dd, dd, dd, dd, dd, dd, dd, dd, dd, dd, dd, dd, dd, dd, dd, dd, dd, dd, dd, dd, dd, dd, dd, dd, dd, dd, dd, dd, dd, dd, dd, dd, dd, dd, dd, dd, dd, dd, dd, dd, dd, dd, dd, dd, dd, dd, dd, dd, dd, dd, dd, dd, dd, dd, dd, dd, dd, dd, dd, dd, dd, dd, dd, dd, dd, dd, dd, dd, dd, dd, dd, dd, dd, dd, dd, dd, dd], [.row 74 3 (v_w80.map eS_box_Range)]⟩
def G_box_Nest_L3_hd (v_outer50 : (List S_box_Range)) (v_inner51 : (List S_box_Range)) (v_x54 : Int) (v_w55 : (List S_box_Range)) : PS := ⟨[.d (.sl (v_outer50.map eS_box_Range)), dd, dd, dd, dd, dd, dd, dd, .srf 0, dd, dd, dd, dd, dd, dd, dd, dd, dd, dd, dd, dd, dd, dd, dd, dd, dd, dd, .d (.sl (v_inner51.map eS_box_Range)), .d (.v (.int .i64 (v_inner51.length : Int))), .d (.v (.int .i64 v_x54)), dd, dd, dd, dd, dd, dd, dd, dd, dd, dd, dd, dd, dd, dd, dd, dd, dd, dd, dd, dd, dd, dd, dd, dd, dd, dd, dd, dd, dd, dd, dd, dd, dd, dd, dd, dd, dd, dd, dd, dd, dd, dd, dd, dd, dd, dd, dd, dd, dd, dd, dd, dd, dd, dd, dd, dd, dd, dd, dd, dd, dd, dd, dd, dd, dd], [.row 74 3 (v_w55.map eS_box_Range)]⟩
def G_box_Nest_L3 (n : Nat) (v_outer50 : (List S_box_Range)) (v_inner51 : (List S_box_Range)) : Nat → Int → (List S_box_Range) → Option G_box_Nest_L3_R
  | 0, _, _ => none
  | k + 1, v_x54, v_w55 =>
    if v_x54 < (v_inner51.length : Int) then
     (getI v_inner51 v_x54).bind fun (v_y56 : S_box_Range) =>
     (G_box_Nest_L2 n v_outer50 v_inner51 v_x54 v_y56 n 0 v_w55).bind fun v_o76 => match v_o76 with
     | .x0 v_z77 =>
       some (.x0 v_z77)
     | .x1 v_z79 =>
       G_box_Nest_L3 n v_outer50 v_inner51 k (wi .i64 (v_x54 + 1)) v_z79
    else
     some (.x1 v_w55)
theorem G_box_Nest_L3_ok {Fi : Ex → PS → Prop} (hF : KC 95 Fi) (ks : List Fr) (n : Nat) (v_outer50 : (List S_box_Range)) (v_inner51 : (List S_box_Range))  : ∀ (k : Nat) (v_x54 : Int) (v_w55 : (List S_box_Range)) (o : G_box_Nest_L3_R), G_box_Nest_L3 n v_outer50 v_inner51 k v_x54 v_w55 = some o → RunE Try.prog 95 Fi ks (G_box_Nest_L3_ex o) (G_box_Nest_L3_st v_outer50 v_inner51 o) → RunE Try.prog 95 Fi (.l k (cP (cB (cR (cL (cR (cR (cR (cR (bodyOf Try.f35))))))))) :: ks) .normal (G_box_Nest_L3_hd v_outer50 v_inner51 v_x54 v_w55)
  | 0, v_x54, v_w55, o, h, q => by rw [G_box_Nest_L3] at h; cases h
  | k + 1, v_x54, v_w55, o, h, q => by
    rw [G_box_Nest_L3] at h
    by_cases h60 : v_x54 < (v_inner51.length : Int)
    · rw [if_pos h60] at h
      obtain ⟨v_y56, h61, h⟩ := bind_some h
      obtain ⟨v_o76, h77, h⟩ := bind_some h
      refine pkk_sound TTok mix hF 14 (hs := [.t true, .y (eS_box_Range v_y56), .c, .n n]) (ts := []) (s := [0, 10]) (l := [0, 8, 10, 11, 27, 28, 29]) (by kernel_rfl) (by kernel_rfl) (.cons (dt h60) (.cons (getI_ob (f := eS_box_Range) h61) (.cons (show 0 + 3 ≤ 3 by decide) .nil))) (G_box_Nest_L2_ok hF (.b 2 :: .b 1 :: .s (cR (cR (cR (cP (cB (cR (cL (cR (cR (cR (cR (bodyOf Try.f35)))))))))))) :: .l k (cP (cB (cR (cL (cR (cR (cR (cR (bodyOf Try.f35))))))))) :: ks) n v_outer50 v_inner51 v_x54 v_y56 n 0 v_w55 _ h77 ?_)
      cases v_o76 with
      | x0 v_z77 =>
        dsimp only at h
        cases h
        exact pkk_sound TTok mix hF 4 (hs := []) (ts := []) (s := []) (l := [4, 5]) (by kernel_rfl) (by kernel_rfl) .nil q
      | x1 v_z79 =>
        dsimp only at h
        exact pkk_sound TTok mix hF 3 (hs := []) (ts := []) (s := [0]) (l := [0, 8, 27, 28, 29]) (by kernel_rfl) (by kernel_rfl) .nil (G_box_Nest_L3_ok hF ks n v_outer50 v_inner51 k (wi .i64 (v_x54 + 1)) v_z79 _ h q)
    · rw [if_neg h60] at h
      cases h
      exact pkk_sound TTok mix hF 8 (hs := [.t false]) (ts := []) (s := [0]) (l := [8]) (by kernel_rfl) (by kernel_rfl) (.cons (df h60) .nil) q
/- ringhall/box.Nest -/
def G_box_Nest (n : Nat) (v_outer50 : (List S_box_Range)) (v_inner51 : (List S_box_Range)) : Option ((List S_box_Range) × Int) :=
  (G_box_Check n v_outer50).bind fun (v_r52 : (Int)) =>
  if v_r52 = 0 then
   (G_box_Check n v_inner51).bind fun (v_r53 : (Int)) =>
   if v_r53 = 0 then
    (G_box_Nest_L3 n v_outer50 v_inner51 n 0 ([] : List S_box_Range)).bind fun v_o81 => match v_o81 with
    | .x0 v_z82 =>
      some (([] : (List S_box_Range)), v_z82)
    | .x1 v_z83 =>
      if (v_z83.length : Int) > 4 then
       some (([] : (List S_box_Range)), 6)
      else
       some (v_z83, 0)
   else
    some (([] : (List S_box_Range)), v_r53)
  else
   some (([] : (List S_box_Range)), v_r52)
theorem G_box_Nest_ok (n : Nat) (v_outer50 : (List S_box_Range)) (v_inner51 : (List S_box_Range)) (r : (List S_box_Range) × Int) (h : G_box_Nest n v_outer50 v_inner51 = some r) : Ret Try.prog 35 [(eL eS_box_Range) v_outer50, (eL eS_box_Range) v_inner51] (.tup [(eL eS_box_Range) r.1, (eI .i64) r.2]) := by
  refine ret_run (n := 95) (fn := Try.f35) (c := bodyOf Try.f35) (by kernel_rfl) (by kernel_rfl) (by kernel_rfl) (by kernel_rfl) ?_
  have hF : KC 95 (FinR Try.prog Try.f35 (.tup [(eL eS_box_Range) r.1, (eI .i64) r.2])) := FinR.kc' (by kernel_rfl)
  unfold G_box_Nest at h
  obtain ⟨v_r52, h54, h⟩ := bind_some h
  by_cases h56 : v_r52 = 0
  · rw [if_pos h56] at h
    obtain ⟨v_r53, h57, h⟩ := bind_some h
    by_cases h59 : v_r53 = 0
    · rw [if_pos h59] at h
      obtain ⟨v_o81, h78, h⟩ := bind_some h
      refine pkk_sound TTok mix hF 23 (hs := [.r ((eI .i64) v_r52), .t false, .r ((eI .i64) v_r53), .t false, .u (.d (.v (.int .i64 (v_inner51.length : Int)))), .n n]) (ts := [(8, 74, 3)]) (s := [48]) (l := [0, 8, 27, 28, 29]) (by kernel_rfl) (by kernel_rfl) (.cons (G_box_Check_ok n v_outer50 _ h54) (.cons (nf h56) (.cons (G_box_Check_ok n v_inner51 _ h57) (.cons (nf h59) (.cons (len_ob (f := eS_box_Range) (l := v_inner51)) .nil))))) (G_box_Nest_L3_ok hF (.b 0 :: .s (cR (cR (cR (cR (cR (bodyOf Try.f35)))))) :: []) n v_outer50 v_inner51 n 0 ([] : List S_box_Range) _ h78 ?_)
      cases v_o81 with
      | x0 v_z82 =>
        dsimp only at h
        obtain rfl := Option.some.inj h
        exact pend_sound TTok mix 2 (hs := []) (by kernel_rfl) (by kernel_rfl) (by kernel_rfl) .nil
      | x1 v_z83 =>
        dsimp only at h
        by_cases h79 : (v_z83.length : Int) > 4
        · rw [if_pos h79] at h
          obtain rfl := Option.some.inj h
          exact pend_sound TTok mix 9 (hs := [.u (.d (.v (.int .i64 (v_z83.length : Int)))), .t true]) (by kernel_rfl) (by kernel_rfl) (by kernel_rfl) (.cons (len_ob (f := eS_box_Range) (l := v_z83)) (.cons (dt h79) .nil))
        · rw [if_neg h79] at h
          obtain rfl := Option.some.inj h
          exact pend_sound TTok mix 9 (hs := [.u (.d (.v (.int .i64 (v_z83.length : Int)))), .t false]) (by kernel_rfl) (by kernel_rfl) (by kernel_rfl) (.cons (len_ob (f := eS_box_Range) (l := v_z83)) (.cons (df h79) .nil))
    · rw [if_neg h59] at h
      obtain rfl := Option.some.inj h
      exact pend_sound TTok mix 19 (hs := [.r ((eI .i64) v_r52), .t false, .r ((eI .i64) v_r53), .t true]) (by kernel_rfl) (by kernel_rfl) (by kernel_rfl) (.cons (G_box_Check_ok n v_outer50 _ h54) (.cons (nf h56) (.cons (G_box_Check_ok n v_inner51 _ h57) (.cons (nt h59) .nil))))
  · rw [if_neg h56] at h
    obtain rfl := Option.some.inj h
    exact pend_sound TTok mix 12 (hs := [.r ((eI .i64) v_r52), .t true]) (by kernel_rfl) (by kernel_rfl) (by kernel_rfl) (.cons (G_box_Check_ok n v_outer50 _ h54) (.cons (nt h56) .nil))
inductive G_slices_Equal_box_Range_box_Range_L1_R where
  | x0 (v_x92 : Bool)
  | x1 
def G_slices_Equal_box_Range_box_Range_L1_ex : G_slices_Equal_box_Range_box_Range_L1_R → Ex
  | .x0 _ => .ret
  | .x1  => .exit 0
def G_slices_Equal_box_Range_box_Range_L1_st (v_s85 : (List S_box_Range)) (v_s86 : (List S_box_Range)) : G_slices_Equal_box_Range_box_Range_L1_R → PS
  | .x0 v_x92 => ⟨[dd, dd, dd, dd, .d (.v (.bool v_x92)), dd, dd, dd, dd, dd, dd, dd, dd, dd, dd, dd, dd, dd, dd, dd, dd, dd, dd, dd, dd, dd], []⟩
  | .x1  => ⟨[dd, dd, dd, dd, dd, dd, dd, dd, dd, dd, dd, dd, dd, dd, dd, dd, dd, dd, dd, dd, dd, dd, dd, dd, dd, dd], []⟩
def G_slices_Equal_box_Range_box_Range_L1_hd (v_s85 : (List S_box_Range)) (v_s86 : (List S_box_Range)) (v_x87 : Int) : PS := ⟨[.d (.sl (v_s85.map eS_box_Range)), .d (.sl (v_s86.map eS_box_Range)), dd, dd, dd, dd, dd, dd, dd, dd, dd, dd, .d (.v (.int .i64 (v_s85.length : Int))), .d (.v (.int .i64 v_x87)), dd, dd, dd, dd, dd, dd, dd, dd, dd, dd, dd, dd], []⟩
def G_slices_Equal_box_Range_box_Range_L1 (n : Nat) (v_s85 : (List S_box_Range)) (v_s86 : (List S_box_Range)) : Nat → Int → Option G_slices_Equal_box_Range_box_Range_L1_R
  | 0, _ => none
  | k + 1, v_x87 =>
    if v_x87 < (v_s85.length : Int) then
     (getI v_s85 v_x87).bind fun (v_y90 : S_box_Range) =>
     (getI v_s86 v_x87).bind fun (v_y91 : S_box_Range) =>
     if (eqRes .neq (eqS_box_Range v_y90 v_y91)) = true then
      some (.x0 false)
     else
      G_slices_Equal_box_Range_box_Range_L1 n v_s85 v_s86 k (wi .i64 (v_x87 + 1))
    else
     some (.x1 )
theorem G_slices_Equal_box_Range_box_Range_L1_ok {Fi : Ex → PS → Prop} (hF : KC 26 Fi) (ks : List Fr) (n : Nat) (v_s85 : (List S_box_Range)) (v_s86 : (List S_box_Range))  : ∀ (k : Nat) (v_x87 : Int) (o : G_slices_Equal_box_Range_box_Range_L1_R), G_slices_Equal_box_Range_box_Range_L1 n v_s85 v_s86 k v_x87 = some o → RunE Try.prog 26 Fi ks (G_slices_Equal_box_Range_box_Range_L1_ex o) (G_slices_Equal_box_Range_box_Range_L1_st v_s85 v_s86 o) → RunE Try.prog 26 Fi (.l k (cP (cB (cR (cL (cR (cR (bodyOf Try.f39))))))) :: ks) .normal (G_slices_Equal_box_Range_box_Range_L1_hd v_s85 v_s86 v_x87)
  | 0, v_x87, o, h, q => by rw [G_slices_Equal_box_Range_box_Range_L1] at h; cases h
  | k + 1, v_x87, o, h, q => by
    rw [G_slices_Equal_box_Range_box_Range_L1] at h
    by_cases h85 : v_x87 < (v_s85.length : Int)
    · rw [if_pos h85] at h
      obtain ⟨v_y90, h89, h⟩ := bind_some h
      obtain ⟨v_y91, h90, h⟩ := bind_some h
      by_cases h91 : (eqRes .neq (eqS_box_Range v_y90 v_y91)) = true
      · rw [if_pos h91] at h
        cases h
        exact pkk_sound TTok mix hF 19 (hs := [.t true, .y (eS_box_Range v_y90), .y (eS_box_Range v_y91), .q (eqS_box_Range v_y90 v_y91), .t true]) (ts := []) (s := []) (l := [4]) (by kernel_rfl) (by kernel_rfl) (.cons (dt h85) (.cons (getI_ob (f := eS_box_Range) h89) (.cons (getI_ob (f := eS_box_Range) h90) (.cons (eqS_box_Range_ok v_y90 v_y91) (.cons h91 .nil))))) q
      · rw [if_neg h91] at h
        exact pkk_sound TTok mix hF 16 (hs := [.t true, .y (eS_box_Range v_y90), .y (eS_box_Range v_y91), .q (eqS_box_Range v_y90 v_y91), .t false]) (ts := []) (s := []) (l := [0, 1, 12, 13]) (by kernel_rfl) (by kernel_rfl) (.cons (dt h85) (.cons (getI_ob (f := eS_box_Range) h89) (.cons (getI_ob (f := eS_box_Range) h90) (.cons (eqS_box_Range_ok v_y90 v_y91) (.cons (vf h91) .nil))))) (G_slices_Equal_box_Range_box_Range_L1_ok hF ks n v_s85 v_s86 k (wi .i64 (v_x87 + 1)) _ h q)
    · rw [if_neg h85] at h
      cases h
      exact pkk_sound TTok mix hF 8 (hs := [.t false]) (ts := []) (s := []) (l := []) (by kernel_rfl) (by kernel_rfl) (.cons (df h85) .nil) q
/- slices.Equal[[]ringhall/box.Range,ringhall/box.Range] -/
def G_slices_Equal_box_Range_box_Range (n : Nat) (v_s85 : (List S_box_Range)) (v_s86 : (List S_box_Range)) : Option (Bool) :=
  if (v_s85.length : Int) = (v_s86.length : Int) then
   (G_slices_Equal_box_Range_box_Range_L1 n v_s85 v_s86 n 0).bind fun v_o93 => match v_o93 with
   | .x0 v_z94 =>
     some v_z94
   | .x1  =>
     some true
  else
   some false
theorem G_slices_Equal_box_Range_box_Range_ok (n : Nat) (v_s85 : (List S_box_Range)) (v_s86 : (List S_box_Range)) (r : Bool) (h : G_slices_Equal_box_Range_box_Range n v_s85 v_s86 = some r) : Ret Try.prog 39 [(eL eS_box_Range) v_s85, (eL eS_box_Range) v_s86] (eB r) := by
  refine ret_run (n := 26) (fn := Try.f39) (c := bodyOf Try.f39) (by kernel_rfl) (by kernel_rfl) (by kernel_rfl) (by kernel_rfl) ?_
  have hF : KC 26 (FinR Try.prog Try.f39 (eB r)) := FinR.kc' (by kernel_rfl)
  unfold G_slices_Equal_box_Range_box_Range at h
  by_cases h84 : (v_s85.length : Int) = (v_s86.length : Int)
  · rw [if_pos h84] at h
    obtain ⟨v_o93, h92, h⟩ := bind_some h
    refine pkk_sound TTok mix hF 12 (hs := [.u (.d (.v (.int .i64 (v_s85.length : Int)))), .u (.d (.v (.int .i64 (v_s86.length : Int)))), .t false, .u (.d (.v (.int .i64 (v_s85.length : Int)))), .n n]) (ts := []) (s := []) (l := [0, 1, 12, 13]) (by kernel_rfl) (by kernel_rfl) (.cons (len_ob (f := eS_box_Range) (l := v_s85)) (.cons (len_ob (f := eS_box_Range) (l := v_s86)) (.cons (nf h84) (.cons (len_ob (f := eS_box_Range) (l := v_s85)) .nil)))) (G_slices_Equal_box_Range_box_Range_L1_ok hF (.b 0 :: .s (cR (cR (cR (bodyOf Try.f39)))) :: []) n v_s85 v_s86 n 0 _ h92 ?_)
    cases v_o93 with
    | x0 v_z94 =>
      dsimp only at h
      obtain rfl := Option.some.inj h
      exact pend_sound TTok mix 2 (hs := []) (by kernel_rfl) (by kernel_rfl) (by kernel_rfl) .nil
    | x1  =>
      dsimp only at h
      obtain rfl := Option.some.inj h
      exact pend_sound TTok mix 4 (hs := []) (by kernel_rfl) (by kernel_rfl) (by kernel_rfl) .nil
  · rw [if_neg h84] at h
    obtain rfl := Option.some.inj h
    exact pend_sound TTok mix 10 (hs := [.u (.d (.v (.int .i64 (v_s85.length : Int)))), .u (.d (.v (.int .i64 (v_s86.length : Int)))), .t true]) (by kernel_rfl) (by kernel_rfl) (by kernel_rfl) (.cons (len_ob (f := eS_box_Range) (l := v_s85)) (.cons (len_ob (f := eS_box_Range) (l := v_s86)) (.cons (nt h84) .nil)))
inductive G_ringlaw5_boxes_C1_R where
  | x0 (v_x97 : Bool)
def G_ringlaw5_boxes_C1_ex : G_ringlaw5_boxes_C1_R → Ex
  | .x0 _ => .normal
def G_ringlaw5_boxes_C1_st (v_r49 : (Int × Int)) (v_r84 : ((List S_box_Range) × Int)) : G_ringlaw5_boxes_C1_R → PS
  | .x0 v_x97 => ⟨[.d (.v (.bool v_x97)), dd, dd, dd, dd, dd, dd, dd, dd, dd, dd, dd, dd, dd, dd, dd, dd, dd, dd, dd, dd, dd, dd, dd, dd, dd, dd, dd, dd, dd, dd, dd, dd, dd, dd], []⟩
def G_ringlaw5_boxes_C1_hd (v_r49 : (Int × Int)) (v_r84 : ((List S_box_Range) × Int))  : PS := ⟨[dd, .d (.v (.int .i64 v_r49.1)), .d (.v (.int .i64 v_r49.2)), .d (.sl (v_r84.1.map eS_box_Range)), .d (.v (.int .i64 v_r84.2)), dd, dd, dd, dd, dd, dd, dd, dd, dd, dd, dd, dd, dd, dd, dd, dd, dd, dd, dd, dd, dd, dd, dd, dd, dd, dd, dd, dd, dd, dd], []⟩
def G_ringlaw5_boxes_C1 (n : Nat) (v_r49 : (Int × Int)) (v_r84 : ((List S_box_Range) × Int)) : Option G_ringlaw5_boxes_C1_R :=
  if v_r49.2 = 0 then
   if v_r84.2 = 0 then
    if v_r49.1 = 53 then
     (G_slices_Equal_box_Range_box_Range n v_r84.1 ([(S_box_Range.mk 5 53 2)])).bind fun (v_r96 : (Bool)) =>
     some (.x0 v_r96)
    else
     some (.x0 false)
   else
    some (.x0 false)
  else
   some (.x0 false)
theorem G_ringlaw5_boxes_C1_ok {Fi : Ex → PS → Prop} (hF : KC 35 Fi) (ks : List Fr) (n : Nat) (v_r49 : (Int × Int)) (v_r84 : ((List S_box_Range) × Int))  (o : G_ringlaw5_boxes_C1_R) (h : G_ringlaw5_boxes_C1 n v_r49 v_r84 = some o) (q : RunE Try.prog 35 Fi ks (G_ringlaw5_boxes_C1_ex o) (G_ringlaw5_boxes_C1_st v_r49 v_r84 o)) : RunE Try.prog 35 Fi (.s (cL (cR (cR (cR (bodyOf Try.f34))))) :: ks) .normal (G_ringlaw5_boxes_C1_hd v_r49 v_r84) := by
  unfold G_ringlaw5_boxes_C1 at h
  by_cases h94 : v_r49.2 = 0
  · rw [if_pos h94] at h
    by_cases h95 : v_r84.2 = 0
    · rw [if_pos h95] at h
      by_cases h96 : v_r49.1 = 53
      · rw [if_pos h96] at h
        obtain ⟨v_r96, h97, h⟩ := bind_some h
        cases h
        exact pkk_sound TTok mix hF 1 (hs := [.t true, .c, .t true, .c, .t true, .c, .c, .bd, .c, .r (eB v_r96)]) (ts := []) (s := []) (l := [0]) (by kernel_rfl) (by kernel_rfl) (.cons (bt h94) (.cons (bt h95) (.cons (bt h96) (.cons (G_slices_Equal_box_Range_box_Range_ok n v_r84.1 ([(S_box_Range.mk 5 53 2)]) _ h97) .nil)))) q
      · rw [if_neg h96] at h
        cases h
        exact pkk_sound TTok mix hF 1 (hs := [.t true, .c, .t true, .c, .t false, .c, .c, .c]) (ts := []) (s := []) (l := [0]) (by kernel_rfl) (by kernel_rfl) (.cons (bt h94) (.cons (bt h95) (.cons (bf h96) .nil))) q
    · rw [if_neg h95] at h
      cases h
      exact pkk_sound TTok mix hF 1 (hs := [.t true, .c, .t false, .c, .c, .c, .c, .c]) (ts := []) (s := []) (l := [0]) (by kernel_rfl) (by kernel_rfl) (.cons (bt h94) (.cons (bf h95) .nil)) q
  · rw [if_neg h94] at h
    cases h
    exact pkk_sound TTok mix hF 1 (hs := [.t false, .c, .c, .c, .c, .c, .c, .c]) (ts := []) (s := []) (l := [0]) (by kernel_rfl) (by kernel_rfl) (.cons (bf h94) .nil) q
/- ringhall/ringlaw5.boxes -/
def G_ringlaw5_boxes (n : Nat)  : Option (Bool) :=
  (G_box_To n ([(S_box_Range.mk 0 50 10)]) 3).bind fun (v_r49 : (Int × Int)) =>
  (G_box_Nest n ([(S_box_Range.mk 0 50 10)]) ([(S_box_Range.mk 5 3 2)])).bind fun (v_r84 : ((List S_box_Range) × Int)) =>
  (G_ringlaw5_boxes_C1 n v_r49 v_r84).bind fun v_o101 => match v_o101 with
  | .x0 v_z102 =>
    some v_z102
theorem G_ringlaw5_boxes_ok (n : Nat)  (r : Bool) (h : G_ringlaw5_boxes n  = some r) : Ret Try.prog 34 [] (eB r) := by
  refine ret_run (n := 35) (fn := Try.f34) (c := bodyOf Try.f34) (by kernel_rfl) (by kernel_rfl) (by kernel_rfl) (by kernel_rfl) ?_
  have hF : KC 35 (FinR Try.prog Try.f34 (eB r)) := FinR.kc' (by kernel_rfl)
  unfold G_ringlaw5_boxes at h
  obtain ⟨v_r49, h53, h⟩ := bind_some h
  obtain ⟨v_r84, h80, h⟩ := bind_some h
  obtain ⟨v_o101, h98, h⟩ := bind_some h
  refine pkk_sound TTok mix hF 7 (hs := [.bd, .r (.tup [(eI .i64) v_r49.1, (eI .i64) v_r49.2]), .bd, .bd, .r (.tup [(eL eS_box_Range) v_r84.1, (eI .i64) v_r84.2])]) (ts := []) (s := []) (l := [1, 2, 3, 4]) (by kernel_rfl) (by kernel_rfl) (.cons (G_box_To_ok n ([(S_box_Range.mk 0 50 10)]) 3 _ h53) (.cons (G_box_Nest_ok n ([(S_box_Range.mk 0 50 10)]) ([(S_box_Range.mk 5 3 2)]) _ h80) .nil)) (G_ringlaw5_boxes_C1_ok hF (.s (cR (cR (cR (cR (bodyOf Try.f34))))) :: []) n v_r49 v_r84 _ h98 ?_)
  cases v_o101 with
  | x0 v_z102 =>
    dsimp only at h
    obtain rfl := Option.some.inj h
    exact pend_sound TTok mix 1 (hs := []) (by kernel_rfl) (by kernel_rfl) (by kernel_rfl) .nil
inductive G_ringlaw5_triples_L1_R where
  | x0 (v_w112 : (List (Fin 3 → Int)))
def G_ringlaw5_triples_L1_ex : G_ringlaw5_triples_L1_R → Ex
  | .x0 _ => .exit 0
def G_ringlaw5_triples_L1_st (v_l105 : (List S_box_Range)) : G_ringlaw5_triples_L1_R → PS
  | .x0 v_w112 => ⟨[dd, dd, dd, .srf 0, dd, dd, dd, dd, dd, dd, dd, dd, dd, dd, dd, dd, dd, dd, dd, dd, dd, dd, dd, dd], [.row 71 3 (v_w112.map (fun x => PV.agg [.v (.int .i64 (x 0)), .v (.int .i64 (x 1)), .v (.int .i64 (x 2))]))]⟩
def G_ringlaw5_triples_L1_hd (v_l105 : (List S_box_Range)) (v_x106 : Int) (v_w107 : (List (Fin 3 → Int))) : PS := ⟨[dd, dd, dd, .srf 0, dd, dd, .d (.sl (v_l105.map eS_box_Range)), .d (.v (.int .i64 (v_l105.length : Int))), .d (.v (.int .i64 v_x106)), dd, dd, dd, dd, dd, dd, dd, dd, dd, dd, dd, dd, dd, dd, dd], [.row 71 3 (v_w107.map (fun x => PV.agg [.v (.int .i64 (x 0)), .v (.int .i64 (x 1)), .v (.int .i64 (x 2))]))]⟩
def G_ringlaw5_triples_L1 (n : Nat) (v_l105 : (List S_box_Range)) : Nat → Int → (List (Fin 3 → Int)) → Option G_ringlaw5_triples_L1_R
  | 0, _, _ => none
  | k + 1, v_x106, v_w107 =>
    if v_x106 < (v_l105.length : Int) then
     (getI v_l105 v_x106).bind fun (v_y110 : S_box_Range) =>
     (app 24 v_w107 ([(fun i : Fin 3 => [v_y110.fIn, v_y110.fOut, v_y110.fN].get i)])).bind fun (v_a111 : (List (Fin 3 → Int))) =>
     G_ringlaw5_triples_L1 n v_l105 k (wi .i64 (v_x106 + 1)) v_a111
    else
     some (.x0 v_w107)
theorem G_ringlaw5_triples_L1_ok {Fi : Ex → PS → Prop} (hF : KC 24 Fi) (ks : List Fr) (n : Nat) (v_l105 : (List S_box_Range))  : ∀ (k : Nat) (v_x106 : Int) (v_w107 : (List (Fin 3 → Int))) (o : G_ringlaw5_triples_L1_R), G_ringlaw5_triples_L1 n v_l105 k v_x106 v_w107 = some o → RunE Try.prog 24 Fi ks (G_ringlaw5_triples_L1_ex o) (G_ringlaw5_triples_L1_st v_l105 o) → RunE Try.prog 24 Fi (.l k (cP (cB (cR (cL (cR (cR (bodyOf Try.f36))))))) :: ks) .normal (G_ringlaw5_triples_L1_hd v_l105 v_x106 v_w107)
  | 0, v_x106, v_w107, o, h, q => by rw [G_ringlaw5_triples_L1] at h; cases h
  | k + 1, v_x106, v_w107, o, h, q => by
    rw [G_ringlaw5_triples_L1] at h
    by_cases h102 : v_x106 < (v_l105.length : Int)
    · rw [if_pos h102] at h
      obtain ⟨v_y110, h105, h⟩ := bind_some h
      obtain ⟨v_a111, h106, h⟩ := bind_some h
      exact pkk_sound TTok mix hF 13 (hs := [.t true, .y (eS_box_Range v_y110), .c, .c, .c, .c, .bd, .w (v_a111.map (fun x => PV.agg [.v (.int .i64 (x 0)), .v (.int .i64 (x 1)), .v (.int .i64 (x 2))]))]) (ts := []) (s := [43]) (l := [3, 6, 7, 8]) (by kernel_rfl) (by kernel_rfl) (.cons (dt h102) (.cons (getI_ob (f := eS_box_Range) h105) (.cons (show 0 + 3 ≤ 3 by decide) (.cons (app_ob (f := (fun x => PV.agg [.v (.int .i64 (x 0)), .v (.int .i64 (x 1)), .v (.int .i64 (x 2))])) (s := 3) h106 (fun _ => rfl)).1 (.cons (app_ob (f := (fun x => PV.agg [.v (.int .i64 (x 0)), .v (.int .i64 (x 1)), .v (.int .i64 (x 2))])) (s := 3) h106 (fun _ => rfl)).2.1 (.cons (app_ob (f := (fun x => PV.agg [.v (.int .i64 (x 0)), .v (.int .i64 (x 1)), .v (.int .i64 (x 2))])) (s := 3) h106 (fun _ => rfl)).2.2.1 (.cons (app_ob (f := (fun x => PV.agg [.v (.int .i64 (x 0)), .v (.int .i64 (x 1)), .v (.int .i64 (x 2))])) (s := 3) h106 (fun _ => rfl)).2.2.2 .nil))))))) (G_ringlaw5_triples_L1_ok hF ks n v_l105 k (wi .i64 (v_x106 + 1)) v_a111 _ h q)
    · rw [if_neg h102] at h
      cases h
      exact pkk_sound TTok mix hF 8 (hs := [.t false]) (ts := []) (s := [0]) (l := [3]) (by kernel_rfl) (by kernel_rfl) (.cons (df h102) .nil) q
/- ringhall/ringlaw5.triples -/
def G_ringlaw5_triples (n : Nat) (v_l105 : (List S_box_Range)) : Option ((List (Fin 3 → Int))) :=
  (G_ringlaw5_triples_L1 n v_l105 n 0 ([] : List (Fin 3 → Int))).bind fun v_o113 => match v_o113 with
  | .x0 v_z114 =>
    some v_z114
theorem G_ringlaw5_triples_ok (n : Nat) (v_l105 : (List S_box_Range)) (r : (List (Fin 3 → Int))) (h : G_ringlaw5_triples n v_l105 = some r) : Ret Try.prog 36 [(eL eS_box_Range) v_l105] ((eL (fun x => PV.agg [.v (.int .i64 (x 0)), .v (.int .i64 (x 1)), .v (.int .i64 (x 2))])) r) := by
  refine ret_run (n := 24) (fn := Try.f36) (c := bodyOf Try.f36) (by kernel_rfl) (by kernel_rfl) (by kernel_rfl) (by kernel_rfl) ?_
  have hF : KC 24 (FinR Try.prog Try.f36 ((eL (fun x => PV.agg [.v (.int .i64 (x 0)), .v (.int .i64 (x 1)), .v (.int .i64 (x 2))])) r)) := FinR.kc' (by kernel_rfl)
  unfold G_ringlaw5_triples at h
  obtain ⟨v_o113, h107, h⟩ := bind_some h
  refine pkk_sound TTok mix hF 9 (hs := [.u (.d (.v (.int .i64 (v_l105.length : Int)))), .n n]) (ts := [(3, 71, 3)]) (s := [15]) (l := [3, 6, 7, 8]) (by kernel_rfl) (by kernel_rfl) (.cons (len_ob (f := eS_box_Range) (l := v_l105)) .nil) (G_ringlaw5_triples_L1_ok hF (.b 0 :: .s (cR (cR (cR (bodyOf Try.f36)))) :: []) n v_l105 n 0 ([] : List (Fin 3 → Int)) _ h107 ?_)
  cases v_o113 with
  | x0 v_z114 =>
    dsimp only at h
    obtain rfl := Option.some.inj h
    exact pend_sound TTok mix 4 (hs := []) (by kernel_rfl) (by kernel_rfl) (by kernel_rfl) .nil
inductive G_ringref5_BoxErr_C1_R where
  | x0 (v_x120 : Bool)
def G_ringref5_BoxErr_C1_ex : G_ringref5_BoxErr_C1_R → Ex
  | .x0 _ => .normal
def G_ringref5_BoxErr_C1_st (v_l117 : (List (Fin 3 → Int))) (v_x118 : Int) (v_y119 : (Fin 3 → Int)) : G_ringref5_BoxErr_C1_R → PS
  | .x0 v_x120 => ⟨[dd, dd, dd, .ref 0 0, .ref 1 0, dd, .ref 2 0, dd, dd, dd, dd, dd, .d (.sl (v_l117.map (fun x => PV.agg [.v (.int .i64 (x 0)), .v (.int .i64 (x 1)), .v (.int .i64 (x 2))]))), .d (.v (.int .i64 (v_l117.length : Int))), .d (.v (.int .i64 v_x118)), dd, dd, dd, dd, dd, dd, dd, dd, dd, dd, dd, dd, dd, dd, dd, dd, dd, dd, dd, dd, dd, dd, dd, dd, dd, dd, dd, dd, dd, dd, dd, dd, dd, dd, dd, dd, .d (.v (.bool v_x120)), dd, dd, dd, dd, dd, dd, dd, dd, dd, dd, dd, dd, dd, dd, dd, dd, dd, dd, dd, dd, dd, dd, dd, dd, dd, dd, dd, dd, dd, dd, dd, dd, dd, dd, dd, dd, dd], [.box [.d (.v (.bool false)), .d (.v (.bool false)), .d (.v (.bool false)), .d (.v (.bool false)), .d (.v (.bool false)), .d (.v (.bool false)), .d (.v (.bool false)), .d (.v (.bool false)), .d (.v (.bool false)), .d (.v (.bool false)), .d (.v (.bool false)), .d (.v (.bool false)), .d (.v (.bool false)), .d (.v (.bool false)), .d (.v (.bool false)), .d (.v (.bool false)), .d (.v (.bool false)), .d (.v (.bool false)), .d (.v (.bool false)), .d (.v (.bool false)), .d (.v (.bool false)), .d (.v (.bool false)), .d (.v (.bool false)), .d (.v (.bool false)), .d (.v (.bool false)), .d (.v (.bool false)), .d (.v (.bool false)), .d (.v (.bool false)), .d (.v (.bool false)), .d (.v (.bool false)), .d (.v (.bool false)), .d (.v (.bool false)), .d (.v (.bool false)), .d (.v (.bool false)), .d (.v (.bool false)), .d (.v (.bool false)), .d (.v (.bool false)), .d (.v (.bool false)), .d (.v (.bool false)), .d (.v (.bool false)), .d (.v (.bool false)), .d (.v (.bool false)), .d (.v (.bool false)), .d (.v (.bool false)), .d (.v (.bool false)), .d (.v (.bool false)), .d (.v (.bool false)), .d (.v (.bool false)), .d (.v (.bool false)), .d (.v (.bool false)), .d (.v (.bool false)), .d (.v (.bool false)), .d (.v (.bool false)), .d (.v (.bool false)), .d (.v (.bool false)), .d (.v (.bool false)), .d (.v (.bool false)), .d (.v (.bool false)), .d (.v (.bool false)), .d (.v (.bool false)), .d (.v (.bool false)), .d (.v (.bool false)), .d (.v (.bool false)), .d (.v (.bool false)), .d (.v (.bool false)), .d (.v (.bool false)), .d (.v (.bool false)), .d (.v (.bool false)), .d (.v (.bool false)), .d (.v (.bool false)), .d (.v (.bool false)), .d (.v (.bool false)), .d (.v (.bool false)), .d (.v (.bool false)), .d (.v (.bool false)), .d (.v (.bool false)), .d (.v (.bool false)), .d (.v (.bool false)), .d (.v (.bool false)), .d (.v (.bool false)), .d (.v (.bool false)), .d (.v (.bool false)), .d (.v (.bool false)), .d (.v (.bool false)), .d (.v (.bool false)), .d (.v (.bool false)), .d (.v (.bool false)), .d (.v (.bool false)), .d (.v (.bool false)), .d (.v (.bool false)), .d (.v (.bool false)), .d (.v (.bool false)), .d (.v (.bool false)), .d (.v (.bool false)), .d (.v (.bool false)), .d (.v (.bool false)), .d (.v (.bool false)), .d (.v (.bool false)), .d (.v (.bool false)), .d (.v (.bool false))], .box [.d (.v (.bool false)), .d (.v (.bool false)), .d (.v (.bool false)), .d (.v (.bool false)), .d (.v (.bool false)), .d (.v (.bool false)), .d (.v (.bool false)), .d (.v (.bool false)), .d (.v (.bool false)), .d (.v (.bool false)), .d (.v (.bool false)), .d (.v (.bool false)), .d (.v (.bool false)), .d (.v (.bool false)), .d (.v (.bool false)), .d (.v (.bool false)), .d (.v (.bool false)), .d (.v (.bool false)), .d (.v (.bool false)), .d (.v (.bool false)), .d (.v (.bool false)), .d (.v (.bool false)), .d (.v (.bool false)), .d (.v (.bool false)), .d (.v (.bool false)), .d (.v (.bool false)), .d (.v (.bool false)), .d (.v (.bool false)), .d (.v (.bool false)), .d (.v (.bool false)), .d (.v (.bool false)), .d (.v (.bool false)), .d (.v (.bool false)), .d (.v (.bool false)), .d (.v (.bool false)), .d (.v (.bool false)), .d (.v (.bool false)), .d (.v (.bool false)), .d (.v (.bool false)), .d (.v (.bool false)), .d (.v (.bool false)), .d (.v (.bool false)), .d (.v (.bool false)), .d (.v (.bool false)), .d (.v (.bool false)), .d (.v (.bool false)), .d (.v (.bool false)), .d (.v (.bool false)), .d (.v (.bool false)), .d (.v (.bool false)), .d (.v (.bool false)), .d (.v (.bool false)), .d (.v (.bool false)), .d (.v (.bool false)), .d (.v (.bool false)), .d (.v (.bool false)), .d (.v (.bool false)), .d (.v (.bool false)), .d (.v (.bool false)), .d (.v (.bool false)), .d (.v (.bool false)), .d (.v (.bool false)), .d (.v (.bool false)), .d (.v (.bool false)), .d (.v (.bool false)), .d (.v (.bool false)), .d (.v (.bool false)), .d (.v (.bool false)), .d (.v (.bool false)), .d (.v (.bool false)), .d (.v (.bool false)), .d (.v (.bool false)), .d (.v (.bool false)), .d (.v (.bool false)), .d (.v (.bool false)), .d (.v (.bool false)), .d (.v (.bool false)), .d (.v (.bool false)), .d (.v (.bool false)), .d (.v (.bool false)), .d (.v (.bool false)), .d (.v (.bool false)), .d (.v (.bool false)), .d (.v (.bool false)), .d (.v (.bool false)), .d (.v (.bool false)), .d (.v (.bool false)), .d (.v (.bool false)), .d (.v (.bool false)), .d (.v (.bool false)), .d (.v (.bool false)), .d (.v (.bool false)), .d (.v (.bool false)), .d (.v (.bool false)), .d (.v (.bool false)), .d (.v (.bool false)), .d (.v (.bool false)), .d (.v (.bool false)), .d (.v (.bool false)), .d (.v (.bool false))], .box [.d (.v (.int .i64 (v_y119 0))), .d (.v (.int .i64 (v_y119 1))), .d (.v (.int .i64 (v_y119 2)))]]⟩
def G_ringref5_BoxErr_C1_hd (v_l117 : (List (Fin 3 → Int))) (v_x118 : Int) (v_y119 : (Fin 3 → Int))  : PS := ⟨[dd, dd, dd, .ref 0 0, .ref 1 0, dd, .ref 2 0, dd, dd, dd, dd, dd, .d (.sl (v_l117.map (fun x => PV.agg [.v (.int .i64 (x 0)), .v (.int .i64 (x 1)), .v (.int .i64 (x 2))]))), .d (.v (.int .i64 (v_l117.length : Int))), .d (.v (.int .i64 v_x118)), dd, dd, dd, dd, dd, dd, dd, dd, dd, dd, dd, dd, dd, dd, dd, dd, dd, dd, dd, dd, dd, dd, dd, dd, dd, dd, dd, dd, dd, dd, dd, dd, dd, dd, dd, dd, dd, dd, dd, dd, dd, dd, dd, dd, dd, dd, dd, dd, dd, dd, dd, dd, dd, dd, dd, dd, dd, dd, dd, dd, dd, dd, dd, dd, dd, dd, dd, dd, dd, dd, dd, dd, dd, dd], [.box [.d (.v (.bool false)), .d (.v (.bool false)), .d (.v (.bool false)), .d (.v (.bool false)), .d (.v (.bool false)), .d (.v (.bool false)), .d (.v (.bool false)), .d (.v (.bool false)), .d (.v (.bool false)), .d (.v (.bool false)), .d (.v (.bool false)), .d (.v (.bool false)), .d (.v (.bool false)), .d (.v (.bool false)), .d (.v (.bool false)), .d (.v (.bool false)), .d (.v (.bool false)), .d (.v (.bool false)), .d (.v (.bool false)), .d (.v (.bool false)), .d (.v (.bool false)), .d (.v (.bool false)), .d (.v (.bool false)), .d (.v (.bool false)), .d (.v (.bool false)), .d (.v (.bool false)), .d (.v (.bool false)), .d (.v (.bool false)), .d (.v (.bool false)), .d (.v (.bool false)), .d (.v (.bool false)), .d (.v (.bool false)), .d (.v (.bool false)), .d (.v (.bool false)), .d (.v (.bool false)), .d (.v (.bool false)), .d (.v (.bool false)), .d (.v (.bool false)), .d (.v (.bool false)), .d (.v (.bool false)), .d (.v (.bool false)), .d (.v (.bool false)), .d (.v (.bool false)), .d (.v (.bool false)), .d (.v (.bool false)), .d (.v (.bool false)), .d (.v (.bool false)), .d (.v (.bool false)), .d (.v (.bool false)), .d (.v (.bool false)), .d (.v (.bool false)), .d (.v (.bool false)), .d (.v (.bool false)), .d (.v (.bool false)), .d (.v (.bool false)), .d (.v (.bool false)), .d (.v (.bool false)), .d (.v (.bool false)), .d (.v (.bool false)), .d (.v (.bool false)), .d (.v (.bool false)), .d (.v (.bool false)), .d (.v (.bool false)), .d (.v (.bool false)), .d (.v (.bool false)), .d (.v (.bool false)), .d (.v (.bool false)), .d (.v (.bool false)), .d (.v (.bool false)), .d (.v (.bool false)), .d (.v (.bool false)), .d (.v (.bool false)), .d (.v (.bool false)), .d (.v (.bool false)), .d (.v (.bool false)), .d (.v (.bool false)), .d (.v (.bool false)), .d (.v (.bool false)), .d (.v (.bool false)), .d (.v (.bool false)), .d (.v (.bool false)), .d (.v (.bool false)), .d (.v (.bool false)), .d (.v (.bool false)), .d (.v (.bool false)), .d (.v (.bool false)), .d (.v (.bool false)), .d (.v (.bool false)), .d (.v (.bool false)), .d (.v (.bool false)), .d (.v (.bool false)), .d (.v (.bool false)), .d (.v (.bool false)), .d (.v (.bool false)), .d (.v (.bool false)), .d (.v (.bool false)), .d (.v (.bool false)), .d (.v (.bool false)), .d (.v (.bool false)), .d (.v (.bool false))], .box [.d (.v (.bool false)), .d (.v (.bool false)), .d (.v (.bool false)), .d (.v (.bool false)), .d (.v (.bool false)), .d (.v (.bool false)), .d (.v (.bool false)), .d (.v (.bool false)), .d (.v (.bool false)), .d (.v (.bool false)), .d (.v (.bool false)), .d (.v (.bool false)), .d (.v (.bool false)), .d (.v (.bool false)), .d (.v (.bool false)), .d (.v (.bool false)), .d (.v (.bool false)), .d (.v (.bool false)), .d (.v (.bool false)), .d (.v (.bool false)), .d (.v (.bool false)), .d (.v (.bool false)), .d (.v (.bool false)), .d (.v (.bool false)), .d (.v (.bool false)), .d (.v (.bool false)), .d (.v (.bool false)), .d (.v (.bool false)), .d (.v (.bool false)), .d (.v (.bool false)), .d (.v (.bool false)), .d (.v (.bool false)), .d (.v (.bool false)), .d (.v (.bool false)), .d (.v (.bool false)), .d (.v (.bool false)), .d (.v (.bool false)), .d (.v (.bool false)), .d (.v (.bool false)), .d (.v (.bool false)), .d (.v (.bool false)), .d (.v (.bool false)), .d (.v (.bool false)), .d (.v (.bool false)), .d (.v (.bool false)), .d (.v (.bool false)), .d (.v (.bool false)), .d (.v (.bool false)), .d (.v (.bool false)), .d (.v (.bool false)), .d (.v (.bool false)), .d (.v (.bool false)), .d (.v (.bool false)), .d (.v (.bool false)), .d (.v (.bool false)), .d (.v (.bool false)), .d (.v (.bool false)), .d (.v (.bool false)), .d (.v (.bool false)), .d (.v (.bool false)), .d (.v (.bool false)), .d (.v (.bool false)), .d (.v (.bool false)), .d (.v (.bool false)), .d (.v (.bool false)), .d (.v (.bool false)), .d (.v (.bool false)), .d (.v (.bool false)), .d (.v (.bool false)), .d (.v (.bool false)), .d (.v (.bool false)), .d (.v (.bool false)), .d (.v (.bool false)), .d (.v (.bool false)), .d (.v (.bool false)), .d (.v (.bool false)), .d (.v (.bool false)), .d (.v (.bool false)), .d (.v (.bool false)), .d (.v (.bool false)), .d (.v (.bool false)), .d (.v (.bool false)), .d (.v (.bool false)), .d (.v (.bool false)), .d (.v (.bool false)), .d (.v (.bool false)), .d (.v (.bool false)), .d (.v (.bool false)), .d (.v (.bool false)), .d (.v (.bool false)), .d (.v (.bool false)), .d (.v (.bool false)), .d (.v (.bool false)), .d (.v (.bool false)), .d (.v (.bool false)), .d (.v (.bool false)), .d (.v (.bool false)), .d (.v (.bool false)), .d (.v (.bool false)), .d (.v (.bool false))], .box [.d (.v (.int .i64 (v_y119 0))), .d (.v (.int .i64 (v_y119 1))), .d (.v (.int .i64 (v_y119 2)))]]⟩
def G_ringref5_BoxErr_C1 (n : Nat) (v_l117 : (List (Fin 3 → Int))) (v_x118 : Int) (v_y119 : (Fin 3 → Int)) : Option G_ringref5_BoxErr_C1_R :=
  if (v_y119 2) < 1 then
   some (.x0 true)
  else
   if (v_y119 2) > 100 then
    some (.x0 true)
   else
    if (v_y119 0) < 0 then
     some (.x0 true)
    else
     if (v_y119 1) < 0 then
      some (.x0 true)
     else
      if (v_y119 0) > (wi .i64 (100 - (v_y119 2))) then
       some (.x0 true)
      else
       some (.x0 (decide ((v_y119 1) > (wi .i64 (100 - (v_y119 2))))))
theorem G_ringref5_BoxErr_C1_ok {Fi : Ex → PS → Prop} (hF : KC 89 Fi) (ks : List Fr) (n : Nat) (v_l117 : (List (Fin 3 → Int))) (v_x118 : Int) (v_y119 : (Fin 3 → Int))  (o : G_ringref5_BoxErr_C1_R) (h : G_ringref5_BoxErr_C1 n v_l117 v_x118 v_y119 = some o) (q : RunE Try.prog 89 Fi ks (G_ringref5_BoxErr_C1_ex o) (G_ringref5_BoxErr_C1_st v_l117 v_x118 v_y119 o)) : RunE Try.prog 89 Fi (.s (cL (cL (cR (cB (cL (cR (cR (cP (cB (cR (cL (cR (cR (cR (bodyOf Try.f37))))))))))))))) :: ks) .normal (G_ringref5_BoxErr_C1_hd v_l117 v_x118 v_y119) := by
  unfold G_ringref5_BoxErr_C1 at h
  by_cases h118 : (v_y119 2) < 1
  · rw [if_pos h118] at h
    cases h
    exact pkk_sound TTok mix hF 1 (hs := [.c, .t true, .c, .c, .c, .c, .c, .c, .c, .c, .c, .c, .c, .c, .c, .c, .c, .c, .c, .c, .c, .c]) (ts := []) (s := [0, 1, 2]) (l := [3, 4, 6, 12, 13, 14, 51]) (by kernel_rfl) (by kernel_rfl) (.cons (show (0 : Int) ≤ 2 ∧ (2 : Int) < 3 by decide) (.cons (dt h118) .nil)) q
  · rw [if_neg h118] at h
    by_cases h119 : (v_y119 2) > 100
    · rw [if_pos h119] at h
      cases h
      exact pkk_sound TTok mix hF 1 (hs := [.c, .t false, .c, .c, .c, .t true, .c, .c, .c, .c, .c, .c, .c, .c, .c, .c, .c, .c, .c, .c, .c, .c, .c]) (ts := []) (s := [0, 1, 2]) (l := [3, 4, 6, 12, 13, 14, 51]) (by kernel_rfl) (by kernel_rfl) (.cons (show (0 : Int) ≤ 2 ∧ (2 : Int) < 3 by decide) (.cons (df h118) (.cons (show (0 : Int) ≤ 2 ∧ (2 : Int) < 3 by decide) (.cons (dt h119) .nil)))) q
    · rw [if_neg h119] at h
      by_cases h120 : (v_y119 0) < 0
      · rw [if_pos h120] at h
        cases h
        exact pkk_sound TTok mix hF 1 (hs := [.c, .t false, .c, .c, .c, .t false, .c, .c, .c, .t true, .c, .c, .c, .c, .c, .c, .c, .c, .c, .c, .c, .c, .c, .c]) (ts := []) (s := [0, 1, 2]) (l := [3, 4, 6, 12, 13, 14, 51]) (by kernel_rfl) (by kernel_rfl) (.cons (show (0 : Int) ≤ 2 ∧ (2 : Int) < 3 by decide) (.cons (df h118) (.cons (show (0 : Int) ≤ 2 ∧ (2 : Int) < 3 by decide) (.cons (df h119) (.cons (show (0 : Int) ≤ 0 ∧ (0 : Int) < 3 by decide) (.cons (dt h120) .nil)))))) q
      · rw [if_neg h120] at h
        by_cases h121 : (v_y119 1) < 0
        · rw [if_pos h121] at h
          cases h
          exact pkk_sound TTok mix hF 1 (hs := [.c, .t false, .c, .c, .c, .t false, .c, .c, .c, .t false, .c, .c, .c, .t true, .c, .c, .c, .c, .c, .c, .c, .c, .c, .c, .c]) (ts := []) (s := [0, 1, 2]) (l := [3, 4, 6, 12, 13, 14, 51]) (by kernel_rfl) (by kernel_rfl) (.cons (show (0 : Int) ≤ 2 ∧ (2 : Int) < 3 by decide) (.cons (df h118) (.cons (show (0 : Int) ≤ 2 ∧ (2 : Int) < 3 by decide) (.cons (df h119) (.cons (show (0 : Int) ≤ 0 ∧ (0 : Int) < 3 by decide) (.cons (df h120) (.cons (show (0 : Int) ≤ 1 ∧ (1 : Int) < 3 by decide) (.cons (dt h121) .nil)))))))) q
        · rw [if_neg h121] at h
          by_cases h122 : (v_y119 0) > (wi .i64 (100 - (v_y119 2)))
          · rw [if_pos h122] at h
            cases h
            exact pkk_sound TTok mix hF 1 (hs := [.c, .t false, .c, .c, .c, .t false, .c, .c, .c, .t false, .c, .c, .c, .t false, .c, .c, .c, .c, .c, .c, .c, .t true, .c, .c, .c, .c, .c]) (ts := []) (s := [0, 1, 2]) (l := [3, 4, 6, 12, 13, 14, 51]) (by kernel_rfl) (by kernel_rfl) (.cons (show (0 : Int) ≤ 2 ∧ (2 : Int) < 3 by decide) (.cons (df h118) (.cons (show (0 : Int) ≤ 2 ∧ (2 : Int) < 3 by decide) (.cons (df h119) (.cons (show (0 : Int) ≤ 0 ∧ (0 : Int) < 3 by decide) (.cons (df h120) (.cons (show (0 : Int) ≤ 1 ∧ (1 : Int) < 3 by decide) (.cons (df h121) (.cons (show (0 : Int) ≤ 0 ∧ (0 : Int) < 3 by decide) (.cons (show (0 : Int) ≤ 2 ∧ (2 : Int) < 3 by decide) (.cons (dt h122) .nil))))))))))) q
          · rw [if_neg h122] at h
            cases h
            exact pkk_sound TTok mix hF 1 (hs := [.c, .t false, .c, .c, .c, .t false, .c, .c, .c, .t false, .c, .c, .c, .t false, .c, .c, .c, .c, .c, .c, .c, .t false, .c, .c, .c, .c, .c, .c, .c]) (ts := []) (s := [0, 1, 2]) (l := [3, 4, 6, 12, 13, 14, 51]) (by kernel_rfl) (by kernel_rfl) (.cons (show (0 : Int) ≤ 2 ∧ (2 : Int) < 3 by decide) (.cons (df h118) (.cons (show (0 : Int) ≤ 2 ∧ (2 : Int) < 3 by decide) (.cons (df h119) (.cons (show (0 : Int) ≤ 0 ∧ (0 : Int) < 3 by decide) (.cons (df h120) (.cons (show (0 : Int) ≤ 1 ∧ (1 : Int) < 3 by decide) (.cons (df h121) (.cons (show (0 : Int) ≤ 0 ∧ (0 : Int) < 3 by decide) (.cons (show (0 : Int) ≤ 2 ∧ (2 : Int) < 3 by decide) (.cons (df h122) (.cons (show (0 : Int) ≤ 1 ∧ (1 : Int) < 3 by decide) (.cons (show (0 : Int) ≤ 2 ∧ (2 : Int) < 3 by decide) .nil))))))))))))) q
inductive G_ringref5_BoxErr_L2_R where
  | x0 (v_x137 : Int)
  | x1 
def G_ringref5_BoxErr_L2_ex : G_ringref5_BoxErr_L2_R → Ex
  | .x0 _ => .ret
  | .x1  => .exit 2
def G_ringref5_BoxErr_L2_st (v_l117 : (List (Fin 3 → Int))) (v_x118 : Int) (v_y119 : (Fin 3 → Int)) : G_ringref5_BoxErr_L2_R → PS
  | .x0 v_x137 => ⟨[dd, dd, .d (.v (.int .i64 v_x137)), dd, dd, dd, dd, dd, dd, dd, dd, dd, dd, dd, dd, dd, dd, dd, dd, dd, dd, dd, dd, dd, dd, dd, dd, dd, dd, dd, dd, dd, dd, dd, dd, dd, dd, dd, dd, dd, dd, dd, dd, dd, dd, dd, dd, dd, dd, dd, dd, dd, dd, dd, dd, dd, dd, dd, dd, dd, dd, dd, dd, dd, dd, dd, dd, dd, dd, dd, dd, dd, dd, dd, dd, dd, dd, dd, dd, dd, dd, dd, dd, dd, dd, dd, dd, dd, dd], []⟩
  | .x1  => ⟨[dd, dd, dd, .ref 0 0, .ref 1 0, dd, .ref 2 0, dd, dd, dd, dd, dd, .d (.sl (v_l117.map (fun x => PV.agg [.v (.int .i64 (x 0)), .v (.int .i64 (x 1)), .v (.int .i64 (x 2))]))), .d (.v (.int .i64 (v_l117.length : Int))), .d (.v (.int .i64 v_x118)), dd, dd, dd, dd, dd, dd, dd, dd, dd, dd, dd, dd, dd, dd, dd, dd, dd, dd, dd, dd, dd, dd, dd, dd, dd, dd, dd, dd, dd, dd, dd, dd, dd, dd, dd, dd, dd, dd, dd, dd, dd, dd, dd, dd, dd, dd, dd, dd, dd, dd, dd, dd, dd, dd, dd, dd, dd, dd, dd, dd, dd, dd, dd, dd, dd, dd, dd, dd, dd, dd, dd, dd, dd, dd], [.box [.d (.v (.bool false)), .d (.v (.bool false)), .d (.v (.bool false)), .d (.v (.bool false)), .d (.v (.bool false)), .d (.v (.bool false)), .d (.v (.bool false)), .d (.v (.bool false)), .d (.v (.bool false)), .d (.v (.bool false)), .d (.v (.bool false)), .d (.v (.bool false)), .d (.v (.bool false)), .d (.v (.bool false)), .d (.v (.bool false)), .d (.v (.bool false)), .d (.v (.bool false)), .d (.v (.bool false)), .d (.v (.bool false)), .d (.v (.bool false)), .d (.v (.bool false)), .d (.v (.bool false)), .d (.v (.bool false)), .d (.v (.bool false)), .d (.v (.bool false)), .d (.v (.bool false)), .d (.v (.bool false)), .d (.v (.bool false)), .d (.v (.bool false)), .d (.v (.bool false)), .d (.v (.bool false)), .d (.v (.bool false)), .d (.v (.bool false)), .d (.v (.bool false)), .d (.v (.bool false)), .d (.v (.bool false)), .d (.v (.bool false)), .d (.v (.bool false)), .d (.v (.bool false)), .d (.v (.bool false)), .d (.v (.bool false)), .d (.v (.bool false)), .d (.v (.bool false)), .d (.v (.bool false)), .d (.v (.bool false)), .d (.v (.bool false)), .d (.v (.bool false)), .d (.v (.bool false)), .d (.v (.bool false)), .d (.v (.bool false)), .d (.v (.bool false)), .d (.v (.bool false)), .d (.v (.bool false)), .d (.v (.bool false)), .d (.v (.bool false)), .d (.v (.bool false)), .d (.v (.bool false)), .d (.v (.bool false)), .d (.v (.bool false)), .d (.v (.bool false)), .d (.v (.bool false)), .d (.v (.bool false)), .d (.v (.bool false)), .d (.v (.bool false)), .d (.v (.bool false)), .d (.v (.bool false)), .d (.v (.bool false)), .d (.v (.bool false)), .d (.v (.bool false)), .d (.v (.bool false)), .d (.v (.bool false)), .d (.v (.bool false)), .d (.v (.bool false)), .d (.v (.bool false)), .d (.v (.bool false)), .d (.v (.bool false)), .d (.v (.bool false)), .d (.v (.bool false)), .d (.v (.bool false)), .d (.v (.bool false)), .d (.v (.bool false)), .d (.v (.bool false)), .d (.v (.bool false)), .d (.v (.bool false)), .d (.v (.bool false)), .d (.v (.bool false)), .d (.v (.bool false)), .d (.v (.bool false)), .d (.v (.bool false)), .d (.v (.bool false)), .d (.v (.bool false)), .d (.v (.bool false)), .d (.v (.bool false)), .d (.v (.bool false)), .d (.v (.bool false)), .d (.v (.bool false)), .d (.v (.bool false)), .d (.v (.bool false)), .d (.v (.bool false)), .d (.v (.bool false))], .box [.d (.v (.bool false)), .d (.v (.bool false)), .d (.v (.bool false)), .d (.v (.bool false)), .d (.v (.bool false)), .d (.v (.bool false)), .d (.v (.bool false)), .d (.v (.bool false)), .d (.v (.bool false)), .d (.v (.bool false)), .d (.v (.bool false)), .d (.v (.bool false)), .d (.v (.bool false)), .d (.v (.bool false)), .d (.v (.bool false)), .d (.v (.bool false)), .d (.v (.bool false)), .d (.v (.bool false)), .d (.v (.bool false)), .d (.v (.bool false)), .d (.v (.bool false)), .d (.v (.bool false)), .d (.v (.bool false)), .d (.v (.bool false)), .d (.v (.bool false)), .d (.v (.bool false)), .d (.v (.bool false)), .d (.v (.bool false)), .d (.v (.bool false)), .d (.v (.bool false)), .d (.v (.bool false)), .d (.v (.bool false)), .d (.v (.bool false)), .d (.v (.bool false)), .d (.v (.bool false)), .d (.v (.bool false)), .d (.v (.bool false)), .d (.v (.bool false)), .d (.v (.bool false)), .d (.v (.bool false)), .d (.v (.bool false)), .d (.v (.bool false)), .d (.v (.bool false)), .d (.v (.bool false)), .d (.v (.bool false)), .d (.v (.bool false)), .d (.v (.bool false)), .d (.v (.bool false)), .d (.v (.bool false)), .d (.v (.bool false)), .d (.v (.bool false)), .d (.v (.bool false)), .d (.v (.bool false)), .d (.v (.bool false)), .d (.v (.bool false)), .d (.v (.bool false)), .d (.v (.bool false)), .d (.v (.bool false)), .d (.v (.bool false)), .d (.v (.bool false)), .d (.v (.bool false)), .d (.v (.bool false)), .d (.v (.bool false)), .d (.v (.bool false)), .d (.v (.bool false)), .d (.v (.bool false)), .d (.v (.bool false)), .d (.v (.bool false)), .d (.v (.bool false)), .d (.v (.bool false)), .d (.v (.bool false)), .d (.v (.bool false)), .d (.v (.bool false)), .d (.v (.bool false)), .d (.v (.bool false)), .d (.v (.bool false)), .d (.v (.bool false)), .d (.v (.bool false)), .d (.v (.bool false)), .d (.v (.bool false)), .d (.v (.bool false)), .d (.v (.bool false)), .d (.v (.bool false)), .d (.v (.bool false)), .d (.v (.bool false)), .d (.v (.bool false)), .d (.v (.bool false)), .d (.v (.bool false)), .d (.v (.bool false)), .d (.v (.bool false)), .d (.v (.bool false)), .d (.v (.bool false)), .d (.v (.bool false)), .d (.v (.bool false)), .d (.v (.bool false)), .d (.v (.bool false)), .d (.v (.bool false)), .d (.v (.bool false)), .d (.v (.bool false)), .d (.v (.bool false))], .box [.d (.v (.int .i64 (v_y119 0))), .d (.v (.int .i64 (v_y119 1))), .d (.v (.int .i64 (v_y119 2)))]]⟩
def G_ringref5_BoxErr_L2_hd (v_l117 : (List (Fin 3 → Int))) (v_x118 : Int) (v_y119 : (Fin 3 → Int)) (v_x129 : Int) : PS := ⟨[dd, dd, dd, .ref 0 0, .ref 1 0, dd, .ref 2 0, dd, dd, dd, dd, dd, .d (.sl (v_l117.map (fun x => PV.agg [.v (.int .i64 (x 0)), .v (.int .i64 (x 1)), .v (.int .i64 (x 2))]))), .d (.v (.int .i64 (v_l117.length : Int))), .d (.v (.int .i64 v_x118)), dd, dd, dd, dd, dd, dd, dd, dd, dd, dd, dd, dd, dd, dd, dd, dd, dd, dd, dd, dd, dd, dd, dd, dd, dd, dd, dd, dd, dd, dd, dd, dd, dd, dd, dd, dd, dd, dd, .d (.v (.int .i64 (v_y119 2))), .d (.v (.int .i64 v_x129)), dd, dd, dd, dd, dd, dd, dd, dd, dd, dd, dd, dd, dd, dd, dd, dd, dd, dd, dd, dd, dd, dd, dd, dd, dd, dd, dd, dd, dd, dd, dd, dd, dd, dd], [.box [.d (.v (.bool false)), .d (.v (.bool false)), .d (.v (.bool false)), .d (.v (.bool false)), .d (.v (.bool false)), .d (.v (.bool false)), .d (.v (.bool false)), .d (.v (.bool false)), .d (.v (.bool false)), .d (.v (.bool false)), .d (.v (.bool false)), .d (.v (.bool false)), .d (.v (.bool false)), .d (.v (.bool false)), .d (.v (.bool false)), .d (.v (.bool false)), .d (.v (.bool false)), .d (.v (.bool false)), .d (.v (.bool false)), .d (.v (.bool false)), .d (.v (.bool false)), .d (.v (.bool false)), .d (.v (.bool false)), .d (.v (.bool false)), .d (.v (.bool false)), .d (.v (.bool false)), .d (.v (.bool false)), .d (.v (.bool false)), .d (.v (.bool false)), .d (.v (.bool false)), .d (.v (.bool false)), .d (.v (.bool false)), .d (.v (.bool false)), .d (.v (.bool false)), .d (.v (.bool false)), .d (.v (.bool false)), .d (.v (.bool false)), .d (.v (.bool false)), .d (.v (.bool false)), .d (.v (.bool false)), .d (.v (.bool false)), .d (.v (.bool false)), .d (.v (.bool false)), .d (.v (.bool false)), .d (.v (.bool false)), .d (.v (.bool false)), .d (.v (.bool false)), .d (.v (.bool false)), .d (.v (.bool false)), .d (.v (.bool false)), .d (.v (.bool false)), .d (.v (.bool false)), .d (.v (.bool false)), .d (.v (.bool false)), .d (.v (.bool false)), .d (.v (.bool false)), .d (.v (.bool false)), .d (.v (.bool false)), .d (.v (.bool false)), .d (.v (.bool false)), .d (.v (.bool false)), .d (.v (.bool false)), .d (.v (.bool false)), .d (.v (.bool false)), .d (.v (.bool false)), .d (.v (.bool false)), .d (.v (.bool false)), .d (.v (.bool false)), .d (.v (.bool false)), .d (.v (.bool false)), .d (.v (.bool false)), .d (.v (.bool false)), .d (.v (.bool false)), .d (.v (.bool false)), .d (.v (.bool false)), .d (.v (.bool false)), .d (.v (.bool false)), .d (.v (.bool false)), .d (.v (.bool false)), .d (.v (.bool false)), .d (.v (.bool false)), .d (.v (.bool false)), .d (.v (.bool false)), .d (.v (.bool false)), .d (.v (.bool false)), .d (.v (.bool false)), .d (.v (.bool false)), .d (.v (.bool false)), .d (.v (.bool false)), .d (.v (.bool false)), .d (.v (.bool false)), .d (.v (.bool false)), .d (.v (.bool false)), .d (.v (.bool false)), .d (.v (.bool false)), .d (.v (.bool false)), .d (.v (.bool false)), .d (.v (.bool false)), .d (.v (.bool false)), .d (.v (.bool false))], .box [.d (.v (.bool false)), .d (.v (.bool false)), .d (.v (.bool false)), .d (.v (.bool false)), .d (.v (.bool false)), .d (.v (.bool false)), .d (.v (.bool false)), .d (.v (.bool false)), .d (.v (.bool false)), .d (.v (.bool false)), .d (.v (.bool false)), .d (.v (.bool false)), .d (.v (.bool false)), .d (.v (.bool false)), .d (.v (.bool false)), .d (.v (.bool false)), .d (.v (.bool false)), .d (.v (.bool false)), .d (.v (.bool false)), .d (.v (.bool false)), .d (.v (.bool false)), .d (.v (.bool false)), .d (.v (.bool false)), .d (.v (.bool false)), .d (.v (.bool false)), .d (.v (.bool false)), .d (.v (.bool false)), .d (.v (.bool false)), .d (.v (.bool false)), .d (.v (.bool false)), .d (.v (.bool false)), .d (.v (.bool false)), .d (.v (.bool false)), .d (.v (.bool false)), .d (.v (.bool false)), .d (.v (.bool false)), .d (.v (.bool false)), .d (.v (.bool false)), .d (.v (.bool false)), .d (.v (.bool false)), .d (.v (.bool false)), .d (.v (.bool false)), .d (.v (.bool false)), .d (.v (.bool false)), .d (.v (.bool false)), .d (.v (.bool false)), .d (.v (.bool false)), .d (.v (.bool false)), .d (.v (.bool false)), .d (.v (.bool false)), .d (.v (.bool false)), .d (.v (.bool false)), .d (.v (.bool false)), .d (.v (.bool false)), .d (.v (.bool false)), .d (.v (.bool false)), .d (.v (.bool false)), .d (.v (.bool false)), .d (.v (.bool false)), .d (.v (.bool false)), .d (.v (.bool false)), .d (.v (.bool false)), .d (.v (.bool false)), .d (.v (.bool false)), .d (.v (.bool false)), .d (.v (.bool false)), .d (.v (.bool false)), .d (.v (.bool false)), .d (.v (.bool false)), .d (.v (.bool false)), .d (.v (.bool false)), .d (.v (.bool false)), .d (.v (.bool false)), .d (.v (.bool false)), .d (.v (.bool false)), .d (.v (.bool false)), .d (.v (.bool false)), .d (.v (.bool false)), .d (.v (.bool false)), .d (.v (.bool false)), .d (.v (.bool false)), .d (.v (.bool false)), .d (.v (.bool false)), .d (.v (.bool false)), .d (.v (.bool false)), .d (.v (.bool false)), .d (.v (.bool false)), .d (.v (.bool false)), .d (.v (.bool false)), .d (.v (.bool false)), .d (.v (.bool false)), .d (.v (.bool false)), .d (.v (.bool false)), .d (.v (.bool false)), .d (.v (.bool false)), .d (.v (.bool false)), .d (.v (.bool false)), .d (.v (.bool false)), .d (.v (.bool false)), .d (.v (.bool false))], .box [.d (.v (.int .i64 (v_y119 0))), .d (.v (.int .i64 (v_y119 1))), .d (.v (.int .i64 (v_y119 2)))]]⟩
def G_ringref5_BoxErr_L2 (n : Nat) (v_l117 : (List (Fin 3 → Int))) (v_x118 : Int) (v_y119 : (Fin 3 → Int)) : Nat → Int → Option G_ringref5_BoxErr_L2_R
  | 0, _ => none
  | k + 1, v_x129 =>
    if v_x129 < (v_y119 2) then
     if 0 ≤ (wi .i64 ((v_y119 0) + v_x129)) ∧ (wi .i64 ((v_y119 0) + v_x129)) < (100 : Int) then
      (getA (fun i : Fin 100 => [false, false, false, false, false, false, false, false, false, false, false, false, false, false, false, false, false, false, false, false, false, false, false, false, false, false, false, false, false, false, false, false, false, false, false, false, false, false, false, false, false, false, false, false, false, false, false, false, false, false, false, false, false, false, false, false, false, false, false, false, false, false, false, false, false, false, false, false, false, false, false, false, false, false, false, false, false, false, false, false, false, false, false, false, false, false, false, false, false, false, false, false, false, false, false, false, false, false, false, false].get i) (wi .i64 ((v_y119 0) + v_x129))).bind fun (v_y136 : Bool) =>
      if v_y136 = true then
       some (.x0 5)
      else
       if 0 ≤ (wi .i64 ((v_y119 1) + v_x129)) ∧ (wi .i64 ((v_y119 1) + v_x129)) < (100 : Int) then
        (getA (fun i : Fin 100 => [false, false, false, false, false, false, false, false, false, false, false, false, false, false, false, false, false, false, false, false, false, false, false, false, false, false, false, false, false, false, false, false, false, false, false, false, false, false, false, false, false, false, false, false, false, false, false, false, false, false, false, false, false, false, false, false, false, false, false, false, false, false, false, false, false, false, false, false, false, false, false, false, false, false, false, false, false, false, false, false, false, false, false, false, false, false, false, false, false, false, false, false, false, false, false, false, false, false, false, false].get i) (wi .i64 ((v_y119 1) + v_x129))).bind fun (v_y138 : Bool) =>
        if v_y138 = true then
         some (.x0 5)
        else
         G_ringref5_BoxErr_L2 n v_l117 v_x118 v_y119 k (wi .i64 (v_x129 + 1))
       else none
     else none
    else
     some (.x1 )
theorem G_ringref5_BoxErr_L2_ok {Fi : Ex → PS → Prop} (hF : KC 89 Fi) (ks : List Fr) (n : Nat) (v_l117 : (List (Fin 3 → Int))) (v_x118 : Int) (v_y119 : (Fin 3 → Int))  : ∀ (k : Nat) (v_x129 : Int) (o : G_ringref5_BoxErr_L2_R), G_ringref5_BoxErr_L2 n v_l117 v_x118 v_y119 k v_x129 = some o → RunE Try.prog 89 Fi ks (G_ringref5_BoxErr_L2_ex o) (G_ringref5_BoxErr_L2_st v_l117 v_x118 v_y119 o) → RunE Try.prog 89 Fi (.l k (cP (cB (cR (cL (cR (cR (cB (cL (cR (cR (cP (cB (cR (cL (cR (cR (cR (bodyOf Try.f37)))))))))))))))))) :: ks) .normal (G_ringref5_BoxErr_L2_hd v_l117 v_x118 v_y119 v_x129)
  | 0, v_x129, o, h, q => by rw [G_ringref5_BoxErr_L2] at h; cases h
  | k + 1, v_x129, o, h, q => by
    rw [G_ringref5_BoxErr_L2] at h
    by_cases h125 : v_x129 < (v_y119 2)
    · rw [if_pos h125] at h
      by_cases h142 : 0 ≤ (wi .i64 ((v_y119 0) + v_x129)) ∧ (wi .i64 ((v_y119 0) + v_x129)) < (100 : Int)
      · rw [if_pos h142] at h
        obtain ⟨v_y136, h143, h⟩ := bind_some h
        by_cases h144 : v_y136 = true
        · rw [if_pos h144] at h
          cases h
          exact pkk_sound TTok mix hF 19 (hs := [.t true, .c, .l (.d (.v (.bool v_y136))), .t true, .c, .c, .c, .c, .c, .c]) (ts := []) (s := []) (l := [2]) (by kernel_rfl) (by kernel_rfl) (.cons (dt h125) (.cons (show (0 : Int) ≤ 0 ∧ (0 : Int) < 3 by decide) (.cons h142 (.cons (arr_cell (γ := FV) (sz := 1) (g := (fun x => [.d (.v (.bool x))])) (pre := []) (post := []) (o := 0) (fun _ => rfl) h143 rfl) (.cons h144 .nil))))) q
        · rw [if_neg h144] at h
          by_cases h145 : 0 ≤ (wi .i64 ((v_y119 1) + v_x129)) ∧ (wi .i64 ((v_y119 1) + v_x129)) < (100 : Int)
          · rw [if_pos h145] at h
            obtain ⟨v_y138, h146, h⟩ := bind_some h
            by_cases h147 : v_y138 = true
            · rw [if_pos h147] at h
              cases h
              exact pkk_sound TTok mix hF 19 (hs := [.t true, .c, .l (.d (.v (.bool v_y136))), .t false, .c, .c, .c, .c, .c, .c, .l (.d (.v (.bool v_y138))), .t true]) (ts := []) (s := []) (l := [2]) (by kernel_rfl) (by kernel_rfl) (.cons (dt h125) (.cons (show (0 : Int) ≤ 0 ∧ (0 : Int) < 3 by decide) (.cons h142 (.cons (arr_cell (γ := FV) (sz := 1) (g := (fun x => [.d (.v (.bool x))])) (pre := []) (post := []) (o := 0) (fun _ => rfl) h143 rfl) (.cons (vf h144) (.cons (show (0 : Int) ≤ 1 ∧ (1 : Int) < 3 by decide) (.cons h145 (.cons (arr_cell (γ := FV) (sz := 1) (g := (fun x => [.d (.v (.bool x))])) (pre := []) (post := []) (o := 0) (fun _ => rfl) h146 rfl) (.cons h147 .nil))))))))) q
            · rw [if_neg h147] at h
              exact pkk_sound TTok mix hF 16 (hs := [.t true, .c, .l (.d (.v (.bool v_y136))), .t false, .c, .c, .c, .c, .c, .c, .l (.d (.v (.bool v_y138))), .t false]) (ts := []) (s := [0, 1, 2]) (l := [3, 4, 6, 12, 13, 14, 53, 54]) (by kernel_rfl) (by kernel_rfl) (.cons (dt h125) (.cons (show (0 : Int) ≤ 0 ∧ (0 : Int) < 3 by decide) (.cons h142 (.cons (arr_cell (γ := FV) (sz := 1) (g := (fun x => [.d (.v (.bool x))])) (pre := []) (post := []) (o := 0) (fun _ => rfl) h143 rfl) (.cons (vf h144) (.cons (show (0 : Int) ≤ 1 ∧ (1 : Int) < 3 by decide) (.cons h145 (.cons (arr_cell (γ := FV) (sz := 1) (g := (fun x => [.d (.v (.bool x))])) (pre := []) (post := []) (o := 0) (fun _ => rfl) h146 rfl) (.cons (vf h147) .nil))))))))) (G_ringref5_BoxErr_L2_ok hF ks n v_l117 v_x118 v_y119 k (wi .i64 (v_x129 + 1)) _ h q)
          · rw [if_neg h145] at h; cases h
      · rw [if_neg h142] at h; cases h
    · rw [if_neg h125] at h
      cases h
      exact pkk_sound TTok mix hF 8 (hs := [.t false]) (ts := []) (s := [0, 1, 2]) (l := [3, 4, 6, 12, 13, 14]) (by kernel_rfl) (by kernel_rfl) (.cons (df h125) .nil) q
inductive G_ringref5_BoxErr_L3_R where
  | x0 (v_b155 : (Fin 100 → Bool)) (v_b156 : (Fin 100 → Bool))
def G_ringref5_BoxErr_L3_ex : G_ringref5_BoxErr_L3_R → Ex
  | .x0 _ _ => .exit 4
def G_ringref5_BoxErr_L3_st (v_l117 : (List (Fin 3 → Int))) (v_x118 : Int) (v_y119 : (Fin 3 → Int)) : G_ringref5_BoxErr_L3_R → PS
  | .x0 v_b155 v_b156 => ⟨[dd, dd, dd, .ref 0 0, .ref 1 0, dd, dd, dd, dd, dd, dd, dd, .d (.sl (v_l117.map (fun x => PV.agg [.v (.int .i64 (x 0)), .v (.int .i64 (x 1)), .v (.int .i64 (x 2))]))), .d (.v (.int .i64 (v_l117.length : Int))), .d (.v (.int .i64 v_x118)), dd, dd, dd, dd, dd, dd, dd, dd, dd, dd, dd, dd, dd, dd, dd, dd, dd, dd, dd, dd, dd, dd, dd, dd, dd, dd, dd, dd, dd, dd, dd, dd, dd, dd, dd, dd, dd, dd, dd, dd, dd, dd, dd, dd, dd, dd, dd, dd, dd, dd, dd, dd, dd, dd, dd, dd, dd, dd, dd, dd, dd, dd, dd, dd, dd, dd, dd, dd, dd, dd, dd, dd, dd, dd], [.box [.d (.v (.bool (v_b155 0))), .d (.v (.bool (v_b155 1))), .d (.v (.bool (v_b155 2))), .d (.v (.bool (v_b155 3))), .d (.v (.bool (v_b155 4))), .d (.v (.bool (v_b155 5))), .d (.v (.bool (v_b155 6))), .d (.v (.bool (v_b155 7))), .d (.v (.bool (v_b155 8))), .d (.v (.bool (v_b155 9))), .d (.v (.bool (v_b155 10))), .d (.v (.bool (v_b155 11))), .d (.v (.bool (v_b155 12))), .d (.v (.bool (v_b155 13))), .d (.v (.bool (v_b155 14))), .d (.v (.bool (v_b155 15))), .d (.v (.bool (v_b155 16))), .d (.v (.bool (v_b155 17))), .d (.v (.bool (v_b155 18))), .d (.v (.bool (v_b155 19))), .d (.v (.bool (v_b155 20))), .d (.v (.bool (v_b155 21))), .d (.v (.bool (v_b155 22))), .d (.v (.bool (v_b155 23))), .d (.v (.bool (v_b155 24))), .d (.v (.bool (v_b155 25))), .d (.v (.bool (v_b155 26))), .d (.v (.bool (v_b155 27))), .d (.v (.bool (v_b155 28))), .d (.v (.bool (v_b155 29))), .d (.v (.bool (v_b155 30))), .d (.v (.bool (v_b155 31))), .d (.v (.bool (v_b155 32))), .d (.v (.bool (v_b155 33))), .d (.v (.bool (v_b155 34))), .d (.v (.bool (v_b155 35))), .d (.v (.bool (v_b155 36))), .d (.v (.bool (v_b155 37))), .d (.v (.bool (v_b155 38))), .d (.v (.bool (v_b155 39))), .d (.v (.bool (v_b155 40))), .d (.v (.bool (v_b155 41))), .d (.v (.bool (v_b155 42))), .d (.v (.bool (v_b155 43))), .d (.v (.bool (v_b155 44))), .d (.v (.bool (v_b155 45))), .d (.v (.bool (v_b155 46))), .d (.v (.bool (v_b155 47))), .d (.v (.bool (v_b155 48))), .d (.v (.bool (v_b155 49))), .d (.v (.bool (v_b155 50))), .d (.v (.bool (v_b155 51))), .d (.v (.bool (v_b155 52))), .d (.v (.bool (v_b155 53))), .d (.v (.bool (v_b155 54))), .d (.v (.bool (v_b155 55))), .d (.v (.bool (v_b155 56))), .d (.v (.bool (v_b155 57))), .d (.v (.bool (v_b155 58))), .d (.v (.bool (v_b155 59))), .d (.v (.bool (v_b155 60))), .d (.v (.bool (v_b155 61))), .d (.v (.bool (v_b155 62))), .d (.v (.bool (v_b155 63))), .d (.v (.bool (v_b155 64))), .d (.v (.bool (v_b155 65))), .d (.v (.bool (v_b155 66))), .d (.v (.bool (v_b155 67))), .d (.v (.bool (v_b155 68))), .d (.v (.bool (v_b155 69))), .d (.v (.bool (v_b155 70))), .d (.v (.bool (v_b155 71))), .d (.v (.bool (v_b155 72))), .d (.v (.bool (v_b155 73))), .d (.v (.bool (v_b155 74))), .d (.v (.bool (v_b155 75))), .d (.v (.bool (v_b155 76))), .d (.v (.bool (v_b155 77))), .d (.v (.bool (v_b155 78))), .d (.v (.bool (v_b155 79))), .d (.v (.bool (v_b155 80))), .d (.v (.bool (v_b155 81))), .d (.v (.bool (v_b155 82))), .d (.v (.bool (v_b155 83))), .d (.v (.bool (v_b155 84))), .d (.v (.bool (v_b155 85))), .d (.v (.bool (v_b155 86))), .d (.v (.bool (v_b155 87))), .d (.v (.bool (v_b155 88))), .d (.v (.bool (v_b155 89))), .d (.v (.bool (v_b155 90))), .d (.v (.bool (v_b155 91))), .d (.v (.bool (v_b155 92))), .d (.v (.bool (v_b155 93))), .d (.v (.bool (v_b155 94))), .d (.v (.bool (v_b155 95))), .d (.v (.bool (v_b155 96))), .d (.v (.bool (v_b155 97))), .d (.v (.bool (v_b155 98))), .d (.v (.bool (v_b155 99)))], .box [.d (.v (.bool (v_b156 0))), .d (.v (.bool (v_b156 1))), .d (.v (.bool (v_b156 2))), .d (.v (.bool (v_b156 3))), .d (.v (.bool (v_b156 4))), .d (.v (.bool (v_b156 5))), .d (.v (.bool (v_b156 6))), .d (.v (.bool (v_b156 7))), .d (.v (.bool (v_b156 8))), .d (.v (.bool (v_b156 9))), .d (.v (.bool (v_b156 10))), .d (.v (.bool (v_b156 11))), .d (.v (.bool (v_b156 12))), .d (.v (.bool (v_b156 13))), .d (.v (.bool (v_b156 14))), .d (.v (.bool (v_b156 15))), .d (.v (.bool (v_b156 16))), .d (.v (.bool (v_b156 17))), .d (.v (.bool (v_b156 18))), .d (.v (.bool (v_b156 19))), .d (.v (.bool (v_b156 20))), .d (.v (.bool (v_b156 21))), .d (.v (.bool (v_b156 22))), .d (.v (.bool (v_b156 23))), .d (.v (.bool (v_b156 24))), .d (.v (.bool (v_b156 25))), .d (.v (.bool (v_b156 26))), .d (.v (.bool (v_b156 27))), .d (.v (.bool (v_b156 28))), .d (.v (.bool (v_b156 29))), .d (.v (.bool (v_b156 30))), .d (.v (.bool (v_b156 31))), .d (.v (.bool (v_b156 32))), .d (.v (.bool (v_b156 33))), .d (.v (.bool (v_b156 34))), .d (.v (.bool (v_b156 35))), .d (.v (.bool (v_b156 36))), .d (.v (.bool (v_b156 37))), .d (.v (.bool (v_b156 38))), .d (.v (.bool (v_b156 39))), .d (.v (.bool (v_b156 40))), .d (.v (.bool (v_b156 41))), .d (.v (.bool (v_b156 42))), .d (.v (.bool (v_b156 43))), .d (.v (.bool (v_b156 44))), .d (.v (.bool (v_b156 45))), .d (.v (.bool (v_b156 46))), .d (.v (.bool (v_b156 47))), .d (.v (.bool (v_b156 48))), .d (.v (.bool (v_b156 49))), .d (.v (.bool (v_b156 50))), .d (.v (.bool (v_b156 51))), .d (.v (.bool (v_b156 52))), .d (.v (.bool (v_b156 53))), .d (.v (.bool (v_b156 54))), .d (.v (.bool (v_b156 55))), .d (.v (.bool (v_b156 56))), .d (.v (.bool (v_b156 57))), .d (.v (.bool (v_b156 58))), .d (.v (.bool (v_b156 59))), .d (.v (.bool (v_b156 60))), .d (.v (.bool (v_b156 61))), .d (.v (.bool (v_b156 62))), .d (.v (.bool (v_b156 63))), .d (.v (.bool (v_b156 64))), .d (.v (.bool (v_b156 65))), .d (.v (.bool (v_b156 66))), .d (.v (.bool (v_b156 67))), .d (.v (.bool (v_b156 68))), .d (.v (.bool (v_b156 69))), .d (.v (.bool (v_b156 70))), .d (.v (.bool (v_b156 71))), .d (.v (.bool (v_b156 72))), .d (.v (.bool (v_b156 73))), .d (.v (.bool (v_b156 74))), .d (.v (.bool (v_b156 75))), .d (.v (.bool (v_b156 76))), .d (.v (.bool (v_b156 77))), .d (.v (.bool (v_b156 78))), .d (.v (.bool (v_b156 79))), .d (.v (.bool (v_b156 80))), .d (.v (.bool (v_b156 81))), .d (.v (.bool (v_b156 82))), .d (.v (.bool (v_b156 83))), .d (.v (.bool (v_b156 84))), .d (.v (.bool (v_b156 85))), .d (.v (.bool (v_b156 86))), .d (.v (.bool (v_b156 87))), .d (.v (.bool (v_b156 88))), .d (.v (.bool (v_b156 89))), .d (.v (.bool (v_b156 90))), .d (.v (.bool (v_b156 91))), .d (.v (.bool (v_b156 92))), .d (.v (.bool (v_b156 93))), .d (.v (.bool (v_b156 94))), .d (.v (.bool (v_b156 95))), .d (.v (.bool (v_b156 96))), .d (.v (.bool (v_b156 97))), .d (.v (.bool (v_b156 98))), .d (.v (.bool (v_b156 99)))]]⟩
def G_ringref5_BoxErr_L3_hd (v_l117 : (List (Fin 3 → Int))) (v_x118 : Int) (v_y119 : (Fin 3 → Int)) (v_x148 : Int) (v_b149 : (Fin 100 → Bool)) (v_b150 : (Fin 100 → Bool)) : PS := ⟨[dd, dd, dd, .ref 0 0, .ref 1 0, dd, .ref 2 0, dd, dd, dd, dd, dd, .d (.sl (v_l117.map (fun x => PV.agg [.v (.int .i64 (x 0)), .v (.int .i64 (x 1)), .v (.int .i64 (x 2))]))), .d (.v (.int .i64 (v_l117.length : Int))), .d (.v (.int .i64 v_x118)), dd, dd, dd, dd, dd, dd, dd, dd, dd, dd, dd, dd, dd, dd, dd, dd, dd, dd, dd, dd, dd, dd, dd, dd, dd, dd, dd, dd, dd, dd, dd, dd, dd, dd, dd, dd, dd, dd, dd, dd, dd, dd, dd, dd, dd, dd, dd, dd, dd, dd, dd, dd, dd, dd, dd, dd, dd, dd, .d (.v (.int .i64 (v_y119 2))), .d (.v (.int .i64 v_x148)), dd, dd, dd, dd, dd, dd, dd, dd, dd, dd, dd, dd, dd, dd], [.box [.d (.v (.bool (v_b149 0))), .d (.v (.bool (v_b149 1))), .d (.v (.bool (v_b149 2))), .d (.v (.bool (v_b149 3))), .d (.v (.bool (v_b149 4))), .d (.v (.bool (v_b149 5))), .d (.v (.bool (v_b149 6))), .d (.v (.bool (v_b149 7))), .d (.v (.bool (v_b149 8))), .d (.v (.bool (v_b149 9))), .d (.v (.bool (v_b149 10))), .d (.v (.bool (v_b149 11))), .d (.v (.bool (v_b149 12))), .d (.v (.bool (v_b149 13))), .d (.v (.bool (v_b149 14))), .d (.v (.bool (v_b149 15))), .d (.v (.bool (v_b149 16))), .d (.v (.bool (v_b149 17))), .d (.v (.bool (v_b149 18))), .d (.v (.bool (v_b149 19))), .d (.v (.bool (v_b149 20))), .d (.v (.bool (v_b149 21))), .d (.v (.bool (v_b149 22))), .d (.v (.bool (v_b149 23))), .d (.v (.bool (v_b149 24))), .d (.v (.bool (v_b149 25))), .d (.v (.bool (v_b149 26))), .d (.v (.bool (v_b149 27))), .d (.v (.bool (v_b149 28))), .d (.v (.bool (v_b149 29))), .d (.v (.bool (v_b149 30))), .d (.v (.bool (v_b149 31))), .d (.v (.bool (v_b149 32))), .d (.v (.bool (v_b149 33))), .d (.v (.bool (v_b149 34))), .d (.v (.bool (v_b149 35))), .d (.v (.bool (v_b149 36))), .d (.v (.bool (v_b149 37))), .d (.v (.bool (v_b149 38))), .d (.v (.bool (v_b149 39))), .d (.v (.bool (v_b149 40))), .d (.v (.bool (v_b149 41))), .d (.v (.bool (v_b149 42))), .d (.v (.bool (v_b149 43))), .d (.v (.bool (v_b149 44))), .d (.v (.bool (v_b149 45))), .d (.v (.bool (v_b149 46))), .d (.v (.bool (v_b149 47))), .d (.v (.bool (v_b149 48))), .d (.v (.bool (v_b149 49))), .d (.v (.bool (v_b149 50))), .d (.v (.bool (v_b149 51))), .d (.v (.bool (v_b149 52))), .d (.v (.bool (v_b149 53))), .d (.v (.bool (v_b149 54))), .d (.v (.bool (v_b149 55))), .d (.v (.bool (v_b149 56))), .d (.v (.bool (v_b149 57))), .d (.v (.bool (v_b149 58))), .d (.v (.bool (v_b149 59))), .d (.v (.bool (v_b149 60))), .d (.v (.bool (v_b149 61))), .d (.v (.bool (v_b149 62))), .d (.v (.bool (v_b149 63))), .d (.v (.bool (v_b149 64))), .d (.v (.bool (v_b149 65))), .d (.v (.bool (v_b149 66))), .d (.v (.bool (v_b149 67))), .d (.v (.bool (v_b149 68))), .d (.v (.bool (v_b149 69))), .d (.v (.bool (v_b149 70))), .d (.v (.bool (v_b149 71))), .d (.v (.bool (v_b149 72))), .d (.v (.bool (v_b149 73))), .d (.v (.bool (v_b149 74))), .d (.v (.bool (v_b149 75))), .d (.v (.bool (v_b149 76))), .d (.v (.bool (v_b149 77))), .d (.v (.bool (v_b149 78))), .d (.v (.bool (v_b149 79))), .d (.v (.bool (v_b149 80))), .d (.v (.bool (v_b149 81))), .d (.v (.bool (v_b149 82))), .d (.v (.bool (v_b149 83))), .d (.v (.bool (v_b149 84))), .d (.v (.bool (v_b149 85))), .d (.v (.bool (v_b149 86))), .d (.v (.bool (v_b149 87))), .d (.v (.bool (v_b149 88))), .d (.v (.bool (v_b149 89))), .d (.v (.bool (v_b149 90))), .d (.v (.bool (v_b149 91))), .d (.v (.bool (v_b149 92))), .d (.v (.bool (v_b149 93))), .d (.v (.bool (v_b149 94))), .d (.v (.bool (v_b149 95))), .d (.v (.bool (v_b149 96))), .d (.v (.bool (v_b149 97))), .d (.v (.bool (v_b149 98))), .d (.v (.bool (v_b149 99)))], .box [.d (.v (.bool (v_b150 0))), .d (.v (.bool (v_b150 1))), .d (.v (.bool (v_b150 2))), .d (.v (.bool (v_b150 3))), .d (.v (.bool (v_b150 4))), .d (.v (.bool (v_b150 5))), .d (.v (.bool (v_b150 6))), .d (.v (.bool (v_b150 7))), .d (.v (.bool (v_b150 8))), .d (.v (.bool (v_b150 9))), .d (.v (.bool (v_b150 10))), .d (.v (.bool (v_b150 11))), .d (.v (.bool (v_b150 12))), .d (.v (.bool (v_b150 13))), .d (.v (.bool (v_b150 14))), .d (.v (.bool (v_b150 15))), .d (.v (.bool (v_b150 16))), .d (.v (.bool (v_b150 17))), .d (.v (.bool (v_b150 18))), .d (.v (.bool (v_b150 19))), .d (.v (.bool (v_b150 20))), .d (.v (.bool (v_b150 21))), .d (.v (.bool (v_b150 22))), .d (.v (.bool (v_b150 23))), .d (.v (.bool (v_b150 24))), .d (.v (.bool (v_b150 25))), .d (.v (.bool (v_b150 26))), .d (.v (.bool (v_b150 27))), .d (.v (.bool (v_b150 28))), .d (.v (.bool (v_b150 29))), .d (.v (.bool (v_b150 30))), .d (.v (.bool (v_b150 31))), .d (.v (.bool (v_b150 32))), .d (.v (.bool (v_b150 33))), .d (.v (.bool (v_b150 34))), .d (.v (.bool (v_b150 35))), .d (.v (.bool (v_b150 36))), .d (.v (.bool (v_b150 37))), .d (.v (.bool (v_b150 38))), .d (.v (.bool (v_b150 39))), .d (.v (.bool (v_b150 40))), .d (.v (.bool (v_b150 41))), .d (.v (.bool (v_b150 42))), .d (.v (.bool (v_b150 43))), .d (.v (.bool (v_b150 44))), .d (.v (.bool (v_b150 45))), .d (.v (.bool (v_b150 46))), .d (.v (.bool (v_b150 47))), .d (.v (.bool (v_b150 48))), .d (.v (.bool (v_b150 49))), .d (.v (.bool (v_b150 50))), .d (.v (.bool (v_b150 51))), .d (.v (.bool (v_b150 52))), .d (.v (.bool (v_b150 53))), .d (.v (.bool (v_b150 54))), .d (.v (.bool (v_b150 55))), .d (.v (.bool (v_b150 56))), .d (.v (.bool (v_b150 57))), .d (.v (.bool (v_b150 58))), .d (.v (.bool (v_b150 59))), .d (.v (.bool (v_b150 60))), .d (.v (.bool (v_b150 61))), .d (.v (.bool (v_b150 62))), .d (.v (.bool (v_b150 63))), .d (.v (.bool (v_b150 64))), .d (.v (.bool (v_b150 65))), .d (.v (.bool (v_b150 66))), .d (.v (.bool (v_b150 67))), .d (.v (.bool (v_b150 68))), .d (.v (.bool (v_b150 69))), .d (.v (.bool (v_b150 70))), .d (.v (.bool (v_b150 71))), .d (.v (.bool (v_b150 72))), .d (.v (.bool (v_b150 73))), .d (.v (.bool (v_b150 74))), .d (.v (.bool (v_b150 75))), .d (.v (.bool (v_b150 76))), .d (.v (.bool (v_b150 77))), .d (.v (.bool (v_b150 78))), .d (.v (.bool (v_b150 79))), .d (.v (.bool (v_b150 80))), .d (.v (.bool (v_b150 81))), .d (.v (.bool (v_b150 82))), .d (.v (.bool (v_b150 83))), .d (.v (.bool (v_b150 84))), .d (.v (.bool (v_b150 85))), .d (.v (.bool (v_b150 86))), .d (.v (.bool (v_b150 87))), .d (.v (.bool (v_b150 88))), .d (.v (.bool (v_b150 89))), .d (.v (.bool (v_b150 90))), .d (.v (.bool (v_b150 91))), .d (.v (.bool (v_b150 92))), .d (.v (.bool (v_b150 93))), .d (.v (.bool (v_b150 94))), .d (.v (.bool (v_b150 95))), .d (.v (.bool (v_b150 96))), .d (.v (.bool (v_b150 97))), .d (.v (.bool (v_b150 98))), .d (.v (.bool (v_b150 99)))], .box [.d (.v (.int .i64 (v_y119 0))), .d (.v (.int .i64 (v_y119 1))), .d (.v (.int .i64 (v_y119 2)))]]⟩
def G_ringref5_BoxErr_L3 (n : Nat) (v_l117 : (List (Fin 3 → Int))) (v_x118 : Int) (v_y119 : (Fin 3 → Int)) : Nat → Int → (Fin 100 → Bool) → (Fin 100 → Bool) → Option G_ringref5_BoxErr_L3_R
  | 0, _, _, _ => none
  | k + 1, v_x148, v_b149, v_b150 =>
    if v_x148 < (v_y119 2) then
     if 0 ≤ (wi .i64 ((v_y119 0) + v_x148)) ∧ (wi .i64 ((v_y119 0) + v_x148)) < (100 : Int) then
      (getA v_b149 (wi .i64 ((v_y119 0) + v_x148))).bind fun (v_y153 : Bool) =>
      if 0 ≤ (wi .i64 ((v_y119 1) + v_x148)) ∧ (wi .i64 ((v_y119 1) + v_x148)) < (100 : Int) then
       (getA v_b150 (wi .i64 ((v_y119 1) + v_x148))).bind fun (v_y154 : Bool) =>
       G_ringref5_BoxErr_L3 n v_l117 v_x118 v_y119 k (wi .i64 (v_x148 + 1)) (setA v_b149 (wi .i64 ((v_y119 0) + v_x148)) true) (setA v_b150 (wi .i64 ((v_y119 1) + v_x148)) true)
      else none
     else none
    else
     some (.x0 v_b149 v_b150)
theorem G_ringref5_BoxErr_L3_ok {Fi : Ex → PS → Prop} (hF : KC 89 Fi) (ks : List Fr) (n : Nat) (v_l117 : (List (Fin 3 → Int))) (v_x118 : Int) (v_y119 : (Fin 3 → Int))  : ∀ (k : Nat) (v_x148 : Int) (v_b149 : (Fin 100 → Bool)) (v_b150 : (Fin 100 → Bool)) (o : G_ringref5_BoxErr_L3_R), G_ringref5_BoxErr_L3 n v_l117 v_x118 v_y119 k v_x148 v_b149 v_b150 = some o → RunE Try.prog 89 Fi ks (G_ringref5_BoxErr_L3_ex o) (G_ringref5_BoxErr_L3_st v_l117 v_x118 v_y119 o) → RunE Try.prog 89 Fi (.l k (cP (cB (cR (cR (cR (cR (cB (cL (cR (cR (cP (cB (cR (cL (cR (cR (cR (bodyOf Try.f37)))))))))))))))))) :: ks) .normal (G_ringref5_BoxErr_L3_hd v_l117 v_x118 v_y119 v_x148 v_b149 v_b150)
  | 0, v_x148, v_b149, v_b150, o, h, q => by rw [G_ringref5_BoxErr_L3] at h; cases h
  | k + 1, v_x148, v_b149, v_b150, o, h, q => by
    rw [G_ringref5_BoxErr_L3] at h
    by_cases h158 : v_x148 < (v_y119 2)
    · rw [if_pos h158] at h
      by_cases h163 : 0 ≤ (wi .i64 ((v_y119 0) + v_x148)) ∧ (wi .i64 ((v_y119 0) + v_x148)) < (100 : Int)
      · rw [if_pos h163] at h
        obtain ⟨v_y153, h164, h⟩ := bind_some h
        by_cases h165 : 0 ≤ (wi .i64 ((v_y119 1) + v_x148)) ∧ (wi .i64 ((v_y119 1) + v_x148)) < (100 : Int)
        · rw [if_pos h165] at h
          obtain ⟨v_y154, h166, h⟩ := bind_some h
          exact pkk_sound TTok mix hF 13 (hs := [.t true, .c, .c, .x [.d (.v (.bool ((setA v_b149 (wi .i64 ((v_y119 0) + v_x148)) true) 0))), .d (.v (.bool ((setA v_b149 (wi .i64 ((v_y119 0) + v_x148)) true) 1))), .d (.v (.bool ((setA v_b149 (wi .i64 ((v_y119 0) + v_x148)) true) 2))), .d (.v (.bool ((setA v_b149 (wi .i64 ((v_y119 0) + v_x148)) true) 3))), .d (.v (.bool ((setA v_b149 (wi .i64 ((v_y119 0) + v_x148)) true) 4))), .d (.v (.bool ((setA v_b149 (wi .i64 ((v_y119 0) + v_x148)) true) 5))), .d (.v (.bool ((setA v_b149 (wi .i64 ((v_y119 0) + v_x148)) true) 6))), .d (.v (.bool ((setA v_b149 (wi .i64 ((v_y119 0) + v_x148)) true) 7))), .d (.v (.bool ((setA v_b149 (wi .i64 ((v_y119 0) + v_x148)) true) 8))), .d (.v (.bool ((setA v_b149 (wi .i64 ((v_y119 0) + v_x148)) true) 9))), .d (.v (.bool ((setA v_b149 (wi .i64 ((v_y119 0) + v_x148)) true) 10))), .d (.v (.bool ((setA v_b149 (wi .i64 ((v_y119 0) + v_x148)) true) 11))), .d (.v (.bool ((setA v_b149 (wi .i64 ((v_y119 0) + v_x148)) true) 12))), .d (.v (.bool ((setA v_b149 (wi .i64 ((v_y119 0) + v_x148)) true) 13))), .d (.v (.bool ((setA v_b149 (wi .i64 ((v_y119 0) + v_x148)) true) 14))), .d (.v (.bool ((setA v_b149 (wi .i64 ((v_y119 0) + v_x148)) true) 15))), .d (.v (.bool ((setA v_b149 (wi .i64 ((v_y119 0) + v_x148)) true) 16))), .d (.v (.bool ((setA v_b149 (wi .i64 ((v_y119 0) + v_x148)) true) 17))), .d (.v (.bool ((setA v_b149 (wi .i64 ((v_y119 0) + v_x148)) true) 18))), .d (.v (.bool ((setA v_b149 (wi .i64 ((v_y119 0) + v_x148)) true) 19))), .d (.v (.bool ((setA v_b149 (wi .i64 ((v_y119 0) + v_x148)) true) 20))), .d (.v (.bool ((setA v_b149 (wi .i64 ((v_y119 0) + v_x148)) true) 21))), .d (.v (.bool ((setA v_b149 (wi .i64 ((v_y119 0) + v_x148)) true) 22))), .d (.v (.bool ((setA v_b149 (wi .i64 ((v_y119 0) + v_x148)) true) 23))), .d (.v (.bool ((setA v_b149 (wi .i64 ((v_y119 0) + v_x148)) true) 24))), .d (.v (.bool ((setA v_b149 (wi .i64 ((v_y119 0) + v_x148)) true) 25))), .d (.v (.bool ((setA v_b149 (wi .i64 ((v_y119 0) + v_x148)) true) 26))), .d (.v (.bool ((setA v_b149 (wi .i64 ((v_y119 0) + v_x148)) true) 27))), .d (.v (.bool ((setA v_b149 (wi .i64 ((v_y119 0) + v_x148)) true) 28))), .d (.v (.bool ((setA v_b149 (wi .i64 ((v_y119 0) + v_x148)) true) 29))), .d (.v (.bool ((setA v_b149 (wi .i64 ((v_y119 0) + v_x148)) true) 30))), .d (.v (.bool ((setA v_b149 (wi .i64 ((v_y119 0) + v_x148)) true) 31))), .d (.v (.bool ((setA v_b149 (wi .i64 ((v_y119 0) + v_x148)) true) 32))), .d (.v (.bool ((setA v_b149 (wi .i64 ((v_y119 0) + v_x148)) true) 33))), .d (.v (.bool ((setA v_b149 (wi .i64 ((v_y119 0) + v_x148)) true) 34))), .d (.v (.bool ((setA v_b149 (wi .i64 ((v_y119 0) + v_x148)) true) 35))), .d (.v (.bool ((setA v_b149 (wi .i64 ((v_y119 0) + v_x148)) true) 36))), .d (.v (.bool ((setA v_b149 (wi .i64 ((v_y119 0) + v_x148)) true) 37))), .d (.v (.bool ((setA v_b149 (wi .i64 ((v_y119 0) + v_x148)) true) 38))), .d (.v (.bool ((setA v_b149 (wi .i64 ((v_y119 0) + v_x148)) true) 39))), .d (.v (.bool ((setA v_b149 (wi .i64 ((v_y119 0) + v_x148)) true) 40))), .d (.v (.bool ((setA v_b149 (wi .i64 ((v_y119 0) + v_x148)) true) 41))), .d (.v (.bool ((setA v_b149 (wi .i64 ((v_y119 0) + v_x148)) true) 42))), .d (.v (.bool ((setA v_b149 (wi .i64 ((v_y119 0) + v_x148)) true) 43))), .d (.v (.bool ((setA v_b149 (wi .i64 ((v_y119 0) + v_x148)) true) 44))), .d (.v (.bool ((setA v_b149 (wi .i64 ((v_y119 0) + v_x148)) true) 45))), .d (.v (.bool ((setA v_b149 (wi .i64 ((v_y119 0) + v_x148)) true) 46))), .d (.v (.bool ((setA v_b149 (wi .i64 ((v_y119 0) + v_x148)) true) 47))), .d (.v (.bool ((setA v_b149 (wi .i64 ((v_y119 0) + v_x148)) true) 48))), .d (.v (.bool ((setA v_b149 (wi .i64 ((v_y119 0) + v_x148)) true) 49))), .d (.v (.bool ((setA v_b149 (wi .i64 ((v_y119 0) + v_x148)) true) 50))), .d (.v (.bool ((setA v_b149 (wi .i64 ((v_y119 0) + v_x148)) true) 51))), .d (.v (.bool ((setA v_b149 (wi .i64 ((v_y119 0) + v_x148)) true) 52))), .d (.v (.bool ((setA v_b149 (wi .i64 ((v_y119 0) + v_x148)) true) 53))), .d (.v (.bool ((setA v_b149 (wi .i64 ((v_y119 0) + v_x148)) true) 54))), .d (.v (.bool ((setA v_b149 (wi .i64 ((v_y119 0) + v_x148)) true) 55))), .d (.v (.bool ((setA v_b149 (wi .i64 ((v_y119 0) + v_x148)) true) 56))), .d (.v (.bool ((setA v_b149 (wi .i64 ((v_y119 0) + v_x148)) true) 57))), .d (.v (.bool ((setA v_b149 (wi .i64 ((v_y119 0) + v_x148)) true) 58))), .d (.v (.bool ((setA v_b149 (wi .i64 ((v_y119 0) + v_x148)) true) 59))), .d (.v (.bool ((setA v_b149 (wi .i64 ((v_y119 0) + v_x148)) true) 60))), .d (.v (.bool ((setA v_b149 (wi .i64 ((v_y119 0) + v_x148)) true) 61))), .d (.v (.bool ((setA v_b149 (wi .i64 ((v_y119 0) + v_x148)) true) 62))), .d (.v (.bool ((setA v_b149 (wi .i64 ((v_y119 0) + v_x148)) true) 63))), .d (.v (.bool ((setA v_b149 (wi .i64 ((v_y119 0) + v_x148)) true) 64))), .d (.v (.bool ((setA v_b149 (wi .i64 ((v_y119 0) + v_x148)) true) 65))), .d (.v (.bool ((setA v_b149 (wi .i64 ((v_y119 0) + v_x148)) true) 66))), .d (.v (.bool ((setA v_b149 (wi .i64 ((v_y119 0) + v_x148)) true) 67))), .d (.v (.bool ((setA v_b149 (wi .i64 ((v_y119 0) + v_x148)) true) 68))), .d (.v (.bool ((setA v_b149 (wi .i64 ((v_y119 0) + v_x148)) true) 69))), .d (.v (.bool ((setA v_b149 (wi .i64 ((v_y119 0) + v_x148)) true) 70))), .d (.v (.bool ((setA v_b149 (wi .i64 ((v_y119 0) + v_x148)) true) 71))), .d (.v (.bool ((setA v_b149 (wi .i64 ((v_y119 0) + v_x148)) true) 72))), .d (.v (.bool ((setA v_b149 (wi .i64 ((v_y119 0) + v_x148)) true) 73))), .d (.v (.bool ((setA v_b149 (wi .i64 ((v_y119 0) + v_x148)) true) 74))), .d (.v (.bool ((setA v_b149 (wi .i64 ((v_y119 0) + v_x148)) true) 75))), .d (.v (.bool ((setA v_b149 (wi .i64 ((v_y119 0) + v_x148)) true) 76))), .d (.v (.bool ((setA v_b149 (wi .i64 ((v_y119 0) + v_x148)) true) 77))), .d (.v (.bool ((setA v_b149 (wi .i64 ((v_y119 0) + v_x148)) true) 78))), .d (.v (.bool ((setA v_b149 (wi .i64 ((v_y119 0) + v_x148)) true) 79))), .d (.v (.bool ((setA v_b149 (wi .i64 ((v_y119 0) + v_x148)) true) 80))), .d (.v (.bool ((setA v_b149 (wi .i64 ((v_y119 0) + v_x148)) true) 81))), .d (.v (.bool ((setA v_b149 (wi .i64 ((v_y119 0) + v_x148)) true) 82))), .d (.v (.bool ((setA v_b149 (wi .i64 ((v_y119 0) + v_x148)) true) 83))), .d (.v (.bool ((setA v_b149 (wi .i64 ((v_y119 0) + v_x148)) true) 84))), .d (.v (.bool ((setA v_b149 (wi .i64 ((v_y119 0) + v_x148)) true) 85))), .d (.v (.bool ((setA v_b149 (wi .i64 ((v_y119 0) + v_x148)) true) 86))), .d (.v (.bool ((setA v_b149 (wi .i64 ((v_y119 0) + v_x148)) true) 87))), .d (.v (.bool ((setA v_b149 (wi .i64 ((v_y119 0) + v_x148)) true) 88))), .d (.v (.bool ((setA v_b149 (wi .i64 ((v_y119 0) + v_x148)) true) 89))), .d (.v (.bool ((setA v_b149 (wi .i64 ((v_y119 0) + v_x148)) true) 90))), .d (.v (.bool ((setA v_b149 (wi .i64 ((v_y119 0) + v_x148)) true) 91))), .d (.v (.bool ((setA v_b149 (wi .i64 ((v_y119 0) + v_x148)) true) 92))), .d (.v (.bool ((setA v_b149 (wi .i64 ((v_y119 0) + v_x148)) true) 93))), .d (.v (.bool ((setA v_b149 (wi .i64 ((v_y119 0) + v_x148)) true) 94))), .d (.v (.bool ((setA v_b149 (wi .i64 ((v_y119 0) + v_x148)) true) 95))), .d (.v (.bool ((setA v_b149 (wi .i64 ((v_y119 0) + v_x148)) true) 96))), .d (.v (.bool ((setA v_b149 (wi .i64 ((v_y119 0) + v_x148)) true) 97))), .d (.v (.bool ((setA v_b149 (wi .i64 ((v_y119 0) + v_x148)) true) 98))), .d (.v (.bool ((setA v_b149 (wi .i64 ((v_y119 0) + v_x148)) true) 99)))], .c, .x [.d (.v (.bool ((setA v_b150 (wi .i64 ((v_y119 1) + v_x148)) true) 0))), .d (.v (.bool ((setA v_b150 (wi .i64 ((v_y119 1) + v_x148)) true) 1))), .d (.v (.bool ((setA v_b150 (wi .i64 ((v_y119 1) + v_x148)) true) 2))), .d (.v (.bool ((setA v_b150 (wi .i64 ((v_y119 1) + v_x148)) true) 3))), .d (.v (.bool ((setA v_b150 (wi .i64 ((v_y119 1) + v_x148)) true) 4))), .d (.v (.bool ((setA v_b150 (wi .i64 ((v_y119 1) + v_x148)) true) 5))), .d (.v (.bool ((setA v_b150 (wi .i64 ((v_y119 1) + v_x148)) true) 6))), .d (.v (.bool ((setA v_b150 (wi .i64 ((v_y119 1) + v_x148)) true) 7))), .d (.v (.bool ((setA v_b150 (wi .i64 ((v_y119 1) + v_x148)) true) 8))), .d (.v (.bool ((setA v_b150 (wi .i64 ((v_y119 1) + v_x148)) true) 9))), .d (.v (.bool ((setA v_b150 (wi .i64 ((v_y119 1) + v_x148)) true) 10))), .d (.v (.bool ((setA v_b150 (wi .i64 ((v_y119 1) + v_x148)) true) 11))), .d (.v (.bool ((setA v_b150 (wi .i64 ((v_y119 1) + v_x148)) true) 12))), .d (.v (.bool ((setA v_b150 (wi .i64 ((v_y119 1) + v_x148)) true) 13))), .d (.v (.bool ((setA v_b150 (wi .i64 ((v_y119 1) + v_x148)) true) 14))), .d (.v (.bool ((setA v_b150 (wi .i64 ((v_y119 1) + v_x148)) true) 15))), .d (.v (.bool ((setA v_b150 (wi .i64 ((v_y119 1) + v_x148)) true) 16))), .d (.v (.bool ((setA v_b150 (wi .i64 ((v_y119 1) + v_x148)) true) 17))), .d (.v (.bool ((setA v_b150 (wi .i64 ((v_y119 1) + v_x148)) true) 18))), .d (.v (.bool ((setA v_b150 (wi .i64 ((v_y119 1) + v_x148)) true) 19))), .d (.v (.bool ((setA v_b150 (wi .i64 ((v_y119 1) + v_x148)) true) 20))), .d (.v (.bool ((setA v_b150 (wi .i64 ((v_y119 1) + v_x148)) true) 21))), .d (.v (.bool ((setA v_b150 (wi .i64 ((v_y119 1) + v_x148)) true) 22))), .d (.v (.bool ((setA v_b150 (wi .i64 ((v_y119 1) + v_x148)) true) 23))), .d (.v (.bool ((setA v_b150 (wi .i64 ((v_y119 1) + v_x148)) true) 24))), .d (.v (.bool ((setA v_b150 (wi .i64 ((v_y119 1) + v_x148)) true) 25))), .d (.v (.bool ((setA v_b150 (wi .i64 ((v_y119 1) + v_x148)) true) 26))), .d (.v (.bool ((setA v_b150 (wi .i64 ((v_y119 1) + v_x148)) true) 27))), .d (.v (.bool ((setA v_b150 (wi .i64 ((v_y119 1) + v_x148)) true) 28))), .d (.v (.bool ((setA v_b150 (wi .i64 ((v_y119 1) + v_x148)) true) 29))), .d (.v (.bool ((setA v_b150 (wi .i64 ((v_y119 1) + v_x148)) true) 30))), .d (.v (.bool ((setA v_b150 (wi .i64 ((v_y119 1) + v_x148)) true) 31))), .d (.v (.bool ((setA v_b150 (wi .i64 ((v_y119 1) + v_x148)) true) 32))), .d (.v (.bool ((setA v_b150 (wi .i64 ((v_y119 1) + v_x148)) true) 33))), .d (.v (.bool ((setA v_b150 (wi .i64 ((v_y119 1) + v_x148)) true) 34))), .d (.v (.bool ((setA v_b150 (wi .i64 ((v_y119 1) + v_x148)) true) 35))), .d (.v (.bool ((setA v_b150 (wi .i64 ((v_y119 1) + v_x148)) true) 36))), .d (.v (.bool ((setA v_b150 (wi .i64 ((v_y119 1) + v_x148)) true) 37))), .d (.v (.bool ((setA v_b150 (wi .i64 ((v_y119 1) + v_x148)) true) 38))), .d (.v (.bool ((setA v_b150 (wi .i64 ((v_y119 1) + v_x148)) true) 39))), .d (.v (.bool ((setA v_b150 (wi .i64 ((v_y119 1) + v_x148)) true) 40))), .d (.v (.bool ((setA v_b150 (wi .i64 ((v_y119 1) + v_x148)) true) 41))), .d (.v (.bool ((setA v_b150 (wi .i64 ((v_y119 1) + v_x148)) true) 42))), .d (.v (.bool ((setA v_b150 (wi .i64 ((v_y119 1) + v_x148)) true) 43))), .d (.v (.bool ((setA v_b150 (wi .i64 ((v_y119 1) + v_x148)) true) 44))), .d (.v (.bool ((setA v_b150 (wi .i64 ((v_y119 1) + v_x148)) true) 45))), .d (.v (.bool ((setA v_b150 (wi .i64 ((v_y119 1) + v_x148)) true) 46))), .d (.v (.bool ((setA v_b150 (wi .i64 ((v_y119 1) + v_x148)) true) 47))), .d (.v (.bool ((setA v_b150 (wi .i64 ((v_y119 1) + v_x148)) true) 48))), .d (.v (.bool ((setA v_b150 (wi .i64 ((v_y119 1) + v_x148)) true) 49))), .d (.v (.bool ((setA v_b150 (wi .i64 ((v_y119 1) + v_x148)) true) 50))), .d (.v (.bool ((setA v_b150 (wi .i64 ((v_y119 1) + v_x148)) true) 51))), .d (.v (.bool ((setA v_b150 (wi .i64 ((v_y119 1) + v_x148)) true) 52))), .d (.v (.bool ((setA v_b150 (wi .i64 ((v_y119 1) + v_x148)) true) 53))), .d (.v (.bool ((setA v_b150 (wi .i64 ((v_y119 1) + v_x148)) true) 54))), .d (.v (.bool ((setA v_b150 (wi .i64 ((v_y119 1) + v_x148)) true) 55))), .d (.v (.bool ((setA v_b150 (wi .i64 ((v_y119 1) + v_x148)) true) 56))), .d (.v (.bool ((setA v_b150 (wi .i64 ((v_y119 1) + v_x148)) true) 57))), .d (.v (.bool ((setA v_b150 (wi .i64 ((v_y119 1) + v_x148)) true) 58))), .d (.v (.bool ((setA v_b150 (wi .i64 ((v_y119 1) + v_x148)) true) 59))), .d (.v (.bool ((setA v_b150 (wi .i64 ((v_y119 1) + v_x148)) true) 60))), .d (.v (.bool ((setA v_b150 (wi .i64 ((v_y119 1) + v_x148)) true) 61))), .d (.v (.bool ((setA v_b150 (wi .i64 ((v_y119 1) + v_x148)) true) 62))), .d (.v (.bool ((setA v_b150 (wi .i64 ((v_y119 1) + v_x148)) true) 63))), .d (.v (.bool ((setA v_b150 (wi .i64 ((v_y119 1) + v_x148)) true) 64))), .d (.v (.bool ((setA v_b150 (wi .i64 ((v_y119 1) + v_x148)) true) 65))), .d (.v (.bool ((setA v_b150 (wi .i64 ((v_y119 1) + v_x148)) true) 66))), .d (.v (.bool ((setA v_b150 (wi .i64 ((v_y119 1) + v_x148)) true) 67))), .d (.v (.bool ((setA v_b150 (wi .i64 ((v_y119 1) + v_x148)) true) 68))), .d (.v (.bool ((setA v_b150 (wi .i64 ((v_y119 1) + v_x148)) true) 69))), .d (.v (.bool ((setA v_b150 (wi .i64 ((v_y119 1) + v_x148)) true) 70))), .d (.v (.bool ((setA v_b150 (wi .i64 ((v_y119 1) + v_x148)) true) 71))), .d (.v (.bool ((setA v_b150 (wi .i64 ((v_y119 1) + v_x148)) true) 72))), .d (.v (.bool ((setA v_b150 (wi .i64 ((v_y119 1) + v_x148)) true) 73))), .d (.v (.bool ((setA v_b150 (wi .i64 ((v_y119 1) + v_x148)) true) 74))), .d (.v (.bool ((setA v_b150 (wi .i64 ((v_y119 1) + v_x148)) true) 75))), .d (.v (.bool ((setA v_b150 (wi .i64 ((v_y119 1) + v_x148)) true) 76))), .d (.v (.bool ((setA v_b150 (wi .i64 ((v_y119 1) + v_x148)) true) 77))), .d (.v (.bool ((setA v_b150 (wi .i64 ((v_y119 1) + v_x148)) true) 78))), .d (.v (.bool ((setA v_b150 (wi .i64 ((v_y119 1) + v_x148)) true) 79))), .d (.v (.bool ((setA v_b150 (wi .i64 ((v_y119 1) + v_x148)) true) 80))), .d (.v (.bool ((setA v_b150 (wi .i64 ((v_y119 1) + v_x148)) true) 81))), .d (.v (.bool ((setA v_b150 (wi .i64 ((v_y119 1) + v_x148)) true) 82))), .d (.v (.bool ((setA v_b150 (wi .i64 ((v_y119 1) + v_x148)) true) 83))), .d (.v (.bool ((setA v_b150 (wi .i64 ((v_y119 1) + v_x148)) true) 84))), .d (.v (.bool ((setA v_b150 (wi .i64 ((v_y119 1) + v_x148)) true) 85))), .d (.v (.bool ((setA v_b150 (wi .i64 ((v_y119 1) + v_x148)) true) 86))), .d (.v (.bool ((setA v_b150 (wi .i64 ((v_y119 1) + v_x148)) true) 87))), .d (.v (.bool ((setA v_b150 (wi .i64 ((v_y119 1) + v_x148)) true) 88))), .d (.v (.bool ((setA v_b150 (wi .i64 ((v_y119 1) + v_x148)) true) 89))), .d (.v (.bool ((setA v_b150 (wi .i64 ((v_y119 1) + v_x148)) true) 90))), .d (.v (.bool ((setA v_b150 (wi .i64 ((v_y119 1) + v_x148)) true) 91))), .d (.v (.bool ((setA v_b150 (wi .i64 ((v_y119 1) + v_x148)) true) 92))), .d (.v (.bool ((setA v_b150 (wi .i64 ((v_y119 1) + v_x148)) true) 93))), .d (.v (.bool ((setA v_b150 (wi .i64 ((v_y119 1) + v_x148)) true) 94))), .d (.v (.bool ((setA v_b150 (wi .i64 ((v_y119 1) + v_x148)) true) 95))), .d (.v (.bool ((setA v_b150 (wi .i64 ((v_y119 1) + v_x148)) true) 96))), .d (.v (.bool ((setA v_b150 (wi .i64 ((v_y119 1) + v_x148)) true) 97))), .d (.v (.bool ((setA v_b150 (wi .i64 ((v_y119 1) + v_x148)) true) 98))), .d (.v (.bool ((setA v_b150 (wi .i64 ((v_y119 1) + v_x148)) true) 99)))], .c]) (ts := []) (s := [0, 1, 2]) (l := [3, 4, 6, 12, 13, 14, 73, 74]) (by kernel_rfl) (by kernel_rfl) (.cons (dt h158) (.cons (show (0 : Int) ≤ 0 ∧ (0 : Int) < 3 by decide) (.cons (show (0 : Int) ≤ 1 ∧ (1 : Int) < 3 by decide) (.cons h163 (.cons (arr_store (γ := FV) (sz := 1) (g := (fun x => [.d (.v (.bool x))])) (pre := []) (post := []) (o := 0) (y := true) (zs := [.d (.v (.bool true))]) (fun _ => rfl) h164 rfl (Nat.le_of_ble_eq_true rfl)).1 (.cons (arr_store (γ := FV) (sz := 1) (g := (fun x => [.d (.v (.bool x))])) (pre := []) (post := []) (o := 0) (y := true) (zs := [.d (.v (.bool true))]) (fun _ => rfl) h164 rfl (Nat.le_of_ble_eq_true rfl)).2 (.cons h165 (.cons (arr_store (γ := FV) (sz := 1) (g := (fun x => [.d (.v (.bool x))])) (pre := []) (post := []) (o := 0) (y := true) (zs := [.d (.v (.bool true))]) (fun _ => rfl) h166 rfl (Nat.le_of_ble_eq_true rfl)).1 (.cons (arr_store (γ := FV) (sz := 1) (g := (fun x => [.d (.v (.bool x))])) (pre := []) (post := []) (o := 0) (y := true) (zs := [.d (.v (.bool true))]) (fun _ => rfl) h166 rfl (Nat.le_of_ble_eq_true rfl)).2 .nil))))))))) (G_ringref5_BoxErr_L3_ok hF ks n v_l117 v_x118 v_y119 k (wi .i64 (v_x148 + 1)) (setA v_b149 (wi .i64 ((v_y119 0) + v_x148)) true) (setA v_b150 (wi .i64 ((v_y119 1) + v_x148)) true) _ h q)
        · rw [if_neg h165] at h; cases h
      · rw [if_neg h163] at h; cases h
    · rw [if_neg h158] at h
      cases h
      exact pkk_sound TTok mix hF 8 (hs := [.t false]) (ts := []) (s := [0, 1]) (l := [3, 4, 12, 13, 14]) (by kernel_rfl) (by kernel_rfl) (.cons (df h158) .nil) q
inductive G_ringref5_BoxErr_C4_R where
  | x0 (v_x164 : Bool)
def G_ringref5_BoxErr_C4_ex : G_ringref5_BoxErr_C4_R → Ex
  | .x0 _ => .normal
def G_ringref5_BoxErr_C4_st (v_l117 : (List (Fin 3 → Int))) (v_x160 : Int) (v_b161 : (Fin 100 → Bool)) (v_b162 : (Fin 100 → Bool)) (v_y163 : (Fin 3 → Int)) : G_ringref5_BoxErr_C4_R → PS
  | .x0 v_x164 => ⟨[dd, dd, dd, .ref 0 0, .ref 1 0, dd, .ref 2 0, dd, dd, dd, dd, dd, .d (.sl (v_l117.map (fun x => PV.agg [.v (.int .i64 (x 0)), .v (.int .i64 (x 1)), .v (.int .i64 (x 2))]))), .d (.v (.int .i64 (v_l117.length : Int))), .d (.v (.int .i64 v_x160)), dd, dd, dd, dd, dd, dd, dd, dd, dd, dd, dd, dd, dd, dd, dd, dd, dd, dd, dd, dd, dd, dd, dd, dd, dd, dd, dd, dd, dd, dd, dd, dd, dd, dd, dd, dd, .d (.v (.bool v_x164)), dd, dd, dd, dd, dd, dd, dd, dd, dd, dd, dd, dd, dd, dd, dd, dd, dd, dd, dd, dd, dd, dd, dd, dd, dd, dd, dd, dd, dd, dd, dd, dd, dd, dd, dd, dd, dd], [.box [.d (.v (.bool (v_b161 0))), .d (.v (.bool (v_b161 1))), .d (.v (.bool (v_b161 2))), .d (.v (.bool (v_b161 3))), .d (.v (.bool (v_b161 4))), .d (.v (.bool (v_b161 5))), .d (.v (.bool (v_b161 6))), .d (.v (.bool (v_b161 7))), .d (.v (.bool (v_b161 8))), .d (.v (.bool (v_b161 9))), .d (.v (.bool (v_b161 10))), .d (.v (.bool (v_b161 11))), .d (.v (.bool (v_b161 12))), .d (.v (.bool (v_b161 13))), .d (.v (.bool (v_b161 14))), .d (.v (.bool (v_b161 15))), .d (.v (.bool (v_b161 16))), .d (.v (.bool (v_b161 17))), .d (.v (.bool (v_b161 18))), .d (.v (.bool (v_b161 19))), .d (.v (.bool (v_b161 20))), .d (.v (.bool (v_b161 21))), .d (.v (.bool (v_b161 22))), .d (.v (.bool (v_b161 23))), .d (.v (.bool (v_b161 24))), .d (.v (.bool (v_b161 25))), .d (.v (.bool (v_b161 26))), .d (.v (.bool (v_b161 27))), .d (.v (.bool (v_b161 28))), .d (.v (.bool (v_b161 29))), .d (.v (.bool (v_b161 30))), .d (.v (.bool (v_b161 31))), .d (.v (.bool (v_b161 32))), .d (.v (.bool (v_b161 33))), .d (.v (.bool (v_b161 34))), .d (.v (.bool (v_b161 35))), .d (.v (.bool (v_b161 36))), .d (.v (.bool (v_b161 37))), .d (.v (.bool (v_b161 38))), .d (.v (.bool (v_b161 39))), .d (.v (.bool (v_b161 40))), .d (.v (.bool (v_b161 41))), .d (.v (.bool (v_b161 42))), .d (.v (.bool (v_b161 43))), .d (.v (.bool (v_b161 44))), .d (.v (.bool (v_b161 45))), .d (.v (.bool (v_b161 46))), .d (.v (.bool (v_b161 47))), .d (.v (.bool (v_b161 48))), .d (.v (.bool (v_b161 49))), .d (.v (.bool (v_b161 50))), .d (.v (.bool (v_b161 51))), .d (.v (.bool (v_b161 52))), .d (.v (.bool (v_b161 53))), .d (.v (.bool (v_b161 54))), .d (.v (.bool (v_b161 55))), .d (.v (.bool (v_b161 56))), .d (.v (.bool (v_b161 57))), .d (.v (.bool (v_b161 58))), .d (.v (.bool (v_b161 59))), .d (.v (.bool (v_b161 60))), .d (.v (.bool (v_b161 61))), .d (.v (.bool (v_b161 62))), .d (.v (.bool (v_b161 63))), .d (.v (.bool (v_b161 64))), .d (.v (.bool (v_b161 65))), .d (.v (.bool (v_b161 66))), .d (.v (.bool (v_b161 67))), .d (.v (.bool (v_b161 68))), .d (.v (.bool (v_b161 69))), .d (.v (.bool (v_b161 70))), .d (.v (.bool (v_b161 71))), .d (.v (.bool (v_b161 72))), .d (.v (.bool (v_b161 73))), .d (.v (.bool (v_b161 74))), .d (.v (.bool (v_b161 75))), .d (.v (.bool (v_b161 76))), .d (.v (.bool (v_b161 77))), .d (.v (.bool (v_b161 78))), .d (.v (.bool (v_b161 79))), .d (.v (.bool (v_b161 80))), .d (.v (.bool (v_b161 81))), .d (.v (.bool (v_b161 82))), .d (.v (.bool (v_b161 83))), .d (.v (.bool (v_b161 84))), .d (.v (.bool (v_b161 85))), .d (.v (.bool (v_b161 86))), .d (.v (.bool (v_b161 87))), .d (.v (.bool (v_b161 88))), .d (.v (.bool (v_b161 89))), .d (.v (.bool (v_b161 90))), .d (.v (.bool (v_b161 91))), .d (.v (.bool (v_b161 92))), .d (.v (.bool (v_b161 93))), .d (.v (.bool (v_b161 94))), .d (.v (.bool (v_b161 95))), .d (.v (.bool (v_b161 96))), .d (.v (.bool (v_b161 97))), .d (.v (.bool (v_b161 98))), .d (.v (.bool (v_b161 99)))], .box [.d (.v (.bool (v_b162 0))), .d (.v (.bool (v_b162 1))), .d (.v (.bool (v_b162 2))), .d (.v (.bool (v_b162 3))), .d (.v (.bool (v_b162 4))), .d (.v (.bool (v_b162 5))), .d (.v (.bool (v_b162 6))), .d (.v (.bool (v_b162 7))), .d (.v (.bool (v_b162 8))), .d (.v (.bool (v_b162 9))), .d (.v (.bool (v_b162 10))), .d (.v (.bool (v_b162 11))), .d (.v (.bool (v_b162 12))), .d (.v (.bool (v_b162 13))), .d (.v (.bool (v_b162 14))), .d (.v (.bool (v_b162 15))), .d (.v (.bool (v_b162 16))), .d (.v (.bool (v_b162 17))), .d (.v (.bool (v_b162 18))), .d (.v (.bool (v_b162 19))), .d (.v (.bool (v_b162 20))), .d (.v (.bool (v_b162 21))), .d (.v (.bool (v_b162 22))), .d (.v (.bool (v_b162 23))), .d (.v (.bool (v_b162 24))), .d (.v (.bool (v_b162 25))), .d (.v (.bool (v_b162 26))), .d (.v (.bool (v_b162 27))), .d (.v (.bool (v_b162 28))), .d (.v (.bool (v_b162 29))), .d (.v (.bool (v_b162 30))), .d (.v (.bool (v_b162 31))), .d (.v (.bool (v_b162 32))), .d (.v (.bool (v_b162 33))), .d (.v (.bool (v_b162 34))), .d (.v (.bool (v_b162 35))), .d (.v (.bool (v_b162 36))), .d (.v (.bool (v_b162 37))), .d (.v (.bool (v_b162 38))), .d (.v (.bool (v_b162 39))), .d (.v (.bool (v_b162 40))), .d (.v (.bool (v_b162 41))), .d (.v (.bool (v_b162 42))), .d (.v (.bool (v_b162 43))), .d (.v (.bool (v_b162 44))), .d (.v (.bool (v_b162 45))), .d (.v (.bool (v_b162 46))), .d (.v (.bool (v_b162 47))), .d (.v (.bool (v_b162 48))), .d (.v (.bool (v_b162 49))), .d (.v (.bool (v_b162 50))), .d (.v (.bool (v_b162 51))), .d (.v (.bool (v_b162 52))), .d (.v (.bool (v_b162 53))), .d (.v (.bool (v_b162 54))), .d (.v (.bool (v_b162 55))), .d (.v (.bool (v_b162 56))), .d (.v (.bool (v_b162 57))), .d (.v (.bool (v_b162 58))), .d (.v (.bool (v_b162 59))), .d (.v (.bool (v_b162 60))), .d (.v (.bool (v_b162 61))), .d (.v (.bool (v_b162 62))), .d (.v (.bool (v_b162 63))), .d (.v (.bool (v_b162 64))), .d (.v (.bool (v_b162 65))), .d (.v (.bool (v_b162 66))), .d (.v (.bool (v_b162 67))), .d (.v (.bool (v_b162 68))), .d (.v (.bool (v_b162 69))), .d (.v (.bool (v_b162 70))), .d (.v (.bool (v_b162 71))), .d (.v (.bool (v_b162 72))), .d (.v (.bool (v_b162 73))), .d (.v (.bool (v_b162 74))), .d (.v (.bool (v_b162 75))), .d (.v (.bool (v_b162 76))), .d (.v (.bool (v_b162 77))), .d (.v (.bool (v_b162 78))), .d (.v (.bool (v_b162 79))), .d (.v (.bool (v_b162 80))), .d (.v (.bool (v_b162 81))), .d (.v (.bool (v_b162 82))), .d (.v (.bool (v_b162 83))), .d (.v (.bool (v_b162 84))), .d (.v (.bool (v_b162 85))), .d (.v (.bool (v_b162 86))), .d (.v (.bool (v_b162 87))), .d (.v (.bool (v_b162 88))), .d (.v (.bool (v_b162 89))), .d (.v (.bool (v_b162 90))), .d (.v (.bool (v_b162 91))), .d (.v (.bool (v_b162 92))), .d (.v (.bool (v_b162 93))), .d (.v (.bool (v_b162 94))), .d (.v (.bool (v_b162 95))), .d (.v (.bool (v_b162 96))), .d (.v (.bool (v_b162 97))), .d (.v (.bool (v_b162 98))), .d (.v (.bool (v_b162 99)))], .box [.d (.v (.int .i64 (v_y163 0))), .d (.v (.int .i64 (v_y163 1))), .d (.v (.int .i64 (v_y163 2)))]]⟩
def G_ringref5_BoxErr_C4_hd (v_l117 : (List (Fin 3 → Int))) (v_x160 : Int) (v_b161 : (Fin 100 → Bool)) (v_b162 : (Fin 100 → Bool)) (v_y163 : (Fin 3 → Int))  : PS := ⟨[dd, dd, dd, .ref 0 0, .ref 1 0, dd, .ref 2 0, dd, dd, dd, dd, dd, .d (.sl (v_l117.map (fun x => PV.agg [.v (.int .i64 (x 0)), .v (.int .i64 (x 1)), .v (.int .i64 (x 2))]))), .d (.v (.int .i64 (v_l117.length : Int))), .d (.v (.int .i64 v_x160)), dd, dd, dd, dd, dd, dd, dd, dd, dd, dd, dd, dd, dd, dd, dd, dd, dd, dd, dd, dd, dd, dd, dd, dd, dd, dd, dd, dd, dd, dd, dd, dd, dd, dd, dd, dd, dd, dd, dd, dd, dd, dd, dd, dd, dd, dd, dd, dd, dd, dd, dd, dd, dd, dd, dd, dd, dd, dd, dd, dd, dd, dd, dd, dd, dd, dd, dd, dd, dd, dd, dd, dd, dd, dd], [.box [.d (.v (.bool (v_b161 0))), .d (.v (.bool (v_b161 1))), .d (.v (.bool (v_b161 2))), .d (.v (.bool (v_b161 3))), .d (.v (.bool (v_b161 4))), .d (.v (.bool (v_b161 5))), .d (.v (.bool (v_b161 6))), .d (.v (.bool (v_b161 7))), .d (.v (.bool (v_b161 8))), .d (.v (.bool (v_b161 9))), .d (.v (.bool (v_b161 10))), .d (.v (.bool (v_b161 11))), .d (.v (.bool (v_b161 12))), .d (.v (.bool (v_b161 13))), .d (.v (.bool (v_b161 14))), .d (.v (.bool (v_b161 15))), .d (.v (.bool (v_b161 16))), .d (.v (.bool (v_b161 17))), .d (.v (.bool (v_b161 18))), .d (.v (.bool (v_b161 19))), .d (.v (.bool (v_b161 20))), .d (.v (.bool (v_b161 21))), .d (.v (.bool (v_b161 22))), .d (.v (.bool (v_b161 23))), .d (.v (.bool (v_b161 24))), .d (.v (.bool (v_b161 25))), .d (.v (.bool (v_b161 26))), .d (.v (.bool (v_b161 27))), .d (.v (.bool (v_b161 28))), .d (.v (.bool (v_b161 29))), .d (.v (.bool (v_b161 30))), .d (.v (.bool (v_b161 31))), .d (.v (.bool (v_b161 32))), .d (.v (.bool (v_b161 33))), .d (.v (.bool (v_b161 34))), .d (.v (.bool (v_b161 35))), .d (.v (.bool (v_b161 36))), .d (.v (.bool (v_b161 37))), .d (.v (.bool (v_b161 38))), .d (.v (.bool (v_b161 39))), .d (.v (.bool (v_b161 40))), .d (.v (.bool (v_b161 41))), .d (.v (.bool (v_b161 42))), .d (.v (.bool (v_b161 43))), .d (.v (.bool (v_b161 44))), .d (.v (.bool (v_b161 45))), .d (.v (.bool (v_b161 46))), .d (.v (.bool (v_b161 47))), .d (.v (.bool (v_b161 48))), .d (.v (.bool (v_b161 49))), .d (.v (.bool (v_b161 50))), .d (.v (.bool (v_b161 51))), .d (.v (.bool (v_b161 52))), .d (.v (.bool (v_b161 53))), .d (.v (.bool (v_b161 54))), .d (.v (.bool (v_b161 55))), .d (.v (.bool (v_b161 56))), .d (.v (.bool (v_b161 57))), .d (.v (.bool (v_b161 58))), .d (.v (.bool (v_b161 59))), .d (.v (.bool (v_b161 60))), .d (.v (.bool (v_b161 61))), .d (.v (.bool (v_b161 62))), .d (.v (.bool (v_b161 63))), .d (.v (.bool (v_b161 64))), .d (.v (.bool (v_b161 65))), .d (.v (.bool (v_b161 66))), .d (.v (.bool (v_b161 67))), .d (.v (.bool (v_b161 68))), .d (.v (.bool (v_b161 69))), .d (.v (.bool (v_b161 70))), .d (.v (.bool (v_b161 71))), .d (.v (.bool (v_b161 72))), .d (.v (.bool (v_b161 73))), .d (.v (.bool (v_b161 74))), .d (.v (.bool (v_b161 75))), .d (.v (.bool (v_b161 76))), .d (.v (.bool (v_b161 77))), .d (.v (.bool (v_b161 78))), .d (.v (.bool (v_b161 79))), .d (.v (.bool (v_b161 80))), .d (.v (.bool (v_b161 81))), .d (.v (.bool (v_b161 82))), .d (.v (.bool (v_b161 83))), .d (.v (.bool (v_b161 84))), .d (.v (.bool (v_b161 85))), .d (.v (.bool (v_b161 86))), .d (.v (.bool (v_b161 87))), .d (.v (.bool (v_b161 88))), .d (.v (.bool (v_b161 89))), .d (.v (.bool (v_b161 90))), .d (.v (.bool (v_b161 91))), .d (.v (.bool (v_b161 92))), .d (.v (.bool (v_b161 93))), .d (.v (.bool (v_b161 94))), .d (.v (.bool (v_b161 95))), .d (.v (.bool (v_b161 96))), .d (.v (.bool (v_b161 97))), .d (.v (.bool (v_b161 98))), .d (.v (.bool (v_b161 99)))], .box [.d (.v (.bool (v_b162 0))), .d (.v (.bool (v_b162 1))), .d (.v (.bool (v_b162 2))), .d (.v (.bool (v_b162 3))), .d (.v (.bool (v_b162 4))), .d (.v (.bool (v_b162 5))), .d (.v (.bool (v_b162 6))), .d (.v (.bool (v_b162 7))), .d (.v (.bool (v_b162 8))), .d (.v (.bool (v_b162 9))), .d (.v (.bool (v_b162 10))), .d (.v (.bool (v_b162 11))), .d (.v (.bool (v_b162 12))), .d (.v (.bool (v_b162 13))), .d (.v (.bool (v_b162 14))), .d (.v (.bool (v_b162 15))), .d (.v (.bool (v_b162 16))), .d (.v (.bool (v_b162 17))), .d (.v (.bool (v_b162 18))), .d (.v (.bool (v_b162 19))), .d (.v (.bool (v_b162 20))), .d (.v (.bool (v_b162 21))), .d (.v (.bool (v_b162 22))), .d (.v (.bool (v_b162 23))), .d (.v (.bool (v_b162 24))), .d (.v (.bool (v_b162 25))), .d (.v (.bool (v_b162 26))), .d (.v (.bool (v_b162 27))), .d (.v (.bool (v_b162 28))), .d (.v (.bool (v_b162 29))), .d (.v (.bool (v_b162 30))), .d (.v (.bool (v_b162 31))), .d (.v (.bool (v_b162 32))), .d (.v (.bool (v_b162 33))), .d (.v (.bool (v_b162 34))), .d (.v (.bool (v_b162 35))), .d (.v (.bool (v_b162 36))), .d (.v (.bool (v_b162 37))), .d (.v (.bool (v_b162 38))), .d (.v (.bool (v_b162 39))), .d (.v (.bool (v_b162 40))), .d (.v (.bool (v_b162 41))), .d (.v (.bool (v_b162 42))), .d (.v (.bool (v_b162 43))), .d (.v (.bool (v_b162 44))), .d (.v (.bool (v_b162 45))), .d (.v (.bool (v_b162 46))), .d (.v (.bool (v_b162 47))), .d (.v (.bool (v_b162 48))), .d (.v (.bool (v_b162 49))), .d (.v (.bool (v_b162 50))), .d (.v (.bool (v_b162 51))), .d (.v (.bool (v_b162 52))), .d (.v (.bool (v_b162 53))), .d (.v (.bool (v_b162 54))), .d (.v (.bool (v_b162 55))), .d (.v (.bool (v_b162 56))), .d (.v (.bool (v_b162 57))), .d (.v (.bool (v_b162 58))), .d (.v (.bool (v_b162 59))), .d (.v (.bool (v_b162 60))), .d (.v (.bool (v_b162 61))), .d (.v (.bool (v_b162 62))), .d (.v (.bool (v_b162 63))), .d (.v (.bool (v_b162 64))), .d (.v (.bool (v_b162 65))), .d (.v (.bool (v_b162 66))), .d (.v (.bool (v_b162 67))), .d (.v (.bool (v_b162 68))), .d (.v (.bool (v_b162 69))), .d (.v (.bool (v_b162 70))), .d (.v (.bool (v_b162 71))), .d (.v (.bool (v_b162 72))), .d (.v (.bool (v_b162 73))), .d (.v (.bool (v_b162 74))), .d (.v (.bool (v_b162 75))), .d (.v (.bool (v_b162 76))), .d (.v (.bool (v_b162 77))), .d (.v (.bool (v_b162 78))), .d (.v (.bool (v_b162 79))), .d (.v (.bool (v_b162 80))), .d (.v (.bool (v_b162 81))), .d (.v (.bool (v_b162 82))), .d (.v (.bool (v_b162 83))), .d (.v (.bool (v_b162 84))), .d (.v (.bool (v_b162 85))), .d (.v (.bool (v_b162 86))), .d (.v (.bool (v_b162 87))), .d (.v (.bool (v_b162 88))), .d (.v (.bool (v_b162 89))), .d (.v (.bool (v_b162 90))), .d (.v (.bool (v_b162 91))), .d (.v (.bool (v_b162 92))), .d (.v (.bool (v_b162 93))), .d (.v (.bool (v_b162 94))), .d (.v (.bool (v_b162 95))), .d (.v (.bool (v_b162 96))), .d (.v (.bool (v_b162 97))), .d (.v (.bool (v_b162 98))), .d (.v (.bool (v_b162 99)))], .box [.d (.v (.int .i64 (v_y163 0))), .d (.v (.int .i64 (v_y163 1))), .d (.v (.int .i64 (v_y163 2)))]]⟩
def G_ringref5_BoxErr_C4 (n : Nat) (v_l117 : (List (Fin 3 → Int))) (v_x160 : Int) (v_b161 : (Fin 100 → Bool)) (v_b162 : (Fin 100 → Bool)) (v_y163 : (Fin 3 → Int)) : Option G_ringref5_BoxErr_C4_R :=
  if (v_y163 2) < 1 then
   some (.x0 true)
  else
   if (v_y163 2) > 100 then
    some (.x0 true)
   else
    if (v_y163 0) < 0 then
     some (.x0 true)
    else
     if (v_y163 1) < 0 then
      some (.x0 true)
     else
      if (v_y163 0) > (wi .i64 (100 - (v_y163 2))) then
       some (.x0 true)
      else
       some (.x0 (decide ((v_y163 1) > (wi .i64 (100 - (v_y163 2))))))
theorem G_ringref5_BoxErr_C4_ok {Fi : Ex → PS → Prop} (hF : KC 89 Fi) (ks : List Fr) (n : Nat) (v_l117 : (List (Fin 3 → Int))) (v_x160 : Int) (v_b161 : (Fin 100 → Bool)) (v_b162 : (Fin 100 → Bool)) (v_y163 : (Fin 3 → Int))  (o : G_ringref5_BoxErr_C4_R) (h : G_ringref5_BoxErr_C4 n v_l117 v_x160 v_b161 v_b162 v_y163 = some o) (q : RunE Try.prog 89 Fi ks (G_ringref5_BoxErr_C4_ex o) (G_ringref5_BoxErr_C4_st v_l117 v_x160 v_b161 v_b162 v_y163 o)) : RunE Try.prog 89 Fi (.s (cL (cL (cR (cB (cL (cR (cR (cP (cB (cR (cL (cR (cR (cR (bodyOf Try.f37))))))))))))))) :: ks) .normal (G_ringref5_BoxErr_C4_hd v_l117 v_x160 v_b161 v_b162 v_y163) := by
  unfold G_ringref5_BoxErr_C4 at h
  by_cases h175 : (v_y163 2) < 1
  · rw [if_pos h175] at h
    cases h
    exact pkk_sound TTok mix hF 1 (hs := [.c, .t true, .c, .c, .c, .c, .c, .c, .c, .c, .c, .c, .c, .c, .c, .c, .c, .c, .c, .c, .c, .c]) (ts := []) (s := [0, 1, 2]) (l := [3, 4, 6, 12, 13, 14, 51]) (by kernel_rfl) (by kernel_rfl) (.cons (show (0 : Int) ≤ 2 ∧ (2 : Int) < 3 by decide) (.cons (dt h175) .nil)) q
  · rw [if_neg h175] at h
    by_cases h176 : (v_y163 2) > 100
    · rw [if_pos h176] at h
      cases h
      exact pkk_sound TTok mix hF 1 (hs := [.c, .t false, .c, .c, .c, .t true, .c, .c, .c, .c, .c, .c, .c, .c, .c, .c, .c, .c, .c, .c, .c, .c, .c]) (ts := []) (s := [0, 1, 2]) (l := [3, 4, 6, 12, 13, 14, 51]) (by kernel_rfl) (by kernel_rfl) (.cons (show (0 : Int) ≤ 2 ∧ (2 : Int) < 3 by decide) (.cons (df h175) (.cons (show (0 : Int) ≤ 2 ∧ (2 : Int) < 3 by decide) (.cons (dt h176) .nil)))) q
    · rw [if_neg h176] at h
      by_cases h177 : (v_y163 0) < 0
      · rw [if_pos h177] at h
        cases h
        exact pkk_sound TTok mix hF 1 (hs := [.c, .t false, .c, .c, .c, .t false, .c, .c, .c, .t true, .c, .c, .c, .c, .c, .c, .c, .c, .c, .c, .c, .c, .c, .c]) (ts := []) (s := [0, 1, 2]) (l := [3, 4, 6, 12, 13, 14, 51]) (by kernel_rfl) (by kernel_rfl) (.cons (show (0 : Int) ≤ 2 ∧ (2 : Int) < 3 by decide) (.cons (df h175) (.cons (show (0 : Int) ≤ 2 ∧ (2 : Int) < 3 by decide) (.cons (df h176) (.cons (show (0 : Int) ≤ 0 ∧ (0 : Int) < 3 by decide) (.cons (dt h177) .nil)))))) q
      · rw [if_neg h177] at h
        by_cases h178 : (v_y163 1) < 0
        · rw [if_pos h178] at h
          cases h
          exact pkk_sound TTok mix hF 1 (hs := [.c, .t false, .c, .c, .c, .t false, .c, .c, .c, .t false, .c, .c, .c, .t true, .c, .c, .c, .c, .c, .c, .c, .c, .c, .c, .c]) (ts := []) (s := [0, 1, 2]) (l := [3, 4, 6, 12, 13, 14, 51]) (by kernel_rfl) (by kernel_rfl) (.cons (show (0 : Int) ≤ 2 ∧ (2 : Int) < 3 by decide) (.cons (df h175) (.cons (show (0 : Int) ≤ 2 ∧ (2 : Int) < 3 by decide) (.cons (df h176) (.cons (show (0 : Int) ≤ 0 ∧ (0 : Int) < 3 by decide) (.cons (df h177) (.cons (show (0 : Int) ≤ 1 ∧ (1 : Int) < 3 by decide) (.cons (dt h178) .nil)))))))) q
        · rw [if_neg h178] at h
          by_cases h179 : (v_y163 0) > (wi .i64 (100 - (v_y163 2)))
          · rw [if_pos h179] at h
            cases h
            exact pkk_sound TTok mix hF 1 (hs := [.c, .t false, .c, .c, .c, .t false, .c, .c, .c, .t false, .c, .c, .c, .t false, .c, .c, .c, .c, .c, .c, .c, .t true, .c, .c, .c, .c, .c]) (ts := []) (s := [0, 1, 2]) (l := [3, 4, 6, 12, 13, 14, 51]) (by kernel_rfl) (by kernel_rfl) (.cons (show (0 : Int) ≤ 2 ∧ (2 : Int) < 3 by decide) (.cons (df h175) (.cons (show (0 : Int) ≤ 2 ∧ (2 : Int) < 3 by decide) (.cons (df h176) (.cons (show (0 : Int) ≤ 0 ∧ (0 : Int) < 3 by decide) (.cons (df h177) (.cons (show (0 : Int) ≤ 1 ∧ (1 : Int) < 3 by decide) (.cons (df h178) (.cons (show (0 : Int) ≤ 0 ∧ (0 : Int) < 3 by decide) (.cons (show (0 : Int) ≤ 2 ∧ (2 : Int) < 3 by decide) (.cons (dt h179) .nil))))))))))) q
          · rw [if_neg h179] at h
            cases h
            exact pkk_sound TTok mix hF 1 (hs := [.c, .t false, .c, .c, .c, .t false, .c, .c, .c, .t false, .c, .c, .c, .t false, .c, .c, .c, .c, .c, .c, .c, .t false, .c, .c, .c, .c, .c, .c, .c]) (ts := []) (s := [0, 1, 2]) (l := [3, 4, 6, 12, 13, 14, 51]) (by kernel_rfl) (by kernel_rfl) (.cons (show (0 : Int) ≤ 2 ∧ (2 : Int) < 3 by decide) (.cons (df h175) (.cons (show (0 : Int) ≤ 2 ∧ (2 : Int) < 3 by decide) (.cons (df h176) (.cons (show (0 : Int) ≤ 0 ∧ (0 : Int) < 3 by decide) (.cons (df h177) (.cons (show (0 : Int) ≤ 1 ∧ (1 : Int) < 3 by decide) (.cons (df h178) (.cons (show (0 : Int) ≤ 0 ∧ (0 : Int) < 3 by decide) (.cons (show (0 : Int) ≤ 2 ∧ (2 : Int) < 3 by decide) (.cons (df h179) (.cons (show (0 : Int) ≤ 1 ∧ (1 : Int) < 3 by decide) (.cons (show (0 : Int) ≤ 2 ∧ (2 : Int) < 3 by decide) .nil))))))))))))) q
inductive G_ringref5_BoxErr_L5_R where
  | x0 (v_x181 : Int)
  | x1 
def G_ringref5_BoxErr_L5_ex : G_ringref5_BoxErr_L5_R → Ex
  | .x0 _ => .ret
  | .x1  => .exit 2
def G_ringref5_BoxErr_L5_st (v_l117 : (List (Fin 3 → Int))) (v_x160 : Int) (v_y163 : (Fin 3 → Int)) (v_b161 : (Fin 100 → Bool)) (v_b162 : (Fin 100 → Bool)) : G_ringref5_BoxErr_L5_R → PS
  | .x0 v_x181 => ⟨[dd, dd, .d (.v (.int .i64 v_x181)), dd, dd, dd, dd, dd, dd, dd, dd, dd, dd, dd, dd, dd, dd, dd, dd, dd, dd, dd, dd, dd, dd, dd, dd, dd, dd, dd, dd, dd, dd, dd, dd, dd, dd, dd, dd, dd, dd, dd, dd, dd, dd, dd, dd, dd, dd, dd, dd, dd, dd, dd, dd, dd, dd, dd, dd, dd, dd, dd, dd, dd, dd, dd, dd, dd, dd, dd, dd, dd, dd, dd, dd, dd, dd, dd, dd, dd, dd, dd, dd, dd, dd, dd, dd, dd, dd], []⟩
  | .x1  => ⟨[dd, dd, dd, .ref 0 0, .ref 1 0, dd, .ref 2 0, dd, dd, dd, dd, dd, .d (.sl (v_l117.map (fun x => PV.agg [.v (.int .i64 (x 0)), .v (.int .i64 (x 1)), .v (.int .i64 (x 2))]))), .d (.v (.int .i64 (v_l117.length : Int))), .d (.v (.int .i64 v_x160)), dd, dd, dd, dd, dd, dd, dd, dd, dd, dd, dd, dd, dd, dd, dd, dd, dd, dd, dd, dd, dd, dd, dd, dd, dd, dd, dd, dd, dd, dd, dd, dd, dd, dd, dd, dd, dd, dd, dd, dd, dd, dd, dd, dd, dd, dd, dd, dd, dd, dd, dd, dd, dd, dd, dd, dd, dd, dd, dd, dd, dd, dd, dd, dd, dd, dd, dd, dd, dd, dd, dd, dd, dd, dd], [.box [.d (.v (.bool (v_b161 0))), .d (.v (.bool (v_b161 1))), .d (.v (.bool (v_b161 2))), .d (.v (.bool (v_b161 3))), .d (.v (.bool (v_b161 4))), .d (.v (.bool (v_b161 5))), .d (.v (.bool (v_b161 6))), .d (.v (.bool (v_b161 7))), .d (.v (.bool (v_b161 8))), .d (.v (.bool (v_b161 9))), .d (.v (.bool (v_b161 10))), .d (.v (.bool (v_b161 11))), .d (.v (.bool (v_b161 12))), .d (.v (.bool (v_b161 13))), .d (.v (.bool (v_b161 14))), .d (.v (.bool (v_b161 15))), .d (.v (.bool (v_b161 16))), .d (.v (.bool (v_b161 17))), .d (.v (.bool (v_b161 18))), .d (.v (.bool (v_b161 19))), .d (.v (.bool (v_b161 20))), .d (.v (.bool (v_b161 21))), .d (.v (.bool (v_b161 22))), .d (.v (.bool (v_b161 23))), .d (.v (.bool (v_b161 24))), .d (.v (.bool (v_b161 25))), .d (.v (.bool (v_b161 26))), .d (.v (.bool (v_b161 27))), .d (.v (.bool (v_b161 28))), .d (.v (.bool (v_b161 29))), .d (.v (.bool (v_b161 30))), .d (.v (.bool (v_b161 31))), .d (.v (.bool (v_b161 32))), .d (.v (.bool (v_b161 33))), .d (.v (.bool (v_b161 34))), .d (.v (.bool (v_b161 35))), .d (.v (.bool (v_b161 36))), .d (.v (.bool (v_b161 37))), .d (.v (.bool (v_b161 38))), .d (.v (.bool (v_b161 39))), .d (.v (.bool (v_b161 40))), .d (.v (.bool (v_b161 41))), .d (.v (.bool (v_b161 42))), .d (.v (.bool (v_b161 43))), .d (.v (.bool (v_b161 44))), .d (.v (.bool (v_b161 45))), .d (.v (.bool (v_b161 46))), .d (.v (.bool (v_b161 47))), .d (.v (.bool (v_b161 48))), .d (.v (.bool (v_b161 49))), .d (.v (.bool (v_b161 50))), .d (.v (.bool (v_b161 51))), .d (.v (.bool (v_b161 52))), .d (.v (.bool (v_b161 53))), .d (.v (.bool (v_b161 54))), .d (.v (.bool (v_b161 55))), .d (.v (.bool (v_b161 56))), .d (.v (.bool (v_b161 57))), .d (.v (.bool (v_b161 58))), .d (.v (.bool (v_b161 59))), .d (.v (.bool (v_b161 60))), .d (.v (.bool (v_b161 61))), .d (.v (.bool (v_b161 62))), .d (.v (.bool (v_b161 63))), .d (.v (.bool (v_b161 64))), .d (.v (.bool (v_b161 65))), .d (.v (.bool (v_b161 66))), .d (.v (.bool (v_b161 67))), .d (.v (.bool (v_b161 68))), .d (.v (.bool (v_b161 69))), .d (.v (.bool (v_b161 70))), .d (.v (.bool (v_b161 71))), .d (.v (.bool (v_b161 72))), .d (.v (.bool (v_b161 73))), .d (.v (.bool (v_b161 74))), .d (.v (.bool (v_b161 75))), .d (.v (.bool (v_b161 76))), .d (.v (.bool (v_b161 77))), .d (.v (.bool (v_b161 78))), .d (.v (.bool (v_b161 79))), .d (.v (.bool (v_b161 80))), .d (.v (.bool (v_b161 81))), .d (.v (.bool (v_b161 82))), .d (.v (.bool (v_b161 83))), .d (.v (.bool (v_b161 84))), .d (.v (.bool (v_b161 85))), .d (.v (.bool (v_b161 86))), .d (.v (.bool (v_b161 87))), .d (.v (.bool (v_b161 88))), .d (.v (.bool (v_b161 89))), .d (.v (.bool (v_b161 90))), .d (.v (.bool (v_b161 91))), .d (.v (.bool (v_b161 92))), .d (.v (.bool (v_b161 93))), .d (.v (.bool (v_b161 94))), .d (.v (.bool (v_b161 95))), .d (.v (.bool (v_b161 96))), .d (.v (.bool (v_b161 97))), .d (.v (.bool (v_b161 98))), .d (.v (.bool (v_b161 99)))], .box [.d (.v (.bool (v_b162 0))), .d (.v (.bool (v_b162 1))), .d (.v (.bool (v_b162 2))), .d (.v (.bool (v_b162 3))), .d (.v (.bool (v_b162 4))), .d (.v (.bool (v_b162 5))), .d (.v (.bool (v_b162 6))), .d (.v (.bool (v_b162 7))), .d (.v (.bool (v_b162 8))), .d (.v (.bool (v_b162 9))), .d (.v (.bool (v_b162 10))), .d (.v (.bool (v_b162 11))), .d (.v (.bool (v_b162 12))), .d (.v (.bool (v_b162 13))), .d (.v (.bool (v_b162 14))), .d (.v (.bool (v_b162 15))), .d (.v (.bool (v_b162 16))), .d (.v (.bool (v_b162 17))), .d (.v (.bool (v_b162 18))), .d (.v (.bool (v_b162 19))), .d (.v (.bool (v_b162 20))), .d (.v (.bool (v_b162 21))), .d (.v (.bool (v_b162 22))), .d (.v (.bool (v_b162 23))), .d (.v (.bool (v_b162 24))), .d (.v (.bool (v_b162 25))), .d (.v (.bool (v_b162 26))), .d (.v (.bool (v_b162 27))), .d (.v (.bool (v_b162 28))), .d (.v (.bool (v_b162 29))), .d (.v (.bool (v_b162 30))), .d (.v (.bool (v_b162 31))), .d (.v (.bool (v_b162 32))), .d (.v (.bool (v_b162 33))), .d (.v (.bool (v_b162 34))), .d (.v (.bool (v_b162 35))), .d (.v (.bool (v_b162 36))), .d (.v (.bool (v_b162 37))), .d (.v (.bool (v_b162 38))), .d (.v (.bool (v_b162 39))), .d (.v (.bool (v_b162 40))), .d (.v (.bool (v_b162 41))), .d (.v (.bool (v_b162 42))), .d (.v (.bool (v_b162 43))), .d (.v (.bool (v_b162 44))), .d (.v (.bool (v_b162 45))), .d (.v (.bool (v_b162 46))), .d (.v (.bool (v_b162 47))), .d (.v (.bool (v_b162 48))), .d (.v (.bool (v_b162 49))), .d (.v (.bool (v_b162 50))), .d (.v (.bool (v_b162 51))), .d (.v (.bool (v_b162 52))), .d (.v (.bool (v_b162 53))), .d (.v (.bool (v_b162 54))), .d (.v (.bool (v_b162 55))), .d (.v (.bool (v_b162 56))), .d (.v (.bool (v_b162 57))), .d (.v (.bool (v_b162 58))), .d (.v (.bool (v_b162 59))), .d (.v (.bool (v_b162 60))), .d (.v (.bool (v_b162 61))), .d (.v (.bool (v_b162 62))), .d (.v (.bool (v_b162 63))), .d (.v (.bool (v_b162 64))), .d (.v (.bool (v_b162 65))), .d (.v (.bool (v_b162 66))), .d (.v (.bool (v_b162 67))), .d (.v (.bool (v_b162 68))), .d (.v (.bool (v_b162 69))), .d (.v (.bool (v_b162 70))), .d (.v (.bool (v_b162 71))), .d (.v (.bool (v_b162 72))), .d (.v (.bool (v_b162 73))), .d (.v (.bool (v_b162 74))), .d (.v (.bool (v_b162 75))), .d (.v (.bool (v_b162 76))), .d (.v (.bool (v_b162 77))), .d (.v (.bool (v_b162 78))), .d (.v (.bool (v_b162 79))), .d (.v (.bool (v_b162 80))), .d (.v (.bool (v_b162 81))), .d (.v (.bool (v_b162 82))), .d (.v (.bool (v_b162 83))), .d (.v (.bool (v_b162 84))), .d (.v (.bool (v_b162 85))), .d (.v (.bool (v_b162 86))), .d (.v (.bool (v_b162 87))), .d (.v (.bool (v_b162 88))), .d (.v (.bool (v_b162 89))), .d (.v (.bool (v_b162 90))), .d (.v (.bool (v_b162 91))), .d (.v (.bool (v_b162 92))), .d (.v (.bool (v_b162 93))), .d (.v (.bool (v_b162 94))), .d (.v (.bool (v_b162 95))), .d (.v (.bool (v_b162 96))), .d (.v (.bool (v_b162 97))), .d (.v (.bool (v_b162 98))), .d (.v (.bool (v_b162 99)))], .box [.d (.v (.int .i64 (v_y163 0))), .d (.v (.int .i64 (v_y163 1))), .d (.v (.int .i64 (v_y163 2)))]]⟩
def G_ringref5_BoxErr_L5_hd (v_l117 : (List (Fin 3 → Int))) (v_x160 : Int) (v_y163 : (Fin 3 → Int)) (v_b161 : (Fin 100 → Bool)) (v_b162 : (Fin 100 → Bool)) (v_x173 : Int) : PS := ⟨[dd, dd, dd, .ref 0 0, .ref 1 0, dd, .ref 2 0, dd, dd, dd, dd, dd, .d (.sl (v_l117.map (fun x => PV.agg [.v (.int .i64 (x 0)), .v (.int .i64 (x 1)), .v (.int .i64 (x 2))]))), .d (.v (.int .i64 (v_l117.length : Int))), .d (.v (.int .i64 v_x160)), dd, dd, dd, dd, dd, dd, dd, dd, dd, dd, dd, dd, dd, dd, dd, dd, dd, dd, dd, dd, dd, dd, dd, dd, dd, dd, dd, dd, dd, dd, dd, dd, dd, dd, dd, dd, dd, dd, .d (.v (.int .i64 (v_y163 2))), .d (.v (.int .i64 v_x173)), dd, dd, dd, dd, dd, dd, dd, dd, dd, dd, dd, dd, dd, dd, dd, dd, dd, dd, dd, dd, dd, dd, dd, dd, dd, dd, dd, dd, dd, dd, dd, dd, dd, dd], [.box [.d (.v (.bool (v_b161 0))), .d (.v (.bool (v_b161 1))), .d (.v (.bool (v_b161 2))), .d (.v (.bool (v_b161 3))), .d (.v (.bool (v_b161 4))), .d (.v (.bool (v_b161 5))), .d (.v (.bool (v_b161 6))), .d (.v (.bool (v_b161 7))), .d (.v (.bool (v_b161 8))), .d (.v (.bool (v_b161 9))), .d (.v (.bool (v_b161 10))), .d (.v (.bool (v_b161 11))), .d (.v (.bool (v_b161 12))), .d (.v (.bool (v_b161 13))), .d (.v (.bool (v_b161 14))), .d (.v (.bool (v_b161 15))), .d (.v (.bool (v_b161 16))), .d (.v (.bool (v_b161 17))), .d (.v (.bool (v_b161 18))), .d (.v (.bool (v_b161 19))), .d (.v (.bool (v_b161 20))), .d (.v (.bool (v_b161 21))), .d (.v (.bool (v_b161 22))), .d (.v (.bool (v_b161 23))), .d (.v (.bool (v_b161 24))), .d (.v (.bool (v_b161 25))), .d (.v (.bool (v_b161 26))), .d (.v (.bool (v_b161 27))), .d (.v (.bool (v_b161 28))), .d (.v (.bool (v_b161 29))), .d (.v (.bool (v_b161 30))), .d (.v (.bool (v_b161 31))), .d (.v (.bool (v_b161 32))), .d (.v (.bool (v_b161 33))), .d (.v (.bool (v_b161 34))), .d (.v (.bool (v_b161 35))), .d (.v (.bool (v_b161 36))), .d (.v (.bool (v_b161 37))), .d (.v (.bool (v_b161 38))), .d (.v (.bool (v_b161 39))), .d (.v (.bool (v_b161 40))), .d (.v (.bool (v_b161 41))), .d (.v (.bool (v_b161 42))), .d (.v (.bool (v_b161 43))), .d (.v (.bool (v_b161 44))), .d (.v (.bool (v_b161 45))), .d (.v (.bool (v_b161 46))), .d (.v (.bool (v_b161 47))), .d (.v (.bool (v_b161 48))), .d (.v (.bool (v_b161 49))), .d (.v (.bool (v_b161 50))), .d (.v (.bool (v_b161 51))), .d (.v (.bool (v_b161 52))), .d (.v (.bool (v_b161 53))), .d (.v (.bool (v_b161 54))), .d (.v (.bool (v_b161 55))), .d (.v (.bool (v_b161 56))), .d (.v (.bool (v_b161 57))), .d (.v (.bool (v_b161 58))), .d (.v (.bool (v_b161 59))), .d (.v (.bool (v_b161 60))), .d (.v (.bool (v_b161 61))), .d (.v (.bool (v_b161 62))), .d (.v (.bool (v_b161 63))), .d (.v (.bool (v_b161 64))), .d (.v (.bool (v_b161 65))), .d (.v (.bool (v_b161 66))), .d (.v (.bool (v_b161 67))), .d (.v (.bool (v_b161 68))), .d (.v (.bool (v_b161 69))), .d (.v (.bool (v_b161 70))), .d (.v (.bool (v_b161 71))), .d (.v (.bool (v_b161 72))), .d (.v (.bool (v_b161 73))), .d (.v (.bool (v_b161 74))), .d (.v (.bool (v_b161 75))), .d (.v (.bool (v_b161 76))), .d (.v (.bool (v_b161 77))), .d (.v (.bool (v_b161 78))), .d (.v (.bool (v_b161 79))), .d (.v (.bool (v_b161 80))), .d (.v (.bool (v_b161 81))), .d (.v (.bool (v_b161 82))), .d (.v (.bool (v_b161 83))), .d (.v (.bool (v_b161 84))), .d (.v (.bool (v_b161 85))), .d (.v (.bool (v_b161 86))), .d (.v (.bool (v_b161 87))), .d (.v (.bool (v_b161 88))), .d (.v (.bool (v_b161 89))), .d (.v (.bool (v_b161 90))), .d (.v (.bool (v_b161 91))), .d (.v (.bool (v_b161 92))), .d (.v (.bool (v_b161 93))), .d (.v (.bool (v_b161 94))), .d (.v (.bool (v_b161 95))), .d (.v (.bool (v_b161 96))), .d (.v (.bool (v_b161 97))), .d (.v (.bool (v_b161 98))), .d (.v (.bool (v_b161 99)))], .box [.d (.v (.bool (v_b162 0))), .d (.v (.bool (v_b162 1))), .d (.v (.bool (v_b162 2))), .d (.v (.bool (v_b162 3))), .d (.v (.bool (v_b162 4))), .d (.v (.bool (v_b162 5))), .d (.v (.bool (v_b162 6))), .d (.v (.bool (v_b162 7))), .d (.v (.bool (v_b162 8))), .d (.v (.bool (v_b162 9))), .d (.v (.bool (v_b162 10))), .d (.v (.bool (v_b162 11))), .d (.v (.bool (v_b162 12))), .d (.v (.bool (v_b162 13))), .d (.v (.bool (v_b162 14))), .d (.v (.bool (v_b162 15))), .d (.v (.bool (v_b162 16))), .d (.v (.bool (v_b162 17))), .d (.v (.bool (v_b162 18))), .d (.v (.bool (v_b162 19))), .d (.v (.bool (v_b162 20))), .d (.v (.bool (v_b162 21))), .d (.v (.bool (v_b162 22))), .d (.v (.bool (v_b162 23))), .d (.v (.bool (v_b162 24))), .d (.v (.bool (v_b162 25))), .d (.v (.bool (v_b162 26))), .d (.v (.bool (v_b162 27))), .d (.v (.bool (v_b162 28))), .d (.v (.bool (v_b162 29))), .d (.v (.bool (v_b162 30))), .d (.v (.bool (v_b162 31))), .d (.v (.bool (v_b162 32))), .d (.v (.bool (v_b162 33))), .d (.v (.bool (v_b162 34))), .d (.v (.bool (v_b162 35))), .d (.v (.bool (v_b162 36))), .d (.v (.bool (v_b162 37))), .d (.v (.bool (v_b162 38))), .d (.v (.bool (v_b162 39))), .d (.v (.bool (v_b162 40))), .d (.v (.bool (v_b162 41))), .d (.v (.bool (v_b162 42))), .d (.v (.bool (v_b162 43))), .d (.v (.bool (v_b162 44))), .d (.v (.bool (v_b162 45))), .d (.v (.bool (v_b162 46))), .d (.v (.bool (v_b162 47))), .d (.v (.bool (v_b162 48))), .d (.v (.bool (v_b162 49))), .d (.v (.bool (v_b162 50))), .d (.v (.bool (v_b162 51))), .d (.v (.bool (v_b162 52))), .d (.v (.bool (v_b162 53))), .d (.v (.bool (v_b162 54))), .d (.v (.bool (v_b162 55))), .d (.v (.bool (v_b162 56))), .d (.v (.bool (v_b162 57))), .d (.v (.bool (v_b162 58))), .d (.v (.bool (v_b162 59))), .d (.v (.bool (v_b162 60))), .d (.v (.bool (v_b162 61))), .d (.v (.bool (v_b162 62))), .d (.v (.bool (v_b162 63))), .d (.v (.bool (v_b162 64))), .d (.v (.bool (v_b162 65))), .d (.v (.bool (v_b162 66))), .d (.v (.bool (v_b162 67))), .d (.v (.bool (v_b162 68))), .d (.v (.bool (v_b162 69))), .d (.v (.bool (v_b162 70))), .d (.v (.bool (v_b162 71))), .d (.v (.bool (v_b162 72))), .d (.v (.bool (v_b162 73))), .d (.v (.bool (v_b162 74))), .d (.v (.bool (v_b162 75))), .d (.v (.bool (v_b162 76))), .d (.v (.bool (v_b162 77))), .d (.v (.bool (v_b162 78))), .d (.v (.bool (v_b162 79))), .d (.v (.bool (v_b162 80))), .d (.v (.bool (v_b162 81))), .d (.v (.bool (v_b162 82))), .d (.v (.bool (v_b162 83))), .d (.v (.bool (v_b162 84))), .d (.v (.bool (v_b162 85))), .d (.v (.bool (v_b162 86))), .d (.v (.bool (v_b162 87))), .d (.v (.bool (v_b162 88))), .d (.v (.bool (v_b162 89))), .d (.v (.bool (v_b162 90))), .d (.v (.bool (v_b162 91))), .d (.v (.bool (v_b162 92))), .d (.v (.bool (v_b162 93))), .d (.v (.bool (v_b162 94))), .d (.v (.bool (v_b162 95))), .d (.v (.bool (v_b162 96))), .d (.v (.bool (v_b162 97))), .d (.v (.bool (v_b162 98))), .d (.v (.bool (v_b162 99)))], .box [.d (.v (.int .i64 (v_y163 0))), .d (.v (.int .i64 (v_y163 1))), .d (.v (.int .i64 (v_y163 2)))]]⟩
def G_ringref5_BoxErr_L5 (n : Nat) (v_l117 : (List (Fin 3 → Int))) (v_x160 : Int) (v_y163 : (Fin 3 → Int)) (v_b161 : (Fin 100 → Bool)) (v_b162 : (Fin 100 → Bool)) : Nat → Int → Option G_ringref5_BoxErr_L5_R
  | 0, _ => none
  | k + 1, v_x173 =>
    if v_x173 < (v_y163 2) then
     if 0 ≤ (wi .i64 ((v_y163 0) + v_x173)) ∧ (wi .i64 ((v_y163 0) + v_x173)) < (100 : Int) then
      (getA v_b161 (wi .i64 ((v_y163 0) + v_x173))).bind fun (v_y180 : Bool) =>
      if v_y180 = true then
       some (.x0 5)
      else
       if 0 ≤ (wi .i64 ((v_y163 1) + v_x173)) ∧ (wi .i64 ((v_y163 1) + v_x173)) < (100 : Int) then
        (getA v_b162 (wi .i64 ((v_y163 1) + v_x173))).bind fun (v_y182 : Bool) =>
        if v_y182 = true then
         some (.x0 5)
        else
         G_ringref5_BoxErr_L5 n v_l117 v_x160 v_y163 v_b161 v_b162 k (wi .i64 (v_x173 + 1))
       else none
     else none
    else
     some (.x1 )
theorem G_ringref5_BoxErr_L5_ok {Fi : Ex → PS → Prop} (hF : KC 89 Fi) (ks : List Fr) (n : Nat) (v_l117 : (List (Fin 3 → Int))) (v_x160 : Int) (v_y163 : (Fin 3 → Int)) (v_b161 : (Fin 100 → Bool)) (v_b162 : (Fin 100 → Bool))  : ∀ (k : Nat) (v_x173 : Int) (o : G_ringref5_BoxErr_L5_R), G_ringref5_BoxErr_L5 n v_l117 v_x160 v_y163 v_b161 v_b162 k v_x173 = some o → RunE Try.prog 89 Fi ks (G_ringref5_BoxErr_L5_ex o) (G_ringref5_BoxErr_L5_st v_l117 v_x160 v_y163 v_b161 v_b162 o) → RunE Try.prog 89 Fi (.l k (cP (cB (cR (cL (cR (cR (cB (cL (cR (cR (cP (cB (cR (cL (cR (cR (cR (bodyOf Try.f37)))))))))))))))))) :: ks) .normal (G_ringref5_BoxErr_L5_hd v_l117 v_x160 v_y163 v_b161 v_b162 v_x173)
  | 0, v_x173, o, h, q => by rw [G_ringref5_BoxErr_L5] at h; cases h
  | k + 1, v_x173, o, h, q => by
    rw [G_ringref5_BoxErr_L5] at h
    by_cases h182 : v_x173 < (v_y163 2)
    · rw [if_pos h182] at h
      by_cases h199 : 0 ≤ (wi .i64 ((v_y163 0) + v_x173)) ∧ (wi .i64 ((v_y163 0) + v_x173)) < (100 : Int)
      · rw [if_pos h199] at h
        obtain ⟨v_y180, h200, h⟩ := bind_some h
        by_cases h201 : v_y180 = true
        · rw [if_pos h201] at h
          cases h
          exact pkk_sound TTok mix hF 19 (hs := [.t true, .c, .l (.d (.v (.bool v_y180))), .t true, .c, .c, .c, .c, .c, .c]) (ts := []) (s := []) (l := [2]) (by kernel_rfl) (by kernel_rfl) (.cons (dt h182) (.cons (show (0 : Int) ≤ 0 ∧ (0 : Int) < 3 by decide) (.cons h199 (.cons (arr_cell (γ := FV) (sz := 1) (g := (fun x => [.d (.v (.bool x))])) (pre := []) (post := []) (o := 0) (fun _ => rfl) h200 rfl) (.cons h201 .nil))))) q
        · rw [if_neg h201] at h
          by_cases h202 : 0 ≤ (wi .i64 ((v_y163 1) + v_x173)) ∧ (wi .i64 ((v_y163 1) + v_x173)) < (100 : Int)
          · rw [if_pos h202] at h
            obtain ⟨v_y182, h203, h⟩ := bind_some h
            by_cases h204 : v_y182 = true
            · rw [if_pos h204] at h
              cases h
              exact pkk_sound TTok mix hF 19 (hs := [.t true, .c, .l (.d (.v (.bool v_y180))), .t false, .c, .c, .c, .c, .c, .c, .l (.d (.v (.bool v_y182))), .t true]) (ts := []) (s := []) (l := [2]) (by kernel_rfl) (by kernel_rfl) (.cons (dt h182) (.cons (show (0 : Int) ≤ 0 ∧ (0 : Int) < 3 by decide) (.cons h199 (.cons (arr_cell (γ := FV) (sz := 1) (g := (fun x => [.d (.v (.bool x))])) (pre := []) (post := []) (o := 0) (fun _ => rfl) h200 rfl) (.cons (vf h201) (.cons (show (0 : Int) ≤ 1 ∧ (1 : Int) < 3 by decide) (.cons h202 (.cons (arr_cell (γ := FV) (sz := 1) (g := (fun x => [.d (.v (.bool x))])) (pre := []) (post := []) (o := 0) (fun _ => rfl) h203 rfl) (.cons h204 .nil))))))))) q
            · rw [if_neg h204] at h
              exact pkk_sound TTok mix hF 16 (hs := [.t true, .c, .l (.d (.v (.bool v_y180))), .t false, .c, .c, .c, .c, .c, .c, .l (.d (.v (.bool v_y182))), .t false]) (ts := []) (s := [0, 1, 2]) (l := [3, 4, 6, 12, 13, 14, 53, 54]) (by kernel_rfl) (by kernel_rfl) (.cons (dt h182) (.cons (show (0 : Int) ≤ 0 ∧ (0 : Int) < 3 by decide) (.cons h199 (.cons (arr_cell (γ := FV) (sz := 1) (g := (fun x => [.d (.v (.bool x))])) (pre := []) (post := []) (o := 0) (fun _ => rfl) h200 rfl) (.cons (vf h201) (.cons (show (0 : Int) ≤ 1 ∧ (1 : Int) < 3 by decide) (.cons h202 (.cons (arr_cell (γ := FV) (sz := 1) (g := (fun x => [.d (.v (.bool x))])) (pre := []) (post := []) (o := 0) (fun _ => rfl) h203 rfl) (.cons (vf h204) .nil))))))))) (G_ringref5_BoxErr_L5_ok hF ks n v_l117 v_x160 v_y163 v_b161 v_b162 k (wi .i64 (v_x173 + 1)) _ h q)
          · rw [if_neg h202] at h; cases h
      · rw [if_neg h199] at h; cases h
    · rw [if_neg h182] at h
      cases h
      exact pkk_sound TTok mix hF 8 (hs := [.t false]) (ts := []) (s := [0, 1, 2]) (l := [3, 4, 6, 12, 13, 14]) (by kernel_rfl) (by kernel_rfl) (.cons (df h182) .nil) q
inductive G_ringref5_BoxErr_L6_R where
  | x0 (v_b199 : (Fin 100 → Bool)) (v_b200 : (Fin 100 → Bool))
def G_ringref5_BoxErr_L6_ex : G_ringref5_BoxErr_L6_R → Ex
  | .x0 _ _ => .exit 4
def G_ringref5_BoxErr_L6_st (v_l117 : (List (Fin 3 → Int))) (v_x160 : Int) (v_y163 : (Fin 3 → Int)) : G_ringref5_BoxErr_L6_R → PS
  | .x0 v_b199 v_b200 => ⟨[dd, dd, dd, .ref 0 0, .ref 1 0, dd, dd, dd, dd, dd, dd, dd, .d (.sl (v_l117.map (fun x => PV.agg [.v (.int .i64 (x 0)), .v (.int .i64 (x 1)), .v (.int .i64 (x 2))]))), .d (.v (.int .i64 (v_l117.length : Int))), .d (.v (.int .i64 v_x160)), dd, dd, dd, dd, dd, dd, dd, dd, dd, dd, dd, dd, dd, dd, dd, dd, dd, dd, dd, dd, dd, dd, dd, dd, dd, dd, dd, dd, dd, dd, dd, dd, dd, dd, dd, dd, dd, dd, dd, dd, dd, dd, dd, dd, dd, dd, dd, dd, dd, dd, dd, dd, dd, dd, dd, dd, dd, dd, dd, dd, dd, dd, dd, dd, dd, dd, dd, dd, dd, dd, dd, dd, dd, dd], [.box [.d (.v (.bool (v_b199 0))), .d (.v (.bool (v_b199 1))), .d (.v (.bool (v_b199 2))), .d (.v (.bool (v_b199 3))), .d (.v (.bool (v_b199 4))), .d (.v (.bool (v_b199 5))), .d (.v (.bool (v_b199 6))), .d (.v (.bool (v_b199 7))), .d (.v (.bool (v_b199 8))), .d (.v (.bool (v_b199 9))), .d (.v (.bool (v_b199 10))), .d (.v (.bool (v_b199 11))), .d (.v (.bool (v_b199 12))), .d (.v (.bool (v_b199 13))), .d (.v (.bool (v_b199 14))), .d (.v (.bool (v_b199 15))), .d (.v (.bool (v_b199 16))), .d (.v (.bool (v_b199 17))), .d (.v (.bool (v_b199 18))), .d (.v (.bool (v_b199 19))), .d (.v (.bool (v_b199 20))), .d (.v (.bool (v_b199 21))), .d (.v (.bool (v_b199 22))), .d (.v (.bool (v_b199 23))), .d (.v (.bool (v_b199 24))), .d (.v (.bool (v_b199 25))), .d (.v (.bool (v_b199 26))), .d (.v (.bool (v_b199 27))), .d (.v (.bool (v_b199 28))), .d (.v (.bool (v_b199 29))), .d (.v (.bool (v_b199 30))), .d (.v (.bool (v_b199 31))), .d (.v (.bool (v_b199 32))), .d (.v (.bool (v_b199 33))), .d (.v (.bool (v_b199 34))), .d (.v (.bool (v_b199 35))), .d (.v (.bool (v_b199 36))), .d (.v (.bool (v_b199 37))), .d (.v (.bool (v_b199 38))), .d (.v (.bool (v_b199 39))), .d (.v (.bool (v_b199 40))), .d (.v (.bool (v_b199 41))), .d (.v (.bool (v_b199 42))), .d (.v (.bool (v_b199 43))), .d (.v (.bool (v_b199 44))), .d (.v (.bool (v_b199 45))), .d (.v (.bool (v_b199 46))), .d (.v (.bool (v_b199 47))), .d (.v (.bool (v_b199 48))), .d (.v (.bool (v_b199 49))), .d (.v (.bool (v_b199 50))), .d (.v (.bool (v_b199 51))), .d (.v (.bool (v_b199 52))), .d (.v (.bool (v_b199 53))), .d (.v (.bool (v_b199 54))), .d (.v (.bool (v_b199 55))), .d (.v (.bool (v_b199 56))), .d (.v (.bool (v_b199 57))), .d (.v (.bool (v_b199 58))), .d (.v (.bool (v_b199 59))), .d (.v (.bool (v_b199 60))), .d (.v (.bool (v_b199 61))), .d (.v (.bool (v_b199 62))), .d (.v (.bool (v_b199 63))), .d (.v (.bool (v_b199 64))), .d (.v (.bool (v_b199 65))), .d (.v (.bool (v_b199 66))), .d (.v (.bool (v_b199 67))), .d (.v (.bool (v_b199 68))), .d (.v (.bool (v_b199 69))), .d (.v (.bool (v_b199 70))), .d (.v (.bool (v_b199 71))), .d (.v (.bool (v_b199 72))), .d (.v (.bool (v_b199 73))), .d (.v (.bool (v_b199 74))), .d (.v (.bool (v_b199 75))), .d (.v (.bool (v_b199 76))), .d (.v (.bool (v_b199 77))), .d (.v (.bool (v_b199 78))), .d (.v (.bool (v_b199 79))), .d (.v (.bool (v_b199 80))), .d (.v (.bool (v_b199 81))), .d (.v (.bool (v_b199 82))), .d (.v (.bool (v_b199 83))), .d (.v (.bool (v_b199 84))), .d (.v (.bool (v_b199 85))), .d (.v (.bool (v_b199 86))), .d (.v (.bool (v_b199 87))), .d (.v (.bool (v_b199 88))), .d (.v (.bool (v_b199 89))), .d (.v (.bool (v_b199 90))), .d (.v (.bool (v_b199 91))), .d (.v (.bool (v_b199 92))), .d (.v (.bool (v_b199 93))), .d (.v (.bool (v_b199 94))), .d (.v (.bool (v_b199 95))), .d (.v (.bool (v_b199 96))), .d (.v (.bool (v_b199 97))), .d (.v (.bool (v_b199 98))), .d (.v (.bool (v_b199 99)))], .box [.d (.v (.bool (v_b200 0))), .d (.v (.bool (v_b200 1))), .d (.v (.bool (v_b200 2))), .d (.v (.bool (v_b200 3))), .d (.v (.bool (v_b200 4))), .d (.v (.bool (v_b200 5))), .d (.v (.bool (v_b200 6))), .d (.v (.bool (v_b200 7))), .d (.v (.bool (v_b200 8))), .d (.v (.bool (v_b200 9))), .d (.v (.bool (v_b200 10))), .d (.v (.bool (v_b200 11))), .d (.v (.bool (v_b200 12))), .d (.v (.bool (v_b200 13))), .d (.v (.bool (v_b200 14))), .d (.v (.bool (v_b200 15))), .d (.v (.bool (v_b200 16))), .d (.v (.bool (v_b200 17))), .d (.v (.bool (v_b200 18))), .d (.v (.bool (v_b200 19))), .d (.v (.bool (v_b200 20))), .d (.v (.bool (v_b200 21))), .d (.v (.bool (v_b200 22))), .d (.v (.bool (v_b200 23))), .d (.v (.bool (v_b200 24))), .d (.v (.bool (v_b200 25))), .d (.v (.bool (v_b200 26))), .d (.v (.bool (v_b200 27))), .d (.v (.bool (v_b200 28))), .d (.v (.bool (v_b200 29))), .d (.v (.bool (v_b200 30))), .d (.v (.bool (v_b200 31))), .d (.v (.bool (v_b200 32))), .d (.v (.bool (v_b200 33))), .d (.v (.bool (v_b200 34))), .d (.v (.bool (v_b200 35))), .d (.v (.bool (v_b200 36))), .d (.v (.bool (v_b200 37))), .d (.v (.bool (v_b200 38))), .d (.v (.bool (v_b200 39))), .d (.v (.bool (v_b200 40))), .d (.v (.bool (v_b200 41))), .d (.v (.bool (v_b200 42))), .d (.v (.bool (v_b200 43))), .d (.v (.bool (v_b200 44))), .d (.v (.bool (v_b200 45))), .d (.v (.bool (v_b200 46))), .d (.v (.bool (v_b200 47))), .d (.v (.bool (v_b200 48))), .d (.v (.bool (v_b200 49))), .d (.v (.bool (v_b200 50))), .d (.v (.bool (v_b200 51))), .d (.v (.bool (v_b200 52))), .d (.v (.bool (v_b200 53))), .d (.v (.bool (v_b200 54))), .d (.v (.bool (v_b200 55))), .d (.v (.bool (v_b200 56))), .d (.v (.bool (v_b200 57))), .d (.v (.bool (v_b200 58))), .d (.v (.bool (v_b200 59))), .d (.v (.bool (v_b200 60))), .d (.v (.bool (v_b200 61))), .d (.v (.bool (v_b200 62))), .d (.v (.bool (v_b200 63))), .d (.v (.bool (v_b200 64))), .d (.v (.bool (v_b200 65))), .d (.v (.bool (v_b200 66))), .d (.v (.bool (v_b200 67))), .d (.v (.bool (v_b200 68))), .d (.v (.bool (v_b200 69))), .d (.v (.bool (v_b200 70))), .d (.v (.bool (v_b200 71))), .d (.v (.bool (v_b200 72))), .d (.v (.bool (v_b200 73))), .d (.v (.bool (v_b200 74))), .d (.v (.bool (v_b200 75))), .d (.v (.bool (v_b200 76))), .d (.v (.bool (v_b200 77))), .d (.v (.bool (v_b200 78))), .d (.v (.bool (v_b200 79))), .d (.v (.bool (v_b200 80))), .d (.v (.bool (v_b200 81))), .d (.v (.bool (v_b200 82))), .d (.v (.bool (v_b200 83))), .d (.v (.bool (v_b200 84))), .d (.v (.bool (v_b200 85))), .d (.v (.bool (v_b200 86))), .d (.v (.bool (v_b200 87))), .d (.v (.bool (v_b200 88))), .d (.v (.bool (v_b200 89))), .d (.v (.bool (v_b200 90))), .d (.v (.bool (v_b200 91))), .d (.v (.bool (v_b200 92))), .d (.v (.bool (v_b200 93))), .d (.v (.bool (v_b200 94))), .d (.v (.bool (v_b200 95))), .d (.v (.bool (v_b200 96))), .d (.v (.bool (v_b200 97))), .d (.v (.bool (v_b200 98))), .d (.v (.bool (v_b200 99)))]]⟩
def G_ringref5_BoxErr_L6_hd (v_l117 : (List (Fin 3 → Int))) (v_x160 : Int) (v_y163 : (Fin 3 → Int)) (v_x192 : Int) (v_b193 : (Fin 100 → Bool)) (v_b194 : (Fin 100 → Bool)) : PS := ⟨[dd, dd, dd, .ref 0 0, .ref 1 0, dd, .ref 2 0, dd, dd, dd, dd, dd, .d (.sl (v_l117.map (fun x => PV.agg [.v (.int .i64 (x 0)), .v (.int .i64 (x 1)), .v (.int .i64 (x 2))]))), .d (.v (.int .i64 (v_l117.length : Int))), .d (.v (.int .i64 v_x160)), dd, dd, dd, dd, dd, dd, dd, dd, dd, dd, dd, dd, dd, dd, dd, dd, dd, dd, dd, dd, dd, dd, dd, dd, dd, dd, dd, dd, dd, dd, dd, dd, dd, dd, dd, dd, dd, dd, dd, dd, dd, dd, dd, dd, dd, dd, dd, dd, dd, dd, dd, dd, dd, dd, dd, dd, dd, dd, .d (.v (.int .i64 (v_y163 2))), .d (.v (.int .i64 v_x192)), dd, dd, dd, dd, dd, dd, dd, dd, dd, dd, dd, dd, dd, dd], [.box [.d (.v (.bool (v_b193 0))), .d (.v (.bool (v_b193 1))), .d (.v (.bool (v_b193 2))), .d (.v (.bool (v_b193 3))), .d (.v (.bool (v_b193 4))), .d (.v (.bool (v_b193 5))), .d (.v (.bool (v_b193 6))), .d (.v (.bool (v_b193 7))), .d (.v (.bool (v_b193 8))), .d (.v (.bool (v_b193 9))), .d (.v (.bool (v_b193 10))), .d (.v (.bool (v_b193 11))), .d (.v (.bool (v_b193 12))), .d (.v (.bool (v_b193 13))), .d (.v (.bool (v_b193 14))), .d (.v (.bool (v_b193 15))), .d (.v (.bool (v_b193 16))), .d (.v (.bool (v_b193 17))), .d (.v (.bool (v_b193 18))), .d (.v (.bool (v_b193 19))), .d (.v (.bool (v_b193 20))), .d (.v (.bool (v_b193 21))), .d (.v (.bool (v_b193 22))), .d (.v (.bool (v_b193 23))), .d (.v (.bool (v_b193 24))), .d (.v (.bool (v_b193 25))), .d (.v (.bool (v_b193 26))), .d (.v (.bool (v_b193 27))), .d (.v (.bool (v_b193 28))), .d (.v (.bool (v_b193 29))), .d (.v (.bool (v_b193 30))), .d (.v (.bool (v_b193 31))), .d (.v (.bool (v_b193 32))), .d (.v (.bool (v_b193 33))), .d (.v (.bool (v_b193 34))), .d (.v (.bool (v_b193 35))), .d (.v (.bool (v_b193 36))), .d (.v (.bool (v_b193 37))), .d (.v (.bool (v_b193 38))), .d (.v (.bool (v_b193 39))), .d (.v (.bool (v_b193 40))), .d (.v (.bool (v_b193 41))), .d (.v (.bool (v_b193 42))), .d (.v (.bool (v_b193 43))), .d (.v (.bool (v_b193 44))), .d (.v (.bool (v_b193 45))), .d (.v (.bool (v_b193 46))), .d (.v (.bool (v_b193 47))), .d (.v (.bool (v_b193 48))), .d (.v (.bool (v_b193 49))), .d (.v (.bool (v_b193 50))), .d (.v (.bool (v_b193 51))), .d (.v (.bool (v_b193 52))), .d (.v (.bool (v_b193 53))), .d (.v (.bool (v_b193 54))), .d (.v (.bool (v_b193 55))), .d (.v (.bool (v_b193 56))), .d (.v (.bool (v_b193 57))), .d (.v (.bool (v_b193 58))), .d (.v (.bool (v_b193 59))), .d (.v (.bool (v_b193 60))), .d (.v (.bool (v_b193 61))), .d (.v (.bool (v_b193 62))), .d (.v (.bool (v_b193 63))), .d (.v (.bool (v_b193 64))), .d (.v (.bool (v_b193 65))), .d (.v (.bool (v_b193 66))), .d (.v (.bool (v_b193 67))), .d (.v (.bool (v_b193 68))), .d (.v (.bool (v_b193 69))), .d (.v (.bool (v_b193 70))), .d (.v (.bool (v_b193 71))), .d (.v (.bool (v_b193 72))), .d (.v (.bool (v_b193 73))), .d (.v (.bool (v_b193 74))), .d (.v (.bool (v_b193 75))), .d (.v (.bool (v_b193 76))), .d (.v (.bool (v_b193 77))), .d (.v (.bool (v_b193 78))), .d (.v (.bool (v_b193 79))), .d (.v (.bool (v_b193 80))), .d (.v (.bool (v_b193 81))), .d (.v (.bool (v_b193 82))), .d (.v (.bool (v_b193 83))), .d (.v (.bool (v_b193 84))), .d (.v (.bool (v_b193 85))), .d (.v (.bool (v_b193 86))), .d (.v (.bool (v_b193 87))), .d (.v (.bool (v_b193 88))), .d (.v (.bool (v_b193 89))), .d (.v (.bool (v_b193 90))), .d (.v (.bool (v_b193 91))), .d (.v (.bool (v_b193 92))), .d (.v (.bool (v_b193 93))), .d (.v (.bool (v_b193 94))), .d (.v (.bool (v_b193 95))), .d (.v (.bool (v_b193 96))), .d (.v (.bool (v_b193 97))), .d (.v (.bool (v_b193 98))), .d (.v (.bool (v_b193 99)))], .box [.d (.v (.bool (v_b194 0))), .d (.v (.bool (v_b194 1))), .d (.v (.bool (v_b194 2))), .d (.v (.bool (v_b194 3))), .d (.v (.bool (v_b194 4))), .d (.v (.bool (v_b194 5))), .d (.v (.bool (v_b194 6))), .d (.v (.bool (v_b194 7))), .d (.v (.bool (v_b194 8))), .d (.v (.bool (v_b194 9))), .d (.v (.bool (v_b194 10))), .d (.v (.bool (v_b194 11))), .d (.v (.bool (v_b194 12))), .d (.v (.bool (v_b194 13))), .d (.v (.bool (v_b194 14))), .d (.v (.bool (v_b194 15))), .d (.v (.bool (v_b194 16))), .d (.v (.bool (v_b194 17))), .d (.v (.bool (v_b194 18))), .d (.v (.bool (v_b194 19))), .d (.v (.bool (v_b194 20))), .d (.v (.bool (v_b194 21))), .d (.v (.bool (v_b194 22))), .d (.v (.bool (v_b194 23))), .d (.v (.bool (v_b194 24))), .d (.v (.bool (v_b194 25))), .d (.v (.bool (v_b194 26))), .d (.v (.bool (v_b194 27))), .d (.v (.bool (v_b194 28))), .d (.v (.bool (v_b194 29))), .d (.v (.bool (v_b194 30))), .d (.v (.bool (v_b194 31))), .d (.v (.bool (v_b194 32))), .d (.v (.bool (v_b194 33))), .d (.v (.bool (v_b194 34))), .d (.v (.bool (v_b194 35))), .d (.v (.bool (v_b194 36))), .d (.v (.bool (v_b194 37))), .d (.v (.bool (v_b194 38))), .d (.v (.bool (v_b194 39))), .d (.v (.bool (v_b194 40))), .d (.v (.bool (v_b194 41))), .d (.v (.bool (v_b194 42))), .d (.v (.bool (v_b194 43))), .d (.v (.bool (v_b194 44))), .d (.v (.bool (v_b194 45))), .d (.v (.bool (v_b194 46))), .d (.v (.bool (v_b194 47))), .d (.v (.bool (v_b194 48))), .d (.v (.bool (v_b194 49))), .d (.v (.bool (v_b194 50))), .d (.v (.bool (v_b194 51))), .d (.v (.bool (v_b194 52))), .d (.v (.bool (v_b194 53))), .d (.v (.bool (v_b194 54))), .d (.v (.bool (v_b194 55))), .d (.v (.bool (v_b194 56))), .d (.v (.bool (v_b194 57))), .d (.v (.bool (v_b194 58))), .d (.v (.bool (v_b194 59))), .d (.v (.bool (v_b194 60))), .d (.v (.bool (v_b194 61))), .d (.v (.bool (v_b194 62))), .d (.v (.bool (v_b194 63))), .d (.v (.bool (v_b194 64))), .d (.v (.bool (v_b194 65))), .d (.v (.bool (v_b194 66))), .d (.v (.bool (v_b194 67))), .d (.v (.bool (v_b194 68))), .d (.v (.bool (v_b194 69))), .d (.v (.bool (v_b194 70))), .d (.v (.bool (v_b194 71))), .d (.v (.bool (v_b194 72))), .d (.v (.bool (v_b194 73))), .d (.v (.bool (v_b194 74))), .d (.v (.bool (v_b194 75))), .d (.v (.bool (v_b194 76))), .d (.v (.bool (v_b194 77))), .d (.v (.bool (v_b194 78))), .d (.v (.bool (v_b194 79))), .d (.v (.bool (v_b194 80))), .d (.v (.bool (v_b194 81))), .d (.v (.bool (v_b194 82))), .d (.v (.bool (v_b194 83))), .d (.v (.bool (v_b194 84))), .d (.v (.bool (v_b194 85))), .d (.v (.bool (v_b194 86))), .d (.v (.bool (v_b194 87))), .d (.v (.bool (v_b194 88))), .d (.v (.bool (v_b194 89))), .d (.v (.bool (v_b194 90))), .d (.v (.bool (v_b194 91))), .d (.v (.bool (v_b194 92))), .d (.v (.bool (v_b194 93))), .d (.v (.bool (v_b194 94))), .d (.v (.bool (v_b194 95))), .d (.v (.bool (v_b194 96))), .d (.v (.bool (v_b194 97))), .d (.v (.bool (v_b194 98))), .d (.v (.bool (v_b194 99)))], .box [.d (.v (.int .i64 (v_y163 0))), .d (.v (.int .i64 (v_y163 1))), .d (.v (.int .i64 (v_y163 2)))]]⟩
def G_ringref5_BoxErr_L6 (n : Nat) (v_l117 : (List (Fin 3 → Int))) (v_x160 : Int) (v_y163 : (Fin 3 → Int)) : Nat → Int → (Fin 100 → Bool) → (Fin 100 → Bool) → Option G_ringref5_BoxErr_L6_R
  | 0, _, _, _ => none
  | k + 1, v_x192, v_b193, v_b194 =>
    if v_x192 < (v_y163 2) then
     if 0 ≤ (wi .i64 ((v_y163 0) + v_x192)) ∧ (wi .i64 ((v_y163 0) + v_x192)) < (100 : Int) then
      (getA v_b193 (wi .i64 ((v_y163 0) + v_x192))).bind fun (v_y197 : Bool) =>
      if 0 ≤ (wi .i64 ((v_y163 1) + v_x192)) ∧ (wi .i64 ((v_y163 1) + v_x192)) < (100 : Int) then
       (getA v_b194 (wi .i64 ((v_y163 1) + v_x192))).bind fun (v_y198 : Bool) =>
       G_ringref5_BoxErr_L6 n v_l117 v_x160 v_y163 k (wi .i64 (v_x192 + 1)) (setA v_b193 (wi .i64 ((v_y163 0) + v_x192)) true) (setA v_b194 (wi .i64 ((v_y163 1) + v_x192)) true)
      else none
     else none
    else
     some (.x0 v_b193 v_b194)
theorem G_ringref5_BoxErr_L6_ok {Fi : Ex → PS → Prop} (hF : KC 89 Fi) (ks : List Fr) (n : Nat) (v_l117 : (List (Fin 3 → Int))) (v_x160 : Int) (v_y163 : (Fin 3 → Int))  : ∀ (k : Nat) (v_x192 : Int) (v_b193 : (Fin 100 → Bool)) (v_b194 : (Fin 100 → Bool)) (o : G_ringref5_BoxErr_L6_R), G_ringref5_BoxErr_L6 n v_l117 v_x160 v_y163 k v_x192 v_b193 v_b194 = some o → RunE Try.prog 89 Fi ks (G_ringref5_BoxErr_L6_ex o) (G_ringref5_BoxErr_L6_st v_l117 v_x160 v_y163 o) → RunE Try.prog 89 Fi (.l k (cP (cB (cR (cR (cR (cR (cB (cL (cR (cR (cP (cB (cR (cL (cR (cR (cR (bodyOf Try.f37)))))))))))))))))) :: ks) .normal (G_ringref5_BoxErr_L6_hd v_l117 v_x160 v_y163 v_x192 v_b193 v_b194)
  | 0, v_x192, v_b193, v_b194, o, h, q => by rw [G_ringref5_BoxErr_L6] at h; cases h
  | k + 1, v_x192, v_b193, v_b194, o, h, q => by
    rw [G_ringref5_BoxErr_L6] at h
    by_cases h215 : v_x192 < (v_y163 2)
    · rw [if_pos h215] at h
      by_cases h220 : 0 ≤ (wi .i64 ((v_y163 0) + v_x192)) ∧ (wi .i64 ((v_y163 0) + v_x192)) < (100 : Int)
      · rw [if_pos h220] at h
        obtain ⟨v_y197, h221, h⟩ := bind_some h
        by_cases h222 : 0 ≤ (wi .i64 ((v_y163 1) + v_x192)) ∧ (wi .i64 ((v_y163 1) + v_x192)) < (100 : Int)
        · rw [if_pos h222] at h
          obtain ⟨v_y198, h223, h⟩ := bind_some h
          exact pkk_sound TTok mix hF 13 (hs := [.t true, .c, .c, .x [.d (.v (.bool ((setA v_b193 (wi .i64 ((v_y163 0) + v_x192)) true) 0))), .d (.v (.bool ((setA v_b193 (wi .i64 ((v_y163 0) + v_x192)) true) 1))), .d (.v (.bool ((setA v_b193 (wi .i64 ((v_y163 0) + v_x192)) true) 2))), .d (.v (.bool ((setA v_b193 (wi .i64 ((v_y163 0) + v_x192)) true) 3))), .d (.v (.bool ((setA v_b193 (wi .i64 ((v_y163 0) + v_x192)) true) 4))), .d (.v (.bool ((setA v_b193 (wi .i64 ((v_y163 0) + v_x192)) true) 5))), .d (.v (.bool ((setA v_b193 (wi .i64 ((v_y163 0) + v_x192)) true) 6))), .d (.v (.bool ((setA v_b193 (wi .i64 ((v_y163 0) + v_x192)) true) 7))), .d (.v (.bool ((setA v_b193 (wi .i64 ((v_y163 0) + v_x192)) true) 8))), .d (.v (.bool ((setA v_b193 (wi .i64 ((v_y163 0) + v_x192)) true) 9))), .d (.v (.bool ((setA v_b193 (wi .i64 ((v_y163 0) + v_x192)) true) 10))), .d (.v (.bool ((setA v_b193 (wi .i64 ((v_y163 0) + v_x192)) true) 11))), .d (.v (.bool ((setA v_b193 (wi .i64 ((v_y163 0) + v_x192)) true) 12))), .d (.v (.bool ((setA v_b193 (wi .i64 ((v_y163 0) + v_x192)) true) 13))), .d (.v (.bool ((setA v_b193 (wi .i64 ((v_y163 0) + v_x192)) true) 14))), .d (.v (.bool ((setA v_b193 (wi .i64 ((v_y163 0) + v_x192)) true) 15))), .d (.v (.bool ((setA v_b193 (wi .i64 ((v_y163 0) + v_x192)) true) 16))), .d (.v (.bool ((setA v_b193 (wi .i64 ((v_y163 0) + v_x192)) true) 17))), .d (.v (.bool ((setA v_b193 (wi .i64 ((v_y163 0) + v_x192)) true) 18))), .d (.v (.bool ((setA v_b193 (wi .i64 ((v_y163 0) + v_x192)) true) 19))), .d (.v (.bool ((setA v_b193 (wi .i64 ((v_y163 0) + v_x192)) true) 20))), .d (.v (.bool ((setA v_b193 (wi .i64 ((v_y163 0) + v_x192)) true) 21))), .d (.v (.bool ((setA v_b193 (wi .i64 ((v_y163 0) + v_x192)) true) 22))), .d (.v (.bool ((setA v_b193 (wi .i64 ((v_y163 0) + v_x192)) true) 23))), .d (.v (.bool ((setA v_b193 (wi .i64 ((v_y163 0) + v_x192)) true) 24))), .d (.v (.bool ((setA v_b193 (wi .i64 ((v_y163 0) + v_x192)) true) 25))), .d (.v (.bool ((setA v_b193 (wi .i64 ((v_y163 0) + v_x192)) true) 26))), .d (.v (.bool ((setA v_b193 (wi .i64 ((v_y163 0) + v_x192)) true) 27))), .d (.v (.bool ((setA v_b193 (wi .i64 ((v_y163 0) + v_x192)) true) 28))), .d (.v (.bool ((setA v_b193 (wi .i64 ((v_y163 0) + v_x192)) true) 29))), .d (.v (.bool ((setA v_b193 (wi .i64 ((v_y163 0) + v_x192)) true) 30))), .d (.v (.bool ((setA v_b193 (wi .i64 ((v_y163 0) + v_x192)) true) 31))), .d (.v (.bool ((setA v_b193 (wi .i64 ((v_y163 0) + v_x192)) true) 32))), .d (.v (.bool ((setA v_b193 (wi .i64 ((v_y163 0) + v_x192)) true) 33))), .d (.v (.bool ((setA v_b193 (wi .i64 ((v_y163 0) + v_x192)) true) 34))), .d (.v (.bool ((setA v_b193 (wi .i64 ((v_y163 0) + v_x192)) true) 35))), .d (.v (.bool ((setA v_b193 (wi .i64 ((v_y163 0) + v_x192)) true) 36))), .d (.v (.bool ((setA v_b193 (wi .i64 ((v_y163 0) + v_x192)) true) 37))), .d (.v (.bool ((setA v_b193 (wi .i64 ((v_y163 0) + v_x192)) true) 38))), .d (.v (.bool ((setA v_b193 (wi .i64 ((v_y163 0) + v_x192)) true) 39))), .d (.v (.bool ((setA v_b193 (wi .i64 ((v_y163 0) + v_x192)) true) 40))), .d (.v (.bool ((setA v_b193 (wi .i64 ((v_y163 0) + v_x192)) true) 41))), .d (.v (.bool ((setA v_b193 (wi .i64 ((v_y163 0) + v_x192)) true) 42))), .d (.v (.bool ((setA v_b193 (wi .i64 ((v_y163 0) + v_x192)) true) 43))), .d (.v (.bool ((setA v_b193 (wi .i64 ((v_y163 0) + v_x192)) true) 44))), .d (.v (.bool ((setA v_b193 (wi .i64 ((v_y163 0) + v_x192)) true) 45))), .d (.v (.bool ((setA v_b193 (wi .i64 ((v_y163 0) + v_x192)) true) 46))), .d (.v (.bool ((setA v_b193 (wi .i64 ((v_y163 0) + v_x192)) true) 47))), .d (.v (.bool ((setA v_b193 (wi .i64 ((v_y163 0) + v_x192)) true) 48))), .d (.v (.bool ((setA v_b193 (wi .i64 ((v_y163 0) + v_x192)) true) 49))), .d (.v (.bool ((setA v_b193 (wi .i64 ((v_y163 0) + v_x192)) true) 50))), .d (.v (.bool ((setA v_b193 (wi .i64 ((v_y163 0) + v_x192)) true) 51))), .d (.v (.bool ((setA v_b193 (wi .i64 ((v_y163 0) + v_x192)) true) 52))), .d (.v (.bool ((setA v_b193 (wi .i64 ((v_y163 0) + v_x192)) true) 53))), .d (.v (.bool ((setA v_b193 (wi .i64 ((v_y163 0) + v_x192)) true) 54))), .d (.v (.bool ((setA v_b193 (wi .i64 ((v_y163 0) + v_x192)) true) 55))), .d (.v (.bool ((setA v_b193 (wi .i64 ((v_y163 0) + v_x192)) true) 56))), .d (.v (.bool ((setA v_b193 (wi .i64 ((v_y163 0) + v_x192)) true) 57))), .d (.v (.bool ((setA v_b193 (wi .i64 ((v_y163 0) + v_x192)) true) 58))), .d (.v (.bool ((setA v_b193 (wi .i64 ((v_y163 0) + v_x192)) true) 59))), .d (.v (.bool ((setA v_b193 (wi .i64 ((v_y163 0) + v_x192)) true) 60))), .d (.v (.bool ((setA v_b193 (wi .i64 ((v_y163 0) + v_x192)) true) 61))), .d (.v (.bool ((setA v_b193 (wi .i64 ((v_y163 0) + v_x192)) true) 62))), .d (.v (.bool ((setA v_b193 (wi .i64 ((v_y163 0) + v_x192)) true) 63))), .d (.v (.bool ((setA v_b193 (wi .i64 ((v_y163 0) + v_x192)) true) 64))), .d (.v (.bool ((setA v_b193 (wi .i64 ((v_y163 0) + v_x192)) true) 65))), .d (.v (.bool ((setA v_b193 (wi .i64 ((v_y163 0) + v_x192)) true) 66))), .d (.v (.bool ((setA v_b193 (wi .i64 ((v_y163 0) + v_x192)) true) 67))), .d (.v (.bool ((setA v_b193 (wi .i64 ((v_y163 0) + v_x192)) true) 68))), .d (.v (.bool ((setA v_b193 (wi .i64 ((v_y163 0) + v_x192)) true) 69))), .d (.v (.bool ((setA v_b193 (wi .i64 ((v_y163 0) + v_x192)) true) 70))), .d (.v (.bool ((setA v_b193 (wi .i64 ((v_y163 0) + v_x192)) true) 71))), .d (.v (.bool ((setA v_b193 (wi .i64 ((v_y163 0) + v_x192)) true) 72))), .d (.v (.bool ((setA v_b193 (wi .i64 ((v_y163 0) + v_x192)) true) 73))), .d (.v (.bool ((setA v_b193 (wi .i64 ((v_y163 0) + v_x192)) true) 74))), .d (.v (.bool ((setA v_b193 (wi .i64 ((v_y163 0) + v_x192)) true) 75))), .d (.v (.bool ((setA v_b193 (wi .i64 ((v_y163 0) + v_x192)) true) 76))), .d (.v (.bool ((setA v_b193 (wi .i64 ((v_y163 0) + v_x192)) true) 77))), .d (.v (.bool ((setA v_b193 (wi .i64 ((v_y163 0) + v_x192)) true) 78))), .d (.v (.bool ((setA v_b193 (wi .i64 ((v_y163 0) + v_x192)) true) 79))), .d (.v (.bool ((setA v_b193 (wi .i64 ((v_y163 0) + v_x192)) true) 80))), .d (.v (.bool ((setA v_b193 (wi .i64 ((v_y163 0) + v_x192)) true) 81))), .d (.v (.bool ((setA v_b193 (wi .i64 ((v_y163 0) + v_x192)) true) 82))), .d (.v (.bool ((setA v_b193 (wi .i64 ((v_y163 0) + v_x192)) true) 83))), .d (.v (.bool ((setA v_b193 (wi .i64 ((v_y163 0) + v_x192)) true) 84))), .d (.v (.bool ((setA v_b193 (wi .i64 ((v_y163 0) + v_x192)) true) 85))), .d (.v (.bool ((setA v_b193 (wi .i64 ((v_y163 0) + v_x192)) true) 86))), .d (.v (.bool ((setA v_b193 (wi .i64 ((v_y163 0) + v_x192)) true) 87))), .d (.v (.bool ((setA v_b193 (wi .i64 ((v_y163 0) + v_x192)) true) 88))), .d (.v (.bool ((setA v_b193 (wi .i64 ((v_y163 0) + v_x192)) true) 89))), .d (.v (.bool ((setA v_b193 (wi .i64 ((v_y163 0) + v_x192)) true) 90))), .d (.v (.bool ((setA v_b193 (wi .i64 ((v_y163 0) + v_x192)) true) 91))), .d (.v (.bool ((setA v_b193 (wi .i64 ((v_y163 0) + v_x192)) true) 92))), .d (.v (.bool ((setA v_b193 (wi .i64 ((v_y163 0) + v_x192)) true) 93))), .d (.v (.bool ((setA v_b193 (wi .i64 ((v_y163 0) + v_x192)) true) 94))), .d (.v (.bool ((setA v_b193 (wi .i64 ((v_y163 0) + v_x192)) true) 95))), .d (.v (.bool ((setA v_b193 (wi .i64 ((v_y163 0) + v_x192)) true) 96))), .d (.v (.bool ((setA v_b193 (wi .i64 ((v_y163 0) + v_x192)) true) 97))), .d (.v (.bool ((setA v_b193 (wi .i64 ((v_y163 0) + v_x192)) true) 98))), .d (.v (.bool ((setA v_b193 (wi .i64 ((v_y163 0) + v_x192)) true) 99)))], .c, .x [.d (.v (.bool ((setA v_b194 (wi .i64 ((v_y163 1) + v_x192)) true) 0))), .d (.v (.bool ((setA v_b194 (wi .i64 ((v_y163 1) + v_x192)) true) 1))), .d (.v (.bool ((setA v_b194 (wi .i64 ((v_y163 1) + v_x192)) true) 2))), .d (.v (.bool ((setA v_b194 (wi .i64 ((v_y163 1) + v_x192)) true) 3))), .d (.v (.bool ((setA v_b194 (wi .i64 ((v_y163 1) + v_x192)) true) 4))), .d (.v (.bool ((setA v_b194 (wi .i64 ((v_y163 1) + v_x192)) true) 5))), .d (.v (.bool ((setA v_b194 (wi .i64 ((v_y163 1) + v_x192)) true) 6))), .d (.v (.bool ((setA v_b194 (wi .i64 ((v_y163 1) + v_x192)) true) 7))), .d (.v (.bool ((setA v_b194 (wi .i64 ((v_y163 1) + v_x192)) true) 8))), .d (.v (.bool ((setA v_b194 (wi .i64 ((v_y163 1) + v_x192)) true) 9))), .d (.v (.bool ((setA v_b194 (wi .i64 ((v_y163 1) + v_x192)) true) 10))), .d (.v (.bool ((setA v_b194 (wi .i64 ((v_y163 1) + v_x192)) true) 11))), .d (.v (.bool ((setA v_b194 (wi .i64 ((v_y163 1) + v_x192)) true) 12))), .d (.v (.bool ((setA v_b194 (wi .i64 ((v_y163 1) + v_x192)) true) 13))), .d (.v (.bool ((setA v_b194 (wi .i64 ((v_y163 1) + v_x192)) true) 14))), .d (.v (.bool ((setA v_b194 (wi .i64 ((v_y163 1) + v_x192)) true) 15))), .d (.v (.bool ((setA v_b194 (wi .i64 ((v_y163 1) + v_x192)) true) 16))), .d (.v (.bool ((setA v_b194 (wi .i64 ((v_y163 1) + v_x192)) true) 17))), .d (.v (.bool ((setA v_b194 (wi .i64 ((v_y163 1) + v_x192)) true) 18))), .d (.v (.bool ((setA v_b194 (wi .i64 ((v_y163 1) + v_x192)) true) 19))), .d (.v (.bool ((setA v_b194 (wi .i64 ((v_y163 1) + v_x192)) true) 20))), .d (.v (.bool ((setA v_b194 (wi .i64 ((v_y163 1) + v_x192)) true) 21))), .d (.v (.bool ((setA v_b194 (wi .i64 ((v_y163 1) + v_x192)) true) 22))), .d (.v (.bool ((setA v_b194 (wi .i64 ((v_y163 1) + v_x192)) true) 23))), .d (.v (.bool ((setA v_b194 (wi .i64 ((v_y163 1) + v_x192)) true) 24))), .d (.v (.bool ((setA v_b194 (wi .i64 ((v_y163 1) + v_x192)) true) 25))), .d (.v (.bool ((setA v_b194 (wi .i64 ((v_y163 1) + v_x192)) true) 26))), .d (.v (.bool ((setA v_b194 (wi .i64 ((v_y163 1) + v_x192)) true) 27))), .d (.v (.bool ((setA v_b194 (wi .i64 ((v_y163 1) + v_x192)) true) 28))), .d (.v (.bool ((setA v_b194 (wi .i64 ((v_y163 1) + v_x192)) true) 29))), .d (.v (.bool ((setA v_b194 (wi .i64 ((v_y163 1) + v_x192)) true) 30))), .d (.v (.bool ((setA v_b194 (wi .i64 ((v_y163 1) + v_x192)) true) 31))), .d (.v (.bool ((setA v_b194 (wi .i64 ((v_y163 1) + v_x192)) true) 32))), .d (.v (.bool ((setA v_b194 (wi .i64 ((v_y163 1) + v_x192)) true) 33))), .d (.v (.bool ((setA v_b194 (wi .i64 ((v_y163 1) + v_x192)) true) 34))), .d (.v (.bool ((setA v_b194 (wi .i64 ((v_y163 1) + v_x192)) true) 35))), .d (.v (.bool ((setA v_b194 (wi .i64 ((v_y163 1) + v_x192)) true) 36))), .d (.v (.bool ((setA v_b194 (wi .i64 ((v_y163 1) + v_x192)) true) 37))), .d (.v (.bool ((setA v_b194 (wi .i64 ((v_y163 1) + v_x192)) true) 38))), .d (.v (.bool ((setA v_b194 (wi .i64 ((v_y163 1) + v_x192)) true) 39))), .d (.v (.bool ((setA v_b194 (wi .i64 ((v_y163 1) + v_x192)) true) 40))), .d (.v (.bool ((setA v_b194 (wi .i64 ((v_y163 1) + v_x192)) true) 41))), .d (.v (.bool ((setA v_b194 (wi .i64 ((v_y163 1) + v_x192)) true) 42))), .d (.v (.bool ((setA v_b194 (wi .i64 ((v_y163 1) + v_x192)) true) 43))), .d (.v (.bool ((setA v_b194 (wi .i64 ((v_y163 1) + v_x192)) true) 44))), .d (.v (.bool ((setA v_b194 (wi .i64 ((v_y163 1) + v_x192)) true) 45))), .d (.v (.bool ((setA v_b194 (wi .i64 ((v_y163 1) + v_x192)) true) 46))), .d (.v (.bool ((setA v_b194 (wi .i64 ((v_y163 1) + v_x192)) true) 47))), .d (.v (.bool ((setA v_b194 (wi .i64 ((v_y163 1) + v_x192)) true) 48))), .d (.v (.bool ((setA v_b194 (wi .i64 ((v_y163 1) + v_x192)) true) 49))), .d (.v (.bool ((setA v_b194 (wi .i64 ((v_y163 1) + v_x192)) true) 50))), .d (.v (.bool ((setA v_b194 (wi .i64 ((v_y163 1) + v_x192)) true) 51))), .d (.v (.bool ((setA v_b194 (wi .i64 ((v_y163 1) + v_x192)) true) 52))), .d (.v (.bool ((setA v_b194 (wi .i64 ((v_y163 1) + v_x192)) true) 53))), .d (.v (.bool ((setA v_b194 (wi .i64 ((v_y163 1) + v_x192)) true) 54))), .d (.v (.bool ((setA v_b194 (wi .i64 ((v_y163 1) + v_x192)) true) 55))), .d (.v (.bool ((setA v_b194 (wi .i64 ((v_y163 1) + v_x192)) true) 56))), .d (.v (.bool ((setA v_b194 (wi .i64 ((v_y163 1) + v_x192)) true) 57))), .d (.v (.bool ((setA v_b194 (wi .i64 ((v_y163 1) + v_x192)) true) 58))), .d (.v (.bool ((setA v_b194 (wi .i64 ((v_y163 1) + v_x192)) true) 59))), .d (.v (.bool ((setA v_b194 (wi .i64 ((v_y163 1) + v_x192)) true) 60))), .d (.v (.bool ((setA v_b194 (wi .i64 ((v_y163 1) + v_x192)) true) 61))), .d (.v (.bool ((setA v_b194 (wi .i64 ((v_y163 1) + v_x192)) true) 62))), .d (.v (.bool ((setA v_b194 (wi .i64 ((v_y163 1) + v_x192)) true) 63))), .d (.v (.bool ((setA v_b194 (wi .i64 ((v_y163 1) + v_x192)) true) 64))), .d (.v (.bool ((setA v_b194 (wi .i64 ((v_y163 1) + v_x192)) true) 65))), .d (.v (.bool ((setA v_b194 (wi .i64 ((v_y163 1) + v_x192)) true) 66))), .d (.v (.bool ((setA v_b194 (wi .i64 ((v_y163 1) + v_x192)) true) 67))), .d (.v (.bool ((setA v_b194 (wi .i64 ((v_y163 1) + v_x192)) true) 68))), .d (.v (.bool ((setA v_b194 (wi .i64 ((v_y163 1) + v_x192)) true) 69))), .d (.v (.bool ((setA v_b194 (wi .i64 ((v_y163 1) + v_x192)) true) 70))), .d (.v (.bool ((setA v_b194 (wi .i64 ((v_y163 1) + v_x192)) true) 71))), .d (.v (.bool ((setA v_b194 (wi .i64 ((v_y163 1) + v_x192)) true) 72))), .d (.v (.bool ((setA v_b194 (wi .i64 ((v_y163 1) + v_x192)) true) 73))), .d (.v (.bool ((setA v_b194 (wi .i64 ((v_y163 1) + v_x192)) true) 74))), .d (.v (.bool ((setA v_b194 (wi .i64 ((v_y163 1) + v_x192)) true) 75))), .d (.v (.bool ((setA v_b194 (wi .i64 ((v_y163 1) + v_x192)) true) 76))), .d (.v (.bool ((setA v_b194 (wi .i64 ((v_y163 1) + v_x192)) true) 77))), .d (.v (.bool ((setA v_b194 (wi .i64 ((v_y163 1) + v_x192)) true) 78))), .d (.v (.bool ((setA v_b194 (wi .i64 ((v_y163 1) + v_x192)) true) 79))), .d (.v (.bool ((setA v_b194 (wi .i64 ((v_y163 1) + v_x192)) true) 80))), .d (.v (.bool ((setA v_b194 (wi .i64 ((v_y163 1) + v_x192)) true) 81))), .d (.v (.bool ((setA v_b194 (wi .i64 ((v_y163 1) + v_x192)) true) 82))), .d (.v (.bool ((setA v_b194 (wi .i64 ((v_y163 1) + v_x192)) true) 83))), .d (.v (.bool ((setA v_b194 (wi .i64 ((v_y163 1) + v_x192)) true) 84))), .d (.v (.bool ((setA v_b194 (wi .i64 ((v_y163 1) + v_x192)) true) 85))), .d (.v (.bool ((setA v_b194 (wi .i64 ((v_y163 1) + v_x192)) true) 86))), .d (.v (.bool ((setA v_b194 (wi .i64 ((v_y163 1) + v_x192)) true) 87))), .d (.v (.bool ((setA v_b194 (wi .i64 ((v_y163 1) + v_x192)) true) 88))), .d (.v (.bool ((setA v_b194 (wi .i64 ((v_y163 1) + v_x192)) true) 89))), .d (.v (.bool ((setA v_b194 (wi .i64 ((v_y163 1) + v_x192)) true) 90))), .d (.v (.bool ((setA v_b194 (wi .i64 ((v_y163 1) + v_x192)) true) 91))), .d (.v (.bool ((setA v_b194 (wi .i64 ((v_y163 1) + v_x192)) true) 92))), .d (.v (.bool ((setA v_b194 (wi .i64 ((v_y163 1) + v_x192)) true) 93))), .d (.v (.bool ((setA v_b194 (wi .i64 ((v_y163 1) + v_x192)) true) 94))), .d (.v (.bool ((setA v_b194 (wi .i64 ((v_y163 1) + v_x192)) true) 95))), .d (.v (.bool ((setA v_b194 (wi .i64 ((v_y163 1) + v_x192)) true) 96))), .d (.v (.bool ((setA v_b194 (wi .i64 ((v_y163 1) + v_x192)) true) 97))), .d (.v (.bool ((setA v_b194 (wi .i64 ((v_y163 1) + v_x192)) true) 98))), .d (.v (.bool ((setA v_b194 (wi .i64 ((v_y163 1) + v_x192)) true) 99)))], .c]) (ts := []) (s := [0, 1, 2]) (l := [3, 4, 6, 12, 13, 14, 73, 74]) (by kernel_rfl) (by kernel_rfl) (.cons (dt h215) (.cons (show (0 : Int) ≤ 0 ∧ (0 : Int) < 3 by decide) (.cons (show (0 : Int) ≤ 1 ∧ (1 : Int) < 3 by decide) (.cons h220 (.cons (arr_store (γ := FV) (sz := 1) (g := (fun x => [.d (.v (.bool x))])) (pre := []) (post := []) (o := 0) (y := true) (zs := [.d (.v (.bool true))]) (fun _ => rfl) h221 rfl (Nat.le_of_ble_eq_true rfl)).1 (.cons (arr_store (γ := FV) (sz := 1) (g := (fun x => [.d (.v (.bool x))])) (pre := []) (post := []) (o := 0) (y := true) (zs := [.d (.v (.bool true))]) (fun _ => rfl) h221 rfl (Nat.le_of_ble_eq_true rfl)).2 (.cons h222 (.cons (arr_store (γ := FV) (sz := 1) (g := (fun x => [.d (.v (.bool x))])) (pre := []) (post := []) (o := 0) (y := true) (zs := [.d (.v (.bool true))]) (fun _ => rfl) h223 rfl (Nat.le_of_ble_eq_true rfl)).1 (.cons (arr_store (γ := FV) (sz := 1) (g := (fun x => [.d (.v (.bool x))])) (pre := []) (post := []) (o := 0) (y := true) (zs := [.d (.v (.bool true))]) (fun _ => rfl) h223 rfl (Nat.le_of_ble_eq_true rfl)).2 .nil))))))))) (G_ringref5_BoxErr_L6_ok hF ks n v_l117 v_x160 v_y163 k (wi .i64 (v_x192 + 1)) (setA v_b193 (wi .i64 ((v_y163 0) + v_x192)) true) (setA v_b194 (wi .i64 ((v_y163 1) + v_x192)) true) _ h q)
        · rw [if_neg h222] at h; cases h
      · rw [if_neg h220] at h; cases h
    · rw [if_neg h215] at h
      cases h
      exact pkk_sound TTok mix hF 8 (hs := [.t false]) (ts := []) (s := [0, 1]) (l := [3, 4, 12, 13, 14]) (by kernel_rfl) (by kernel_rfl) (.cons (df h215) .nil) q
inductive G_ringref5_BoxErr_L7_R where
  | x0 (v_x172 : Int)
  | x1 
def G_ringref5_BoxErr_L7_ex : G_ringref5_BoxErr_L7_R → Ex
  | .x0 _ => .ret
  | .x1  => .exit 0
def G_ringref5_BoxErr_L7_st (v_l117 : (List (Fin 3 → Int))) : G_ringref5_BoxErr_L7_R → PS
  | .x0 v_x172 => ⟨[dd, dd, .d (.v (.int .i64 v_x172)), dd, dd, dd, dd, dd, dd, dd, dd, dd, dd, dd, dd, dd, dd, dd, dd, dd, dd, dd, dd, dd, dd, dd, dd, dd, dd, dd, dd, dd, dd, dd, dd, dd, dd, dd, dd, dd, dd, dd, dd, dd, dd, dd, dd, dd, dd, dd, dd, dd, dd, dd, dd, dd, dd, dd, dd, dd, dd, dd, dd, dd, dd, dd, dd, dd, dd, dd, dd, dd, dd, dd, dd, dd, dd, dd, dd, dd, dd, dd, dd, dd, dd, dd, dd, dd, dd], []⟩
  | .x1  => ⟨[dd, dd, dd, dd, dd, dd, dd, dd, dd, dd, dd, dd, dd, dd, dd, dd, dd, dd, dd, dd, dd, dd, dd, dd, dd, dd, dd, dd, dd, dd, dd, dd, dd, dd, dd, dd, dd, dd, dd, dd, dd, dd, dd, dd, dd, dd, dd, dd, dd, dd, dd, dd, dd, dd, dd, dd, dd, dd, dd, dd, dd, dd, dd, dd, dd, dd, dd, dd, dd, dd, dd, dd, dd, dd, dd, dd, dd, dd, dd, dd, dd, dd, dd, dd, dd, dd, dd, dd, dd], []⟩
def G_ringref5_BoxErr_L7_hd (v_l117 : (List (Fin 3 → Int))) (v_x160 : Int) (v_b161 : (Fin 100 → Bool)) (v_b162 : (Fin 100 → Bool)) : PS := ⟨[dd, dd, dd, .ref 0 0, .ref 1 0, dd, dd, dd, dd, dd, dd, dd, .d (.sl (v_l117.map (fun x => PV.agg [.v (.int .i64 (x 0)), .v (.int .i64 (x 1)), .v (.int .i64 (x 2))]))), .d (.v (.int .i64 (v_l117.length : Int))), .d (.v (.int .i64 v_x160)), dd, dd, dd, dd, dd, dd, dd, dd, dd, dd, dd, dd, dd, dd, dd, dd, dd, dd, dd, dd, dd, dd, dd, dd, dd, dd, dd, dd, dd, dd, dd, dd, dd, dd, dd, dd, dd, dd, dd, dd, dd, dd, dd, dd, dd, dd, dd, dd, dd, dd, dd, dd, dd, dd, dd, dd, dd, dd, dd, dd, dd, dd, dd, dd, dd, dd, dd, dd, dd, dd, dd, dd, dd, dd], [.box [.d (.v (.bool (v_b161 0))), .d (.v (.bool (v_b161 1))), .d (.v (.bool (v_b161 2))), .d (.v (.bool (v_b161 3))), .d (.v (.bool (v_b161 4))), .d (.v (.bool (v_b161 5))), .d (.v (.bool (v_b161 6))), .d (.v (.bool (v_b161 7))), .d (.v (.bool (v_b161 8))), .d (.v (.bool (v_b161 9))), .d (.v (.bool (v_b161 10))), .d (.v (.bool (v_b161 11))), .d (.v (.bool (v_b161 12))), .d (.v (.bool (v_b161 13))), .d (.v (.bool (v_b161 14))), .d (.v (.bool (v_b161 15))), .d (.v (.bool (v_b161 16))), .d (.v (.bool (v_b161 17))), .d (.v (.bool (v_b161 18))), .d (.v (.bool (v_b161 19))), .d (.v (.bool (v_b161 20))), .d (.v (.bool (v_b161 21))), .d (.v (.bool (v_b161 22))), .d (.v (.bool (v_b161 23))), .d (.v (.bool (v_b161 24))), .d (.v (.bool (v_b161 25))), .d (.v (.bool (v_b161 26))), .d (.v (.bool (v_b161 27))), .d (.v (.bool (v_b161 28))), .d (.v (.bool (v_b161 29))), .d (.v (.bool (v_b161 30))), .d (.v (.bool (v_b161 31))), .d (.v (.bool (v_b161 32))), .d (.v (.bool (v_b161 33))), .d (.v (.bool (v_b161 34))), .d (.v (.bool (v_b161 35))), .d (.v (.bool (v_b161 36))), .d (.v (.bool (v_b161 37))), .d (.v (.bool (v_b161 38))), .d (.v (.bool (v_b161 39))), .d (.v (.bool (v_b161 40))), .d (.v (.bool (v_b161 41))), .d (.v (.bool (v_b161 42))), .d (.v (.bool (v_b161 43))), .d (.v (.bool (v_b161 44))), .d (.v (.bool (v_b161 45))), .d (.v (.bool (v_b161 46))), .d (.v (.bool (v_b161 47))), .d (.v (.bool (v_b161 48))), .d (.v (.bool (v_b161 49))), .d (.v (.bool (v_b161 50))), .d (.v (.bool (v_b161 51))), .d (.v (.bool (v_b161 52))), .d (.v (.bool (v_b161 53))), .d (.v (.bool (v_b161 54))), .d (.v (.bool (v_b161 55))), .d (.v (.bool (v_b161 56))), .d (.v (.bool (v_b161 57))), .d (.v (.bool (v_b161 58))), .d (.v (.bool (v_b161 59))), .d (.v (.bool (v_b161 60))), .d (.v (.bool (v_b161 61))), .d (.v (.bool (v_b161 62))), .d (.v (.bool (v_b161 63))), .d (.v (.bool (v_b161 64))), .d (.v (.bool (v_b161 65))), .d (.v (.bool (v_b161 66))), .d (.v (.bool (v_b161 67))), .d (.v (.bool (v_b161 68))), .d (.v (.bool (v_b161 69))), .d (.v (.bool (v_b161 70))), .d (.v (.bool (v_b161 71))), .d (.v (.bool (v_b161 72))), .d (.v (.bool (v_b161 73))), .d (.v (.bool (v_b161 74))), .d (.v (.bool (v_b161 75))), .d (.v (.bool (v_b161 76))), .d (.v (.bool (v_b161 77))), .d (.v (.bool (v_b161 78))), .d (.v (.bool (v_b161 79))), .d (.v (.bool (v_b161 80))), .d (.v (.bool (v_b161 81))), .d (.v (.bool (v_b161 82))), .d (.v (.bool (v_b161 83))), .d (.v (.bool (v_b161 84))), .d (.v (.bool (v_b161 85))), .d (.v (.bool (v_b161 86))), .d (.v (.bool (v_b161 87))), .d (.v (.bool (v_b161 88))), .d (.v (.bool (v_b161 89))), .d (.v (.bool (v_b161 90))), .d (.v (.bool (v_b161 91))), .d (.v (.bool (v_b161 92))), .d (.v (.bool (v_b161 93))), .d (.v (.bool (v_b161 94))), .d (.v (.bool (v_b161 95))), .d (.v (.bool (v_b161 96))), .d (.v (.bool (v_b161 97))), .d (.v (.bool (v_b161 98))), .d (.v (.bool (v_b161 99)))], .box [.d (.v (.bool (v_b162 0))), .d (.v (.bool (v_b162 1))), .d (.v (.bool (v_b162 2))), .d (.v (.bool (v_b162 3))), .d (.v (.bool (v_b162 4))), .d (.v (.bool (v_b162 5))), .d (.v (.bool (v_b162 6))), .d (.v (.bool (v_b162 7))), .d (.v (.bool (v_b162 8))), .d (.v (.bool (v_b162 9))), .d (.v (.bool (v_b162 10))), .d (.v (.bool (v_b162 11))), .d (.v (.bool (v_b162 12))), .d (.v (.bool (v_b162 13))), .d (.v (.bool (v_b162 14))), .d (.v (.bool (v_b162 15))), .d (.v (.bool (v_b162 16))), .d (.v (.bool (v_b162 17))), .d (.v (.bool (v_b162 18))), .d (.v (.bool (v_b162 19))), .d (.v (.bool (v_b162 20))), .d (.v (.bool (v_b162 21))), .d (.v (.bool (v_b162 22))), .d (.v (.bool (v_b162 23))), .d (.v (.bool (v_b162 24))), .d (.v (.bool (v_b162 25))), .d (.v (.bool (v_b162 26))), .d (.v (.bool (v_b162 27))), .d (.v (.bool (v_b162 28))), .d (.v (.bool (v_b162 29))), .d (.v (.bool (v_b162 30))), .d (.v (.bool (v_b162 31))), .d (.v (.bool (v_b162 32))), .d (.v (.bool (v_b162 33))), .d (.v (.bool (v_b162 34))), .d (.v (.bool (v_b162 35))), .d (.v (.bool (v_b162 36))), .d (.v (.bool (v_b162 37))), .d (.v (.bool (v_b162 38))), .d (.v (.bool (v_b162 39))), .d (.v (.bool (v_b162 40))), .d (.v (.bool (v_b162 41))), .d (.v (.bool (v_b162 42))), .d (.v (.bool (v_b162 43))), .d (.v (.bool (v_b162 44))), .d (.v (.bool (v_b162 45))), .d (.v (.bool (v_b162 46))), .d (.v (.bool (v_b162 47))), .d (.v (.bool (v_b162 48))), .d (.v (.bool (v_b162 49))), .d (.v (.bool (v_b162 50))), .d (.v (.bool (v_b162 51))), .d (.v (.bool (v_b162 52))), .d (.v (.bool (v_b162 53))), .d (.v (.bool (v_b162 54))), .d (.v (.bool (v_b162 55))), .d (.v (.bool (v_b162 56))), .d (.v (.bool (v_b162 57))), .d (.v (.bool (v_b162 58))), .d (.v (.bool (v_b162 59))), .d (.v (.bool (v_b162 60))), .d (.v (.bool (v_b162 61))), .d (.v (.bool (v_b162 62))), .d (.v (.bool (v_b162 63))), .d (.v (.bool (v_b162 64))), .d (.v (.bool (v_b162 65))), .d (.v (.bool (v_b162 66))), .d (.v (.bool (v_b162 67))), .d (.v (.bool (v_b162 68))), .d (.v (.bool (v_b162 69))), .d (.v (.bool (v_b162 70))), .d (.v (.bool (v_b162 71))), .d (.v (.bool (v_b162 72))), .d (.v (.bool (v_b162 73))), .d (.v (.bool (v_b162 74))), .d (.v (.bool (v_b162 75))), .d (.v (.bool (v_b162 76))), .d (.v (.bool (v_b162 77))), .d (.v (.bool (v_b162 78))), .d (.v (.bool (v_b162 79))), .d (.v (.bool (v_b162 80))), .d (.v (.bool (v_b162 81))), .d (.v (.bool (v_b162 82))), .d (.v (.bool (v_b162 83))), .d (.v (.bool (v_b162 84))), .d (.v (.bool (v_b162 85))), .d (.v (.bool (v_b162 86))), .d (.v (.bool (v_b162 87))), .d (.v (.bool (v_b162 88))), .d (.v (.bool (v_b162 89))), .d (.v (.bool (v_b162 90))), .d (.v (.bool (v_b162 91))), .d (.v (.bool (v_b162 92))), .d (.v (.bool (v_b162 93))), .d (.v (.bool (v_b162 94))), .d (.v (.bool (v_b162 95))), .d (.v (.bool (v_b162 96))), .d (.v (.bool (v_b162 97))), .d (.v (.bool (v_b162 98))), .d (.v (.bool (v_b162 99)))]]⟩
def G_ringref5_BoxErr_L7 (n : Nat) (v_l117 : (List (Fin 3 → Int))) : Nat → Int → (Fin 100 → Bool) → (Fin 100 → Bool) → Option G_ringref5_BoxErr_L7_R
  | 0, _, _, _ => none
  | k + 1, v_x160, v_b161, v_b162 =>
    if v_x160 < (v_l117.length : Int) then
     (getI v_l117 v_x160).bind fun (v_y163 : (Fin 3 → Int)) =>
     (G_ringref5_BoxErr_C4 n v_l117 v_x160 v_b161 v_b162 v_y163).bind fun v_o170 => match v_o170 with
     | .x0 v_z171 =>
       if v_z171 = true then
        some (.x0 1)
       else
        (G_ringref5_BoxErr_L5 n v_l117 v_x160 v_y163 v_b161 v_b162 n 0).bind fun v_o184 => match v_o184 with
        | .x0 v_z185 =>
          some (.x0 v_z185)
        | .x1  =>
          (G_ringref5_BoxErr_L6 n v_l117 v_x160 v_y163 n 0 v_b161 v_b162).bind fun v_o201 => match v_o201 with
          | .x0 v_z202 v_z203 =>
            G_ringref5_BoxErr_L7 n v_l117 k (wi .i64 (v_x160 + 1)) v_z202 v_z203
    else
     some (.x1 )
theorem G_ringref5_BoxErr_L7_ok {Fi : Ex → PS → Prop} (hF : KC 89 Fi) (ks : List Fr) (n : Nat) (v_l117 : (List (Fin 3 → Int)))  : ∀ (k : Nat) (v_x160 : Int) (v_b161 : (Fin 100 → Bool)) (v_b162 : (Fin 100 → Bool)) (o : G_ringref5_BoxErr_L7_R), G_ringref5_BoxErr_L7 n v_l117 k v_x160 v_b161 v_b162 = some o → RunE Try.prog 89 Fi ks (G_ringref5_BoxErr_L7_ex o) (G_ringref5_BoxErr_L7_st v_l117 o) → RunE Try.prog 89 Fi (.l k (cP (cB (cR (cL (cR (cR (cR (bodyOf Try.f37)))))))) :: ks) .normal (G_ringref5_BoxErr_L7_hd v_l117 v_x160 v_b161 v_b162)
  | 0, v_x160, v_b161, v_b162, o, h, q => by rw [G_ringref5_BoxErr_L7] at h; cases h
  | k + 1, v_x160, v_b161, v_b162, o, h, q => by
    rw [G_ringref5_BoxErr_L7] at h
    by_cases h168 : v_x160 < (v_l117.length : Int)
    · rw [if_pos h168] at h
      obtain ⟨v_y163, h169, h⟩ := bind_some h
      obtain ⟨v_o170, h180, h⟩ := bind_some h
      refine pkk_sound TTok mix hF 12 (hs := [.t true, .y ((fun x => PV.agg [.v (.int .i64 (x 0)), .v (.int .i64 (x 1)), .v (.int .i64 (x 2))]) v_y163), .c]) (ts := []) (s := [0, 1, 11]) (l := [3, 4, 6, 12, 13, 14]) (by kernel_rfl) (by kernel_rfl) (.cons (dt h168) (.cons (getI_ob (f := (fun x => PV.agg [.v (.int .i64 (x 0)), .v (.int .i64 (x 1)), .v (.int .i64 (x 2))])) h169) (.cons (show 0 + 3 ≤ 3 by decide) .nil))) (G_ringref5_BoxErr_C4_ok hF (.s (cR (cL (cR (cB (cL (cR (cR (cP (cB (cR (cL (cR (cR (cR (bodyOf Try.f37))))))))))))))) :: .s (cR (cR (cB (cL (cR (cR (cP (cB (cR (cL (cR (cR (cR (bodyOf Try.f37)))))))))))))) :: .b 1 :: .s (cR (cR (cR (cP (cB (cR (cL (cR (cR (cR (bodyOf Try.f37))))))))))) :: .l k (cP (cB (cR (cL (cR (cR (cR (bodyOf Try.f37)))))))) :: ks) n v_l117 v_x160 v_b161 v_b162 v_y163 _ h180 ?_)
      cases v_o170 with
      | x0 v_z171 =>
        dsimp only at h
        by_cases h181 : v_z171 = true
        · rw [if_pos h181] at h
          cases h
          exact pkk_sound TTok mix hF 8 (hs := [.t true]) (ts := []) (s := []) (l := [2]) (by kernel_rfl) (by kernel_rfl) (.cons h181 .nil) q
        · rw [if_neg h181] at h
          obtain ⟨v_o184, h205, h⟩ := bind_some h
          refine pkk_sound TTok mix hF 7 (hs := [.t false, .c, .n n]) (ts := []) (s := [0, 1, 2]) (l := [3, 4, 6, 12, 13, 14, 53, 54]) (by kernel_rfl) (by kernel_rfl) (.cons (vf h181) (.cons (show (0 : Int) ≤ 2 ∧ (2 : Int) < 3 by decide) .nil)) (G_ringref5_BoxErr_L5_ok hF (.b 2 :: .s (cR (cR (cR (cB (cL (cR (cR (cP (cB (cR (cL (cR (cR (cR (bodyOf Try.f37))))))))))))))) :: .b 1 :: .s (cR (cR (cR (cP (cB (cR (cL (cR (cR (cR (bodyOf Try.f37))))))))))) :: .l k (cP (cB (cR (cL (cR (cR (cR (bodyOf Try.f37)))))))) :: ks) n v_l117 v_x160 v_y163 v_b161 v_b162 n 0 _ h205 ?_)
          cases v_o184 with
          | x0 v_z185 =>
            dsimp only at h
            cases h
            exact pkk_sound TTok mix hF 5 (hs := []) (ts := []) (s := []) (l := [2]) (by kernel_rfl) (by kernel_rfl) .nil q
          | x1  =>
            dsimp only at h
            obtain ⟨v_o201, h224, h⟩ := bind_some h
            refine pkk_sound TTok mix hF 5 (hs := [.c, .n n]) (ts := []) (s := [0, 1, 2]) (l := [3, 4, 6, 12, 13, 14, 73, 74]) (by kernel_rfl) (by kernel_rfl) (.cons (show (0 : Int) ≤ 2 ∧ (2 : Int) < 3 by decide) .nil) (G_ringref5_BoxErr_L6_ok hF (.b 4 :: .b 1 :: .s (cR (cR (cR (cP (cB (cR (cL (cR (cR (cR (bodyOf Try.f37))))))))))) :: .l k (cP (cB (cR (cL (cR (cR (cR (bodyOf Try.f37)))))))) :: ks) n v_l117 v_x160 v_y163 n 0 v_b161 v_b162 _ h224 ?_)
            cases v_o201 with
            | x0 v_z202 v_z203 =>
              dsimp only at h
              exact pkk_sound TTok mix hF 3 (hs := []) (ts := []) (s := [0, 1]) (l := [3, 4, 12, 13, 14]) (by kernel_rfl) (by kernel_rfl) .nil (G_ringref5_BoxErr_L7_ok hF ks n v_l117 k (wi .i64 (v_x160 + 1)) v_z202 v_z203 _ h q)
    · rw [if_neg h168] at h
      cases h
      exact pkk_sound TTok mix hF 8 (hs := [.t false]) (ts := []) (s := []) (l := []) (by kernel_rfl) (by kernel_rfl) (.cons (df h168) .nil) q
/- ringhall/ringref5.BoxErr -/
def G_ringref5_BoxErr (n : Nat) (v_l117 : (List (Fin 3 → Int))) : Option (Int) :=
  if (v_l117.length : Int) > 4 then
   some 2
  else
   (G_ringref5_BoxErr_L7 n v_l117 n 0 (fun i : Fin 100 => [false, false, false, false, false, false, false, false, false, false, false, false, false, false, false, false, false, false, false, false, false, false, false, false, false, false, false, false, false, false, false, false, false, false, false, false, false, false, false, false, false, false, false, false, false, false, false, false, false, false, false, false, false, false, false, false, false, false, false, false, false, false, false, false, false, false, false, false, false, false, false, false, false, false, false, false, false, false, false, false, false, false, false, false, false, false, false, false, false, false, false, false, false, false, false, false, false, false, false, false].get i) (fun i : Fin 100 => [false, false, false, false, false, false, false, false, false, false, false, false, false, false, false, false, false, false, false, false, false, false, false, false, false, false, false, false, false, false, false, false, false, false, false, false, false, false, false, false, false, false, false, false, false, false, false, false, false, false, false, false, false, false, false, false, false, false, false, false, false, false, false, false, false, false, false, false, false, false, false, false, false, false, false, false, false, false, false, false, false, false, false, false, false, false, false, false, false, false, false, false, false, false, false, false, false, false, false, false].get i)).bind fun v_o204 => match v_o204 with
   | .x0 v_z205 =>
     some v_z205
   | .x1  =>
     some 0
theorem G_ringref5_BoxErr_ok (n : Nat) (v_l117 : (List (Fin 3 → Int))) (r : Int) (h : G_ringref5_BoxErr n v_l117 = some r) : Ret Try.prog 37 [(eL (fun x => PV.agg [.v (.int .i64 (x 0)), .v (.int .i64 (x 1)), .v (.int .i64 (x 2))])) v_l117] ((eI .i64) r) := by
  refine ret_run (n := 89) (fn := Try.f37) (c := bodyOf Try.f37) (by kernel_rfl) (by kernel_rfl) (by kernel_rfl) (by kernel_rfl) ?_
  have hF : KC 89 (FinR Try.prog Try.f37 ((eI .i64) r)) := FinR.kc' (by kernel_rfl)
  unfold G_ringref5_BoxErr at h
  by_cases h110 : (v_l117.length : Int) > 4
  · rw [if_pos h110] at h
    obtain rfl := Option.some.inj h
    exact pend_sound TTok mix 10 (hs := [.u (.d (.v (.int .i64 (v_l117.length : Int)))), .t true]) (by kernel_rfl) (by kernel_rfl) (by kernel_rfl) (.cons (len_ob (f := (fun x => PV.agg [.v (.int .i64 (x 0)), .v (.int .i64 (x 1)), .v (.int .i64 (x 2))])) (l := v_l117)) (.cons (dt h110) .nil))
  · rw [if_neg h110] at h
    obtain ⟨v_o204, h225, h⟩ := bind_some h
    refine pkk_sound TTok mix hF 14 (hs := [.u (.d (.v (.int .i64 (v_l117.length : Int)))), .t false, .u (.d (.v (.int .i64 (v_l117.length : Int)))), .n n]) (ts := []) (s := [12, 15]) (l := [3, 4, 12, 13, 14]) (by kernel_rfl) (by kernel_rfl) (.cons (len_ob (f := (fun x => PV.agg [.v (.int .i64 (x 0)), .v (.int .i64 (x 1)), .v (.int .i64 (x 2))])) (l := v_l117)) (.cons (df h110) (.cons (len_ob (f := (fun x => PV.agg [.v (.int .i64 (x 0)), .v (.int .i64 (x 1)), .v (.int .i64 (x 2))])) (l := v_l117)) .nil))) (G_ringref5_BoxErr_L7_ok hF (.b 0 :: .s (cR (cR (cR (cR (bodyOf Try.f37))))) :: []) n v_l117 n 0 (fun i : Fin 100 => [false, false, false, false, false, false, false, false, false, false, false, false, false, false, false, false, false, false, false, false, false, false, false, false, false, false, false, false, false, false, false, false, false, false, false, false, false, false, false, false, false, false, false, false, false, false, false, false, false, false, false, false, false, false, false, false, false, false, false, false, false, false, false, false, false, false, false, false, false, false, false, false, false, false, false, false, false, false, false, false, false, false, false, false, false, false, false, false, false, false, false, false, false, false, false, false, false, false, false, false].get i) (fun i : Fin 100 => [false, false, false, false, false, false, false, false, false, false, false, false, false, false, false, false, false, false, false, false, false, false, false, false, false, false, false, false, false, false, false, false, false, false, false, false, false, false, false, false, false, false, false, false, false, false, false, false, false, false, false, false, false, false, false, false, false, false, false, false, false, false, false, false, false, false, false, false, false, false, false, false, false, false, false, false, false, false, false, false, false, false, false, false, false, false, false, false, false, false, false, false, false, false, false, false, false, false, false, false].get i) _ h225 ?_)
    cases v_o204 with
    | x0 v_z205 =>
      dsimp only at h
      obtain rfl := Option.some.inj h
      exact pend_sound TTok mix 2 (hs := []) (by kernel_rfl) (by kernel_rfl) (by kernel_rfl) .nil
    | x1  =>
      dsimp only at h
      obtain rfl := Option.some.inj h
      exact pend_sound TTok mix 4 (hs := []) (by kernel_rfl) (by kernel_rfl) (by kernel_rfl) .nil
inductive G_ringref5_BoxTo_L1_R where
  | x0 (v_x226 : Int)
  | x1 
def G_ringref5_BoxTo_L1_ex : G_ringref5_BoxTo_L1_R → Ex
  | .x0 _ => .ret
  | .x1  => .exit 2
def G_ringref5_BoxTo_L1_st (v_n222 : Int) (v_l221 : (List (Fin 3 → Int))) (v_x223 : Int) (v_y224 : (Fin 3 → Int)) : G_ringref5_BoxTo_L1_R → PS
  | .x0 v_x226 => ⟨[dd, dd, dd, dd, .d (.v (.int .i64 v_x226)), dd, dd, dd, dd, dd, dd, dd, dd, dd, dd, dd, dd, dd, dd, dd, dd, dd, dd, dd, dd, dd, dd, dd, dd, dd, dd], []⟩
  | .x1  => ⟨[dd, .d (.v (.int .i64 v_n222)), dd, dd, dd, dd, dd, dd, .d (.sl (v_l221.map (fun x => PV.agg [.v (.int .i64 (x 0)), .v (.int .i64 (x 1)), .v (.int .i64 (x 2))]))), .d (.v (.int .i64 (v_l221.length : Int))), .d (.v (.int .i64 v_x223)), dd, dd, dd, dd, dd, dd, dd, dd, dd, dd, dd, dd, dd, dd, dd, dd, dd, dd, dd, dd], []⟩
def G_ringref5_BoxTo_L1_hd (v_n222 : Int) (v_l221 : (List (Fin 3 → Int))) (v_x223 : Int) (v_y224 : (Fin 3 → Int)) (v_x225 : Int) : PS := ⟨[dd, .d (.v (.int .i64 v_n222)), dd, dd, dd, dd, .ref 0 0, dd, .d (.sl (v_l221.map (fun x => PV.agg [.v (.int .i64 (x 0)), .v (.int .i64 (x 1)), .v (.int .i64 (x 2))]))), .d (.v (.int .i64 (v_l221.length : Int))), .d (.v (.int .i64 v_x223)), dd, dd, dd, dd, .d (.v (.int .i64 (v_y224 2))), .d (.v (.int .i64 v_x225)), dd, dd, dd, dd, dd, dd, dd, dd, dd, dd, dd, dd, dd, dd], [.box [.d (.v (.int .i64 (v_y224 0))), .d (.v (.int .i64 (v_y224 1))), .d (.v (.int .i64 (v_y224 2)))]]⟩
def G_ringref5_BoxTo_L1 (n : Nat) (v_n222 : Int) (v_l221 : (List (Fin 3 → Int))) (v_x223 : Int) (v_y224 : (Fin 3 → Int)) : Nat → Int → Option G_ringref5_BoxTo_L1_R
  | 0, _ => none
  | k + 1, v_x225 =>
    if v_x225 < (v_y224 2) then
     if (wi .i64 ((v_y224 0) + v_x225)) = v_n222 then
      some (.x0 (wi .i64 ((v_y224 1) + v_x225)))
     else
      G_ringref5_BoxTo_L1 n v_n222 v_l221 v_x223 v_y224 k (wi .i64 (v_x225 + 1))
    else
     some (.x1 )
theorem G_ringref5_BoxTo_L1_ok {Fi : Ex → PS → Prop} (hF : KC 31 Fi) (ks : List Fr) (n : Nat) (v_n222 : Int) (v_l221 : (List (Fin 3 → Int))) (v_x223 : Int) (v_y224 : (Fin 3 → Int))  : ∀ (k : Nat) (v_x225 : Int) (o : G_ringref5_BoxTo_L1_R), G_ringref5_BoxTo_L1 n v_n222 v_l221 v_x223 v_y224 k v_x225 = some o → RunE Try.prog 31 Fi ks (G_ringref5_BoxTo_L1_ex o) (G_ringref5_BoxTo_L1_st v_n222 v_l221 v_x223 v_y224 o) → RunE Try.prog 31 Fi (.l k (cP (cB (cR (cR (cB (cL (cR (cR (cP (cB (cR (cL (cR (bodyOf Try.f38)))))))))))))) :: ks) .normal (G_ringref5_BoxTo_L1_hd v_n222 v_l221 v_x223 v_y224 v_x225)
  | 0, v_x225, o, h, q => by rw [G_ringref5_BoxTo_L1] at h; cases h
  | k + 1, v_x225, o, h, q => by
    rw [G_ringref5_BoxTo_L1] at h
    by_cases h238 : v_x225 < (v_y224 2)
    · rw [if_pos h238] at h
      by_cases h242 : (wi .i64 ((v_y224 0) + v_x225)) = v_n222
      · rw [if_pos h242] at h
        cases h
        exact pkk_sound TTok mix hF 19 (hs := [.t true, .c, .t true, .c]) (ts := []) (s := []) (l := [4]) (by kernel_rfl) (by kernel_rfl) (.cons (dt h238) (.cons (show (0 : Int) ≤ 0 ∧ (0 : Int) < 3 by decide) (.cons (bt h242) (.cons (show (0 : Int) ≤ 1 ∧ (1 : Int) < 3 by decide) .nil)))) q
      · rw [if_neg h242] at h
        exact pkk_sound TTok mix hF 16 (hs := [.t true, .c, .t false]) (ts := []) (s := [0]) (l := [1, 6, 8, 9, 10, 15, 16]) (by kernel_rfl) (by kernel_rfl) (.cons (dt h238) (.cons (show (0 : Int) ≤ 0 ∧ (0 : Int) < 3 by decide) (.cons (bf h242) .nil))) (G_ringref5_BoxTo_L1_ok hF ks n v_n222 v_l221 v_x223 v_y224 k (wi .i64 (v_x225 + 1)) _ h q)
    · rw [if_neg h238] at h
      cases h
      exact pkk_sound TTok mix hF 8 (hs := [.t false]) (ts := []) (s := []) (l := [1, 8, 9, 10]) (by kernel_rfl) (by kernel_rfl) (.cons (df h238) .nil) q
inductive G_ringref5_BoxTo_L2_R where
  | x0 (v_x229 : Int)
  | x1 
def G_ringref5_BoxTo_L2_ex : G_ringref5_BoxTo_L2_R → Ex
  | .x0 _ => .ret
  | .x1  => .exit 0
def G_ringref5_BoxTo_L2_st (v_n222 : Int) (v_l221 : (List (Fin 3 → Int))) : G_ringref5_BoxTo_L2_R → PS
  | .x0 v_x229 => ⟨[dd, dd, dd, dd, .d (.v (.int .i64 v_x229)), dd, dd, dd, dd, dd, dd, dd, dd, dd, dd, dd, dd, dd, dd, dd, dd, dd, dd, dd, dd, dd, dd, dd, dd, dd, dd], []⟩
  | .x1  => ⟨[dd, dd, dd, dd, dd, dd, dd, dd, dd, dd, dd, dd, dd, dd, dd, dd, dd, dd, dd, dd, dd, dd, dd, dd, dd, dd, dd, dd, dd, dd, dd], []⟩
def G_ringref5_BoxTo_L2_hd (v_n222 : Int) (v_l221 : (List (Fin 3 → Int))) (v_x223 : Int) : PS := ⟨[dd, .d (.v (.int .i64 v_n222)), dd, dd, dd, dd, dd, dd, .d (.sl (v_l221.map (fun x => PV.agg [.v (.int .i64 (x 0)), .v (.int .i64 (x 1)), .v (.int .i64 (x 2))]))), .d (.v (.int .i64 (v_l221.length : Int))), .d (.v (.int .i64 v_x223)), dd, dd, dd, dd, dd, dd, dd, dd, dd, dd, dd, dd, dd, dd, dd, dd, dd, dd, dd, dd], []⟩
def G_ringref5_BoxTo_L2 (n : Nat) (v_n222 : Int) (v_l221 : (List (Fin 3 → Int))) : Nat → Int → Option G_ringref5_BoxTo_L2_R
  | 0, _ => none
  | k + 1, v_x223 =>
    if v_x223 < (v_l221.length : Int) then
     (getI v_l221 v_x223).bind fun (v_y224 : (Fin 3 → Int)) =>
     (G_ringref5_BoxTo_L1 n v_n222 v_l221 v_x223 v_y224 n 0).bind fun v_o227 => match v_o227 with
     | .x0 v_z228 =>
       some (.x0 v_z228)
     | .x1  =>
       G_ringref5_BoxTo_L2 n v_n222 v_l221 k (wi .i64 (v_x223 + 1))
    else
     some (.x1 )
theorem G_ringref5_BoxTo_L2_ok {Fi : Ex → PS → Prop} (hF : KC 31 Fi) (ks : List Fr) (n : Nat) (v_n222 : Int) (v_l221 : (List (Fin 3 → Int)))  : ∀ (k : Nat) (v_x223 : Int) (o : G_ringref5_BoxTo_L2_R), G_ringref5_BoxTo_L2 n v_n222 v_l221 k v_x223 = some o → RunE Try.prog 31 Fi ks (G_ringref5_BoxTo_L2_ex o) (G_ringref5_BoxTo_L2_st v_n222 v_l221 o) → RunE Try.prog 31 Fi (.l k (cP (cB (cR (cL (cR (bodyOf Try.f38)))))) :: ks) .normal (G_ringref5_BoxTo_L2_hd v_n222 v_l221 v_x223)
  | 0, v_x223, o, h, q => by rw [G_ringref5_BoxTo_L2] at h; cases h
  | k + 1, v_x223, o, h, q => by
    rw [G_ringref5_BoxTo_L2] at h
    by_cases h236 : v_x223 < (v_l221.length : Int)
    · rw [if_pos h236] at h
      obtain ⟨v_y224, h237, h⟩ := bind_some h
      obtain ⟨v_o227, h243, h⟩ := bind_some h
      refine pkk_sound TTok mix hF 14 (hs := [.t true, .y ((fun x => PV.agg [.v (.int .i64 (x 0)), .v (.int .i64 (x 1)), .v (.int .i64 (x 2))]) v_y224), .c, .c, .n n]) (ts := []) (s := [9]) (l := [1, 6, 8, 9, 10, 15, 16]) (by kernel_rfl) (by kernel_rfl) (.cons (dt h236) (.cons (getI_ob (f := (fun x => PV.agg [.v (.int .i64 (x 0)), .v (.int .i64 (x 1)), .v (.int .i64 (x 2))])) h237) (.cons (show 0 + 3 ≤ 3 by decide) (.cons (show (0 : Int) ≤ 2 ∧ (2 : Int) < 3 by decide) .nil)))) (G_ringref5_BoxTo_L1_ok hF (.b 2 :: .b 1 :: .s (cR (cR (cR (cP (cB (cR (cL (cR (bodyOf Try.f38))))))))) :: .l k (cP (cB (cR (cL (cR (bodyOf Try.f38)))))) :: ks) n v_n222 v_l221 v_x223 v_y224 n 0 _ h243 ?_)
      cases v_o227 with
      | x0 v_z228 =>
        dsimp only at h
        cases h
        exact pkk_sound TTok mix hF 4 (hs := []) (ts := []) (s := []) (l := [4]) (by kernel_rfl) (by kernel_rfl) .nil q
      | x1  =>
        dsimp only at h
        exact pkk_sound TTok mix hF 3 (hs := []) (ts := []) (s := []) (l := [1, 8, 9, 10]) (by kernel_rfl) (by kernel_rfl) .nil (G_ringref5_BoxTo_L2_ok hF ks n v_n222 v_l221 k (wi .i64 (v_x223 + 1)) _ h q)
    · rw [if_neg h236] at h
      cases h
      exact pkk_sound TTok mix hF 8 (hs := [.t false]) (ts := []) (s := []) (l := []) (by kernel_rfl) (by kernel_rfl) (.cons (df h236) .nil) q
/- ringhall/ringref5.BoxTo -/
def G_ringref5_BoxTo (n : Nat) (v_l221 : (List (Fin 3 → Int))) (v_n222 : Int) : Option (Int) :=
  (G_ringref5_BoxTo_L2 n v_n222 v_l221 n 0).bind fun v_o230 => match v_o230 with
  | .x0 v_z231 =>
    some v_z231
  | .x1  =>
    some (-1)
theorem G_ringref5_BoxTo_ok (n : Nat) (v_l221 : (List (Fin 3 → Int))) (v_n222 : Int) (r : Int) (h : G_ringref5_BoxTo n v_l221 v_n222 = some r) : Ret Try.prog 38 [(eL (fun x => PV.agg [.v (.int .i64 (x 0)), .v (.int .i64 (x 1)), .v (.int .i64 (x 2))])) v_l221, (eI .i64) v_n222] ((eI .i64) r) := by
  refine ret_run (n := 31) (fn := Try.f38) (c := bodyOf Try.f38) (by kernel_rfl) (by kernel_rfl) (by kernel_rfl) (by kernel_rfl) ?_
  have hF : KC 31 (FinR Try.prog Try.f38 ((eI .i64) r)) := FinR.kc' (by kernel_rfl)
  unfold G_ringref5_BoxTo at h
  obtain ⟨v_o230, h244, h⟩ := bind_some h
  refine pkk_sound TTok mix hF 7 (hs := [.u (.d (.v (.int .i64 (v_l221.length : Int)))), .n n]) (ts := []) (s := []) (l := [1, 8, 9, 10]) (by kernel_rfl) (by kernel_rfl) (.cons (len_ob (f := (fun x => PV.agg [.v (.int .i64 (x 0)), .v (.int .i64 (x 1)), .v (.int .i64 (x 2))])) (l := v_l221)) .nil) (G_ringref5_BoxTo_L2_ok hF (.b 0 :: .s (cR (cR (bodyOf Try.f38))) :: []) n v_n222 v_l221 n 0 _ h244 ?_)
  cases v_o230 with
  | x0 v_z231 =>
    dsimp only at h
    obtain rfl := Option.some.inj h
    exact pend_sound TTok mix 2 (hs := []) (by kernel_rfl) (by kernel_rfl) (by kernel_rfl) .nil
  | x1  =>
    dsimp only at h
    obtain rfl := Option.some.inj h
    exact pend_sound TTok mix 4 (hs := []) (by kernel_rfl) (by kernel_rfl) (by kernel_rfl) .nil
inductive G_ringlaw5_BoxNests_C1_R where
  | x0 (v_want209 : Int)
def G_ringlaw5_BoxNests_C1_ex : G_ringlaw5_BoxNests_C1_R → Ex
  | .x0 _ => .normal
def G_ringlaw5_BoxNests_C1_st (v_r104 : ((List S_box_Range) × Int)) (v_r115 : ((List (Fin 3 → Int)))) (v_r116 : ((List (Fin 3 → Int)))) (v_r206 : (Int)) : G_ringlaw5_BoxNests_C1_R → PS
  | .x0 v_want209 => ⟨[dd, dd, dd, dd, dd, .d (.sl (v_r104.1.map eS_box_Range)), .d (.v (.int .i64 v_r104.2)), .d (.sl (v_r115.map (fun x => PV.agg [.v (.int .i64 (x 0)), .v (.int .i64 (x 1)), .v (.int .i64 (x 2))]))), .d (.sl (v_r116.map (fun x => PV.agg [.v (.int .i64 (x 0)), .v (.int .i64 (x 1)), .v (.int .i64 (x 2))]))), .d (.v (.int .i64 v_want209)), dd, dd, dd, dd, dd, dd, dd, dd, dd, dd, dd, dd, dd, dd, dd, dd, dd, dd, dd, dd, dd, dd, dd, dd, dd, dd, dd, dd, dd, dd, dd, dd, dd, dd, dd, dd, dd, dd, dd, dd, dd, dd, dd, dd, dd, dd, dd, dd, dd, dd, dd, dd, dd, dd, dd, dd, dd, dd, dd, dd, dd, dd, dd, dd, dd, dd, dd, dd, dd, dd, dd, dd, dd, dd, dd, dd, dd, dd, dd, dd, dd, dd, dd, dd, dd, dd, dd, dd, dd, dd, dd, dd, dd, dd, dd, dd, dd, dd, dd], []⟩
def G_ringlaw5_BoxNests_C1_hd (v_r104 : ((List S_box_Range) × Int)) (v_r115 : ((List (Fin 3 → Int)))) (v_r116 : ((List (Fin 3 → Int)))) (v_r206 : (Int))  : PS := ⟨[dd, dd, dd, dd, dd, .d (.sl (v_r104.1.map eS_box_Range)), .d (.v (.int .i64 v_r104.2)), .d (.sl (v_r115.map (fun x => PV.agg [.v (.int .i64 (x 0)), .v (.int .i64 (x 1)), .v (.int .i64 (x 2))]))), .d (.sl (v_r116.map (fun x => PV.agg [.v (.int .i64 (x 0)), .v (.int .i64 (x 1)), .v (.int .i64 (x 2))]))), .d (.v (.int .i64 v_r206)), dd, dd, dd, dd, dd, dd, dd, dd, dd, dd, dd, dd, dd, dd, dd, dd, dd, dd, dd, dd, dd, .d (.v (.bool (v_r206 == 0))), dd, dd, dd, dd, dd, dd, dd, dd, dd, dd, dd, dd, dd, dd, dd, dd, dd, dd, dd, dd, dd, dd, dd, dd, dd, dd, dd, dd, dd, dd, dd, dd, dd, dd, dd, dd, dd, dd, dd, dd, dd, dd, dd, dd, dd, dd, dd, dd, dd, dd, dd, dd, dd, dd, dd, dd, dd, dd, dd, dd, dd, dd, dd, dd, dd, dd, dd, dd, dd, dd, dd, dd, dd, dd, dd, dd, dd], []⟩
def G_ringlaw5_BoxNests_C1 (n : Nat) (v_r104 : ((List S_box_Range) × Int)) (v_r115 : ((List (Fin 3 → Int)))) (v_r116 : ((List (Fin 3 → Int)))) (v_r206 : (Int)) : Option G_ringlaw5_BoxNests_C1_R :=
  if v_r206 = 0 then
   (G_ringref5_BoxErr n v_r116).bind fun (v_r208 : (Int)) =>
   some (.x0 v_r208)
  else
   some (.x0 v_r206)
theorem G_ringlaw5_BoxNests_C1_ok {Fi : Ex → PS → Prop} (hF : KC 109 Fi) (ks : List Fr) (n : Nat) (v_r104 : ((List S_box_Range) × Int)) (v_r115 : ((List (Fin 3 → Int)))) (v_r116 : ((List (Fin 3 → Int)))) (v_r206 : (Int))  (o : G_ringlaw5_BoxNests_C1_R) (h : G_ringlaw5_BoxNests_C1 n v_r104 v_r115 v_r116 v_r206 = some o) (q : RunE Try.prog 109 Fi ks (G_ringlaw5_BoxNests_C1_ex o) (G_ringlaw5_BoxNests_C1_st v_r104 v_r115 v_r116 v_r206 o)) : RunE Try.prog 109 Fi (.s (cR (cL (cR (cR (cR (cR (cR (bodyOf Try.f6)))))))) :: ks) .normal (G_ringlaw5_BoxNests_C1_hd v_r104 v_r115 v_r116 v_r206) := by
  unfold G_ringlaw5_BoxNests_C1 at h
  by_cases h229 : v_r206 = 0
  · rw [if_pos h229] at h
    obtain ⟨v_r208, h230, h⟩ := bind_some h
    cases h
    exact pkk_sound TTok mix hF 2 (hs := [.t true, .r ((eI .i64) v_r208)]) (ts := []) (s := []) (l := [5, 6, 7, 8, 9]) (by kernel_rfl) (by kernel_rfl) (.cons (bt h229) (.cons (G_ringref5_BoxErr_ok n v_r116 _ h230) .nil)) q
  · rw [if_neg h229] at h
    cases h
    exact pkk_sound TTok mix hF 2 (hs := [.t false]) (ts := []) (s := []) (l := [5, 6, 7, 8, 9]) (by kernel_rfl) (by kernel_rfl) (.cons (bf h229) .nil) q
inductive G_ringlaw5_BoxNests_C2_R where
  | x0 (v_want259 : Int) (v_w260 : (List S_box_Range))
def G_ringlaw5_BoxNests_C2_ex : G_ringlaw5_BoxNests_C2_R → Ex
  | .x0 _ _ => .normal
def G_ringlaw5_BoxNests_C2_st (v_r104 : ((List S_box_Range) × Int)) (v_r115 : ((List (Fin 3 → Int)))) (v_want217 : Int) (v_last218 : Int) (v_x219 : Int) (v_r254 : (Int)) (v_r116 : ((List (Fin 3 → Int)))) (v_x214 : Int) (v_y216 : (Fin 3 → Int)) (v_w220 : (List S_box_Range)) : G_ringlaw5_BoxNests_C2_R → PS
  | .x0 v_want259 v_w260 => ⟨[dd, dd, dd, dd, dd, .d (.sl (v_r104.1.map eS_box_Range)), .d (.v (.int .i64 v_r104.2)), .d (.sl (v_r115.map (fun x => PV.agg [.v (.int .i64 (x 0)), .v (.int .i64 (x 1)), .v (.int .i64 (x 2))]))), dd, .d (.v (.int .i64 v_want259)), .srf 0, dd, .ref 1 0, dd, dd, .d (.v (.int .i64 v_r254)), dd, dd, dd, dd, dd, dd, dd, dd, dd, dd, dd, dd, dd, dd, dd, dd, dd, dd, .d (.sl (v_r116.map (fun x => PV.agg [.v (.int .i64 (x 0)), .v (.int .i64 (x 1)), .v (.int .i64 (x 2))]))), .d (.v (.int .i64 (v_r116.length : Int))), .d (.v (.int .i64 v_x214)), dd, dd, dd, dd, .d (.v (.int .i64 (v_y216 2))), .d (.v (.int .i64 v_x219)), dd, dd, dd, dd, dd, dd, dd, dd, dd, dd, dd, dd, dd, dd, dd, dd, dd, dd, dd, dd, dd, dd, dd, dd, dd, dd, dd, dd, dd, dd, dd, dd, dd, dd, dd, dd, dd, dd, dd, dd, dd, dd, dd, dd, dd, dd, dd, dd, dd, dd, dd, dd, dd, dd, dd, dd, dd, dd, dd, dd, dd, dd, dd, dd, dd, dd], [.row 74 3 (v_w260.map eS_box_Range), .box [.d (.v (.int .i64 (v_y216 0))), .d (.v (.int .i64 (v_y216 1))), .d (.v (.int .i64 (v_y216 2)))]]⟩
def G_ringlaw5_BoxNests_C2_hd (v_r104 : ((List S_box_Range) × Int)) (v_r115 : ((List (Fin 3 → Int)))) (v_want217 : Int) (v_last218 : Int) (v_x219 : Int) (v_r254 : (Int)) (v_r116 : ((List (Fin 3 → Int)))) (v_x214 : Int) (v_y216 : (Fin 3 → Int)) (v_w220 : (List S_box_Range))  : PS := ⟨[dd, dd, dd, dd, dd, .d (.sl (v_r104.1.map eS_box_Range)), .d (.v (.int .i64 v_r104.2)), .d (.sl (v_r115.map (fun x => PV.agg [.v (.int .i64 (x 0)), .v (.int .i64 (x 1)), .v (.int .i64 (x 2))]))), dd, .d (.v (.int .i64 v_want217)), .srf 0, dd, .ref 1 0, .d (.v (.int .i64 v_last218)), .d (.v (.int .i64 v_x219)), .d (.v (.int .i64 v_r254)), dd, dd, dd, dd, dd, dd, dd, dd, dd, dd, dd, dd, dd, dd, dd, dd, dd, dd, .d (.sl (v_r116.map (fun x => PV.agg [.v (.int .i64 (x 0)), .v (.int .i64 (x 1)), .v (.int .i64 (x 2))]))), .d (.v (.int .i64 (v_r116.length : Int))), .d (.v (.int .i64 v_x214)), dd, dd, dd, dd, .d (.v (.int .i64 (v_y216 2))), .d (.v (.int .i64 v_x219)), dd, dd, dd, dd, dd, dd, dd, dd, dd, dd, dd, .d (.v (.bool (decide (v_r254 < 0)))), dd, dd, dd, dd, dd, dd, dd, dd, dd, dd, dd, dd, dd, dd, dd, dd, dd, dd, dd, dd, dd, dd, dd, dd, dd, dd, dd, dd, dd, dd, dd, dd, dd, dd, dd, dd, dd, dd, dd, dd, dd, dd, dd, dd, dd, dd, dd, dd, dd, dd, dd, dd, dd, dd], [.row 74 3 (v_w220.map eS_box_Range), .box [.d (.v (.int .i64 (v_y216 0))), .d (.v (.int .i64 (v_y216 1))), .d (.v (.int .i64 (v_y216 2)))]]⟩
def G_ringlaw5_BoxNests_C2 (n : Nat) (v_r104 : ((List S_box_Range) × Int)) (v_r115 : ((List (Fin 3 → Int)))) (v_want217 : Int) (v_last218 : Int) (v_x219 : Int) (v_r254 : (Int)) (v_r116 : ((List (Fin 3 → Int)))) (v_x214 : Int) (v_y216 : (Fin 3 → Int)) (v_w220 : (List S_box_Range)) : Option G_ringlaw5_BoxNests_C2_R :=
  if v_r254 < 0 then
   some (.x0 4 v_w220)
  else
   if v_r254 = (wi .i64 (v_last218 + 1)) then
    if v_x219 > 0 then
     if 0 ≤ (wi .i64 ((v_w220.length : Int) - 1)) ∧ ((wi .i64 ((v_w220.length : Int) - 1))).toNat < v_w220.length then
      (v_w220[((wi .i64 ((v_w220.length : Int) - 1))).toNat]?).bind fun (v_y261 : S_box_Range) =>
      if 0 ≤ (wi .i64 ((v_w220.length : Int) - 1)) ∧ ((wi .i64 ((v_w220.length : Int) - 1))).toNat < v_w220.length then
       (v_w220[((wi .i64 ((v_w220.length : Int) - 1))).toNat]?).bind fun (v_y262 : S_box_Range) =>
       some (.x0 v_want217 (v_w220.set ((wi .i64 ((v_w220.length : Int) - 1))).toNat (S_box_Range.mk v_y262.fIn v_y262.fOut (wi .i64 (v_y261.fN + 1)))))
      else none
     else none
    else
     (app 24 v_w220 ([(S_box_Range.mk (wi .i64 ((v_y216 0) + v_x219)) v_r254 1)])).bind fun (v_a265 : (List S_box_Range)) =>
     some (.x0 v_want217 v_a265)
   else
    (app 24 v_w220 ([(S_box_Range.mk (wi .i64 ((v_y216 0) + v_x219)) v_r254 1)])).bind fun (v_a268 : (List S_box_Range)) =>
    some (.x0 v_want217 v_a268)
theorem G_ringlaw5_BoxNests_C2_ok {Fi : Ex → PS → Prop} (hF : KC 109 Fi) (ks : List Fr) (n : Nat) (v_r104 : ((List S_box_Range) × Int)) (v_r115 : ((List (Fin 3 → Int)))) (v_want217 : Int) (v_last218 : Int) (v_x219 : Int) (v_r254 : (Int)) (v_r116 : ((List (Fin 3 → Int)))) (v_x214 : Int) (v_y216 : (Fin 3 → Int)) (v_w220 : (List S_box_Range))  (o : G_ringlaw5_BoxNests_C2_R) (h : G_ringlaw5_BoxNests_C2 n v_r104 v_r115 v_want217 v_last218 v_x219 v_r254 v_r116 v_x214 v_y216 v_w220 = some o) (q : RunE Try.prog 109 Fi ks (G_ringlaw5_BoxNests_C2_ex o) (G_ringlaw5_BoxNests_C2_st v_r104 v_r115 v_want217 v_last218 v_x219 v_r254 v_r116 v_x214 v_y216 v_w220 o)) : RunE Try.prog 109 Fi (.s (cR (cL (cR (cR (cR (cB (cL (cR (cR (cP (cB (cR (cR (cR (cB (cL (cR (cR (cP (cB (cR (cL (cR (cR (cR (cR (cR (cR (cR (bodyOf Try.f6)))))))))))))))))))))))))))))) :: ks) .normal (G_ringlaw5_BoxNests_C2_hd v_r104 v_r115 v_want217 v_last218 v_x219 v_r254 v_r116 v_x214 v_y216 v_w220) := by
  unfold G_ringlaw5_BoxNests_C2 at h
  by_cases h276 : v_r254 < 0
  · rw [if_pos h276] at h
    cases h
    exact pkk_sound TTok mix hF 2 (hs := [.t true]) (ts := []) (s := [0, 1]) (l := [5, 6, 7, 9, 10, 12, 15, 34, 35, 36, 41, 42]) (by kernel_rfl) (by kernel_rfl) (.cons (dt h276) .nil) q
  · rw [if_neg h276] at h
    by_cases h277 : v_r254 = (wi .i64 (v_last218 + 1))
    · rw [if_pos h277] at h
      by_cases h278 : v_x219 > 0
      · rw [if_pos h278] at h
        by_cases h279 : 0 ≤ (wi .i64 ((v_w220.length : Int) - 1)) ∧ ((wi .i64 ((v_w220.length : Int) - 1))).toNat < v_w220.length
        · rw [if_pos h279] at h
          obtain ⟨v_y261, h280, h⟩ := bind_some h
          by_cases h281 : 0 ≤ (wi .i64 ((v_w220.length : Int) - 1)) ∧ ((wi .i64 ((v_w220.length : Int) - 1))).toNat < v_w220.length
          · rw [if_pos h281] at h
            obtain ⟨v_y262, h282, h⟩ := bind_some h
            cases h
            exact pkk_sound TTok mix hF 5 (hs := [.t false, .t true, .c, .t true, .u (.d (.v (.int .i64 (v_w220.length : Int)))), .y (eS_box_Range v_y261), .w ((v_w220.set ((wi .i64 ((v_w220.length : Int) - 1))).toNat (S_box_Range.mk v_y262.fIn v_y262.fOut (wi .i64 (v_y261.fN + 1)))).map eS_box_Range), .y (eS_box_Range v_y262)]) (ts := []) (s := [0, 1]) (l := [5, 6, 7, 9, 10, 12, 15, 34, 35, 36, 41, 42]) (by kernel_rfl) (by kernel_rfl) (.cons (df h276) (.cons (bt h277) (.cons (dt h278) (.cons (len_ob (f := eS_box_Range) (l := v_w220)) (.cons (idx_ob (f := eS_box_Range) h279) (.cons (get_ob (f := eS_box_Range) h280) (.cons (idx_ob (f := eS_box_Range) h281) (.cons (get_ob (f := eS_box_Range) h282) (.cons (Eq.refl (pcells (.agg [.v (.int .i64 v_y262.fIn), .v (.int .i64 v_y262.fOut), .v (.int .i64 (wi .i64 (v_y261.fN + 1)))]))) (.cons (set_ob (f := eS_box_Range) (l := v_w220) (k := ((wi .i64 ((v_w220.length : Int) - 1))).toNat) (z := (S_box_Range.mk v_y262.fIn v_y262.fOut (wi .i64 (v_y261.fN + 1)))) (p := .agg [.v (.int .i64 v_y262.fIn), .v (.int .i64 v_y262.fOut), .v (.int .i64 (wi .i64 (v_y261.fN + 1)))]) rfl) .nil)))))))))) q
          · rw [if_neg h281] at h; cases h
        · rw [if_neg h279] at h; cases h
      · rw [if_neg h278] at h
        obtain ⟨v_a265, h283, h⟩ := bind_some h
        cases h
        exact pkk_sound TTok mix hF 5 (hs := [.t false, .t true, .c, .t false, .c, .bd, .w (v_a265.map eS_box_Range)]) (ts := []) (s := [50, 1]) (l := [5, 6, 7, 9, 10, 12, 15, 34, 35, 36, 41, 42]) (by kernel_rfl) (by kernel_rfl) (.cons (df h276) (.cons (bt h277) (.cons (df h278) (.cons (show (0 : Int) ≤ 0 ∧ (0 : Int) < 3 by decide) (.cons (app_ob (f := eS_box_Range) (s := 3) h283 (fun _ => rfl)).1 (.cons (app_ob (f := eS_box_Range) (s := 3) h283 (fun _ => rfl)).2.1 (.cons (app_ob (f := eS_box_Range) (s := 3) h283 (fun _ => rfl)).2.2.1 (.cons (app_ob (f := eS_box_Range) (s := 3) h283 (fun _ => rfl)).2.2.2 .nil)))))))) q
    · rw [if_neg h277] at h
      obtain ⟨v_a268, h284, h⟩ := bind_some h
      cases h
      exact pkk_sound TTok mix hF 5 (hs := [.t false, .t false, .c, .c, .c, .bd, .w (v_a268.map eS_box_Range)]) (ts := []) (s := [50, 1]) (l := [5, 6, 7, 9, 10, 12, 15, 34, 35, 36, 41, 42]) (by kernel_rfl) (by kernel_rfl) (.cons (df h276) (.cons (bf h277) (.cons (show (0 : Int) ≤ 0 ∧ (0 : Int) < 3 by decide) (.cons (app_ob (f := eS_box_Range) (s := 3) h284 (fun _ => rfl)).1 (.cons (app_ob (f := eS_box_Range) (s := 3) h284 (fun _ => rfl)).2.1 (.cons (app_ob (f := eS_box_Range) (s := 3) h284 (fun _ => rfl)).2.2.1 (.cons (app_ob (f := eS_box_Range) (s := 3) h284 (fun _ => rfl)).2.2.2 .nil))))))) q
inductive G_ringlaw5_BoxNests_L3_R where
  | x0 (v_want252 : Int) (v_w253 : (List S_box_Range))
def G_ringlaw5_BoxNests_L3_ex : G_ringlaw5_BoxNests_L3_R → Ex
  | .x0 _ _ => .exit 2
def G_ringlaw5_BoxNests_L3_st (v_r104 : ((List S_box_Range) × Int)) (v_r115 : ((List (Fin 3 → Int)))) (v_r116 : ((List (Fin 3 → Int)))) (v_x214 : Int) (v_y216 : (Fin 3 → Int)) : G_ringlaw5_BoxNests_L3_R → PS
  | .x0 v_want252 v_w253 => ⟨[dd, dd, dd, dd, dd, .d (.sl (v_r104.1.map eS_box_Range)), .d (.v (.int .i64 v_r104.2)), .d (.sl (v_r115.map (fun x => PV.agg [.v (.int .i64 (x 0)), .v (.int .i64 (x 1)), .v (.int .i64 (x 2))]))), dd, .d (.v (.int .i64 v_want252)), .srf 0, dd, dd, dd, dd, dd, dd, dd, dd, dd, dd, dd, dd, dd, dd, dd, dd, dd, dd, dd, dd, dd, dd, dd, .d (.sl (v_r116.map (fun x => PV.agg [.v (.int .i64 (x 0)), .v (.int .i64 (x 1)), .v (.int .i64 (x 2))]))), .d (.v (.int .i64 (v_r116.length : Int))), .d (.v (.int .i64 v_x214)), dd, dd, dd, dd, dd, dd, dd, dd, dd, dd, dd, dd, dd, dd, dd, dd, dd, dd, dd, dd, dd, dd, dd, dd, dd, dd, dd, dd, dd, dd, dd, dd, dd, dd, dd, dd, dd, dd, dd, dd, dd, dd, dd, dd, dd, dd, dd, dd, dd, dd, dd, dd, dd, dd, dd, dd, dd, dd, dd, dd, dd, dd, dd, dd, dd, dd, dd, dd, dd, dd, dd, dd], [.row 74 3 (v_w253.map eS_box_Range)]⟩
def G_ringlaw5_BoxNests_L3_hd (v_r104 : ((List S_box_Range) × Int)) (v_r115 : ((List (Fin 3 → Int)))) (v_r116 : ((List (Fin 3 → Int)))) (v_x214 : Int) (v_y216 : (Fin 3 → Int)) (v_want217 : Int) (v_last218 : Int) (v_x219 : Int) (v_w220 : (List S_box_Range)) : PS := ⟨[dd, dd, dd, dd, dd, .d (.sl (v_r104.1.map eS_box_Range)), .d (.v (.int .i64 v_r104.2)), .d (.sl (v_r115.map (fun x => PV.agg [.v (.int .i64 (x 0)), .v (.int .i64 (x 1)), .v (.int .i64 (x 2))]))), dd, .d (.v (.int .i64 v_want217)), .srf 0, dd, .ref 1 0, .d (.v (.int .i64 v_last218)), dd, dd, dd, dd, dd, dd, dd, dd, dd, dd, dd, dd, dd, dd, dd, dd, dd, dd, dd, dd, .d (.sl (v_r116.map (fun x => PV.agg [.v (.int .i64 (x 0)), .v (.int .i64 (x 1)), .v (.int .i64 (x 2))]))), .d (.v (.int .i64 (v_r116.length : Int))), .d (.v (.int .i64 v_x214)), dd, dd, dd, dd, .d (.v (.int .i64 (v_y216 2))), .d (.v (.int .i64 v_x219)), dd, dd, dd, dd, dd, dd, dd, dd, dd, dd, dd, dd, dd, dd, dd, dd, dd, dd, dd, dd, dd, dd, dd, dd, dd, dd, dd, dd, dd, dd, dd, dd, dd, dd, dd, dd, dd, dd, dd, dd, dd, dd, dd, dd, dd, dd, dd, dd, dd, dd, dd, dd, dd, dd, dd, dd, dd, dd, dd, dd, dd, dd, dd, dd, dd, dd], [.row 74 3 (v_w220.map eS_box_Range), .box [.d (.v (.int .i64 (v_y216 0))), .d (.v (.int .i64 (v_y216 1))), .d (.v (.int .i64 (v_y216 2)))]]⟩
def G_ringlaw5_BoxNests_L3 (n : Nat) (v_r104 : ((List S_box_Range) × Int)) (v_r115 : ((List (Fin 3 → Int)))) (v_r116 : ((List (Fin 3 → Int)))) (v_x214 : Int) (v_y216 : (Fin 3 → Int)) : Nat → Int → Int → Int → (List S_box_Range) → Option G_ringlaw5_BoxNests_L3_R
  | 0, _, _, _, _ => none
  | k + 1, v_want217, v_last218, v_x219, v_w220 =>
    if v_x219 < (v_y216 2) then
     if v_want217 = 0 then
      (G_ringref5_BoxTo n v_r115 (wi .i64 ((v_y216 1) + v_x219))).bind fun (v_r254 : (Int)) =>
      (G_ringlaw5_BoxNests_C2 n v_r104 v_r115 v_want217 v_last218 v_x219 v_r254 v_r116 v_x214 v_y216 v_w220).bind fun v_o271 => match v_o271 with
      | .x0 v_z272 v_z273 =>
        G_ringlaw5_BoxNests_L3 n v_r104 v_r115 v_r116 v_x214 v_y216 k v_z272 v_r254 (wi .i64 (v_x219 + 1)) v_z273
     else
      some (.x0 v_want217 v_w220)
    else
     some (.x0 v_want217 v_w220)
theorem G_ringlaw5_BoxNests_L3_ok {Fi : Ex → PS → Prop} (hF : KC 109 Fi) (ks : List Fr) (n : Nat) (v_r104 : ((List S_box_Range) × Int)) (v_r115 : ((List (Fin 3 → Int)))) (v_r116 : ((List (Fin 3 → Int)))) (v_x214 : Int) (v_y216 : (Fin 3 → Int))  : ∀ (k : Nat) (v_want217 : Int) (v_last218 : Int) (v_x219 : Int) (v_w220 : (List S_box_Range)) (o : G_ringlaw5_BoxNests_L3_R), G_ringlaw5_BoxNests_L3 n v_r104 v_r115 v_r116 v_x214 v_y216 k v_want217 v_last218 v_x219 v_w220 = some o → RunE Try.prog 109 Fi ks (G_ringlaw5_BoxNests_L3_ex o) (G_ringlaw5_BoxNests_L3_st v_r104 v_r115 v_r116 v_x214 v_y216 o) → RunE Try.prog 109 Fi (.l k (cP (cB (cR (cR (cR (cB (cL (cR (cR (cP (cB (cR (cL (cR (cR (cR (cR (cR (cR (cR (bodyOf Try.f6))))))))))))))))))))) :: ks) .normal (G_ringlaw5_BoxNests_L3_hd v_r104 v_r115 v_r116 v_x214 v_y216 v_want217 v_last218 v_x219 v_w220)
  | 0, v_want217, v_last218, v_x219, v_w220, o, h, q => by rw [G_ringlaw5_BoxNests_L3] at h; cases h
  | k + 1, v_want217, v_last218, v_x219, v_w220, o, h, q => by
    rw [G_ringlaw5_BoxNests_L3] at h
    by_cases h234 : v_x219 < (v_y216 2)
    · rw [if_pos h234] at h
      by_cases h265 : v_want217 = 0
      · rw [if_pos h265] at h
        obtain ⟨v_r254, h266, h⟩ := bind_some h
        obtain ⟨v_o271, h285, h⟩ := bind_some h
        refine pkk_sound TTok mix hF 20 (hs := [.t true, .t false, .c, .r ((eI .i64) v_r254)]) (ts := []) (s := [0, 1]) (l := [5, 6, 7, 9, 10, 12, 13, 14, 15, 34, 35, 36, 41, 42, 54]) (by kernel_rfl) (by kernel_rfl) (.cons (dt h234) (.cons (nf h265) (.cons (show (0 : Int) ≤ 1 ∧ (1 : Int) < 3 by decide) (.cons (G_ringref5_BoxTo_ok n v_r115 (wi .i64 ((v_y216 1) + v_x219)) _ h266) .nil)))) (G_ringlaw5_BoxNests_C2_ok hF (.s (cR (cR (cR (cR (cB (cL (cR (cR (cP (cB (cR (cR (cR (cB (cL (cR (cR (cP (cB (cR (cL (cR (cR (cR (cR (cR (cR (cR (bodyOf Try.f6))))))))))))))))))))))))))))) :: .b 3 :: .s (cR (cR (cR (cP (cB (cR (cR (cR (cB (cL (cR (cR (cP (cB (cR (cL (cR (cR (cR (cR (cR (cR (cR (bodyOf Try.f6)))))))))))))))))))))))) :: .l k (cP (cB (cR (cR (cR (cB (cL (cR (cR (cP (cB (cR (cL (cR (cR (cR (cR (cR (cR (cR (bodyOf Try.f6))))))))))))))))))))) :: ks) n v_r104 v_r115 v_want217 v_last218 v_x219 v_r254 v_r116 v_x214 v_y216 v_w220 _ h285 ?_)
        cases v_o271 with
        | x0 v_z272 v_z273 =>
          dsimp only at h
          exact pkk_sound TTok mix hF 3 (hs := []) (ts := []) (s := [0, 1]) (l := [5, 6, 7, 9, 10, 12, 13, 34, 35, 36, 41, 42]) (by kernel_rfl) (by kernel_rfl) .nil (G_ringlaw5_BoxNests_L3_ok hF ks n v_r104 v_r115 v_r116 v_x214 v_y216 k v_z272 v_r254 (wi .i64 (v_x219 + 1)) v_z273 _ h q)
      · rw [if_neg h265] at h
        cases h
        exact pkk_sound TTok mix hF 19 (hs := [.t true, .t true]) (ts := []) (s := [0]) (l := [5, 6, 7, 9, 10, 34, 35, 36]) (by kernel_rfl) (by kernel_rfl) (.cons (dt h234) (.cons (nt h265) .nil)) q
    · rw [if_neg h234] at h
      cases h
      exact pkk_sound TTok mix hF 8 (hs := [.t false]) (ts := []) (s := [0]) (l := [5, 6, 7, 9, 10, 34, 35, 36]) (by kernel_rfl) (by kernel_rfl) (.cons (df h234) .nil) q
inductive G_ringlaw5_BoxNests_L4_R where
  | x0 (v_want279 : Int) (v_w280 : (List S_box_Range))
def G_ringlaw5_BoxNests_L4_ex : G_ringlaw5_BoxNests_L4_R → Ex
  | .x0 _ _ => .exit 0
def G_ringlaw5_BoxNests_L4_st (v_r104 : ((List S_box_Range) × Int)) (v_r115 : ((List (Fin 3 → Int)))) (v_r116 : ((List (Fin 3 → Int)))) : G_ringlaw5_BoxNests_L4_R → PS
  | .x0 v_want279 v_w280 => ⟨[dd, dd, dd, dd, dd, .d (.sl (v_r104.1.map eS_box_Range)), .d (.v (.int .i64 v_r104.2)), dd, dd, .d (.v (.int .i64 v_want279)), .srf 0, dd, dd, dd, dd, dd, dd, dd, dd, dd, dd, dd, dd, dd, dd, dd, dd, dd, dd, dd, dd, dd, dd, dd, dd, dd, dd, dd, dd, dd, dd, dd, dd, dd, dd, dd, dd, dd, dd, dd, dd, dd, dd, dd, dd, dd, dd, dd, dd, dd, dd, dd, dd, dd, dd, dd, dd, dd, dd, dd, dd, dd, dd, dd, dd, dd, dd, dd, dd, dd, dd, dd, dd, dd, dd, dd, dd, dd, dd, dd, dd, dd, dd, dd, dd, dd, dd, dd, dd, dd, dd, dd, dd, dd, dd, dd, dd, dd, dd], [.row 74 3 (v_w280.map eS_box_Range)]⟩
def G_ringlaw5_BoxNests_L4_hd (v_r104 : ((List S_box_Range) × Int)) (v_r115 : ((List (Fin 3 → Int)))) (v_r116 : ((List (Fin 3 → Int)))) (v_want213 : Int) (v_x214 : Int) (v_w215 : (List S_box_Range)) : PS := ⟨[dd, dd, dd, dd, dd, .d (.sl (v_r104.1.map eS_box_Range)), .d (.v (.int .i64 v_r104.2)), .d (.sl (v_r115.map (fun x => PV.agg [.v (.int .i64 (x 0)), .v (.int .i64 (x 1)), .v (.int .i64 (x 2))]))), dd, .d (.v (.int .i64 v_want213)), .srf 0, dd, dd, dd, dd, dd, dd, dd, dd, dd, dd, dd, dd, dd, dd, dd, dd, dd, dd, dd, dd, dd, dd, dd, .d (.sl (v_r116.map (fun x => PV.agg [.v (.int .i64 (x 0)), .v (.int .i64 (x 1)), .v (.int .i64 (x 2))]))), .d (.v (.int .i64 (v_r116.length : Int))), .d (.v (.int .i64 v_x214)), dd, dd, dd, dd, dd, dd, dd, dd, dd, dd, dd, dd, dd, dd, dd, dd, dd, dd, dd, dd, dd, dd, dd, dd, dd, dd, dd, dd, dd, dd, dd, dd, dd, dd, dd, dd, dd, dd, dd, dd, dd, dd, dd, dd, dd, dd, dd, dd, dd, dd, dd, dd, dd, dd, dd, dd, dd, dd, dd, dd, dd, dd, dd, dd, dd, dd, dd, dd, dd, dd, dd, dd], [.row 74 3 (v_w215.map eS_box_Range)]⟩
def G_ringlaw5_BoxNests_L4 (n : Nat) (v_r104 : ((List S_box_Range) × Int)) (v_r115 : ((List (Fin 3 → Int)))) (v_r116 : ((List (Fin 3 → Int)))) : Nat → Int → Int → (List S_box_Range) → Option G_ringlaw5_BoxNests_L4_R
  | 0, _, _, _ => none
  | k + 1, v_want213, v_x214, v_w215 =>
    if v_x214 < (v_r116.length : Int) then
     (getI v_r116 v_x214).bind fun (v_y216 : (Fin 3 → Int)) =>
     (G_ringlaw5_BoxNests_L3 n v_r104 v_r115 v_r116 v_x214 v_y216 n v_want213 (-2) 0 v_w215).bind fun v_o276 => match v_o276 with
     | .x0 v_z277 v_z278 =>
       G_ringlaw5_BoxNests_L4 n v_r104 v_r115 v_r116 k v_z277 (wi .i64 (v_x214 + 1)) v_z278
    else
     some (.x0 v_want213 v_w215)
theorem G_ringlaw5_BoxNests_L4_ok {Fi : Ex → PS → Prop} (hF : KC 109 Fi) (ks : List Fr) (n : Nat) (v_r104 : ((List S_box_Range) × Int)) (v_r115 : ((List (Fin 3 → Int)))) (v_r116 : ((List (Fin 3 → Int))))  : ∀ (k : Nat) (v_want213 : Int) (v_x214 : Int) (v_w215 : (List S_box_Range)) (o : G_ringlaw5_BoxNests_L4_R), G_ringlaw5_BoxNests_L4 n v_r104 v_r115 v_r116 k v_want213 v_x214 v_w215 = some o → RunE Try.prog 109 Fi ks (G_ringlaw5_BoxNests_L4_ex o) (G_ringlaw5_BoxNests_L4_st v_r104 v_r115 v_r116 o) → RunE Try.prog 109 Fi (.l k (cP (cB (cR (cL (cR (cR (cR (cR (cR (cR (cR (bodyOf Try.f6)))))))))))) :: ks) .normal (G_ringlaw5_BoxNests_L4_hd v_r104 v_r115 v_r116 v_want213 v_x214 v_w215)
  | 0, v_want213, v_x214, v_w215, o, h, q => by rw [G_ringlaw5_BoxNests_L4] at h; cases h
  | k + 1, v_want213, v_x214, v_w215, o, h, q => by
    rw [G_ringlaw5_BoxNests_L4] at h
    by_cases h232 : v_x214 < (v_r116.length : Int)
    · rw [if_pos h232] at h
      obtain ⟨v_y216, h233, h⟩ := bind_some h
      obtain ⟨v_o276, h286, h⟩ := bind_some h
      refine pkk_sound TTok mix hF 16 (hs := [.t true, .y ((fun x => PV.agg [.v (.int .i64 (x 0)), .v (.int .i64 (x 1)), .v (.int .i64 (x 2))]) v_y216), .c, .c, .n n]) (ts := []) (s := [0, 10]) (l := [5, 6, 7, 9, 10, 12, 13, 34, 35, 36, 41, 42]) (by kernel_rfl) (by kernel_rfl) (.cons (dt h232) (.cons (getI_ob (f := (fun x => PV.agg [.v (.int .i64 (x 0)), .v (.int .i64 (x 1)), .v (.int .i64 (x 2))])) h233) (.cons (show 0 + 3 ≤ 3 by decide) (.cons (show (0 : Int) ≤ 2 ∧ (2 : Int) < 3 by decide) .nil)))) (G_ringlaw5_BoxNests_L3_ok hF (.b 2 :: .b 1 :: .s (cR (cR (cR (cP (cB (cR (cL (cR (cR (cR (cR (cR (cR (cR (bodyOf Try.f6))))))))))))))) :: .l k (cP (cB (cR (cL (cR (cR (cR (cR (cR (cR (cR (bodyOf Try.f6)))))))))))) :: ks) n v_r104 v_r115 v_r116 v_x214 v_y216 n v_want213 (-2) 0 v_w215 _ h286 ?_)
      cases v_o276 with
      | x0 v_z277 v_z278 =>
        dsimp only at h
        exact pkk_sound TTok mix hF 3 (hs := []) (ts := []) (s := [0]) (l := [5, 6, 7, 9, 10, 34, 35, 36]) (by kernel_rfl) (by kernel_rfl) .nil (G_ringlaw5_BoxNests_L4_ok hF ks n v_r104 v_r115 v_r116 k v_z277 (wi .i64 (v_x214 + 1)) v_z278 _ h q)
    · rw [if_neg h232] at h
      cases h
      exact pkk_sound TTok mix hF 8 (hs := [.t false]) (ts := []) (s := [0]) (l := [5, 6, 9, 10]) (by kernel_rfl) (by kernel_rfl) (.cons (df h232) .nil) q
/- ringhall/ringlaw5.BoxNests -/
def G_ringlaw5_BoxNests (n : Nat) (v_outer1 : (List S_box_Range)) (v_inner2 : (List S_box_Range)) : Option (Bool) :=
  (G_ringlaw5_boxes n ).bind fun (v_r103 : (Bool)) =>
  if v_r103 = true then
   (G_box_Nest n v_outer1 v_inner2).bind fun (v_r104 : ((List S_box_Range) × Int)) =>
   (G_ringlaw5_triples n v_outer1).bind fun (v_r115 : ((List (Fin 3 → Int)))) =>
   (G_ringlaw5_triples n v_inner2).bind fun (v_r116 : ((List (Fin 3 → Int)))) =>
   (G_ringref5_BoxErr n v_r115).bind fun (v_r206 : (Int)) =>
   (G_ringlaw5_BoxNests_C1 n v_r104 v_r115 v_r116 v_r206).bind fun v_o211 => match v_o211 with
   | .x0 v_z212 =>
     (G_ringlaw5_BoxNests_L4 n v_r104 v_r115 v_r116 n v_z212 0 ([] : List S_box_Range)).bind fun v_o281 => match v_o281 with
     | .x0 v_z282 v_z283 =>
       if v_z282 = 0 then
        if (v_z283.length : Int) > 4 then
         if v_r104.2 = 6 then
          some ((v_r104.1.length : Int) == 0)
         else
          some false
        else
         if v_r104.2 = 0 then
          (G_slices_Equal_box_Range_box_Range n v_r104.1 v_z283).bind fun (v_r284 : (Bool)) =>
          some v_r284
         else
          some false
       else
        if v_r104.2 = v_z282 then
         some ((v_r104.1.length : Int) == 0)
        else
         some false
  else
   some false
theorem G_ringlaw5_BoxNests_ok (n : Nat) (v_outer1 : (List S_box_Range)) (v_inner2 : (List S_box_Range)) (r : Bool) (h : G_ringlaw5_BoxNests n v_outer1 v_inner2 = some r) : Ret Try.prog 6 [(eL eS_box_Range) v_outer1, (eL eS_box_Range) v_inner2] (eB r) := by
  refine ret_run (n := 109) (fn := Try.f6) (c := bodyOf Try.f6) (by kernel_rfl) (by kernel_rfl) (by kernel_rfl) (by kernel_rfl) ?_
  have hF : KC 109 (FinR Try.prog Try.f6 (eB r)) := FinR.kc' (by kernel_rfl)
  unfold G_ringlaw5_BoxNests at h
  obtain ⟨v_r103, h99, h⟩ := bind_some h
  by_cases h100 : v_r103 = true
  · rw [if_pos h100] at h
    obtain ⟨v_r104, h101, h⟩ := bind_some h
    obtain ⟨v_r115, h108, h⟩ := bind_some h
    obtain ⟨v_r116, h109, h⟩ := bind_some h
    obtain ⟨v_r206, h226, h⟩ := bind_some h
    obtain ⟨v_o211, h231, h⟩ := bind_some h
    refine pkk_sound TTok mix hF 16 (hs := [.r (eB v_r103), .t false, .r (.tup [(eL eS_box_Range) v_r104.1, (eI .i64) v_r104.2]), .r ((eL (fun x => PV.agg [.v (.int .i64 (x 0)), .v (.int .i64 (x 1)), .v (.int .i64 (x 2))])) v_r115), .r ((eL (fun x => PV.agg [.v (.int .i64 (x 0)), .v (.int .i64 (x 1)), .v (.int .i64 (x 2))])) v_r116), .r ((eI .i64) v_r206)]) (ts := []) (s := []) (l := [5, 6, 7, 8, 9, 31]) (by kernel_rfl) (by kernel_rfl) (.cons (G_ringlaw5_boxes_ok n  _ h99) (.cons (bnf h100) (.cons (G_box_Nest_ok n v_outer1 v_inner2 _ h101) (.cons (G_ringlaw5_triples_ok n v_outer1 _ h108) (.cons (G_ringlaw5_triples_ok n v_inner2 _ h109) (.cons (G_ringref5_BoxErr_ok n v_r115 _ h226) .nil)))))) (G_ringlaw5_BoxNests_C1_ok hF (.s (cR (cR (cR (cR (cR (cR (bodyOf Try.f6))))))) :: []) n v_r104 v_r115 v_r116 v_r206 _ h231 ?_)
    cases v_o211 with
    | x0 v_z212 =>
      dsimp only at h
      obtain ⟨v_o281, h287, h⟩ := bind_some h
      refine pkk_sound TTok mix hF 7 (hs := [.u (.d (.v (.int .i64 (v_r116.length : Int)))), .n n]) (ts := [(10, 74, 3)]) (s := [12]) (l := [5, 6, 7, 9, 10, 34, 35, 36]) (by kernel_rfl) (by kernel_rfl) (.cons (len_ob (f := (fun x => PV.agg [.v (.int .i64 (x 0)), .v (.int .i64 (x 1)), .v (.int .i64 (x 2))])) (l := v_r116)) .nil) (G_ringlaw5_BoxNests_L4_ok hF (.b 0 :: .s (cR (cR (cR (cR (cR (cR (cR (cR (bodyOf Try.f6))))))))) :: []) n v_r104 v_r115 v_r116 n v_z212 0 ([] : List S_box_Range) _ h287 ?_)
      cases v_o281 with
      | x0 v_z282 v_z283 =>
        dsimp only at h
        by_cases h288 : v_z282 = 0
        · rw [if_pos h288] at h
          by_cases h289 : (v_z283.length : Int) > 4
          · rw [if_pos h289] at h
            by_cases h291 : v_r104.2 = 6
            · rw [if_pos h291] at h
              obtain rfl := Option.some.inj h
              exact pend_sound TTok mix 14 (hs := [.t true, .c, .u (.d (.v (.int .i64 (v_z283.length : Int)))), .c, .t true, .c, .t true, .c, .u (.d (.v (.int .i64 (v_r104.1.length : Int)))), .c]) (by kernel_rfl) (by kernel_rfl) (by kernel_rfl) (.cons (bt h288) (.cons (len_ob (f := eS_box_Range) (l := v_z283)) (.cons (dt h289) (.cons (bt h291) (.cons (len_ob (f := eS_box_Range) (l := v_r104.1)) .nil)))))
            · rw [if_neg h291] at h
              obtain rfl := Option.some.inj h
              exact pend_sound TTok mix 14 (hs := [.t true, .c, .u (.d (.v (.int .i64 (v_z283.length : Int)))), .c, .t true, .c, .t false, .c, .c]) (by kernel_rfl) (by kernel_rfl) (by kernel_rfl) (.cons (bt h288) (.cons (len_ob (f := eS_box_Range) (l := v_z283)) (.cons (dt h289) (.cons (bf h291) .nil))))
          · rw [if_neg h289] at h
            by_cases h294 : v_r104.2 = 0
            · rw [if_pos h294] at h
              obtain ⟨v_r284, h295, h⟩ := bind_some h
              obtain rfl := Option.some.inj h
              exact pend_sound TTok mix 14 (hs := [.t true, .c, .u (.d (.v (.int .i64 (v_z283.length : Int)))), .c, .t false, .t false, .t true, .c, .c, .c, .r (eB v_r284)]) (by kernel_rfl) (by kernel_rfl) (by kernel_rfl) (.cons (bt h288) (.cons (len_ob (f := eS_box_Range) (l := v_z283)) (.cons (df h289) (.cons (nf h288) (.cons (bt h294) (.cons (G_slices_Equal_box_Range_box_Range_ok n v_r104.1 v_z283 _ h295) .nil))))))
            · rw [if_neg h294] at h
              obtain rfl := Option.some.inj h
              exact pend_sound TTok mix 14 (hs := [.t true, .c, .u (.d (.v (.int .i64 (v_z283.length : Int)))), .c, .t false, .t false, .t false, .c, .c]) (by kernel_rfl) (by kernel_rfl) (by kernel_rfl) (.cons (bt h288) (.cons (len_ob (f := eS_box_Range) (l := v_z283)) (.cons (df h289) (.cons (nf h288) (.cons (bf h294) .nil)))))
        · rw [if_neg h288] at h
          by_cases h298 : v_r104.2 = v_z282
          · rw [if_pos h298] at h
            obtain rfl := Option.some.inj h
            exact pend_sound TTok mix 14 (hs := [.t false, .c, .c, .c, .t true, .t true, .c, .u (.d (.v (.int .i64 (v_r104.1.length : Int)))), .c]) (by kernel_rfl) (by kernel_rfl) (by kernel_rfl) (.cons (bf h288) (.cons (nt h288) (.cons (bt h298) (.cons (len_ob (f := eS_box_Range) (l := v_r104.1)) .nil))))
          · rw [if_neg h298] at h
            obtain rfl := Option.some.inj h
            exact pend_sound TTok mix 14 (hs := [.t false, .c, .c, .c, .t true, .t false, .c, .c]) (by kernel_rfl) (by kernel_rfl) (by kernel_rfl) (.cons (bf h288) (.cons (nt h288) (.cons (bf h298) .nil)))
  · rw [if_neg h100] at h
    obtain rfl := Option.some.inj h
    exact pend_sound TTok mix 10 (hs := [.r (eB v_r103), .t true]) (by kernel_rfl) (by kernel_rfl) (by kernel_rfl) (.cons (G_ringlaw5_boxes_ok n  _ h99) (.cons (bnt (vf h100)) .nil))
def okS_box_Range (x : S_box_Range) : Prop := (fun a => (Lit.int .i64 a).wf = true) x.fIn ∧ (fun a => (Lit.int .i64 a).wf = true) x.fOut ∧ (fun a => (Lit.int .i64 a).wf = true) x.fN ∧ True
theorem brS_box_Range : Br (.pair (.int .i64) (.pair (.int .i64) (.pair (.int .i64) .unit))) (fun x : S_box_Range => [.v (.int .i64 x.fIn), .v (.int .i64 x.fOut), .v (.int .i64 x.fN)]) okS_box_Range := br_map (br_pair (br_int .i64) (br_pair (br_int .i64) (br_pair (br_int .i64) br_unit))) (fun p => S_box_Range.mk p.1 p.2.1 p.2.2.1) (fun p h => ⟨rfl, h⟩)
theorem BoxNests_walk (H : ∀ (a0 : (List S_box_Range)) (a1 : (List S_box_Range)), (okL 24 okS_box_Range) a0 → (okL 24 okS_box_Range) a1 → ∃ n, G_ringlaw5_BoxNests n a0 a1 = some true) (w : World) (v0 : Value) (v1 : Value) (h0 : rep.Arg w (.slice 24 (.pair (.int .i64) (.pair (.int .i64) (.pair (.int .i64) .unit)))) v0) (h1 : rep.Arg w (.slice 24 (.pair (.int .i64) (.pair (.int .i64) (.pair (.int .i64) .unit)))) v1) : Calls Try.prog 6 #[v0, v1] w (help.Ret (.bool true) w) := by
  obtain ⟨a0, o0, r0⟩ := arg_one (br_slice (f := eS_box_Range) (ok := okS_box_Range) brS_box_Range (fun _ => rfl) (by decide)) (by rfl) h0
  obtain ⟨a1, o1, r1⟩ := arg_one (br_slice (f := eS_box_Range) (ok := okS_box_Range) brS_box_Range (fun _ => rfl) (by decide)) (by rfl) h1
  obtain ⟨n, hn⟩ := H a0 a1 o0 o1
  exact walk_of (G_ringlaw5_BoxNests_ok n a0 a1 true hn) (RT_cons r0 (RT_cons r1 RT_nil))
/- FRAME BoxNests; ringhall/ringlaw5.BoxNests; (.slice 24 (.pair (.int .i64) (.pair (.int .i64) (.pair (.int .i64) .unit)))) | (.slice 24 (.pair (.int .i64) (.pair (.int .i64) (.pair (.int .i64) .unit)))); .slice none 0 0 | .slice none 0 0 -/
end Go.Proofs.Ytiajagahghgclaa.pv
