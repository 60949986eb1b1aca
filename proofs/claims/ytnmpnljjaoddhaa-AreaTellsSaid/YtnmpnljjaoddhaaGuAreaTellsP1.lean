/- What the functions compute, as functions over plain data, with their contracts: written by gen.py. -/
import Derived.Test.YtnmpnljjaoddhaaProg
import Derived.Test.YtnmpnljjaoddhaaQr
import Derived.Test.YtnmpnljjaoddhaaSf
set_option maxRecDepth 100000
set_option linter.all false
namespace Go.Proofs.Ytnmpnljjaoddhaa.pv
open Go.RowKit
def TT : List TI := [
⟨1, 0, .oth, []⟩,
⟨1, 8, .oth, [.nf]⟩,
⟨1, 8, .int .i64, [.i .i64]⟩,
⟨1, 8, .int .i64, [.i .i64]⟩,
⟨1, 1, .bool, [.b]⟩,
⟨1, 1, .int .u8, [.i .u8]⟩,
⟨1, 1, .int .u8, [.i .u8]⟩,
⟨4, 24, .st [(0, 2), (1, 3), (2, 4), (3, 6)], [.i .i64, .i .i64, .b, .i .u8]⟩,
⟨4, 24, .st [(0, 2), (1, 3), (2, 4), (3, 6)], [.i .i64, .i .i64, .b, .i .u8]⟩,
⟨1, 16, .str, [.s]⟩,
⟨1, 16, .str, [.s]⟩,
⟨1, 16, .str, [.s]⟩,
⟨1, 8, .int .u64, [.i .u64]⟩,
⟨2, 24, .st [(0, 9), (1, 12)], [.s, .i .u64]⟩,
⟨2, 24, .st [(0, 9), (1, 12)], [.s, .i .u64]⟩,
⟨1, 8, .oth, [.np]⟩,
⟨1, 8, .oth, [.np]⟩,
⟨1, 8, .oth, [.np]⟩,
⟨1, 8, .st [(0, 17)], [.np]⟩,
⟨1, 8, .st [(0, 17)], [.np]⟩,
⟨1, 16, .oth, [.ni]⟩,
⟨1, 4, .int .i32, [.i .i32]⟩,
⟨1, 24, .sl 3, [.sl]⟩,
⟨1, 8, .int .i64, [.i .i64]⟩,
⟨1, 0, .oth, []⟩,
⟨1, 8, .oth, [.nf]⟩,
⟨1, 8, .oth, [.nf]⟩,
⟨1, 8, .oth, [.nf]⟩,
⟨1, 8, .oth, [.nf]⟩,
⟨1, 8, .oth, [.nf]⟩,
⟨6, 48, .st [(0, 3), (1, 3), (2, 3), (3, 3), (4, 3), (5, 3)], [.i .i64, .i .i64, .i .i64, .i .i64, .i .i64, .i .i64]⟩,
⟨6, 48, .st [(0, 3), (1, 3), (2, 3), (3, 3), (4, 3), (5, 3)], [.i .i64, .i .i64, .i .i64, .i .i64, .i .i64, .i .i64]⟩,
⟨6, 64, .st [(0, 3), (1, 3), (2, 22), (3, 3), (4, 3), (5, 3)], [.i .i64, .i .i64, .sl, .i .i64, .i .i64, .i .i64]⟩,
⟨6, 64, .st [(0, 3), (1, 3), (2, 22), (3, 3), (4, 3), (5, 3)], [.i .i64, .i .i64, .sl, .i .i64, .i .i64, .i .i64]⟩,
⟨1, 8, .oth, [.nf]⟩,
⟨1, 0, .oth, []⟩,
⟨1, 8, .oth, [.nf]⟩,
⟨1, 0, .oth, []⟩,
⟨1, 8, .oth, [.nf]⟩,
⟨1, 8, .oth, [.nf]⟩,
⟨1, 8, .oth, [.nf]⟩,
⟨1, 8, .oth, [.nf]⟩,
⟨1, 8, .oth, [.nf]⟩,
⟨1, 8, .oth, [.nf]⟩,
⟨1, 8, .oth, [.nf]⟩,
⟨1, 24, .sl 51, [.sl]⟩,
⟨2, 32, .st [(0, 4), (1, 45)], [.b, .sl]⟩,
⟨2, 32, .st [(0, 4), (1, 45)], [.b, .sl]⟩,
⟨16, 256, .arr 8 47, (List.replicate 8 [.b, .sl]).flatten⟩,
⟨16, 256, .arr 8 47, (List.replicate 8 [.b, .sl]).flatten⟩,
⟨7, 32, .st [(0, 4), (1, 4), (2, 3), (3, 3), (4, 4), (5, 4), (6, 4)], [.b, .b, .i .i64, .i .i64, .b, .b, .b]⟩,
⟨7, 32, .st [(0, 4), (1, 4), (2, 3), (3, 3), (4, 4), (5, 4), (6, 4)], [.b, .b, .i .i64, .i .i64, .b, .b, .b]⟩,
⟨1, 0, .oth, []⟩,
⟨1, 8, .oth, [.nf]⟩,
⟨1, 0, .oth, []⟩,
⟨1, 8, .oth, [.nf]⟩,
⟨1, 8, .oth, [.nf]⟩,
⟨1, 0, .oth, []⟩,
⟨1, 8, .oth, [.nf]⟩,
⟨1, 8, .oth, [.nf]⟩,
⟨448, 2048, .arr 64 51, (List.replicate 64 [.b, .b, .i .i64, .i .i64, .b, .b, .b]).flatten⟩,
⟨448, 2048, .arr 64 51, (List.replicate 64 [.b, .b, .i .i64, .i .i64, .b, .b, .b]).flatten⟩,
⟨1, 8, .oth, [.nf]⟩,
⟨1, 8, .oth, [.nf]⟩,
⟨1, 8, .oth, [.nf]⟩,
⟨1, 8, .oth, [.nf]⟩,
⟨1, 8, .oth, [.nf]⟩,
⟨1, 8, .oth, [.nf]⟩,
⟨1, 8, .oth, [.nf]⟩,
⟨1, 24, .sl 78, [.sl]⟩,
⟨1, 8, .oth, [.nf]⟩,
⟨1, 0, .oth, []⟩,
⟨1, 8, .oth, [.nf]⟩,
⟨1, 8, .oth, [.nf]⟩,
⟨1, 0, .oth, []⟩,
⟨1, 8, .oth, [.nf]⟩,
⟨1, 24, .sl 79, [.sl]⟩,
⟨2, 16, .st [(0, 3), (1, 3)], [.i .i64, .i .i64]⟩,
⟨2, 16, .st [(0, 3), (1, 3)], [.i .i64, .i .i64]⟩,
⟨2, 16, .arr 2 3, [.i .i64, .i .i64]⟩,
⟨1, 8, .oth, [.nf]⟩,
⟨1, 8, .oth, [.nf]⟩,
⟨1, 8, .oth, [.nf]⟩,
⟨1, 8, .oth, [.nf]⟩,
⟨1, 8, .oth, [.nf]⟩,
⟨1, 8, .oth, [.nf]⟩,
⟨1, 8, .oth, [.nf]⟩,
⟨1, 8, .oth, [.nf]⟩,
⟨1, 8, .oth, [.nf]⟩,
⟨1, 8, .oth, [.nf]⟩,
⟨1, 8, .oth, [.nf]⟩,
⟨1, 24, .sl 95, [.sl]⟩,
⟨2, 32, .st [(0, 91), (1, 3)], [.sl, .i .i64]⟩,
⟨2, 32, .st [(0, 91), (1, 3)], [.sl, .i .i64]⟩,
⟨3, 16, .st [(0, 3), (1, 4), (2, 4)], [.i .i64, .b, .b]⟩,
⟨3, 16, .st [(0, 3), (1, 4), (2, 4)], [.i .i64, .b, .b]⟩,
⟨1, 0, .oth, []⟩,
⟨1, 8, .oth, [.nf]⟩,
⟨1, 8, .oth, [.nf]⟩,
⟨1, 0, .oth, []⟩,
⟨1, 8, .oth, [.nf]⟩,
⟨1, 8, .oth, [.nf]⟩,
⟨1, 8, .oth, [.nf]⟩,
⟨1, 8, .oth, [.nf]⟩,
⟨1, 8, .oth, [.nf]⟩,
⟨1, 0, .oth, []⟩,
⟨1, 8, .oth, [.nf]⟩,
⟨1, 8, .oth, [.nf]⟩,
⟨1, 24, .sl 110, [.sl]⟩,
⟨3, 24, .st [(0, 3), (1, 3), (2, 3)], [.i .i64, .i .i64, .i .i64]⟩,
⟨3, 24, .st [(0, 3), (1, 3), (2, 3)], [.i .i64, .i .i64, .i .i64]⟩,
⟨1, 0, .oth, []⟩,
⟨1, 8, .oth, [.nf]⟩,
⟨1, 8, .oth, [.nf]⟩,
⟨1, 0, .oth, []⟩,
⟨1, 8, .oth, [.nf]⟩,
⟨1, 8, .oth, [.nf]⟩,
⟨1, 8, .oth, [.nf]⟩,
⟨64, 512, .arr 64 3, List.replicate 64 (.i .i64)⟩,
⟨64, 512, .arr 64 3, List.replicate 64 (.i .i64)⟩,
⟨1, 8, .oth, [.nf]⟩,
⟨1, 8, .oth, [.nf]⟩,
⟨1, 8, .oth, [.nf]⟩,
⟨1, 8, .oth, [.nf]⟩,
⟨1, 8, .oth, [.nf]⟩,
⟨1, 8, .oth, [.nf]⟩,
⟨1, 8, .oth, [.nf]⟩,
⟨1, 24, .sl 138, [.sl]⟩,
⟨2, 32, .st [(0, 3), (1, 127)], [.i .i64, .sl]⟩,
⟨2, 32, .st [(0, 3), (1, 127)], [.i .i64, .sl]⟩,
⟨1, 0, .oth, []⟩,
⟨1, 8, .oth, [.nf]⟩,
⟨1, 0, .oth, []⟩,
⟨1, 8, .oth, [.nf]⟩,
⟨1, 8, .oth, [.nf]⟩,
⟨1, 8, .oth, [.nf]⟩,
⟨1, 8, .oth, [.nf]⟩,
⟨2, 16, .st [(0, 3), (1, 3)], [.i .i64, .i .i64]⟩,
⟨2, 16, .st [(0, 3), (1, 3)], [.i .i64, .i .i64]⟩,
⟨1, 8, .oth, [.nf]⟩,
⟨64, 64, .arr 64 4, List.replicate 64 (.b)⟩,
⟨1, 8, .oth, [.nf]⟩,
⟨1, 8, .oth, [.nf]⟩,
⟨1, 8, .oth, [.nf]⟩,
⟨1, 8, .oth, [.nf]⟩,
⟨1, 0, .oth, []⟩,
⟨1, 8, .oth, [.nf]⟩,
⟨1, 8, .oth, [.nf]⟩,
⟨1, 8, .oth, [.nf]⟩,
⟨1, 8, .oth, [.nf]⟩,
⟨1, 8, .oth, [.nf]⟩,
⟨1, 8, .oth, [.nf]⟩,
⟨1, 8, .oth, [.nf]⟩,
⟨3, 24, .st [(0, 4), (1, 3), (2, 3)], [.b, .i .i64, .i .i64]⟩,
⟨3, 24, .st [(0, 4), (1, 3), (2, 3)], [.b, .i .i64, .i .i64]⟩,
⟨1, 24, .sl 154, [.sl]⟩,
⟨1, 8, .oth, [.nf]⟩,
⟨1, 8, .oth, [.nf]⟩,
⟨1, 8, .oth, [.nf]⟩,
⟨1, 8, .oth, [.nf]⟩,
⟨1, 8, .oth, [.nf]⟩,
⟨1, 8, .oth, [.nf]⟩,
⟨1, 8, .oth, [.nf]⟩,
⟨1, 8, .oth, [.nf]⟩,
⟨1, 0, .oth, []⟩,
⟨1, 8, .oth, [.nf]⟩,
⟨1, 8, .oth, [.nf]⟩,
⟨1, 8, .oth, [.nf]⟩,
⟨1, 24, .sl 69, [.sl]⟩,
⟨1, 8, .oth, [.nf]⟩,
⟨1, 8, .oth, [.nf]⟩,
⟨1, 8, .oth, [.nf]⟩,
⟨1, 8, .oth, [.nf]⟩,
⟨1, 8, .oth, [.nf]⟩,
⟨1, 8, .oth, [.nf]⟩,
⟨1, 8, .oth, [.nf]⟩,
⟨1, 8, .oth, [.np]⟩,
⟨1, 8, .oth, [.nf]⟩,
⟨1, 8, .oth, [.nf]⟩,
⟨1, 8, .oth, [.nf]⟩,
⟨1, 8, .oth, [.nf]⟩,
⟨1, 8, .oth, [.nf]⟩,
⟨1, 8, .oth, [.nf]⟩,
⟨1, 8, .oth, [.nf]⟩,
⟨1, 8, .oth, [.nf]⟩,
⟨1, 8, .oth, [.nf]⟩,
⟨1, 8, .oth, [.nf]⟩,
⟨1, 8, .oth, [.nf]⟩,
⟨1, 8, .oth, [.nf]⟩,
⟨1, 8, .oth, [.nf]⟩,
⟨1, 8, .oth, [.nf]⟩,
⟨1, 8, .oth, [.nf]⟩,
⟨1, 8, .oth, [.nf]⟩,
⟨1, 8, .int .u64, [.i .u64]⟩,
⟨1, 8, .oth, [.nf]⟩,
⟨1, 8, .oth, [.nf]⟩,
⟨1, 8, .oth, [.nf]⟩,
⟨1, 8, .oth, [.nf]⟩,
⟨1, 8, .oth, [.nf]⟩,
⟨1, 8, .oth, [.nf]⟩,
⟨1, 8, .oth, [.nf]⟩,
⟨1, 8, .oth, [.nf]⟩,
⟨1, 8, .oth, [.nf]⟩,
⟨1, 8, .oth, [.np]⟩,
⟨1, 8, .oth, [.nf]⟩,
⟨1, 8, .oth, [.nf]⟩,
⟨1, 8, .oth, [.nf]⟩,
⟨1, 8, .oth, [.nf]⟩,
⟨4, 40, .st [(0, 17), (1, 17), (2, 17), (3, 9)], [.np, .np, .np, .s]⟩,
⟨4, 40, .st [(0, 17), (1, 17), (2, 17), (3, 9)], [.np, .np, .np, .s]⟩,
⟨0, 0, .arr 0 16, []⟩,
⟨0, 0, .st [(0, 210)], []⟩,
⟨0, 0, .st [(0, 210)], []⟩,
⟨1, 8, .oth, [.nf]⟩,
⟨1, 4, .int .u32, [.i .u32]⟩,
⟨1, 1, .int .u8, [.i .u8]⟩,
⟨1, 1, .int .u8, [.i .u8]⟩,
⟨1, 8, .oth, [.nf]⟩,
⟨1, 8, .oth, [.np]⟩,
⟨1, 4, .int .i32, [.i .i32]⟩,
⟨1, 4, .int .i32, [.i .i32]⟩,
⟨11, 48, .st [(0, 12), (1, 12), (2, 214), (3, 215), (4, 5), (5, 5), (6, 216), (7, 217), (8, 218), (9, 219), (10, 220)], [.i .u64, .i .u64, .i .u32, .i .u8, .i .u8, .i .u8, .i .u8, .nf, .np, .i .i32, .i .i32]⟩,
⟨11, 48, .st [(0, 12), (1, 12), (2, 214), (3, 215), (4, 5), (5, 5), (6, 216), (7, 217), (8, 218), (9, 219), (10, 220)], [.i .u64, .i .u64, .i .u32, .i .u8, .i .u8, .i .u8, .i .u8, .nf, .np, .i .i32, .i .i32]⟩,
⟨1, 8, .oth, [.np]⟩]
theorem TTok : TOk Try.prog TT := by unfold TOk; kernel_rfl
theorem mix : Try.prog.follows .mixedOrders = true := by kernel_rfl
structure S_area_Area where
  fPage : Int
  fN : Int
  fRights : Int
def eS_area_Area (x : S_area_Area) : PV := .agg [.v (.int .i64 x.fPage), .v (.int .i64 x.fN), .v (.int .i64 x.fRights)]
def cA_t119 (x : (Fin 64 → Int)) : List PV := (List.ofFn x).flatMap fun a => [.v (.int .i64 a)]
def eqS_area_Area (x y : S_area_Area) : Bool := ((x.fPage == y.fPage) && ((x.fN == y.fN) && ((x.fRights == y.fRights) && true)))
theorem eqS_area_Area_ok (x y : S_area_Area) : EqA Try.prog 110 [((.int .i64 x.fPage)), ((.int .i64 x.fN)), ((.int .i64 x.fRights))] [((.int .i64 y.fPage)), ((.int .i64 y.fN)), ((.int .i64 y.fRights))] (eqS_area_Area x y) := eqA_of TTok (by kernel_rfl) (by kernel_rfl) (by kernel_rfl)
inductive G_area_right_C1_R where
  | x0 (v_x11 : Bool)
def G_area_right_C1_ex : G_area_right_C1_R → Ex
  | .x0 _ => .normal
def G_area_right_C1_st (v_a10 : S_area_Area) : G_area_right_C1_R → PS
  | .x0 v_x11 => ⟨[dd, dd, .d (.v (.bool v_x11)), dd, dd, dd, dd, dd, dd, dd, dd, dd, dd, dd, dd, dd, dd, dd, dd, dd, dd, dd, dd, dd, dd, dd, dd, dd, dd, dd, dd, dd, dd, dd], []⟩
def G_area_right_C1_hd (v_a10 : S_area_Area)  : PS := ⟨[dd, .ref 0 0, dd, dd, dd, dd, dd, dd, dd, dd, dd, dd, dd, dd, dd, dd, dd, dd, dd, dd, dd, dd, dd, dd, dd, dd, dd, dd, dd, dd, dd, dd, dd, dd], [.box [.d (.v (.int .i64 v_a10.fPage)), .d (.v (.int .i64 v_a10.fN)), .d (.v (.int .i64 v_a10.fRights))]]⟩
def G_area_right_C1 (n : Nat) (v_a10 : S_area_Area) : Option G_area_right_C1_R :=
  if v_a10.fPage ≥ 0 then
   if v_a10.fPage < 64 then
    if v_a10.fN ≥ 1 then
     if v_a10.fN ≤ (wi .i64 (64 - v_a10.fPage)) then
      if v_a10.fRights ≥ 0 then
       some (.x0 (decide (v_a10.fRights ≤ 7)))
      else
       some (.x0 false)
     else
      some (.x0 false)
    else
     some (.x0 false)
   else
    some (.x0 false)
  else
   some (.x0 false)
theorem G_area_right_C1_ok {Fi : Ex → PS → Prop} (hF : KC 34 Fi) (ks : List Fr) (n : Nat) (v_a10 : S_area_Area)  (o : G_area_right_C1_R) (h : G_area_right_C1 n v_a10 = some o) (q : RunE Try.prog 34 Fi ks (G_area_right_C1_ex o) (G_area_right_C1_st v_a10 o)) : RunE Try.prog 34 Fi (.s (cL (cR (bodyOf Try.f129))) :: ks) .normal (G_area_right_C1_hd v_a10) := by
  unfold G_area_right_C1 at h
  by_cases h9 : v_a10.fPage ≥ 0
  · rw [if_pos h9] at h
    by_cases h10 : v_a10.fPage < 64
    · rw [if_pos h10] at h
      by_cases h11 : v_a10.fN ≥ 1
      · rw [if_pos h11] at h
        by_cases h12 : v_a10.fN ≤ (wi .i64 (64 - v_a10.fPage))
        · rw [if_pos h12] at h
          by_cases h13 : v_a10.fRights ≥ 0
          · rw [if_pos h13] at h
            cases h
            exact pkk_sound TTok mix hF 1 (hs := [.c, .t true, .c, .c, .c, .t true, .c, .c, .c, .t true, .c, .c, .c, .c, .c, .c, .c, .t true, .c, .c, .c, .t true, .c, .c, .c]) (ts := []) (s := []) (l := [2]) (by kernel_rfl) (by kernel_rfl) (.cons (dt h9) (.cons (dt h10) (.cons (dt h11) (.cons (dt h12) (.cons (dt h13) .nil))))) q
          · rw [if_neg h13] at h
            cases h
            exact pkk_sound TTok mix hF 1 (hs := [.c, .t true, .c, .c, .c, .t true, .c, .c, .c, .t true, .c, .c, .c, .c, .c, .c, .c, .t true, .c, .c, .c, .t false, .c, .c]) (ts := []) (s := []) (l := [2]) (by kernel_rfl) (by kernel_rfl) (.cons (dt h9) (.cons (dt h10) (.cons (dt h11) (.cons (dt h12) (.cons (df h13) .nil))))) q
        · rw [if_neg h12] at h
          cases h
          exact pkk_sound TTok mix hF 1 (hs := [.c, .t true, .c, .c, .c, .t true, .c, .c, .c, .t true, .c, .c, .c, .c, .c, .c, .c, .t false, .c, .c, .c, .c, .c]) (ts := []) (s := []) (l := [2]) (by kernel_rfl) (by kernel_rfl) (.cons (dt h9) (.cons (dt h10) (.cons (dt h11) (.cons (df h12) .nil)))) q
      · rw [if_neg h11] at h
        cases h
        exact pkk_sound TTok mix hF 1 (hs := [.c, .t true, .c, .c, .c, .t true, .c, .c, .c, .t false, .c, .c, .c, .c, .c, .c, .c, .c, .c, .c, .c]) (ts := []) (s := []) (l := [2]) (by kernel_rfl) (by kernel_rfl) (.cons (dt h9) (.cons (dt h10) (.cons (df h11) .nil))) q
    · rw [if_neg h10] at h
      cases h
      exact pkk_sound TTok mix hF 1 (hs := [.c, .t true, .c, .c, .c, .t false, .c, .c, .c, .c, .c, .c, .c, .c, .c, .c, .c, .c, .c, .c]) (ts := []) (s := []) (l := [2]) (by kernel_rfl) (by kernel_rfl) (.cons (dt h9) (.cons (df h10) .nil)) q
  · rw [if_neg h9] at h
    cases h
    exact pkk_sound TTok mix hF 1 (hs := [.c, .t false, .c, .c, .c, .c, .c, .c, .c, .c, .c, .c, .c, .c, .c, .c, .c, .c, .c]) (ts := []) (s := []) (l := [2]) (by kernel_rfl) (by kernel_rfl) (.cons (df h9) .nil) q
/- ringhall/area.right -/
def G_area_right (n : Nat) (v_a10 : S_area_Area) : Option (Bool) :=
  (G_area_right_C1 n v_a10).bind fun v_o17 => match v_o17 with
  | .x0 v_z18 =>
    some v_z18
theorem G_area_right_ok (n : Nat) (v_a10 : S_area_Area) (r : Bool) (h : G_area_right n v_a10 = some r) : Ret Try.prog 129 [eS_area_Area v_a10] (eB r) := by
  refine ret_run (n := 34) (fn := Try.f129) (c := bodyOf Try.f129) (by kernel_rfl) (by kernel_rfl) (by kernel_rfl) (by kernel_rfl) ?_
  have hF : KC 34 (FinR Try.prog Try.f129 (eB r)) := FinR.kc' (by kernel_rfl)
  unfold G_area_right at h
  obtain ⟨v_o17, h14, h⟩ := bind_some h
  refine pkk_sound TTok mix hF 3 (hs := []) (ts := []) (s := [0]) (l := [1]) (by kernel_rfl) (by kernel_rfl) .nil (G_area_right_C1_ok hF (.s (cR (cR (bodyOf Try.f129))) :: []) n v_a10 _ h14 ?_)
  cases v_o17 with
  | x0 v_z18 =>
    try dsimp only at h
    obtain rfl := Option.some.inj h
    exact pend_sound TTok mix 1 (hs := []) (by kernel_rfl) (by kernel_rfl) (by kernel_rfl) .nil
inductive G_area_Check_C1_R where
  | x0 (v_x30 : Bool)
def G_area_Check_C1_ex : G_area_Check_C1_R → Ex
  | .x0 _ => .normal
def G_area_Check_C1_st (v_l7 : (List S_area_Area)) (v_x8 : Int) (v_y26 : S_area_Area) (v_y29 : S_area_Area) : G_area_Check_C1_R → PS
  | .x0 v_x30 => ⟨[.d (.sl (v_l7.map eS_area_Area)), dd, dd, dd, dd, dd, dd, dd, dd, .d (.sl (v_l7.map eS_area_Area)), .d (.v (.int .i64 (v_l7.length : Int))), .d (.v (.int .i64 v_x8)), dd, dd, dd, dd, dd, dd, dd, dd, dd, dd, dd, dd, dd, dd, dd, dd, dd, dd, dd, dd, dd, dd, dd, dd, dd, dd, dd, dd, dd, dd, dd, dd, dd, dd, dd, dd, dd, dd, .d (.v (.bool v_x30)), dd], []⟩
def G_area_Check_C1_hd (v_l7 : (List S_area_Area)) (v_x8 : Int) (v_y26 : S_area_Area) (v_y29 : S_area_Area)  : PS := ⟨[.d (.sl (v_l7.map eS_area_Area)), dd, dd, dd, .ref 0 0, .ref 1 0, dd, dd, dd, .d (.sl (v_l7.map eS_area_Area)), .d (.v (.int .i64 (v_l7.length : Int))), .d (.v (.int .i64 v_x8)), dd, dd, dd, dd, dd, dd, dd, dd, dd, dd, dd, dd, dd, dd, dd, dd, dd, dd, dd, dd, dd, dd, dd, dd, dd, dd, dd, dd, dd, dd, dd, dd, dd, dd, dd, dd, dd, dd, dd, dd], [.box [.d (.v (.int .i64 v_y26.fPage)), .d (.v (.int .i64 v_y26.fN)), .d (.v (.int .i64 v_y26.fRights))], .box [.d (.v (.int .i64 v_y29.fPage)), .d (.v (.int .i64 v_y29.fN)), .d (.v (.int .i64 v_y29.fRights))]]⟩
def G_area_Check_C1 (n : Nat) (v_l7 : (List S_area_Area)) (v_x8 : Int) (v_y26 : S_area_Area) (v_y29 : S_area_Area) : Option G_area_Check_C1_R :=
  if v_y26.fPage < (wi .i64 (v_y29.fPage + v_y29.fN)) then
   some (.x0 true)
  else
   if v_y26.fPage = (wi .i64 (v_y29.fPage + v_y29.fN)) then
    some (.x0 (v_y26.fRights == v_y29.fRights))
   else
    some (.x0 false)
theorem G_area_Check_C1_ok {Fi : Ex → PS → Prop} (hF : KC 52 Fi) (ks : List Fr) (n : Nat) (v_l7 : (List S_area_Area)) (v_x8 : Int) (v_y26 : S_area_Area) (v_y29 : S_area_Area)  (o : G_area_Check_C1_R) (h : G_area_Check_C1 n v_l7 v_x8 v_y26 v_y29 = some o) (q : RunE Try.prog 52 Fi ks (G_area_Check_C1_ex o) (G_area_Check_C1_st v_l7 v_x8 v_y26 v_y29 o)) : RunE Try.prog 52 Fi (.s (cL (cR (cR (cR (cR (cB (cL (cR (cR (cP (cB (cR (cL (cR (cR (bodyOf Try.f68)))))))))))))))) :: ks) .normal (G_area_Check_C1_hd v_l7 v_x8 v_y26 v_y29) := by
  unfold G_area_Check_C1 at h
  by_cases h32 : v_y26.fPage < (wi .i64 (v_y29.fPage + v_y29.fN))
  · rw [if_pos h32] at h
    cases h
    exact pkk_sound TTok mix hF 1 (hs := [.c, .c, .c, .t true, .c, .c, .c, .c, .c, .c, .c, .c, .c]) (ts := []) (s := []) (l := [0, 9, 10, 11, 50]) (by kernel_rfl) (by kernel_rfl) (.cons (dt h32) .nil) q
  · rw [if_neg h32] at h
    by_cases h33 : v_y26.fPage = (wi .i64 (v_y29.fPage + v_y29.fN))
    · rw [if_pos h33] at h
      cases h
      exact pkk_sound TTok mix hF 1 (hs := [.c, .c, .c, .t false, .c, .c, .c, .c, .c, .c, .c, .c, .c, .c, .c, .t true, .c, .c, .c, .c, .c, .c, .c]) (ts := []) (s := []) (l := [0, 9, 10, 11, 50]) (by kernel_rfl) (by kernel_rfl) (.cons (df h32) (.cons (bt h33) .nil)) q
    · rw [if_neg h33] at h
      cases h
      exact pkk_sound TTok mix hF 1 (hs := [.c, .c, .c, .t false, .c, .c, .c, .c, .c, .c, .c, .c, .c, .c, .c, .t false, .c, .c, .c, .c, .c]) (ts := []) (s := []) (l := [0, 9, 10, 11, 50]) (by kernel_rfl) (by kernel_rfl) (.cons (df h32) (.cons (bf h33) .nil)) q
inductive G_area_Check_L2_R where
  | x0 (v_x28 : Int)
  | x1 
def G_area_Check_L2_ex : G_area_Check_L2_R → Ex
  | .x0 _ => .ret
  | .x1  => .exit 0
def G_area_Check_L2_st (v_l7 : (List S_area_Area)) : G_area_Check_L2_R → PS
  | .x0 v_x28 => ⟨[dd, dd, .d (.v (.int .i64 v_x28)), dd, dd, dd, dd, dd, dd, dd, dd, dd, dd, dd, dd, dd, dd, dd, dd, dd, dd, dd, dd, dd, dd, dd, dd, dd, dd, dd, dd, dd, dd, dd, dd, dd, dd, dd, dd, dd, dd, dd, dd, dd, dd, dd, dd, dd, dd, dd, dd, dd], []⟩
  | .x1  => ⟨[dd, dd, dd, dd, dd, dd, dd, dd, dd, dd, dd, dd, dd, dd, dd, dd, dd, dd, dd, dd, dd, dd, dd, dd, dd, dd, dd, dd, dd, dd, dd, dd, dd, dd, dd, dd, dd, dd, dd, dd, dd, dd, dd, dd, dd, dd, dd, dd, dd, dd, dd, dd], []⟩
def G_area_Check_L2_hd (v_l7 : (List S_area_Area)) (v_x8 : Int) : PS := ⟨[.d (.sl (v_l7.map eS_area_Area)), dd, dd, dd, dd, dd, dd, dd, dd, .d (.sl (v_l7.map eS_area_Area)), .d (.v (.int .i64 (v_l7.length : Int))), .d (.v (.int .i64 v_x8)), dd, dd, dd, dd, dd, dd, dd, dd, dd, dd, dd, dd, dd, dd, dd, dd, dd, dd, dd, dd, dd, dd, dd, dd, dd, dd, dd, dd, dd, dd, dd, dd, dd, dd, dd, dd, dd, dd, dd, dd], []⟩
def G_area_Check_L2 (n : Nat) (v_l7 : (List S_area_Area)) : Nat → Int → Option G_area_Check_L2_R
  | 0, _ => none
  | k + 1, v_x8 =>
    if v_x8 < (v_l7.length : Int) then
     (getI v_l7 v_x8).bind fun (v_y26 : S_area_Area) =>
     (G_area_right n v_y26).bind fun (v_r27 : (Bool)) =>
     if v_r27 = true then
      if v_x8 = 0 then
       G_area_Check_L2 n v_l7 k (wi .i64 (v_x8 + 1))
      else
       (getI v_l7 (wi .i64 (v_x8 - 1))).bind fun (v_y29 : S_area_Area) =>
       (G_area_Check_C1 n v_l7 v_x8 v_y26 v_y29).bind fun v_o33 => match v_o33 with
       | .x0 v_z34 =>
         if v_z34 = true then
          some (.x0 3)
         else
          G_area_Check_L2 n v_l7 k (wi .i64 (v_x8 + 1))
     else
      some (.x0 1)
    else
     some (.x1 )
theorem G_area_Check_L2_ok {Fi : Ex → PS → Prop} (hF : KC 52 Fi) (ks : List Fr) (n : Nat) (v_l7 : (List S_area_Area))  : ∀ (k : Nat) (v_x8 : Int) (o : G_area_Check_L2_R), G_area_Check_L2 n v_l7 k v_x8 = some o → RunE Try.prog 52 Fi ks (G_area_Check_L2_ex o) (G_area_Check_L2_st v_l7 o) → RunE Try.prog 52 Fi (.l k (cP (cB (cR (cL (cR (cR (bodyOf Try.f68))))))) :: ks) .normal (G_area_Check_L2_hd v_l7 v_x8)
  | 0, v_x8, o, h, q => by rw [G_area_Check_L2] at h; cases h
  | k + 1, v_x8, o, h, q => by
    rw [G_area_Check_L2] at h
    by_cases h2 : v_x8 < (v_l7.length : Int)
    · rw [if_pos h2] at h
      obtain ⟨v_y26, h25, h⟩ := bind_some h
      obtain ⟨v_r27, h26, h⟩ := bind_some h
      by_cases h27 : v_r27 = true
      · rw [if_pos h27] at h
        by_cases h28 : v_x8 = 0
        · rw [if_pos h28] at h
          exact pkk_sound TTok mix hF 23 (hs := [.t true, .y (eS_area_Area v_y26), .c, .c, .r (eB v_r27), .t false, .t true]) (ts := []) (s := []) (l := [0, 9, 10, 11]) (by kernel_rfl) (by kernel_rfl) (.cons (dt h2) (.cons (getI_ob (f := eS_area_Area) h25) (.cons (show 0 + 3 ≤ 3 by decide) (.cons (G_area_right_ok n v_y26 _ h26) (.cons (bnf h27) (.cons (bt h28) .nil)))))) (G_area_Check_L2_ok hF ks n v_l7 k (wi .i64 (v_x8 + 1)) _ h q)
        · rw [if_neg h28] at h
          obtain ⟨v_y29, h29, h⟩ := bind_some h
          obtain ⟨v_o33, h34, h⟩ := bind_some h
          refine pkk_sound TTok mix hF 23 (hs := [.t true, .y (eS_area_Area v_y26), .c, .c, .r (eB v_r27), .t false, .t false, .y (eS_area_Area v_y29), .c]) (ts := []) (s := [12, 51]) (l := [0, 4, 5, 9, 10, 11]) (by kernel_rfl) (by kernel_rfl) (.cons (dt h2) (.cons (getI_ob (f := eS_area_Area) h25) (.cons (show 0 + 3 ≤ 3 by decide) (.cons (G_area_right_ok n v_y26 _ h26) (.cons (bnf h27) (.cons (bf h28) (.cons (getI_ob (f := eS_area_Area) h29) (.cons (show 0 + 3 ≤ 3 by decide) .nil)))))))) (G_area_Check_C1_ok hF (.s (cR (cR (cR (cR (cR (cB (cL (cR (cR (cP (cB (cR (cL (cR (cR (bodyOf Try.f68)))))))))))))))) :: .b 1 :: .s (cR (cR (cR (cP (cB (cR (cL (cR (cR (bodyOf Try.f68)))))))))) :: .l k (cP (cB (cR (cL (cR (cR (bodyOf Try.f68))))))) :: ks) n v_l7 v_x8 v_y26 v_y29 _ h34 ?_)
          cases v_o33 with
          | x0 v_z34 =>
            try dsimp only at h
            by_cases h35 : v_z34 = true
            · rw [if_pos h35] at h
              cases h
              exact pkk_sound TTok mix hF 7 (hs := [.t true]) (ts := []) (s := []) (l := [2]) (by kernel_rfl) (by kernel_rfl) (.cons h35 .nil) q
            · rw [if_neg h35] at h
              exact pkk_sound TTok mix hF 4 (hs := [.t false]) (ts := []) (s := []) (l := [0, 9, 10, 11]) (by kernel_rfl) (by kernel_rfl) (.cons (vf h35) .nil) (G_area_Check_L2_ok hF ks n v_l7 k (wi .i64 (v_x8 + 1)) _ h q)
      · rw [if_neg h27] at h
        cases h
        exact pkk_sound TTok mix hF 21 (hs := [.t true, .y (eS_area_Area v_y26), .c, .c, .r (eB v_r27), .t true]) (ts := []) (s := []) (l := [2]) (by kernel_rfl) (by kernel_rfl) (.cons (dt h2) (.cons (getI_ob (f := eS_area_Area) h25) (.cons (show 0 + 3 ≤ 3 by decide) (.cons (G_area_right_ok n v_y26 _ h26) (.cons (bnt (vf h27)) .nil))))) q
    · rw [if_neg h2] at h
      cases h
      exact pkk_sound TTok mix hF 8 (hs := [.t false]) (ts := []) (s := []) (l := []) (by kernel_rfl) (by kernel_rfl) (.cons (df h2) .nil) q
/- ringhall/area.Check -/
def G_area_Check (n : Nat) (v_l7 : (List S_area_Area)) : Option (Int) :=
  if (v_l7.length : Int) > 64 then
   some 2
  else
   (G_area_Check_L2 n v_l7 n 0).bind fun v_o36 => match v_o36 with
   | .x0 v_z37 =>
     some v_z37
   | .x1  =>
     some 0
theorem G_area_Check_ok (n : Nat) (v_l7 : (List S_area_Area)) (r : Int) (h : G_area_Check n v_l7 = some r) : Ret Try.prog 68 [(eL eS_area_Area) v_l7] ((eI .i64) r) := by
  refine ret_run (n := 52) (fn := Try.f68) (c := bodyOf Try.f68) (by kernel_rfl) (by kernel_rfl) (by kernel_rfl) (by kernel_rfl) ?_
  have hF : KC 52 (FinR Try.prog Try.f68 ((eI .i64) r)) := FinR.kc' (by kernel_rfl)
  unfold G_area_Check at h
  by_cases h1 : (v_l7.length : Int) > 64
  · rw [if_pos h1] at h
    obtain rfl := Option.some.inj h
    exact pend_sound TTok mix 10 (hs := [.u (.d (.v (.int .i64 (v_l7.length : Int)))), .t true]) (by kernel_rfl) (by kernel_rfl) (by kernel_rfl) (.cons (len_ob (f := eS_area_Area) (l := v_l7)) (.cons (dt h1) .nil))
  · rw [if_neg h1] at h
    obtain ⟨v_o36, h36, h⟩ := bind_some h
    refine pkk_sound TTok mix hF 12 (hs := [.u (.d (.v (.int .i64 (v_l7.length : Int)))), .t false, .u (.d (.v (.int .i64 (v_l7.length : Int)))), .n n]) (ts := []) (s := []) (l := [0, 9, 10, 11]) (by kernel_rfl) (by kernel_rfl) (.cons (len_ob (f := eS_area_Area) (l := v_l7)) (.cons (df h1) (.cons (len_ob (f := eS_area_Area) (l := v_l7)) .nil))) (G_area_Check_L2_ok hF (.b 0 :: .s (cR (cR (cR (bodyOf Try.f68)))) :: []) n v_l7 n 0 _ h36 ?_)
    cases v_o36 with
    | x0 v_z37 =>
      try dsimp only at h
      obtain rfl := Option.some.inj h
      exact pend_sound TTok mix 2 (hs := []) (by kernel_rfl) (by kernel_rfl) (by kernel_rfl) .nil
    | x1  =>
      try dsimp only at h
      obtain rfl := Option.some.inj h
      exact pend_sound TTok mix 4 (hs := []) (by kernel_rfl) (by kernel_rfl) (by kernel_rfl) .nil
/- ringhall/area.check -/
def G_area_check (n : Nat) (v_l5 : (List S_area_Area)) (v_a6 : S_area_Area) : Option (Int) :=
  (G_area_Check n v_l5).bind fun (v_r38 : (Int)) =>
  if v_r38 = 0 then
   (G_area_right n v_a6).bind fun (v_r39 : (Bool)) =>
   if v_r39 = true then
    some v_r38
   else
    some 1
  else
   some v_r38
theorem G_area_check_ok (n : Nat) (v_l5 : (List S_area_Area)) (v_a6 : S_area_Area) (r : Int) (h : G_area_check n v_l5 v_a6 = some r) : Ret Try.prog 124 [(eL eS_area_Area) v_l5, eS_area_Area v_a6] ((eI .i64) r) := by
  refine ret_run (n := 16) (fn := Try.f124) (c := bodyOf Try.f124) (by kernel_rfl) (by kernel_rfl) (by kernel_rfl) (by kernel_rfl) ?_
  have hF : KC 16 (FinR Try.prog Try.f124 ((eI .i64) r)) := FinR.kc' (by kernel_rfl)
  unfold G_area_check at h
  obtain ⟨v_r38, h37, h⟩ := bind_some h
  by_cases h38 : v_r38 = 0
  · rw [if_pos h38] at h
    obtain ⟨v_r39, h39, h⟩ := bind_some h
    by_cases h40 : v_r39 = true
    · rw [if_pos h40] at h
      obtain rfl := Option.some.inj h
      exact pend_sound TTok mix 12 (hs := [.r ((eI .i64) v_r38), .t true, .c, .c, .r (eB v_r39), .c, .t false]) (by kernel_rfl) (by kernel_rfl) (by kernel_rfl) (.cons (G_area_Check_ok n v_l5 _ h37) (.cons (bt h38) (.cons (G_area_right_ok n v_a6 _ h39) (.cons (bnf h40) .nil))))
    · rw [if_neg h40] at h
      obtain rfl := Option.some.inj h
      exact pend_sound TTok mix 12 (hs := [.r ((eI .i64) v_r38), .t true, .c, .c, .r (eB v_r39), .c, .t true]) (by kernel_rfl) (by kernel_rfl) (by kernel_rfl) (.cons (G_area_Check_ok n v_l5 _ h37) (.cons (bt h38) (.cons (G_area_right_ok n v_a6 _ h39) (.cons (bnt (vf h40)) .nil))))
  · rw [if_neg h38] at h
    obtain rfl := Option.some.inj h
    exact pend_sound TTok mix 12 (hs := [.r ((eI .i64) v_r38), .t false, .c, .c, .c]) (by kernel_rfl) (by kernel_rfl) (by kernel_rfl) (.cons (G_area_Check_ok n v_l5 _ h37) (.cons (bf h38) .nil))
inductive G_area_many_L1_R where
  | x0 (v_n48 : Int)
def G_area_many_L1_ex : G_area_many_L1_R → Ex
  | .x0 _ => .exit 0
def G_area_many_L1_st (v_from42 : Int) (v_to43 : Int) (v_l41 : (List S_area_Area)) : G_area_many_L1_R → PS
  | .x0 v_n48 => ⟨[dd, dd, dd, dd, dd, dd, dd, .d (.v (.int .i64 v_n48)), dd, dd, dd, dd, dd, dd, dd, dd, dd, dd, dd, dd, dd, dd, dd, dd, dd, dd, dd, dd, dd, dd, dd, dd, dd], []⟩
def G_area_many_L1_hd (v_from42 : Int) (v_to43 : Int) (v_l41 : (List S_area_Area)) (v_n44 : Int) (v_x45 : Int) : PS := ⟨[dd, .d (.v (.int .i64 v_from42)), .d (.v (.int .i64 v_to43)), dd, dd, dd, dd, .d (.v (.int .i64 v_n44)), dd, dd, .d (.sl (v_l41.map eS_area_Area)), .d (.v (.int .i64 (v_l41.length : Int))), .d (.v (.int .i64 v_x45)), dd, dd, dd, dd, dd, dd, dd, dd, dd, dd, dd, dd, dd, dd, dd, dd, dd, dd, dd, dd], []⟩
def G_area_many_L1 (n : Nat) (v_from42 : Int) (v_to43 : Int) (v_l41 : (List S_area_Area)) : Nat → Int → Int → Option G_area_many_L1_R
  | 0, _, _ => none
  | k + 1, v_n44, v_x45 =>
    if v_x45 < (v_l41.length : Int) then
     (getI v_l41 v_x45).bind fun (v_y47 : S_area_Area) =>
     G_area_many_L1 n v_from42 v_to43 v_l41 k (wi .i64 (v_n44 + (maxI 0 (wi .i64 ((minI (wi .i64 (v_y47.fPage + v_y47.fN)) v_to43) - (maxI v_y47.fPage v_from42)))))) (wi .i64 (v_x45 + 1))
    else
     some (.x0 v_n44)
theorem G_area_many_L1_ok {Fi : Ex → PS → Prop} (hF : KC 33 Fi) (ks : List Fr) (n : Nat) (v_from42 : Int) (v_to43 : Int) (v_l41 : (List S_area_Area))  : ∀ (k : Nat) (v_n44 : Int) (v_x45 : Int) (o : G_area_many_L1_R), G_area_many_L1 n v_from42 v_to43 v_l41 k v_n44 v_x45 = some o → RunE Try.prog 33 Fi ks (G_area_many_L1_ex o) (G_area_many_L1_st v_from42 v_to43 v_l41 o) → RunE Try.prog 33 Fi (.l k (cP (cB (cR (cL (cR (cR (bodyOf Try.f125))))))) :: ks) .normal (G_area_many_L1_hd v_from42 v_to43 v_l41 v_n44 v_x45)
  | 0, v_n44, v_x45, o, h, q => by rw [G_area_many_L1] at h; cases h
  | k + 1, v_n44, v_x45, o, h, q => by
    rw [G_area_many_L1] at h
    by_cases h44 : v_x45 < (v_l41.length : Int)
    · rw [if_pos h44] at h
      obtain ⟨v_y47, h46, h⟩ := bind_some h
      exact pkk_sound TTok mix hF 13 (hs := [.t true, .y (eS_area_Area v_y47), .c, .c, .c, .c]) (ts := []) (s := []) (l := [1, 2, 7, 10, 11, 12]) (by kernel_rfl) (by kernel_rfl) (.cons (dt h44) (.cons (getI_ob (f := eS_area_Area) h46) (.cons (show 0 + 3 ≤ 3 by decide) .nil))) (G_area_many_L1_ok hF ks n v_from42 v_to43 v_l41 k (wi .i64 (v_n44 + (maxI 0 (wi .i64 ((minI (wi .i64 (v_y47.fPage + v_y47.fN)) v_to43) - (maxI v_y47.fPage v_from42)))))) (wi .i64 (v_x45 + 1)) _ h q)
    · rw [if_neg h44] at h
      cases h
      exact pkk_sound TTok mix hF 8 (hs := [.t false]) (ts := []) (s := []) (l := [7]) (by kernel_rfl) (by kernel_rfl) (.cons (df h44) .nil) q
/- ringhall/area.many -/
def G_area_many (n : Nat) (v_l41 : (List S_area_Area)) (v_from42 : Int) (v_to43 : Int) : Option (Int) :=
  (G_area_many_L1 n v_from42 v_to43 v_l41 n 0 0).bind fun v_o49 => match v_o49 with
  | .x0 v_z50 =>
    some v_z50
theorem G_area_many_ok (n : Nat) (v_l41 : (List S_area_Area)) (v_from42 : Int) (v_to43 : Int) (r : Int) (h : G_area_many n v_l41 v_from42 v_to43 = some r) : Ret Try.prog 125 [(eL eS_area_Area) v_l41, (eI .i64) v_from42, (eI .i64) v_to43] ((eI .i64) r) := by
  refine ret_run (n := 33) (fn := Try.f125) (c := bodyOf Try.f125) (by kernel_rfl) (by kernel_rfl) (by kernel_rfl) (by kernel_rfl) ?_
  have hF : KC 33 (FinR Try.prog Try.f125 ((eI .i64) r)) := FinR.kc' (by kernel_rfl)
  unfold G_area_many at h
  obtain ⟨v_o49, h47, h⟩ := bind_some h
  refine pkk_sound TTok mix hF 9 (hs := [.u (.d (.v (.int .i64 (v_l41.length : Int)))), .n n]) (ts := []) (s := []) (l := [1, 2, 7, 10, 11, 12]) (by kernel_rfl) (by kernel_rfl) (.cons (len_ob (f := eS_area_Area) (l := v_l41)) .nil) (G_area_many_L1_ok hF (.b 0 :: .s (cR (cR (cR (bodyOf Try.f125)))) :: []) n v_from42 v_to43 v_l41 n 0 0 _ h47 ?_)
  cases v_o49 with
  | x0 v_z50 =>
    try dsimp only at h
    obtain rfl := Option.some.inj h
    exact pend_sound TTok mix 4 (hs := []) (by kernel_rfl) (by kernel_rfl) (by kernel_rfl) .nil
/- slices.Clone[[]ringhall/area.Area,ringhall/area.Area] -/
def G_slices_Clone_area_Area_area_Area_A (n : Nat) (v_c52 : Nat) : Option ((List S_area_Area)) :=
  some ([] : List S_area_Area)
theorem G_slices_Clone_area_Area_area_Area_A_ok (n : Nat) (v_c52 : Nat) (r : (List S_area_Area)) (h : G_slices_Clone_area_Area_area_Area_A n v_c52 = some r) : RetH Try.prog 127 [.d (.v (.slice none 0 v_c52))] [] (.srf 0) [.row 110 3 (r.map eS_area_Area)] := by
  refine retH_run (n := 8) (fn := Try.f127) (c := bodyOf Try.f127) (by kernel_rfl) (by kernel_rfl) (by kernel_rfl) (by kernel_rfl) ?_
  have hF : KC 8 (FinH Try.prog Try.f127 [] (.srf 0) [.row 110 3 (r.map eS_area_Area)]) := FinH.kc' (by kernel_rfl)
  unfold G_slices_Clone_area_Area_area_Area_A at h
  obtain rfl := Option.some.inj h
  exact pendH_sound TTok mix 11 (hs := [.c, .dl 4, .th 2 110 3]) [12] (by kernel_rfl) (by kernel_rfl) (by kernel_rfl) .nil
/- slices.Clone[[]ringhall/area.Area,ringhall/area.Area] -/
def G_slices_Clone_area_Area_area_Area_B (n : Nat) (v_a53 : Addr) (v_c54 : Nat) : Option ((List S_area_Area)) :=
  (app 24 ([] : List S_area_Area) ([] : (List S_area_Area))).bind fun (v_a55 : (List S_area_Area)) =>
  some v_a55
theorem G_slices_Clone_area_Area_area_Area_B_ok (n : Nat) (v_a53 : Addr) (v_c54 : Nat) (r : (List S_area_Area)) (h : G_slices_Clone_area_Area_area_Area_B n v_a53 v_c54 = some r) : RetH Try.prog 127 [.d (.v (.slice (some v_a53) 0 v_c54))] [] (.srf 0) [.row 110 3 (r.map eS_area_Area)] := by
  refine retH_run (n := 8) (fn := Try.f127) (c := bodyOf Try.f127) (by kernel_rfl) (by kernel_rfl) (by kernel_rfl) (by kernel_rfl) ?_
  have hF : KC 8 (FinH Try.prog Try.f127 [] (.srf 0) [.row 110 3 (r.map eS_area_Area)]) := FinH.kc' (by kernel_rfl)
  unfold G_slices_Clone_area_Area_area_Area_B at h
  obtain ⟨v_a55, h50, h⟩ := bind_some h
  obtain rfl := Option.some.inj h
  exact pendH_sound TTok mix 10 (hs := [.c, .w (([] : List S_area_Area).map eS_area_Area), .w (v_a55.map eS_area_Area)]) [15] (by kernel_rfl) (by kernel_rfl) (by kernel_rfl) (.cons (Eq.refl (([] : List S_area_Area).map eS_area_Area)) (.cons (app_ob (f := eS_area_Area) (s := 3) h50 (fun _ => rfl)).1 (.cons (app_ob (f := eS_area_Area) (s := 3) h50 (fun _ => rfl)).2.1 (.cons (app_ob (f := eS_area_Area) (s := 3) h50 (fun _ => rfl)).2.2.1 (.cons (app_ob (f := eS_area_Area) (s := 3) h50 (fun _ => rfl)).2.2.2 .nil)))))
/- slices.Clone[[]ringhall/area.Area,ringhall/area.Area] -/
def G_slices_Clone_area_Area_area_Area_C (n : Nat) (v_y56 : S_area_Area) (v_ys57 : (List S_area_Area)) : Option ((List S_area_Area)) :=
  (app 24 ([] : List S_area_Area) (v_y56 :: v_ys57)).bind fun (v_a58 : (List S_area_Area)) =>
  some v_a58
theorem G_slices_Clone_area_Area_area_Area_C_ok (n : Nat) (v_y56 : S_area_Area) (v_ys57 : (List S_area_Area)) (r : (List S_area_Area)) (h : G_slices_Clone_area_Area_area_Area_C n v_y56 v_ys57 = some r) : RetH Try.prog 127 [.d (.sl (eS_area_Area v_y56 :: v_ys57.map eS_area_Area))] [] (.srf 0) [.row 110 3 (r.map eS_area_Area)] := by
  refine retH_run (n := 8) (fn := Try.f127) (c := bodyOf Try.f127) (by kernel_rfl) (by kernel_rfl) (by kernel_rfl) (by kernel_rfl) ?_
  have hF : KC 8 (FinH Try.prog Try.f127 [] (.srf 0) [.row 110 3 (r.map eS_area_Area)]) := FinH.kc' (by kernel_rfl)
  unfold G_slices_Clone_area_Area_area_Area_C at h
  obtain ⟨v_a58, h51, h⟩ := bind_some h
  obtain rfl := Option.some.inj h
  exact pendH_sound TTok mix 10 (hs := [.c, .w (([] : List S_area_Area).map eS_area_Area), .w (v_a58.map eS_area_Area)]) [15] (by kernel_rfl) (by kernel_rfl) (by kernel_rfl) (.cons (Eq.refl (([] : List S_area_Area).map eS_area_Area)) (.cons (app_ob (f := eS_area_Area) (s := 3) h51 (fun _ => rfl)).1 (.cons (app_ob (f := eS_area_Area) (s := 3) h51 (fun _ => rfl)).2.1 (.cons (app_ob (f := eS_area_Area) (s := 3) h51 (fun _ => rfl)).2.2.1 (.cons (app_ob (f := eS_area_Area) (s := 3) h51 (fun _ => rfl)).2.2.2 .nil)))))
def G_slices_Clone_area_Area_area_Area (n : Nat) (xs : (List S_area_Area)) : Option (List S_area_Area) := app 24 [] xs
theorem G_slices_Clone_area_Area_area_Area_ok (n : Nat) (xs : (List S_area_Area)) (r : (List S_area_Area)) (h : G_slices_Clone_area_Area_area_Area n xs = some r) : RetH Try.prog 127 [.d (.sl (xs.map eS_area_Area))] [] (.srf 0) [.row 110 3 (r.map eS_area_Area)] := by
  unfold G_slices_Clone_area_Area_area_Area at h
  have e : app 24 ([] : (List S_area_Area)) [] = some [] := by simp [app]
  cases xs with
  | nil =>
    rw [e] at h; obtain rfl := Option.some.inj h
    exact clone_nil (fun c => G_slices_Clone_area_Area_area_Area_A_ok n c _ (by unfold G_slices_Clone_area_Area_area_Area_A; rfl)) (fun a c => G_slices_Clone_area_Area_area_Area_B_ok n a c _ (by unfold G_slices_Clone_area_Area_area_Area_B; rw [e]; rfl))
  | cons y ys => exact G_slices_Clone_area_Area_area_Area_C_ok n y ys _ (by unfold G_slices_Clone_area_Area_area_Area_C; rw [h]; rfl)
/- slices.Insert[[]ringhall/area.Area,ringhall/area.Area] -/
def G_slices_Insert_area_Area_area_Area_hC (n : Nat) (v_C74 : Nat) (v_s73 : (List S_area_Area)) (v_i75 : Int) (v_v76 : (List S_area_Area)) : Option ((List S_area_Area)) :=
  if (0 ≤ v_i75 ∧ v_i75 ≤ (v_s73.length : Int)) ∧ v_s73.length ≤ v_C74 then
   if (v_v76.length : Int) = 0 then
    some v_s73
   else
    if v_i75 = (v_s73.length : Int) then
     (app 24 v_s73 v_v76).bind fun (v_a78 : (List S_area_Area)) =>
     some v_a78
    else
     if (wi .i64 ((v_s73.length : Int) + (v_v76.length : Int))) > (v_C74 : Int) then
      if (0 ≤ v_i75 ∧ v_i75 ≤ (v_s73.length : Int)) ∧ v_s73.length ≤ v_C74 then
       if (wi .i64 ((wi .i64 ((v_s73.length : Int) + (v_v76.length : Int))) - v_i75)) = (((v_s73.length + v_v76.length - v_i75.toNat) : Nat) : Int) ∧ v_i75.toNat ≤ v_s73.length ∧ 0 < (v_s73.length + v_v76.length - v_i75.toNat) ∧ v_C74 < v_i75.toNat + (v_s73.length + v_v76.length - v_i75.toNat) ∧ v_i75.toNat + (v_s73.length + v_v76.length - v_i75.toNat) ≤ maxLen ∧ (v_i75.toNat + (v_s73.length + v_v76.length - v_i75.toNat)) * 24 ≤ 140737488355328 then
        if (0 ≤ v_i75 ∧ v_i75 ≤ ((v_s73.take v_i75.toNat ++ List.replicate (v_s73.length + v_v76.length - v_i75.toNat) (S_area_Area.mk 0 0 0)).length : Int)) then
         if (v_s73.take v_i75.toNat ++ List.replicate (v_s73.length + v_v76.length - v_i75.toNat) (S_area_Area.mk 0 0 0)).length ≤ (v_s73.take v_i75.toNat ++ List.replicate (v_s73.length + v_v76.length - v_i75.toNat) (S_area_Area.mk 0 0 0)).length then
          if (0 ≤ (wi .i64 (v_i75 + (v_v76.length : Int))) ∧ (wi .i64 (v_i75 + (v_v76.length : Int))) ≤ ((cpyR (v_s73.take v_i75.toNat ++ List.replicate (v_s73.length + v_v76.length - v_i75.toNat) (S_area_Area.mk 0 0 0)) v_i75.toNat ((v_s73.take v_i75.toNat ++ List.replicate (v_s73.length + v_v76.length - v_i75.toNat) (S_area_Area.mk 0 0 0)).length) v_v76).length : Int)) then
           if (0 ≤ v_i75 ∧ v_i75 ≤ (v_s73.length : Int)) ∧ v_s73.length ≤ v_C74 then
            if (cpyR (v_s73.take v_i75.toNat ++ List.replicate (v_s73.length + v_v76.length - v_i75.toNat) (S_area_Area.mk 0 0 0)) v_i75.toNat ((v_s73.take v_i75.toNat ++ List.replicate (v_s73.length + v_v76.length - v_i75.toNat) (S_area_Area.mk 0 0 0)).length) v_v76).length ≤ (cpyR (v_s73.take v_i75.toNat ++ List.replicate (v_s73.length + v_v76.length - v_i75.toNat) (S_area_Area.mk 0 0 0)) v_i75.toNat ((v_s73.take v_i75.toNat ++ List.replicate (v_s73.length + v_v76.length - v_i75.toNat) (S_area_Area.mk 0 0 0)).length) v_v76).length ∧ v_s73.length ≤ v_s73.length then
             some (cpyR (cpyR (v_s73.take v_i75.toNat ++ List.replicate (v_s73.length + v_v76.length - v_i75.toNat) (S_area_Area.mk 0 0 0)) v_i75.toNat ((v_s73.take v_i75.toNat ++ List.replicate (v_s73.length + v_v76.length - v_i75.toNat) (S_area_Area.mk 0 0 0)).length) v_v76) ((wi .i64 (v_i75 + (v_v76.length : Int))).toNat) ((cpyR (v_s73.take v_i75.toNat ++ List.replicate (v_s73.length + v_v76.length - v_i75.toNat) (S_area_Area.mk 0 0 0)) v_i75.toNat ((v_s73.take v_i75.toNat ++ List.replicate (v_s73.length + v_v76.length - v_i75.toNat) (S_area_Area.mk 0 0 0)).length) v_v76).length) ((v_s73.take v_s73.length).drop v_i75.toNat))
            else none
           else none
          else none
         else none
        else none
       else none
      else none
     else
      if 0 < v_v76.length ∧ (v_s73.length + v_v76.length) ≤ v_C74 ∧ (wi .i64 ((v_s73.length : Int) + (v_v76.length : Int))) = (((v_s73.length + v_v76.length) : Nat) : Int) then
       if (wi .i64 (v_i75 + (v_v76.length : Int))) = (((v_i75.toNat + v_v76.length) : Nat) : Int) ∧ (v_i75.toNat + v_v76.length) ≤ (v_s73.length + v_v76.length) then
        if (wi .i64 (v_i75 + (v_v76.length : Int))) = (((v_i75.toNat + v_v76.length) : Nat) : Int) ∧ (v_i75.toNat + v_v76.length) ≤ (v_s73.length + v_v76.length) then
         if 0 ≤ v_i75 ∧ v_i75 ≤ (((v_s73.length + v_v76.length) : Nat) : Int) then
          if 0 ≤ v_i75 ∧ v_i75 ≤ (((v_s73.length + v_v76.length) : Nat) : Int) then
           some ((v_s73.take v_i75.toNat) ++ v_v76 ++ (v_s73.drop v_i75.toNat))
          else none
         else none
        else none
       else none
      else none
  else none
theorem G_slices_Insert_area_Area_area_Area_hC_ok (n : Nat) (v_C74 : Nat) (v_s73 : (List S_area_Area)) (v_i75 : Int) (v_v76 : (List S_area_Area)) (r : (List S_area_Area)) (h : G_slices_Insert_area_Area_area_Area_hC n v_C74 v_s73 v_i75 v_v76 = some r) : RetH Try.prog 146 [.srf 0, .d ((eI .i64) v_i75), .d ((eL eS_area_Area) v_v76)] [.cu (rowC 110 3 v_C74 (v_s73.map eS_area_Area)) []] (.srf 1) [.none, .row 110 3 (r.map eS_area_Area)] := by
  refine retH_run (n := 95) (fn := Try.f146) (c := bodyOf Try.f146) (by kernel_rfl) (by kernel_rfl) (by kernel_rfl) (by kernel_rfl) ?_
  have hF : KC 95 (FinH Try.prog Try.f146 [.cu (rowC 110 3 v_C74 (v_s73.map eS_area_Area)) []] (.srf 1) [.none, .row 110 3 (r.map eS_area_Area)]) := FinH.kc' (by kernel_rfl)
  unfold G_slices_Insert_area_Area_area_Area_hC at h
  by_cases h61 : (0 ≤ v_i75 ∧ v_i75 ≤ (v_s73.length : Int)) ∧ v_s73.length ≤ v_C74
  · rw [if_pos h61] at h
    by_cases h62 : (v_v76.length : Int) = 0
    · rw [if_pos h62] at h
      obtain rfl := Option.some.inj h
      exact pendH_sound TTok mix 14 (hs := [.e 11 [0] (.ssl 0 v_i75.toNat v_s73.length 3) [], .u (.d (.v (.int .i64 (v_v76.length : Int)))), .t true, .e 29 [0, 29] (.srf 29) [(0, .none), (29, .row 110 3 (v_s73.map eS_area_Area))]]) [0, 29] (by kernel_rfl) (by kernel_rfl) (by kernel_rfl) (.cons (ext_same (yc10 (P := Try.prog) (T := TT) (f := eS_area_Area) (t := 108) (e := 110) (s := 3) (l := 0) (L := v_s73) (x := (.tmp 10)) (C := v_C74) (lo := (.tmp 11)) (A := v_i75) (ka := .i64) (by kernel_rfl) h61.1 h61.2)) (.cons (len_ob (f := eS_area_Area) (l := v_v76)) (.cons (bt h62) (.cons (ymv (L := v_s73) (C := v_C74) (P := Try.prog) (T := TT) (f := eS_area_Area) (e := 110) (s := 3) (l := 0) (nl := 29) (x := (.tmp 0)) (by decide)) .nil))))
    · rw [if_neg h62] at h
      by_cases h65 : v_i75 = (v_s73.length : Int)
      · rw [if_pos h65] at h
        obtain ⟨v_a78, h66, h⟩ := bind_some h
        obtain rfl := Option.some.inj h
        exact pendH_sound TTok mix 21 (hs := [.e 11 [0] (.ssl 0 v_i75.toNat v_s73.length 3) [], .u (.d (.v (.int .i64 (v_v76.length : Int)))), .t false, .e 32 [0] (.d (.v (.int .i64 (v_s73.length : Int)))) [], .t true, .e 53 [0, 53] (.srf 53) [(0, .none), (53, .row 110 3 (v_a78.map eS_area_Area))]]) [0, 53] (by kernel_rfl) (by kernel_rfl) (by kernel_rfl) (.cons (ext_same (yc10 (P := Try.prog) (T := TT) (f := eS_area_Area) (t := 108) (e := 110) (s := 3) (l := 0) (L := v_s73) (x := (.tmp 10)) (C := v_C74) (lo := (.tmp 11)) (A := v_i75) (ka := .i64) (by kernel_rfl) h61.1 h61.2)) (.cons (len_ob (f := eS_area_Area) (l := v_v76)) (.cons (bf h62) (.cons (ylen (P := Try.prog) (T := TT) (f := eS_area_Area) (t := 108) (e := 110) (s := 3) (l := 0) (L := v_s73) (C := v_C74) (x := (.tmp 18)) (by kernel_rfl)) (.cons (bt h65) (.cons (yapp (P := Try.prog) (T := TT) (f := eS_area_Area) (t := 108) (e := 110) (s := 3) (l := 0) (nl := 53) (C := v_C74) (x := (.tmp 23)) (y := (.tmp 24)) (ti := ⟨3, 24, .st [(0, 3), (1, 3), (2, 3)], [.i .i64, .i .i64, .i .i64]⟩) (by kernel_rfl) h66 (by kernel_rfl) (by kernel_rfl) (by decide) (fun _ => rfl) (by decide)) .nil))))))
      · rw [if_neg h65] at h
        by_cases h75 : (wi .i64 ((v_s73.length : Int) + (v_v76.length : Int))) > (v_C74 : Int)
        · rw [if_pos h75] at h
          by_cases h76 : (0 ≤ v_i75 ∧ v_i75 ≤ (v_s73.length : Int)) ∧ v_s73.length ≤ v_C74
          · rw [if_pos h76] at h
            by_cases h77 : (wi .i64 ((wi .i64 ((v_s73.length : Int) + (v_v76.length : Int))) - v_i75)) = (((v_s73.length + v_v76.length - v_i75.toNat) : Nat) : Int) ∧ v_i75.toNat ≤ v_s73.length ∧ 0 < (v_s73.length + v_v76.length - v_i75.toNat) ∧ v_C74 < v_i75.toNat + (v_s73.length + v_v76.length - v_i75.toNat) ∧ v_i75.toNat + (v_s73.length + v_v76.length - v_i75.toNat) ≤ maxLen ∧ (v_i75.toNat + (v_s73.length + v_v76.length - v_i75.toNat)) * 24 ≤ 140737488355328
            · rw [if_pos h77] at h
              by_cases h78 : (0 ≤ v_i75 ∧ v_i75 ≤ ((v_s73.take v_i75.toNat ++ List.replicate (v_s73.length + v_v76.length - v_i75.toNat) (S_area_Area.mk 0 0 0)).length : Int))
              · rw [if_pos h78] at h
                by_cases h79 : (v_s73.take v_i75.toNat ++ List.replicate (v_s73.length + v_v76.length - v_i75.toNat) (S_area_Area.mk 0 0 0)).length ≤ (v_s73.take v_i75.toNat ++ List.replicate (v_s73.length + v_v76.length - v_i75.toNat) (S_area_Area.mk 0 0 0)).length
                · rw [if_pos h79] at h
                  by_cases h80 : (0 ≤ (wi .i64 (v_i75 + (v_v76.length : Int))) ∧ (wi .i64 (v_i75 + (v_v76.length : Int))) ≤ ((cpyR (v_s73.take v_i75.toNat ++ List.replicate (v_s73.length + v_v76.length - v_i75.toNat) (S_area_Area.mk 0 0 0)) v_i75.toNat ((v_s73.take v_i75.toNat ++ List.replicate (v_s73.length + v_v76.length - v_i75.toNat) (S_area_Area.mk 0 0 0)).length) v_v76).length : Int))
                  · rw [if_pos h80] at h
                    by_cases h81 : (0 ≤ v_i75 ∧ v_i75 ≤ (v_s73.length : Int)) ∧ v_s73.length ≤ v_C74
                    · rw [if_pos h81] at h
                      by_cases h82 : (cpyR (v_s73.take v_i75.toNat ++ List.replicate (v_s73.length + v_v76.length - v_i75.toNat) (S_area_Area.mk 0 0 0)) v_i75.toNat ((v_s73.take v_i75.toNat ++ List.replicate (v_s73.length + v_v76.length - v_i75.toNat) (S_area_Area.mk 0 0 0)).length) v_v76).length ≤ (cpyR (v_s73.take v_i75.toNat ++ List.replicate (v_s73.length + v_v76.length - v_i75.toNat) (S_area_Area.mk 0 0 0)) v_i75.toNat ((v_s73.take v_i75.toNat ++ List.replicate (v_s73.length + v_v76.length - v_i75.toNat) (S_area_Area.mk 0 0 0)).length) v_v76).length ∧ v_s73.length ≤ v_s73.length
                      · rw [if_pos h82] at h
                        obtain rfl := Option.some.inj h
                        exact pendH_sound TTok mix 32 (hs := [.e 11 [0] (.ssl 0 v_i75.toNat v_s73.length 3) [], .u (.d (.v (.int .i64 (v_v76.length : Int)))), .t false, .e 32 [0] (.d (.v (.int .i64 (v_s73.length : Int)))) [], .t false, .e 59 [0] (.d (.v (.int .i64 (v_C74 : Int)))) [], .t true, .e 71 [0] (.ssl 0 0 v_i75.toNat 3) [], .e 89 [0, 89] (.srf 89) [(89, .row 110 3 ((v_s73.take v_i75.toNat ++ List.replicate (v_s73.length + v_v76.length - v_i75.toNat) (S_area_Area.mk 0 0 0)).map eS_area_Area))], .e 101 [89] (.ssl 89 v_i75.toNat ((v_s73.take v_i75.toNat ++ List.replicate (v_s73.length + v_v76.length - v_i75.toNat) (S_area_Area.mk 0 0 0)).length) 3) [], .e 107 [89] (.d (.v (.int .i64 ((Nat.min v_v76.length ((v_s73.take v_i75.toNat ++ List.replicate (v_s73.length + v_v76.length - v_i75.toNat) (S_area_Area.mk 0 0 0)).length - v_i75.toNat) : Nat) : Int)))) [(89, .row 110 3 ((cpyR (v_s73.take v_i75.toNat ++ List.replicate (v_s73.length + v_v76.length - v_i75.toNat) (S_area_Area.mk 0 0 0)) v_i75.toNat ((v_s73.take v_i75.toNat ++ List.replicate (v_s73.length + v_v76.length - v_i75.toNat) (S_area_Area.mk 0 0 0)).length) v_v76).map eS_area_Area))], .e 122 [89] (.ssl 89 ((wi .i64 (v_i75 + (v_v76.length : Int))).toNat) ((cpyR (v_s73.take v_i75.toNat ++ List.replicate (v_s73.length + v_v76.length - v_i75.toNat) (S_area_Area.mk 0 0 0)) v_i75.toNat ((v_s73.take v_i75.toNat ++ List.replicate (v_s73.length + v_v76.length - v_i75.toNat) (S_area_Area.mk 0 0 0)).length) v_v76).length) 3) [], .e 131 [0] (.ssl 0 v_i75.toNat v_s73.length 3) [], .e 134 [89, 0] (.d (.v (.int .i64 ((Nat.min ((v_s73.take v_s73.length).drop v_i75.toNat).length ((cpyR (v_s73.take v_i75.toNat ++ List.replicate (v_s73.length + v_v76.length - v_i75.toNat) (S_area_Area.mk 0 0 0)) v_i75.toNat ((v_s73.take v_i75.toNat ++ List.replicate (v_s73.length + v_v76.length - v_i75.toNat) (S_area_Area.mk 0 0 0)).length) v_v76).length - (wi .i64 (v_i75 + (v_v76.length : Int))).toNat) : Nat) : Int)))) [(89, .row 110 3 ((cpyR (cpyR (v_s73.take v_i75.toNat ++ List.replicate (v_s73.length + v_v76.length - v_i75.toNat) (S_area_Area.mk 0 0 0)) v_i75.toNat ((v_s73.take v_i75.toNat ++ List.replicate (v_s73.length + v_v76.length - v_i75.toNat) (S_area_Area.mk 0 0 0)).length) v_v76) ((wi .i64 (v_i75 + (v_v76.length : Int))).toNat) ((cpyR (v_s73.take v_i75.toNat ++ List.replicate (v_s73.length + v_v76.length - v_i75.toNat) (S_area_Area.mk 0 0 0)) v_i75.toNat ((v_s73.take v_i75.toNat ++ List.replicate (v_s73.length + v_v76.length - v_i75.toNat) (S_area_Area.mk 0 0 0)).length) v_v76).length) ((v_s73.take v_s73.length).drop v_i75.toNat)).map eS_area_Area)), (0, .none)]]) [0, 89] (by kernel_rfl) (by kernel_rfl) (by kernel_rfl) (.cons (ext_same (yc10 (P := Try.prog) (T := TT) (f := eS_area_Area) (t := 108) (e := 110) (s := 3) (l := 0) (L := v_s73) (x := (.tmp 10)) (C := v_C74) (lo := (.tmp 11)) (A := v_i75) (ka := .i64) (by kernel_rfl) h61.1 h61.2)) (.cons (len_ob (f := eS_area_Area) (l := v_v76)) (.cons (bf h62) (.cons (ylen (P := Try.prog) (T := TT) (f := eS_area_Area) (t := 108) (e := 110) (s := 3) (l := 0) (L := v_s73) (C := v_C74) (x := (.tmp 18)) (by kernel_rfl)) (.cons (bf h65) (.cons (ycap (P := Try.prog) (T := TT) (f := eS_area_Area) (t := 108) (e := 110) (s := 3) (l := 0) (L := v_s73) (C := v_C74) (x := (.tmp 29)) (by kernel_rfl)) (.cons (dt h75) (.cons (ext_same (yc01 (P := Try.prog) (T := TT) (f := eS_area_Area) (t := 108) (e := 110) (s := 3) (l := 0) (L := v_s73) (x := (.tmp 32)) (C := v_C74) (hi := (.tmp 33)) (B := v_i75) (kb := .i64) (by kernel_rfl) h76.1 h76.2)) (.cons (yapZ (P := Try.prog) (T := TT) (f := eS_area_Area) (t := 108) (e := 110) (s := 3) (l := 0) (nl := 89) (C := v_C74) (i := v_i75.toNat) (k := (v_s73.length + v_v76.length - v_i75.toNat)) (L := v_s73) (x := (.tmp 34)) (y := (.tmp 39)) (ti := ⟨3, 24, .st [(0, 3), (1, 3), (2, 3)], [.i .i64, .i .i64, .i .i64]⟩) (tn := 3) (kn := .i64) (kq := .i64) (z := (S_area_Area.mk 0 0 0)) (p := .agg [.v (.int .i64 0), .v (.int .i64 0), .v (.int .i64 0)]) (B := (wi .i64 ((wi .i64 ((v_s73.length : Int) + (v_v76.length : Int))) - v_i75))) (by kernel_rfl) (by kernel_rfl) (by kernel_rfl) (by kernel_rfl) (by kernel_rfl) (by decide) rfl h77.1 h77.2.1 h77.2.2.1 h77.2.2.2.1 h77.2.2.2.2.1 h77.2.2.2.2.2 (by decide)) (.cons (xs10 (P := Try.prog) (T := TT) (f := eS_area_Area) (t := 108) (e := 110) (s := 3) (l := 89) (L := (v_s73.take v_i75.toNat ++ List.replicate (v_s73.length + v_v76.length - v_i75.toNat) (S_area_Area.mk 0 0 0))) (x := (.tmp 41)) (lo := (.tmp 42)) (a := v_i75) (ka := .i64) (by kernel_rfl) h78) (.cons (xcpD (P := Try.prog) (T := TT) (f := eS_area_Area) (t := 108) (t' := 108) (e := 110) (s := 3) (l := 89) (x := (.tmp 43)) (y := (.tmp 44)) (ti := ⟨3, 24, .st [(0, 3), (1, 3), (2, 3)], [.i .i64, .i .i64, .i .i64]⟩) (L := (v_s73.take v_i75.toNat ++ List.replicate (v_s73.length + v_v76.length - v_i75.toNat) (S_area_Area.mk 0 0 0))) (Y := v_v76) (i := v_i75.toNat) (j := (v_s73.take v_i75.toNat ++ List.replicate (v_s73.length + v_v76.length - v_i75.toNat) (S_area_Area.mk 0 0 0)).length) (by kernel_rfl) (by kernel_rfl) h79 (fun _ => rfl)) (.cons (xs10 (P := Try.prog) (T := TT) (f := eS_area_Area) (t := 108) (e := 110) (s := 3) (l := 89) (L := (cpyR (v_s73.take v_i75.toNat ++ List.replicate (v_s73.length + v_v76.length - v_i75.toNat) (S_area_Area.mk 0 0 0)) v_i75.toNat ((v_s73.take v_i75.toNat ++ List.replicate (v_s73.length + v_v76.length - v_i75.toNat) (S_area_Area.mk 0 0 0)).length) v_v76)) (x := (.tmp 46)) (lo := (.tmp 49)) (a := (wi .i64 (v_i75 + (v_v76.length : Int)))) (ka := .i64) (by kernel_rfl) h80) (.cons (ext_same (yc10 (P := Try.prog) (T := TT) (f := eS_area_Area) (t := 108) (e := 110) (s := 3) (l := 0) (L := v_s73) (x := (.tmp 51)) (C := v_C74) (lo := (.tmp 52)) (A := v_i75) (ka := .i64) (by kernel_rfl) h81.1 h81.2)) (.cons (ext_kill (l := 0) (ycpC (P := Try.prog) (T := TT) (f := eS_area_Area) (t := 108) (t' := 108) (e := 110) (s := 3) (l := 89) (x := (.tmp 50)) (y := (.tmp 53)) (ti := ⟨3, 24, .st [(0, 3), (1, 3), (2, 3)], [.i .i64, .i .i64, .i .i64]⟩) (L := (cpyR (v_s73.take v_i75.toNat ++ List.replicate (v_s73.length + v_v76.length - v_i75.toNat) (S_area_Area.mk 0 0 0)) v_i75.toNat ((v_s73.take v_i75.toNat ++ List.replicate (v_s73.length + v_v76.length - v_i75.toNat) (S_area_Area.mk 0 0 0)).length) v_v76)) (i := (wi .i64 (v_i75 + (v_v76.length : Int))).toNat) (j := (cpyR (v_s73.take v_i75.toNat ++ List.replicate (v_s73.length + v_v76.length - v_i75.toNat) (S_area_Area.mk 0 0 0)) v_i75.toNat ((v_s73.take v_i75.toNat ++ List.replicate (v_s73.length + v_v76.length - v_i75.toNat) (S_area_Area.mk 0 0 0)).length) v_v76).length) (p := v_i75.toNat) (q := v_s73.length) (Y := v_s73) (l' := 0) (C := v_C74) (by kernel_rfl) (by kernel_rfl) h82.1 h82.2)) .nil))))))))))))))
                      · rw [if_neg h82] at h; cases h
                    · rw [if_neg h81] at h; cases h
                  · rw [if_neg h80] at h; cases h
                · rw [if_neg h79] at h; cases h
              · rw [if_neg h78] at h; cases h
            · rw [if_neg h77] at h; cases h
          · rw [if_neg h76] at h; cases h
        · rw [if_neg h75] at h
          by_cases h83 : 0 < v_v76.length ∧ (v_s73.length + v_v76.length) ≤ v_C74 ∧ (wi .i64 ((v_s73.length : Int) + (v_v76.length : Int))) = (((v_s73.length + v_v76.length) : Nat) : Int)
          · rw [if_pos h83] at h
            by_cases h84 : (wi .i64 (v_i75 + (v_v76.length : Int))) = (((v_i75.toNat + v_v76.length) : Nat) : Int) ∧ (v_i75.toNat + v_v76.length) ≤ (v_s73.length + v_v76.length)
            · rw [if_pos h84] at h
              by_cases h88 : (wi .i64 (v_i75 + (v_v76.length : Int))) = (((v_i75.toNat + v_v76.length) : Nat) : Int) ∧ (v_i75.toNat + v_v76.length) ≤ (v_s73.length + v_v76.length)
              · rw [if_pos h88] at h
                by_cases h89 : 0 ≤ v_i75 ∧ v_i75 ≤ (((v_s73.length + v_v76.length) : Nat) : Int)
                · rw [if_pos h89] at h
                  by_cases h90 : 0 ≤ v_i75 ∧ v_i75 ≤ (((v_s73.length + v_v76.length) : Nat) : Int)
                  · rw [if_pos h90] at h
                    obtain rfl := Option.some.inj h
                    exact pendH_sound TTok mix 37 (hs := [.e 11 [0] (.ssl 0 v_i75.toNat v_s73.length 3) [], .u (.d (.v (.int .i64 (v_v76.length : Int)))), .t false, .e 32 [0] (.d (.v (.int .i64 (v_s73.length : Int)))) [], .t false, .e 59 [0] (.d (.v (.int .i64 (v_C74 : Int)))) [], .t false, .e 77 [0] (.ssl 0 0 (v_s73.length + v_v76.length) 3) [(0, .cu (rowH 110 3 v_C74 (v_s73.map eS_area_Area) v_v76.length (([] : List S_area_Area).map eS_area_Area)) [])], .e 98 [0] (.ssl 0 (v_i75.toNat + v_v76.length) (v_s73.length + v_v76.length) 3) [], .e 101 [0] (.d (.v (.bool false))) [], .c, .e 119 [0] (.ssl 0 (v_i75.toNat + v_v76.length) (v_s73.length + v_v76.length) 3) [], .e 128 [0] (.ssl 0 v_i75.toNat (v_s73.length + v_v76.length) 3) [], .e 131 [0] (.d (.v (.int .i64 ((v_s73.length - v_i75.toNat : Nat) : Int)))) [(0, .cu (rowH 110 3 v_C74 ((v_s73.take v_i75.toNat).map eS_area_Area) v_v76.length ((v_s73.drop v_i75.toNat).map eS_area_Area)) [])], .e 140 [0] (.ssl 0 v_i75.toNat (v_s73.length + v_v76.length) 3) [], .e 146 [0] (.d (.v (.int .i64 (v_v76.length : Int)))) [(0, .cu (rowH 110 3 v_C74 (((v_s73.take v_i75.toNat) ++ v_v76 ++ (v_s73.drop v_i75.toNat)).map eS_area_Area) 0 (([] : List S_area_Area).map eS_area_Area)) [])], .e 149 [0, 149] (.srf 149) [(0, .none), (149, .row 110 3 (((v_s73.take v_i75.toNat) ++ v_v76 ++ (v_s73.drop v_i75.toNat)).map eS_area_Area))]]) [0, 149] (by kernel_rfl) (by kernel_rfl) (by kernel_rfl) (.cons (ext_same (yc10 (P := Try.prog) (T := TT) (f := eS_area_Area) (t := 108) (e := 110) (s := 3) (l := 0) (L := v_s73) (x := (.tmp 10)) (C := v_C74) (lo := (.tmp 11)) (A := v_i75) (ka := .i64) (by kernel_rfl) h61.1 h61.2)) (.cons (len_ob (f := eS_area_Area) (l := v_v76)) (.cons (bf h62) (.cons (ylen (P := Try.prog) (T := TT) (f := eS_area_Area) (t := 108) (e := 110) (s := 3) (l := 0) (L := v_s73) (C := v_C74) (x := (.tmp 18)) (by kernel_rfl)) (.cons (bf h65) (.cons (ycap (P := Try.prog) (T := TT) (f := eS_area_Area) (t := 108) (e := 110) (s := 3) (l := 0) (L := v_s73) (C := v_C74) (x := (.tmp 29)) (by kernel_rfl)) (.cons (df h75) (.cons (ycup (P := Try.prog) (T := TT) (f := eS_area_Area) (t := 108) (e := 110) (s := 3) (l := 0) (L := v_s73) (x := (.tmp 56)) (C := v_C74) (m := v_v76.length) (hi := (.tmp 59)) (B := (wi .i64 ((v_s73.length : Int) + (v_v76.length : Int)))) (kb := .i64) (by kernel_rfl) h83.1 h83.2.1 h83.2.2) (.cons (ext_same (yh10q (P := Try.prog) (T := TT) (f := eS_area_Area) (t := 108) (e := 110) (s := 3) (l := 0) (L := v_s73) (x := (.tmp 62)) (C := v_C74) (m := v_v76.length) (k := (v_s73.length + v_v76.length)) (Z := ([] : List S_area_Area)) (q := (v_i75.toNat + v_v76.length)) (lo := (.tmp 65)) (A := (wi .i64 (v_i75 + (v_v76.length : Int)))) (ka := .i64) (by kernel_rfl) (by simp only [List.length_take, List.length_drop, List.length_nil]; omega) h84.1 h84.2)) (.cons (yov (P := Try.prog) (T := TT) (f := eS_area_Area) (t := 108) (e := 110) (s := 3) (l := 0) (L := v_s73) (Y := v_v76) (Z := ([] : List S_area_Area)) (m := v_v76.length) (C := v_C74) (i := (v_i75.toNat + v_v76.length)) (j := (v_s73.length + v_v76.length)) (x := (.tmp 61)) (y := (.tmp 66)) (g := 153) (fn := Try.f153) (tR := 4) (tys := #[108, 108]) (by kernel_rfl) (by kernel_rfl) (by kernel_rfl) (by kernel_rfl) (by kernel_rfl) (by kernel_rfl) (by decide) (fun _ => rfl)) (.cons (ext_same (yh10q (P := Try.prog) (T := TT) (f := eS_area_Area) (t := 108) (e := 110) (s := 3) (l := 0) (L := v_s73) (x := (.tmp 69)) (C := v_C74) (m := v_v76.length) (k := (v_s73.length + v_v76.length)) (Z := ([] : List S_area_Area)) (q := (v_i75.toNat + v_v76.length)) (lo := (.tmp 72)) (A := (wi .i64 (v_i75 + (v_v76.length : Int)))) (ka := .i64) (by kernel_rfl) (by simp only [List.length_take, List.length_drop, List.length_nil]; omega) h88.1 h88.2)) (.cons (ext_same (yh10 (P := Try.prog) (T := TT) (f := eS_area_Area) (t := 108) (e := 110) (s := 3) (l := 0) (L := v_s73) (x := (.tmp 74)) (C := v_C74) (m := v_v76.length) (k := (v_s73.length + v_v76.length)) (Y := ([] : List S_area_Area)) (lo := (.tmp 75)) (A := v_i75) (ka := .i64) (by kernel_rfl) (by simp only [List.length_take, List.length_drop, List.length_nil]; omega) h89)) (.cons (ycpS (P := Try.prog) (T := TT) (f := eS_area_Area) (t := 108) (t' := 108) (e := 110) (s := 3) (l := 0) (x := (.tmp 73)) (y := (.tmp 76)) (ti := ⟨3, 24, .st [(0, 3), (1, 3), (2, 3)], [.i .i64, .i .i64, .i .i64]⟩) (L := v_s73) (i := v_i75.toNat) (m := v_v76.length) (C := v_C74) (by kernel_rfl) (by kernel_rfl) (by omega)) (.cons (ext_same (yh10 (P := Try.prog) (T := TT) (f := eS_area_Area) (t := 108) (e := 110) (s := 3) (l := 0) (L := (v_s73.take v_i75.toNat)) (x := (.tmp 78)) (C := v_C74) (m := v_v76.length) (k := (v_s73.length + v_v76.length)) (Y := (v_s73.drop v_i75.toNat)) (lo := (.tmp 79)) (A := v_i75) (ka := .i64) (by kernel_rfl) (by simp only [List.length_take, List.length_drop, List.length_nil]; omega) h90)) (.cons (ycpD (P := Try.prog) (T := TT) (f := eS_area_Area) (t := 108) (t' := 108) (e := 110) (s := 3) (l := 0) (x := (.tmp 80)) (y := (.tmp 81)) (ti := ⟨3, 24, .st [(0, 3), (1, 3), (2, 3)], [.i .i64, .i .i64, .i .i64]⟩) (L := (v_s73.take v_i75.toNat)) (Y := v_v76) (Z := (v_s73.drop v_i75.toNat)) (i := v_i75.toNat) (k := (v_s73.length + v_v76.length)) (m := v_v76.length) (C := v_C74) (by kernel_rfl) (by kernel_rfl) (by simp only [List.length_take, List.length_drop, List.length_nil]; omega) (by simp only [List.length_take, List.length_drop, List.length_nil]; omega) rfl (by omega) (fun _ => rfl)) (.cons (ymvH (L := ((v_s73.take v_i75.toNat) ++ v_v76 ++ (v_s73.drop v_i75.toNat))) (C := v_C74) (k := (v_s73.length + v_v76.length)) (P := Try.prog) (T := TT) (f := eS_area_Area) (e := 110) (s := 3) (l := 0) (nl := 149) (x := (.tmp 0)) (by simp only [List.length_append, List.length_take, List.length_drop]; omega)) .nil))))))))))))))))
                  · rw [if_neg h90] at h; cases h
                · rw [if_neg h89] at h; cases h
              · rw [if_neg h88] at h; cases h
            · rw [if_neg h84] at h; cases h
          · rw [if_neg h83] at h; cases h
  · rw [if_neg h61] at h; cases h
def G_slices_Insert_area_Area_area_Area_h (n : Nat) (s : (List S_area_Area)) (i : Int) (v : (List S_area_Area)) : Option (List S_area_Area) := insI 24 s i v
theorem G_slices_Insert_area_Area_area_Area_h_all (C n : Nat) (s : (List S_area_Area)) (i : Int) (v r : (List S_area_Area)) (h1 : s.length ≤ C) (h2 : C ≤ maxLen) (h : G_slices_Insert_area_Area_area_Area_h n s i v = some r) : G_slices_Insert_area_Area_area_Area_hC n C s i v = some r := by
  unfold G_slices_Insert_area_Area_area_Area_h insI at h
  split at h
  · rename_i c
    obtain ⟨c1, c2, c3, c4⟩ := c
    obtain rfl := Option.some.inj h
    obtain ⟨i, rfl⟩ := Int.eq_ofNat_of_zero_le c1
    simp only [Int.toNat_natCast]
    have hi : i ≤ s.length := by omega
    have w1 : wi .i64 ((s.length : Int) + (v.length : Int)) = ((s.length + v.length : Nat) : Int) := by rw [wi, IntKind.wrap_i64]; omega
    have w2 : wi .i64 ((i : Int) + (v.length : Int)) = ((i + v.length : Nat) : Int) := by rw [wi, IntKind.wrap_i64]; omega
    have w3 : wi .i64 (((s.length + v.length : Nat) : Int) - (i : Int)) = ((s.length + v.length - i : Nat) : Int) := by rw [wi, IntKind.wrap_i64]; omega
    unfold G_slices_Insert_area_Area_area_Area_hC
    rw [if_pos ⟨⟨by omega, by omega⟩, h1⟩]
    by_cases hm : (v.length : Int) = 0
    · rw [if_pos hm]
      have : v = [] := List.eq_nil_of_length_eq_zero (by omega)
      subst this; simp
    · rw [if_neg hm]
      by_cases he : (i : Int) = (s.length : Int)
      · rw [if_pos he]
        have e : i = s.length := by omega
        subst e
        unfold app
        rw [if_pos ⟨by unfold maxLen; omega, c4⟩]
        simp
      · rw [if_neg he, w1]
        by_cases hg : ((s.length + v.length : Nat) : Int) > (C : Int)
        · rw [if_pos hg, w3]
          simp only [Int.toNat_natCast]
          have hl : (s.take i ++ List.replicate (s.length + v.length - i) (S_area_Area.mk 0 0 0)).length = s.length + v.length := by simp; omega
          rw [if_pos ⟨⟨by omega, by omega⟩, h1⟩, if_pos ⟨trivial, hi, by omega, by omega, by unfold maxLen; omega, by rw [show i + (s.length + v.length - i) = s.length + v.length by omega]; exact c4⟩, w2]
          simp only [Int.toNat_natCast]
          rw [if_pos ⟨by omega, by rw [hl]; omega⟩, if_pos (Nat.le_refl _)]
          have hl2 : (cpyR (s.take i ++ List.replicate (s.length + v.length - i) (S_area_Area.mk 0 0 0)) i (s.take i ++ List.replicate (s.length + v.length - i) (S_area_Area.mk 0 0 0)).length v).length = s.length + v.length := by
            unfold cpyR
            rw [hl]
            rcases Nat.le_total v.length (s.length + v.length - i) with h' | h'
            · rw [show Nat.min v.length (s.length + v.length - i) = v.length from Nat.min_eq_left h']; simp; omega
            · rw [show Nat.min v.length (s.length + v.length - i) = s.length + v.length - i from Nat.min_eq_right h']; simp; omega
          rw [if_pos ⟨by omega, by rw [hl2]; omega⟩, if_pos ⟨⟨by omega, by omega⟩, h1⟩, if_pos ⟨Nat.le_refl _, Nat.le_refl _⟩]
          rw [ins_grow hi rfl]
        · rw [if_neg hg, w2]
          simp only [Int.toNat_natCast]
          rw [if_pos ⟨by omega, by omega, trivial⟩, if_pos ⟨trivial, by omega⟩, if_pos ⟨trivial, by omega⟩, if_pos ⟨by omega, by omega⟩, if_pos ⟨by omega, by omega⟩]
  · cases h
theorem G_slices_Insert_area_Area_area_Area_h_ok (n : Nat) (s : (List S_area_Area)) (i : Int) (v r : (List S_area_Area)) (h : G_slices_Insert_area_Area_area_Area_h n s i v = some r) : RetH Try.prog 146 [.srf 0, .d (.v (.int .i64 i)), .d ((eL eS_area_Area) v)] [.row 110 3 (s.map eS_area_Area)] (.srf 1) [.none, .row 110 3 (r.map eS_area_Area)] :=
  retH_cap ⟨Try.f146, by kernel_rfl, by kernel_rfl, by kernel_rfl⟩ (fun C h1 h2 => G_slices_Insert_area_Area_area_Area_hC_ok n C s i v r (G_slices_Insert_area_Area_area_Area_h_all C n s i v r (by simpa using h1) h2 h))
inductive G_area_lay_h_L1_R where
  | x0 (v_i66 : Int) (v_w67 : (List S_area_Area))
def G_area_lay_h_L1_ex : G_area_lay_h_L1_R → Ex
  | .x0 _ _ => .exit 0
def G_area_lay_h_L1_st (v_a61 : S_area_Area) : G_area_lay_h_L1_R → PS
  | .x0 v_i66 v_w67 => ⟨[.srf 1, dd, dd, .ref 2 0, dd, .d (.v (.int .i64 v_i66)), dd, dd, dd, dd, dd, dd, dd, dd, dd, dd, dd, dd, dd, dd, dd, dd, dd, dd, dd, dd, dd, dd, dd, dd, dd, dd, dd, dd, dd, dd, dd, dd, dd, dd, dd, dd, dd, dd, dd, dd, dd, dd, dd, dd, dd, dd, dd, dd, dd, dd, dd, dd, dd, dd, dd, dd, dd, dd, dd, dd, dd, dd, dd, dd, dd, dd, dd, dd, dd, dd, dd, dd, dd, dd, dd, dd, dd, dd], [.gh 0 (.srf 1), .row 110 3 (v_w67.map eS_area_Area), .box [.d (.v (.int .i64 v_a61.fPage)), .d (.v (.int .i64 v_a61.fN)), .d (.v (.int .i64 v_a61.fRights))]]⟩
def G_area_lay_h_L1_hd (v_a61 : S_area_Area) (v_i62 : Int) (v_w63 : (List S_area_Area)) : PS := ⟨[.srf 1, dd, dd, .ref 2 0, dd, .d (.v (.int .i64 v_i62)), dd, dd, dd, dd, dd, dd, dd, dd, dd, dd, dd, dd, dd, dd, dd, dd, dd, dd, dd, dd, dd, dd, dd, dd, dd, dd, dd, dd, dd, dd, dd, dd, dd, dd, dd, dd, dd, dd, dd, dd, dd, dd, dd, dd, dd, dd, dd, dd, dd, dd, dd, dd, dd, dd, dd, dd, dd, dd, dd, dd, dd, dd, dd, dd, dd, dd, dd, dd, dd, dd, dd, dd, dd, dd, dd, dd, dd, dd], [.gh 0 (.srf 1), .row 110 3 (v_w63.map eS_area_Area), .box [.d (.v (.int .i64 v_a61.fPage)), .d (.v (.int .i64 v_a61.fN)), .d (.v (.int .i64 v_a61.fRights))]]⟩
def G_area_lay_h_L1 (n : Nat) (v_a61 : S_area_Area) : Nat → Int → (List S_area_Area) → Option G_area_lay_h_L1_R
  | 0, _, _ => none
  | k + 1, v_i62, v_w63 =>
    if v_i62 < (v_w63.length : Int) then
     if 0 ≤ v_i62 ∧ (v_i62).toNat < v_w63.length then
      (v_w63[(v_i62).toNat]?).bind fun (v_y65 : S_area_Area) =>
      if v_y65.fPage < v_a61.fPage then
       G_area_lay_h_L1 n v_a61 k (wi .i64 (v_i62 + 1)) v_w63
      else
       some (.x0 v_i62 v_w63)
     else none
    else
     some (.x0 v_i62 v_w63)
theorem G_area_lay_h_L1_ok {Fi : Ex → PS → Prop} (hF : KC 84 Fi) (ks : List Fr) (n : Nat) (v_a61 : S_area_Area)  : ∀ (k : Nat) (v_i62 : Int) (v_w63 : (List S_area_Area)) (o : G_area_lay_h_L1_R), G_area_lay_h_L1 n v_a61 k v_i62 v_w63 = some o → RunE Try.prog 84 Fi ks (G_area_lay_h_L1_ex o) (G_area_lay_h_L1_st v_a61 o) → RunE Try.prog 84 Fi (.l k (cP (cB (cL (cR (cR (bodyOf Try.f126)))))) :: ks) .normal (G_area_lay_h_L1_hd v_a61 v_i62 v_w63)
  | 0, v_i62, v_w63, o, h, q => by rw [G_area_lay_h_L1] at h; cases h
  | k + 1, v_i62, v_w63, o, h, q => by
    rw [G_area_lay_h_L1] at h
    by_cases h56 : v_i62 < (v_w63.length : Int)
    · rw [if_pos h56] at h
      by_cases h57 : 0 ≤ v_i62 ∧ (v_i62).toNat < v_w63.length
      · rw [if_pos h57] at h
        obtain ⟨v_y65, h58, h⟩ := bind_some h
        by_cases h59 : v_y65.fPage < v_a61.fPage
        · rw [if_pos h59] at h
          exact pkk_sound TTok mix hF 9 (hs := [.u (.d (.v (.int .i64 (v_w63.length : Int)))), .t true, .c, .c, .c, .c, .y (eS_area_Area v_y65), .c, .c, .c, .c, .t true]) (ts := []) (s := [0, 1, 2]) (l := [0, 3, 5]) (by kernel_rfl) (by kernel_rfl) (.cons (len_ob (f := eS_area_Area) (l := v_w63)) (.cons (dt h56) (.cons (idx_ob (f := eS_area_Area) h57) (.cons (get_ob (f := eS_area_Area) h58) (.cons (dt h59) .nil))))) (G_area_lay_h_L1_ok hF ks n v_a61 k (wi .i64 (v_i62 + 1)) v_w63 _ h q)
        · rw [if_neg h59] at h
          cases h
          exact pkk_sound TTok mix hF 8 (hs := [.u (.d (.v (.int .i64 (v_w63.length : Int)))), .t true, .c, .c, .c, .c, .y (eS_area_Area v_y65), .c, .c, .c, .c, .t false]) (ts := []) (s := [0, 1, 2]) (l := [0, 3, 5]) (by kernel_rfl) (by kernel_rfl) (.cons (len_ob (f := eS_area_Area) (l := v_w63)) (.cons (dt h56) (.cons (idx_ob (f := eS_area_Area) h57) (.cons (get_ob (f := eS_area_Area) h58) (.cons (df h59) .nil))))) q
      · rw [if_neg h57] at h; cases h
    · rw [if_neg h56] at h
      cases h
      exact pkk_sound TTok mix hF 8 (hs := [.u (.d (.v (.int .i64 (v_w63.length : Int)))), .t false, .c, .c, .c, .c, .c, .c, .c, .c]) (ts := []) (s := [0, 1, 2]) (l := [0, 3, 5]) (by kernel_rfl) (by kernel_rfl) (.cons (len_ob (f := eS_area_Area) (l := v_w63)) (.cons (df h56) .nil)) q
inductive G_area_lay_h_C2_R where
  | x0 (v_x116 : Bool) (v_w117 : (List S_area_Area)) (v_w118 : (List S_area_Area))
def G_area_lay_h_C2_ex : G_area_lay_h_C2_R → Ex
  | .x0 _ _ _ => .normal
def G_area_lay_h_C2_st (v_w81 : (List S_area_Area)) (v_r79 : ((List S_area_Area))) (v_x80 : Int) (v_y109 : S_area_Area) (v_w82 : (List S_area_Area)) : G_area_lay_h_C2_R → PS
  | .x0 v_x116 v_w117 v_w118 => ⟨[dd, dd, dd, dd, dd, dd, .srf 2, dd, .ref 3 0, .d (.v (.int .i64 (wi .i64 ((v_w81.length : Int) - 1)))), dd, dd, dd, dd, dd, dd, dd, dd, dd, dd, dd, dd, dd, dd, dd, dd, dd, dd, dd, dd, dd, .srf 4, .d (.v (.int .i64 (v_r79.length : Int))), .d (.v (.int .i64 v_x80)), dd, dd, dd, dd, dd, dd, dd, dd, dd, dd, dd, dd, dd, dd, dd, dd, dd, dd, dd, dd, dd, dd, dd, dd, dd, dd, dd, dd, dd, dd, dd, dd, dd, .d (.v (.bool v_x116)), dd, dd, dd, dd, dd, dd, dd, dd, dd, dd, dd, dd, dd, dd, dd, dd], [.gh 0 (.srf 1), .none, .row 110 3 (v_w117.map eS_area_Area), .box [.d (.v (.int .i64 v_y109.fPage)), .d (.v (.int .i64 v_y109.fN)), .d (.v (.int .i64 v_y109.fRights))], .row 110 3 (v_w118.map eS_area_Area)]⟩
def G_area_lay_h_C2_hd (v_w81 : (List S_area_Area)) (v_r79 : ((List S_area_Area))) (v_x80 : Int) (v_y109 : S_area_Area) (v_w82 : (List S_area_Area))  : PS := ⟨[dd, dd, dd, dd, dd, dd, .srf 2, dd, .ref 3 0, .d (.v (.int .i64 (wi .i64 ((v_w81.length : Int) - 1)))), dd, dd, dd, dd, dd, dd, dd, dd, dd, dd, dd, dd, dd, dd, dd, dd, dd, dd, dd, dd, dd, .srf 4, .d (.v (.int .i64 (v_r79.length : Int))), .d (.v (.int .i64 v_x80)), dd, dd, dd, dd, dd, dd, dd, dd, dd, dd, dd, dd, dd, dd, dd, dd, dd, dd, dd, dd, dd, dd, dd, dd, dd, dd, dd, dd, dd, dd, dd, dd, dd, dd, dd, dd, dd, dd, dd, dd, dd, dd, dd, dd, dd, dd, dd, dd, dd, dd], [.gh 0 (.srf 1), .none, .row 110 3 (v_w81.map eS_area_Area), .box [.d (.v (.int .i64 v_y109.fPage)), .d (.v (.int .i64 v_y109.fN)), .d (.v (.int .i64 v_y109.fRights))], .row 110 3 (v_w82.map eS_area_Area)]⟩
def G_area_lay_h_C2 (n : Nat) (v_w81 : (List S_area_Area)) (v_r79 : ((List S_area_Area))) (v_x80 : Int) (v_y109 : S_area_Area) (v_w82 : (List S_area_Area)) : Option G_area_lay_h_C2_R :=
  if (wi .i64 ((v_w81.length : Int) - 1)) ≥ 0 then
   if 0 ≤ (wi .i64 ((v_w81.length : Int) - 1)) ∧ ((wi .i64 ((v_w81.length : Int) - 1))).toNat < v_w81.length then
    (v_w81[((wi .i64 ((v_w81.length : Int) - 1))).toNat]?).bind fun (v_y113 : S_area_Area) =>
    if 0 ≤ (wi .i64 ((v_w81.length : Int) - 1)) ∧ ((wi .i64 ((v_w81.length : Int) - 1))).toNat < v_w81.length then
     (v_w81[((wi .i64 ((v_w81.length : Int) - 1))).toNat]?).bind fun (v_y114 : S_area_Area) =>
     if (wi .i64 (v_y113.fPage + v_y114.fN)) = v_y109.fPage then
      if 0 ≤ (wi .i64 ((v_w81.length : Int) - 1)) ∧ ((wi .i64 ((v_w81.length : Int) - 1))).toNat < v_w81.length then
       (v_w81[((wi .i64 ((v_w81.length : Int) - 1))).toNat]?).bind fun (v_y115 : S_area_Area) =>
       some (.x0 (v_y115.fRights == v_y109.fRights) v_w81 v_w82)
      else none
     else
      some (.x0 false v_w81 v_w82)
    else none
   else none
  else
   some (.x0 false v_w81 v_w82)
theorem G_area_lay_h_C2_ok {Fi : Ex → PS → Prop} (hF : KC 84 Fi) (ks : List Fr) (n : Nat) (v_w81 : (List S_area_Area)) (v_r79 : ((List S_area_Area))) (v_x80 : Int) (v_y109 : S_area_Area) (v_w82 : (List S_area_Area))  (o : G_area_lay_h_C2_R) (h : G_area_lay_h_C2 n v_w81 v_r79 v_x80 v_y109 v_w82 = some o) (q : RunE Try.prog 84 Fi ks (G_area_lay_h_C2_ex o) (G_area_lay_h_C2_st v_w81 v_r79 v_x80 v_y109 v_w82 o)) : RunE Try.prog 84 Fi (.s (cL (cR (cR (cB (cL (cR (cR (cP (cB (cR (cL (cR (cR (cR (cR (cR (bodyOf Try.f126))))))))))))))))) :: ks) .normal (G_area_lay_h_C2_hd v_w81 v_r79 v_x80 v_y109 v_w82) := by
  unfold G_area_lay_h_C2 at h
  by_cases h134 : (wi .i64 ((v_w81.length : Int) - 1)) ≥ 0
  · rw [if_pos h134] at h
    by_cases h135 : 0 ≤ (wi .i64 ((v_w81.length : Int) - 1)) ∧ ((wi .i64 ((v_w81.length : Int) - 1))).toNat < v_w81.length
    · rw [if_pos h135] at h
      obtain ⟨v_y113, h136, h⟩ := bind_some h
      by_cases h137 : 0 ≤ (wi .i64 ((v_w81.length : Int) - 1)) ∧ ((wi .i64 ((v_w81.length : Int) - 1))).toNat < v_w81.length
      · rw [if_pos h137] at h
        obtain ⟨v_y114, h138, h⟩ := bind_some h
        by_cases h139 : (wi .i64 (v_y113.fPage + v_y114.fN)) = v_y109.fPage
        · rw [if_pos h139] at h
          by_cases h140 : 0 ≤ (wi .i64 ((v_w81.length : Int) - 1)) ∧ ((wi .i64 ((v_w81.length : Int) - 1))).toNat < v_w81.length
          · rw [if_pos h140] at h
            obtain ⟨v_y115, h141, h⟩ := bind_some h
            cases h
            exact pkk_sound TTok mix hF 1 (hs := [.t true, .c, .c, .c, .c, .y (eS_area_Area v_y113), .c, .c, .c, .c, .c, .y (eS_area_Area v_y114), .c, .c, .c, .c, .c, .t true, .c, .c, .c, .c, .y (eS_area_Area v_y115), .c, .c, .c, .c]) (ts := []) (s := [0, 1, 2, 3, 4]) (l := [6, 8, 9, 31, 32, 33, 67]) (by kernel_rfl) (by kernel_rfl) (.cons (dt h134) (.cons (idx_ob (f := eS_area_Area) h135) (.cons (get_ob (f := eS_area_Area) h136) (.cons (idx_ob (f := eS_area_Area) h137) (.cons (get_ob (f := eS_area_Area) h138) (.cons (bt h139) (.cons (idx_ob (f := eS_area_Area) h140) (.cons (get_ob (f := eS_area_Area) h141) .nil)))))))) q
          · rw [if_neg h140] at h; cases h
        · rw [if_neg h139] at h
          cases h
          exact pkk_sound TTok mix hF 1 (hs := [.t true, .c, .c, .c, .c, .y (eS_area_Area v_y113), .c, .c, .c, .c, .c, .y (eS_area_Area v_y114), .c, .c, .c, .c, .c, .t false, .c, .c, .c, .c, .c, .c, .c]) (ts := []) (s := [0, 1, 2, 3, 4]) (l := [6, 8, 9, 31, 32, 33, 67]) (by kernel_rfl) (by kernel_rfl) (.cons (dt h134) (.cons (idx_ob (f := eS_area_Area) h135) (.cons (get_ob (f := eS_area_Area) h136) (.cons (idx_ob (f := eS_area_Area) h137) (.cons (get_ob (f := eS_area_Area) h138) (.cons (bf h139) .nil)))))) q
      · rw [if_neg h137] at h; cases h
    · rw [if_neg h135] at h; cases h
  · rw [if_neg h134] at h
    cases h
    exact pkk_sound TTok mix hF 1 (hs := [.t false, .c, .c, .c, .c, .c, .c, .c, .c, .c, .c, .c, .c, .c, .c, .c, .c, .c, .c, .c, .c, .c]) (ts := []) (s := [0, 1, 2, 3, 4]) (l := [6, 8, 9, 31, 32, 33, 67]) (by kernel_rfl) (by kernel_rfl) (.cons (df h134) .nil) q
inductive G_area_lay_h_L3_R where
  | x0 (v_w135 : (List S_area_Area))
def G_area_lay_h_L3_ex : G_area_lay_h_L3_R → Ex
  | .x0 _ => .exit 2
def G_area_lay_h_L3_st (v_r79 : ((List S_area_Area))) : G_area_lay_h_L3_R → PS
  | .x0 v_w135 => ⟨[dd, dd, dd, dd, dd, dd, .srf 2, dd, dd, dd, dd, dd, dd, dd, dd, dd, dd, dd, dd, dd, dd, dd, dd, dd, dd, dd, dd, dd, dd, dd, dd, dd, dd, dd, dd, dd, dd, dd, dd, dd, dd, dd, dd, dd, dd, dd, dd, dd, dd, dd, dd, dd, dd, dd, dd, dd, dd, dd, dd, dd, dd, dd, dd, dd, dd, dd, dd, dd, dd, dd, dd, dd, dd, dd, dd, dd, dd, dd, dd, dd, dd, dd, dd, dd], [.gh 0 (.srf 1), .none, .row 110 3 (v_w135.map eS_area_Area)]⟩
def G_area_lay_h_L3_hd (v_r79 : ((List S_area_Area))) (v_x80 : Int) (v_w81 : (List S_area_Area)) (v_w82 : (List S_area_Area)) : PS := ⟨[dd, dd, dd, dd, dd, dd, .srf 2, dd, dd, dd, dd, dd, dd, dd, dd, dd, dd, dd, dd, dd, dd, dd, dd, dd, dd, dd, dd, dd, dd, dd, dd, .srf 3, .d (.v (.int .i64 (v_r79.length : Int))), .d (.v (.int .i64 v_x80)), dd, dd, dd, dd, dd, dd, dd, dd, dd, dd, dd, dd, dd, dd, dd, dd, dd, dd, dd, dd, dd, dd, dd, dd, dd, dd, dd, dd, dd, dd, dd, dd, dd, dd, dd, dd, dd, dd, dd, dd, dd, dd, dd, dd, dd, dd, dd, dd, dd, dd], [.gh 0 (.srf 1), .none, .row 110 3 (v_w81.map eS_area_Area), .row 110 3 (v_w82.map eS_area_Area)]⟩
def G_area_lay_h_L3 (n : Nat) (v_r79 : ((List S_area_Area))) : Nat → Int → (List S_area_Area) → (List S_area_Area) → Option G_area_lay_h_L3_R
  | 0, _, _, _ => none
  | k + 1, v_x80, v_w81, v_w82 =>
    if v_x80 < (v_r79.length : Int) then
     if 0 ≤ v_x80 ∧ (v_x80).toNat < v_w82.length then
      (v_w82[(v_x80).toNat]?).bind fun (v_y109 : S_area_Area) =>
      (G_area_lay_h_C2 n v_w81 v_r79 v_x80 v_y109 v_w82).bind fun v_o125 => match v_o125 with
      | .x0 v_z126 v_z127 v_z128 =>
        if v_z126 = true then
         if 0 ≤ (wi .i64 ((v_w81.length : Int) - 1)) ∧ ((wi .i64 ((v_w81.length : Int) - 1))).toNat < v_z127.length then
          (v_z127[((wi .i64 ((v_w81.length : Int) - 1))).toNat]?).bind fun (v_y132 : S_area_Area) =>
          if 0 ≤ (wi .i64 ((v_w81.length : Int) - 1)) ∧ ((wi .i64 ((v_w81.length : Int) - 1))).toNat < v_z127.length then
           (v_z127[((wi .i64 ((v_w81.length : Int) - 1))).toNat]?).bind fun (v_y133 : S_area_Area) =>
           G_area_lay_h_L3 n v_r79 k (wi .i64 (v_x80 + 1)) (v_z127.set ((wi .i64 ((v_w81.length : Int) - 1))).toNat (S_area_Area.mk v_y133.fPage (wi .i64 (v_y132.fN + v_y109.fN)) v_y133.fRights)) v_z128
          else none
         else none
        else
         (app 24 v_z127 ([v_y109])).bind fun (v_a134 : (List S_area_Area)) =>
         G_area_lay_h_L3 n v_r79 k (wi .i64 (v_x80 + 1)) v_a134 v_z128
     else none
    else
     some (.x0 v_w81)
theorem G_area_lay_h_L3_ok {Fi : Ex → PS → Prop} (hF : KC 84 Fi) (ks : List Fr) (n : Nat) (v_r79 : ((List S_area_Area)))  : ∀ (k : Nat) (v_x80 : Int) (v_w81 : (List S_area_Area)) (v_w82 : (List S_area_Area)) (o : G_area_lay_h_L3_R), G_area_lay_h_L3 n v_r79 k v_x80 v_w81 v_w82 = some o → RunE Try.prog 84 Fi ks (G_area_lay_h_L3_ex o) (G_area_lay_h_L3_st v_r79 o) → RunE Try.prog 84 Fi (.l k (cP (cB (cR (cL (cR (cR (cR (cR (cR (bodyOf Try.f126)))))))))) :: ks) .normal (G_area_lay_h_L3_hd v_r79 v_x80 v_w81 v_w82)
  | 0, v_x80, v_w81, v_w82, o, h, q => by rw [G_area_lay_h_L3] at h; cases h
  | k + 1, v_x80, v_w81, v_w82, o, h, q => by
    rw [G_area_lay_h_L3] at h
    by_cases h92 : v_x80 < (v_r79.length : Int)
    · rw [if_pos h92] at h
      by_cases h124 : 0 ≤ v_x80 ∧ (v_x80).toNat < v_w82.length
      · rw [if_pos h124] at h
        obtain ⟨v_y109, h125, h⟩ := bind_some h
        obtain ⟨v_o125, h142, h⟩ := bind_some h
        refine pkk_sound TTok mix hF 13 (hs := [.t true, .y (eS_area_Area v_y109), .c, .u (.d (.v (.int .i64 (v_w81.length : Int))))]) (ts := []) (s := [0, 1, 2, 13, 3]) (l := [6, 8, 9, 31, 32, 33]) (by kernel_rfl) (by kernel_rfl) (.cons (dt h92) (.cons (idx_ob (f := eS_area_Area) h124) (.cons (get_ob (f := eS_area_Area) h125) (.cons (show 0 + 3 ≤ 3 by decide) (.cons (len_ob (f := eS_area_Area) (l := v_w81)) .nil))))) (G_area_lay_h_C2_ok hF (.s (cR (cR (cR (cB (cL (cR (cR (cP (cB (cR (cL (cR (cR (cR (cR (cR (bodyOf Try.f126))))))))))))))))) :: .b 3 :: .s (cR (cR (cR (cP (cB (cR (cL (cR (cR (cR (cR (cR (bodyOf Try.f126))))))))))))) :: .l k (cP (cB (cR (cL (cR (cR (cR (cR (cR (bodyOf Try.f126)))))))))) :: ks) n v_w81 v_r79 v_x80 v_y109 v_w82 _ h142 ?_)
        cases v_o125 with
        | x0 v_z126 v_z127 v_z128 =>
          try dsimp only at h
          by_cases h149 : v_z126 = true
          · rw [if_pos h149] at h
            by_cases h150 : 0 ≤ (wi .i64 ((v_w81.length : Int) - 1)) ∧ ((wi .i64 ((v_w81.length : Int) - 1))).toNat < v_z127.length
            · rw [if_pos h150] at h
              obtain ⟨v_y132, h151, h⟩ := bind_some h
              by_cases h152 : 0 ≤ (wi .i64 ((v_w81.length : Int) - 1)) ∧ ((wi .i64 ((v_w81.length : Int) - 1))).toNat < v_z127.length
              · rw [if_pos h152] at h
                obtain ⟨v_y133, h153, h⟩ := bind_some h
                exact pkk_sound TTok mix hF 4 (hs := [.t true, .y (eS_area_Area v_y132), .c, .w ((v_z127.set ((wi .i64 ((v_w81.length : Int) - 1))).toNat (S_area_Area.mk v_y133.fPage (wi .i64 (v_y132.fN + v_y109.fN)) v_y133.fRights)).map eS_area_Area), .y (eS_area_Area v_y133)]) (ts := []) (s := [0, 1, 2, 4]) (l := [6, 31, 32, 33]) (by kernel_rfl) (by kernel_rfl) (.cons h149 (.cons (idx_ob (f := eS_area_Area) h150) (.cons (get_ob (f := eS_area_Area) h151) (.cons (idx_ob (f := eS_area_Area) h152) (.cons (get_ob (f := eS_area_Area) h153) (.cons (Eq.refl (pcells (.agg [.v (.int .i64 v_y133.fPage), .v (.int .i64 (wi .i64 (v_y132.fN + v_y109.fN))), .v (.int .i64 v_y133.fRights)]))) (.cons (set_ob (f := eS_area_Area) (l := v_z127) (k := ((wi .i64 ((v_w81.length : Int) - 1))).toNat) (z := (S_area_Area.mk v_y133.fPage (wi .i64 (v_y132.fN + v_y109.fN)) v_y133.fRights)) (p := .agg [.v (.int .i64 v_y133.fPage), .v (.int .i64 (wi .i64 (v_y132.fN + v_y109.fN))), .v (.int .i64 v_y133.fRights)]) rfl) .nil))))))) (G_area_lay_h_L3_ok hF ks n v_r79 k (wi .i64 (v_x80 + 1)) (v_z127.set ((wi .i64 ((v_w81.length : Int) - 1))).toNat (S_area_Area.mk v_y133.fPage (wi .i64 (v_y132.fN + v_y109.fN)) v_y133.fRights)) v_z128 _ h q)
              · rw [if_neg h152] at h; cases h
            · rw [if_neg h150] at h; cases h
          · rw [if_neg h149] at h
            obtain ⟨v_a134, h154, h⟩ := bind_some h
            exact pkk_sound TTok mix hF 4 (hs := [.t false, .c, .bd, .w (v_a134.map eS_area_Area)]) (ts := []) (s := [0, 1, 14, 4]) (l := [6, 31, 32, 33]) (by kernel_rfl) (by kernel_rfl) (.cons (vf h149) (.cons (app_ob (f := eS_area_Area) (s := 3) h154 (fun _ => rfl)).1 (.cons (app_ob (f := eS_area_Area) (s := 3) h154 (fun _ => rfl)).2.1 (.cons (app_ob (f := eS_area_Area) (s := 3) h154 (fun _ => rfl)).2.2.1 (.cons (app_ob (f := eS_area_Area) (s := 3) h154 (fun _ => rfl)).2.2.2 .nil))))) (G_area_lay_h_L3_ok hF ks n v_r79 k (wi .i64 (v_x80 + 1)) v_a134 v_z128 _ h q)
      · rw [if_neg h124] at h; cases h
    · rw [if_neg h92] at h
      cases h
      exact pkk_sound TTok mix hF 8 (hs := [.t false]) (ts := []) (s := [0, 1, 2]) (l := [6]) (by kernel_rfl) (by kernel_rfl) (.cons (df h92) .nil) q
/- ringhall/area.lay -/
def G_area_lay_h (n : Nat) (v_l60 : (List S_area_Area)) (v_a61 : S_area_Area) : Option ((List S_area_Area)) :=
  (G_area_lay_h_L1 n v_a61 n 0 v_l60).bind fun v_o70 => match v_o70 with
  | .x0 v_z71 v_z72 =>
    (G_slices_Insert_area_Area_area_Area_h n v_z72 v_z71 ([v_a61])).bind fun (v_r79 : ((List S_area_Area))) =>
    (G_area_lay_h_L3 n v_r79 n 0 ([] : List S_area_Area) v_r79).bind fun v_o136 => match v_o136 with
    | .x0 v_z137 =>
      some v_z137
theorem G_area_lay_h_ok (n : Nat) (v_l60 : (List S_area_Area)) (v_a61 : S_area_Area) (r : (List S_area_Area)) (h : G_area_lay_h n v_l60 v_a61 = some r) : RetH Try.prog 126 [.srf 0, .d (eS_area_Area v_a61)] [.row 110 3 (v_l60.map eS_area_Area)] (.srf 1) [.none, .row 110 3 (r.map eS_area_Area)] := by
  refine retH_run (n := 84) (fn := Try.f126) (c := bodyOf Try.f126) (by kernel_rfl) (by kernel_rfl) (by kernel_rfl) (by kernel_rfl) ?_
  have hF : KC 84 (FinH Try.prog Try.f126 [.row 110 3 (v_l60.map eS_area_Area)] (.srf 1) [.none, .row 110 3 (r.map eS_area_Area)]) := FinH.kc' (by kernel_rfl)
  unfold G_area_lay_h at h
  obtain ⟨v_o70, h60, h⟩ := bind_some h
  refine pkk_sound TTok mix hF 7 (hs := [.n n]) (ts := []) (s := [1, 0, 2]) (l := [0, 3, 5]) (by kernel_rfl) (by kernel_rfl) .nil (G_area_lay_h_L1_ok hF (.b 0 :: .s (cR (cR (cR (bodyOf Try.f126)))) :: []) n v_a61 n 0 v_l60 _ h60 ?_)
  cases v_o70 with
  | x0 v_z71 v_z72 =>
    try dsimp only at h
    obtain ⟨v_r79, h91, h⟩ := bind_some h
    obtain ⟨v_o136, h155, h⟩ := bind_some h
    refine pkk_sound TTok mix hF 10 (hs := [.c, .bd, .h [1] [] [.none, .row 110 3 (v_r79.map eS_area_Area)] (.srf 1), .u (.d (.v (.int .i64 (v_r79.length : Int)))), .n n]) (ts := [(6, 110, 3)]) (s := [0, 1, 33, 15]) (l := [6, 31, 32, 33]) (by kernel_rfl) (by kernel_rfl) (.cons (G_slices_Insert_area_Area_area_Area_h_ok n v_z72 v_z71 ([v_a61]) _ h91) (.cons (len_ob (f := eS_area_Area) (l := v_r79)) .nil)) (G_area_lay_h_L3_ok hF (.b 2 :: .s (cR (cR (cR (cR (cR (cR (bodyOf Try.f126))))))) :: []) n v_r79 n 0 ([] : List S_area_Area) v_r79 _ h155 ?_)
    cases v_o136 with
    | x0 v_z137 =>
      try dsimp only at h
      obtain rfl := Option.some.inj h
      exact pendH_sound TTok mix 4 (hs := []) [1, 2] (by kernel_rfl) (by kernel_rfl) (by kernel_rfl) .nil
/- ringhall/area.Put -/
def G_area_Put (n : Nat) (v_l3 : (List S_area_Area)) (v_a4 : S_area_Area) : Option ((List S_area_Area) × Int) :=
  (G_area_check n v_l3 v_a4).bind fun (v_r40 : (Int)) =>
  if v_r40 = 0 then
   (G_area_many n v_l3 v_a4.fPage (wi .i64 (v_a4.fPage + v_a4.fN))).bind fun (v_r51 : (Int)) =>
   if v_r51 > 0 then
    some (([] : (List S_area_Area)), 5)
   else
    (G_slices_Clone_area_Area_area_Area n v_l3).bind fun (v_r59 : ((List S_area_Area))) =>
    (G_area_lay_h n v_r59 v_a4).bind fun (v_r138 : ((List S_area_Area))) =>
    some (v_r138, 0)
  else
   some (([] : (List S_area_Area)), v_r40)
theorem G_area_Put_ok (n : Nat) (v_l3 : (List S_area_Area)) (v_a4 : S_area_Area) (r : (List S_area_Area) × Int) (h : G_area_Put n v_l3 v_a4 = some r) : Ret Try.prog 62 [(eL eS_area_Area) v_l3, eS_area_Area v_a4] (.tup [(eL eS_area_Area) r.1, (eI .i64) r.2]) := by
  refine ret_run (n := 27) (fn := Try.f62) (c := bodyOf Try.f62) (by kernel_rfl) (by kernel_rfl) (by kernel_rfl) (by kernel_rfl) ?_
  have hF : KC 27 (FinR Try.prog Try.f62 (.tup [(eL eS_area_Area) r.1, (eI .i64) r.2])) := FinR.kc' (by kernel_rfl)
  unfold G_area_Put at h
  obtain ⟨v_r40, h41, h⟩ := bind_some h
  by_cases h43 : v_r40 = 0
  · rw [if_pos h43] at h
    obtain ⟨v_r51, h48, h⟩ := bind_some h
    by_cases h49 : v_r51 > 0
    · rw [if_pos h49] at h
      obtain rfl := Option.some.inj h
      exact pend_sound TTok mix 17 (hs := [.c, .r ((eI .i64) v_r40), .t false, .c, .c, .c, .r ((eI .i64) v_r51), .t true]) (by kernel_rfl) (by kernel_rfl) (by kernel_rfl) (.cons (G_area_check_ok n v_l3 v_a4 _ h41) (.cons (nf h43) (.cons (G_area_many_ok n v_l3 v_a4.fPage (wi .i64 (v_a4.fPage + v_a4.fN)) _ h48) (.cons (dt h49) .nil))))
    · rw [if_neg h49] at h
      obtain ⟨v_r59, h52, h⟩ := bind_some h
      obtain ⟨v_r138, h156, h⟩ := bind_some h
      obtain rfl := Option.some.inj h
      exact pend_sound TTok mix 17 (hs := [.c, .r ((eI .i64) v_r40), .t false, .c, .c, .c, .r ((eI .i64) v_r51), .t false, .h [] [] [.row 110 3 (v_r59.map eS_area_Area)] (.srf 0), .c, .h [60] [] [.none, .row 110 3 (v_r138.map eS_area_Area)] (.srf 1)]) (by kernel_rfl) (by kernel_rfl) (by kernel_rfl) (.cons (G_area_check_ok n v_l3 v_a4 _ h41) (.cons (nf h43) (.cons (G_area_many_ok n v_l3 v_a4.fPage (wi .i64 (v_a4.fPage + v_a4.fN)) _ h48) (.cons (df h49) (.cons (G_slices_Clone_area_Area_area_Area_ok n v_l3 _ h52) (.cons (G_area_lay_h_ok n v_r59 v_a4 _ h156) .nil))))))
  · rw [if_neg h43] at h
    obtain rfl := Option.some.inj h
    exact pend_sound TTok mix 12 (hs := [.c, .r ((eI .i64) v_r40), .t true]) (by kernel_rfl) (by kernel_rfl) (by kernel_rfl) (.cons (G_area_check_ok n v_l3 v_a4 _ h41) (.cons (nt h43) .nil))
inductive G_area_cut_h_C1_R where
  | x0 (v_w161 : (List S_area_Area))
def G_area_cut_h_C1_ex : G_area_cut_h_C1_R → Ex
  | .x0 _ => .normal
def G_area_cut_h_C1_st (v_from145 : Int) (v_to146 : Int) (v_l144 : (List S_area_Area)) (v_x147 : Int) (v_w148 : (List S_area_Area)) : G_area_cut_h_C1_R → PS
  | .x0 v_w161 => ⟨[dd, .d (.v (.int .i64 v_from145)), .d (.v (.int .i64 v_to146)), dd, dd, dd, dd, .srf 0, dd, dd, dd, dd, dd, .d (.sl (v_l144.map eS_area_Area)), .d (.v (.int .i64 (v_l144.length : Int))), .d (.v (.int .i64 v_x147)), dd, dd, dd, dd, dd, dd, dd, dd, dd, dd, dd, dd, dd, dd, dd, dd, dd, dd, dd, dd, dd, dd, dd, dd, dd, dd, dd, dd, dd, dd, dd, dd, dd, dd, dd, dd, dd, dd, dd, dd, dd, dd, dd, dd], [.row 110 3 (v_w161.map eS_area_Area)]⟩
def G_area_cut_h_C1_hd (v_from145 : Int) (v_to146 : Int) (v_l144 : (List S_area_Area)) (v_x147 : Int) (v_w148 : (List S_area_Area))  : PS := ⟨[dd, .d (.v (.int .i64 v_from145)), .d (.v (.int .i64 v_to146)), dd, dd, dd, dd, .srf 0, dd, dd, dd, dd, dd, .d (.sl (v_l144.map eS_area_Area)), .d (.v (.int .i64 (v_l144.length : Int))), .d (.v (.int .i64 v_x147)), dd, dd, dd, dd, dd, dd, dd, dd, dd, dd, dd, dd, dd, dd, dd, dd, dd, dd, dd, dd, dd, dd, dd, dd, dd, dd, dd, dd, dd, dd, dd, dd, dd, dd, dd, dd, dd, dd, dd, dd, dd, dd, dd, dd], [.row 110 3 (v_w148.map eS_area_Area)]⟩
def G_area_cut_h_C1 (n : Nat) (v_from145 : Int) (v_to146 : Int) (v_l144 : (List S_area_Area)) (v_x147 : Int) (v_w148 : (List S_area_Area)) : Option G_area_cut_h_C1_R :=
  (getI v_l144 v_x147).bind fun (v_y156 : S_area_Area) =>
  if (wi .i64 ((minI (wi .i64 (v_y156.fPage + v_y156.fN)) v_from145) - v_y156.fPage)) > 0 then
   (app 24 v_w148 ([(S_area_Area.mk v_y156.fPage (wi .i64 ((minI (wi .i64 (v_y156.fPage + v_y156.fN)) v_from145) - v_y156.fPage)) v_y156.fRights)])).bind fun (v_a158 : (List S_area_Area)) =>
   if (wi .i64 (v_y156.fPage + v_y156.fN)) > (maxI v_y156.fPage v_to146) then
    (app 24 v_a158 ([(S_area_Area.mk (maxI v_y156.fPage v_to146) (wi .i64 ((wi .i64 (v_y156.fPage + v_y156.fN)) - (maxI v_y156.fPage v_to146))) v_y156.fRights)])).bind fun (v_a160 : (List S_area_Area)) =>
    some (.x0 v_a160)
   else
    some (.x0 v_a158)
  else
   if (wi .i64 (v_y156.fPage + v_y156.fN)) > (maxI v_y156.fPage v_to146) then
    (app 24 v_w148 ([(S_area_Area.mk (maxI v_y156.fPage v_to146) (wi .i64 ((wi .i64 (v_y156.fPage + v_y156.fN)) - (maxI v_y156.fPage v_to146))) v_y156.fRights)])).bind fun (v_a164 : (List S_area_Area)) =>
    some (.x0 v_a164)
   else
    some (.x0 v_w148)
theorem G_area_cut_h_C1_ok {Fi : Ex → PS → Prop} (hF : KC 60 Fi) (ks : List Fr) (n : Nat) (v_from145 : Int) (v_to146 : Int) (v_l144 : (List S_area_Area)) (v_x147 : Int) (v_w148 : (List S_area_Area))  (o : G_area_cut_h_C1_R) (h : G_area_cut_h_C1 n v_from145 v_to146 v_l144 v_x147 v_w148 = some o) (q : RunE Try.prog 60 Fi ks (G_area_cut_h_C1_ex o) (G_area_cut_h_C1_st v_from145 v_to146 v_l144 v_x147 v_w148 o)) : RunE Try.prog 60 Fi (.s (cL (cR (cR (cP (cB (cR (cL (cR (cR (bodyOf Try.f128)))))))))) :: ks) .normal (G_area_cut_h_C1_hd v_from145 v_to146 v_l144 v_x147 v_w148) := by
  unfold G_area_cut_h_C1 at h
  obtain ⟨v_y156, h175, h⟩ := bind_some h
  by_cases h178 : (wi .i64 ((minI (wi .i64 (v_y156.fPage + v_y156.fN)) v_from145) - v_y156.fPage)) > 0
  · rw [if_pos h178] at h
    obtain ⟨v_a158, h179, h⟩ := bind_some h
    by_cases h182 : (wi .i64 (v_y156.fPage + v_y156.fN)) > (maxI v_y156.fPage v_to146)
    · rw [if_pos h182] at h
      obtain ⟨v_a160, h183, h⟩ := bind_some h
      cases h
      exact pkk_sound TTok mix hF 19 (hs := [.y (eS_area_Area v_y156), .c, .c, .c, .c, .t true, .c, .c, .bd, .w (v_a158.map eS_area_Area), .c, .t true, .c, .bd, .w (v_a160.map eS_area_Area)]) (ts := []) (s := [139]) (l := [1, 2, 7, 13, 14, 15]) (by kernel_rfl) (by kernel_rfl) (.cons (getI_ob (f := eS_area_Area) h175) (.cons (show 0 + 3 ≤ 3 by decide) (.cons (dt h178) (.cons (app_ob (f := eS_area_Area) (s := 3) h179 (fun _ => rfl)).1 (.cons (app_ob (f := eS_area_Area) (s := 3) h179 (fun _ => rfl)).2.1 (.cons (app_ob (f := eS_area_Area) (s := 3) h179 (fun _ => rfl)).2.2.1 (.cons (app_ob (f := eS_area_Area) (s := 3) h179 (fun _ => rfl)).2.2.2 (.cons (dt h182) (.cons (app_ob (f := eS_area_Area) (s := 3) h183 (fun _ => rfl)).1 (.cons (app_ob (f := eS_area_Area) (s := 3) h183 (fun _ => rfl)).2.1 (.cons (app_ob (f := eS_area_Area) (s := 3) h183 (fun _ => rfl)).2.2.1 (.cons (app_ob (f := eS_area_Area) (s := 3) h183 (fun _ => rfl)).2.2.2 .nil)))))))))))) q
    · rw [if_neg h182] at h
      cases h
      exact pkk_sound TTok mix hF 19 (hs := [.y (eS_area_Area v_y156), .c, .c, .c, .c, .t true, .c, .c, .bd, .w (v_a158.map eS_area_Area), .c, .t false]) (ts := []) (s := [82]) (l := [1, 2, 7, 13, 14, 15]) (by kernel_rfl) (by kernel_rfl) (.cons (getI_ob (f := eS_area_Area) h175) (.cons (show 0 + 3 ≤ 3 by decide) (.cons (dt h178) (.cons (app_ob (f := eS_area_Area) (s := 3) h179 (fun _ => rfl)).1 (.cons (app_ob (f := eS_area_Area) (s := 3) h179 (fun _ => rfl)).2.1 (.cons (app_ob (f := eS_area_Area) (s := 3) h179 (fun _ => rfl)).2.2.1 (.cons (app_ob (f := eS_area_Area) (s := 3) h179 (fun _ => rfl)).2.2.2 (.cons (df h182) .nil)))))))) q
  · rw [if_neg h178] at h
    by_cases h186 : (wi .i64 (v_y156.fPage + v_y156.fN)) > (maxI v_y156.fPage v_to146)
    · rw [if_pos h186] at h
      obtain ⟨v_a164, h187, h⟩ := bind_some h
      cases h
      exact pkk_sound TTok mix hF 19 (hs := [.y (eS_area_Area v_y156), .c, .c, .c, .c, .t false, .c, .t true, .c, .bd, .w (v_a164.map eS_area_Area)]) (ts := []) (s := [109]) (l := [1, 2, 7, 13, 14, 15]) (by kernel_rfl) (by kernel_rfl) (.cons (getI_ob (f := eS_area_Area) h175) (.cons (show 0 + 3 ≤ 3 by decide) (.cons (df h178) (.cons (dt h186) (.cons (app_ob (f := eS_area_Area) (s := 3) h187 (fun _ => rfl)).1 (.cons (app_ob (f := eS_area_Area) (s := 3) h187 (fun _ => rfl)).2.1 (.cons (app_ob (f := eS_area_Area) (s := 3) h187 (fun _ => rfl)).2.2.1 (.cons (app_ob (f := eS_area_Area) (s := 3) h187 (fun _ => rfl)).2.2.2 .nil)))))))) q
    · rw [if_neg h186] at h
      cases h
      exact pkk_sound TTok mix hF 19 (hs := [.y (eS_area_Area v_y156), .c, .c, .c, .c, .t false, .c, .t false]) (ts := []) (s := [0]) (l := [1, 2, 7, 13, 14, 15]) (by kernel_rfl) (by kernel_rfl) (.cons (getI_ob (f := eS_area_Area) h175) (.cons (show 0 + 3 ≤ 3 by decide) (.cons (df h178) (.cons (df h186) .nil)))) q
inductive G_area_cut_h_L2_R where
  | x0 (v_w169 : (List S_area_Area))
def G_area_cut_h_L2_ex : G_area_cut_h_L2_R → Ex
  | .x0 _ => .exit 0
def G_area_cut_h_L2_st (v_from145 : Int) (v_to146 : Int) (v_l144 : (List S_area_Area)) : G_area_cut_h_L2_R → PS
  | .x0 v_w169 => ⟨[dd, dd, dd, dd, dd, dd, dd, .srf 0, dd, dd, dd, dd, dd, dd, dd, dd, dd, dd, dd, dd, dd, dd, dd, dd, dd, dd, dd, dd, dd, dd, dd, dd, dd, dd, dd, dd, dd, dd, dd, dd, dd, dd, dd, dd, dd, dd, dd, dd, dd, dd, dd, dd, dd, dd, dd, dd, dd, dd, dd, dd], [.row 110 3 (v_w169.map eS_area_Area)]⟩
def G_area_cut_h_L2_hd (v_from145 : Int) (v_to146 : Int) (v_l144 : (List S_area_Area)) (v_x147 : Int) (v_w148 : (List S_area_Area)) : PS := ⟨[dd, .d (.v (.int .i64 v_from145)), .d (.v (.int .i64 v_to146)), dd, dd, dd, dd, .srf 0, dd, dd, dd, dd, dd, .d (.sl (v_l144.map eS_area_Area)), .d (.v (.int .i64 (v_l144.length : Int))), .d (.v (.int .i64 v_x147)), dd, dd, dd, dd, dd, dd, dd, dd, dd, dd, dd, dd, dd, dd, dd, dd, dd, dd, dd, dd, dd, dd, dd, dd, dd, dd, dd, dd, dd, dd, dd, dd, dd, dd, dd, dd, dd, dd, dd, dd, dd, dd, dd, dd], [.row 110 3 (v_w148.map eS_area_Area)]⟩
def G_area_cut_h_L2 (n : Nat) (v_from145 : Int) (v_to146 : Int) (v_l144 : (List S_area_Area)) : Nat → Int → (List S_area_Area) → Option G_area_cut_h_L2_R
  | 0, _, _ => none
  | k + 1, v_x147, v_w148 =>
    if v_x147 < (v_l144.length : Int) then
     (G_area_cut_h_C1 n v_from145 v_to146 v_l144 v_x147 v_w148).bind fun v_o167 => match v_o167 with
     | .x0 v_z168 =>
       G_area_cut_h_L2 n v_from145 v_to146 v_l144 k (wi .i64 (v_x147 + 1)) v_z168
    else
     some (.x0 v_w148)
theorem G_area_cut_h_L2_ok {Fi : Ex → PS → Prop} (hF : KC 60 Fi) (ks : List Fr) (n : Nat) (v_from145 : Int) (v_to146 : Int) (v_l144 : (List S_area_Area))  : ∀ (k : Nat) (v_x147 : Int) (v_w148 : (List S_area_Area)) (o : G_area_cut_h_L2_R), G_area_cut_h_L2 n v_from145 v_to146 v_l144 k v_x147 v_w148 = some o → RunE Try.prog 60 Fi ks (G_area_cut_h_L2_ex o) (G_area_cut_h_L2_st v_from145 v_to146 v_l144 o) → RunE Try.prog 60 Fi (.l k (cP (cB (cR (cL (cR (cR (bodyOf Try.f128))))))) :: ks) .normal (G_area_cut_h_L2_hd v_from145 v_to146 v_l144 v_x147 v_w148)
  | 0, v_x147, v_w148, o, h, q => by rw [G_area_cut_h_L2] at h; cases h
  | k + 1, v_x147, v_w148, o, h, q => by
    rw [G_area_cut_h_L2] at h
    by_cases h161 : v_x147 < (v_l144.length : Int)
    · rw [if_pos h161] at h
      obtain ⟨v_o167, h188, h⟩ := bind_some h
      refine pkk_sound TTok mix hF 7 (hs := [.t true]) (ts := []) (s := [0]) (l := [1, 2, 7, 13, 14, 15]) (by kernel_rfl) (by kernel_rfl) (.cons (dt h161) .nil) (G_area_cut_h_C1_ok hF (.s (cR (cR (cR (cP (cB (cR (cL (cR (cR (bodyOf Try.f128)))))))))) :: .l k (cP (cB (cR (cL (cR (cR (bodyOf Try.f128))))))) :: ks) n v_from145 v_to146 v_l144 v_x147 v_w148 _ h188 ?_)
      cases v_o167 with
      | x0 v_z168 =>
        try dsimp only at h
        exact pkk_sound TTok mix hF 1 (hs := []) (ts := []) (s := [0]) (l := [1, 2, 7, 13, 14, 15]) (by kernel_rfl) (by kernel_rfl) .nil (G_area_cut_h_L2_ok hF ks n v_from145 v_to146 v_l144 k (wi .i64 (v_x147 + 1)) v_z168 _ h q)
    · rw [if_neg h161] at h
      cases h
      exact pkk_sound TTok mix hF 8 (hs := [.t false]) (ts := []) (s := [0]) (l := [7]) (by kernel_rfl) (by kernel_rfl) (.cons (df h161) .nil) q
/- ringhall/area.cut -/
def G_area_cut_h (n : Nat) (v_l144 : (List S_area_Area)) (v_from145 : Int) (v_to146 : Int) : Option ((List S_area_Area)) :=
  (G_area_cut_h_L2 n v_from145 v_to146 v_l144 n 0 ([] : List S_area_Area)).bind fun v_o170 => match v_o170 with
  | .x0 v_z171 =>
    some v_z171
theorem G_area_cut_h_ok (n : Nat) (v_l144 : (List S_area_Area)) (v_from145 : Int) (v_to146 : Int) (r : (List S_area_Area)) (h : G_area_cut_h n v_l144 v_from145 v_to146 = some r) : RetH Try.prog 128 [.d ((eL eS_area_Area) v_l144), .d ((eI .i64) v_from145), .d ((eI .i64) v_to146)] [] (.srf 0) [.row 110 3 (r.map eS_area_Area)] := by
  refine retH_run (n := 60) (fn := Try.f128) (c := bodyOf Try.f128) (by kernel_rfl) (by kernel_rfl) (by kernel_rfl) (by kernel_rfl) ?_
  have hF : KC 60 (FinH Try.prog Try.f128 [] (.srf 0) [.row 110 3 (r.map eS_area_Area)]) := FinH.kc' (by kernel_rfl)
  unfold G_area_cut_h at h
  obtain ⟨v_o170, h189, h⟩ := bind_some h
  refine pkk_sound TTok mix hF 9 (hs := [.u (.d (.v (.int .i64 (v_l144.length : Int)))), .n n]) (ts := [(7, 110, 3)]) (s := [15]) (l := [1, 2, 7, 13, 14, 15]) (by kernel_rfl) (by kernel_rfl) (.cons (len_ob (f := eS_area_Area) (l := v_l144)) .nil) (G_area_cut_h_L2_ok hF (.b 0 :: .s (cR (cR (cR (bodyOf Try.f128)))) :: []) n v_from145 v_to146 v_l144 n 0 ([] : List S_area_Area) _ h189 ?_)
  cases v_o170 with
  | x0 v_z171 =>
    try dsimp only at h
    obtain rfl := Option.some.inj h
    exact pendH_sound TTok mix 4 (hs := []) [0] (by kernel_rfl) (by kernel_rfl) (by kernel_rfl) .nil
/- ringhall/area.Out -/
def G_area_Out (n : Nat) (v_l140 : (List S_area_Area)) (v_page141 : Int) (v_n142 : Int) : Option ((List S_area_Area) × Int) :=
  (G_area_check n v_l140 (S_area_Area.mk v_page141 v_n142 0)).bind fun (v_r143 : (Int)) =>
  if v_r143 = 0 then
   (G_area_cut_h n v_l140 v_page141 (wi .i64 (v_page141 + v_n142))).bind fun (v_r172 : ((List S_area_Area))) =>
   some (v_r172, 0)
  else
   some (([] : (List S_area_Area)), v_r143)
theorem G_area_Out_ok (n : Nat) (v_l140 : (List S_area_Area)) (v_page141 : Int) (v_n142 : Int) (r : (List S_area_Area) × Int) (h : G_area_Out n v_l140 v_page141 v_n142 = some r) : Ret Try.prog 63 [(eL eS_area_Area) v_l140, (eI .i64) v_page141, (eI .i64) v_n142] (.tup [(eL eS_area_Area) r.1, (eI .i64) r.2]) := by
  refine ret_run (n := 23) (fn := Try.f63) (c := bodyOf Try.f63) (by kernel_rfl) (by kernel_rfl) (by kernel_rfl) (by kernel_rfl) ?_
  have hF : KC 23 (FinR Try.prog Try.f63 (.tup [(eL eS_area_Area) r.1, (eI .i64) r.2])) := FinR.kc' (by kernel_rfl)
  unfold G_area_Out at h
  obtain ⟨v_r143, h158, h⟩ := bind_some h
  by_cases h160 : v_r143 = 0
  · rw [if_pos h160] at h
    obtain ⟨v_r172, h190, h⟩ := bind_some h
    obtain rfl := Option.some.inj h
    exact pend_sound TTok mix 12 (hs := [.r ((eI .i64) v_r143), .t false, .h [] [] [.row 110 3 (v_r172.map eS_area_Area)] (.srf 0)]) (by kernel_rfl) (by kernel_rfl) (by kernel_rfl) (.cons (G_area_check_ok n v_l140 (S_area_Area.mk v_page141 v_n142 0) _ h158) (.cons (nf h160) (.cons (G_area_cut_h_ok n v_l140 v_page141 (wi .i64 (v_page141 + v_n142)) _ h190) .nil)))
  · rw [if_neg h160] at h
    obtain rfl := Option.some.inj h
    exact pend_sound TTok mix 12 (hs := [.r ((eI .i64) v_r143), .t true]) (by kernel_rfl) (by kernel_rfl) (by kernel_rfl) (.cons (G_area_check_ok n v_l140 (S_area_Area.mk v_page141 v_n142 0) _ h158) (.cons (nt h160) .nil))
/- ringhall/area.Turn -/
def G_area_Turn (n : Nat) (v_l174 : (List S_area_Area)) (v_a175 : S_area_Area) : Option ((List S_area_Area) × Int) :=
  (G_area_check n v_l174 v_a175).bind fun (v_r176 : (Int)) =>
  if v_r176 = 0 then
   (G_area_many n v_l174 v_a175.fPage (wi .i64 (v_a175.fPage + v_a175.fN))).bind fun (v_r177 : (Int)) =>
   if v_r177 < v_a175.fN then
    some (([] : (List S_area_Area)), 11)
   else
    (G_area_cut_h n v_l174 v_a175.fPage (wi .i64 (v_a175.fPage + v_a175.fN))).bind fun (v_r178 : ((List S_area_Area))) =>
    (G_area_lay_h n v_r178 v_a175).bind fun (v_r179 : ((List S_area_Area))) =>
    some (v_r179, 0)
  else
   some (([] : (List S_area_Area)), v_r176)
theorem G_area_Turn_ok (n : Nat) (v_l174 : (List S_area_Area)) (v_a175 : S_area_Area) (r : (List S_area_Area) × Int) (h : G_area_Turn n v_l174 v_a175 = some r) : Ret Try.prog 64 [(eL eS_area_Area) v_l174, eS_area_Area v_a175] (.tup [(eL eS_area_Area) r.1, (eI .i64) r.2]) := by
  refine ret_run (n := 36) (fn := Try.f64) (c := bodyOf Try.f64) (by kernel_rfl) (by kernel_rfl) (by kernel_rfl) (by kernel_rfl) ?_
  have hF : KC 36 (FinR Try.prog Try.f64 (.tup [(eL eS_area_Area) r.1, (eI .i64) r.2])) := FinR.kc' (by kernel_rfl)
  unfold G_area_Turn at h
  obtain ⟨v_r176, h192, h⟩ := bind_some h
  by_cases h194 : v_r176 = 0
  · rw [if_pos h194] at h
    obtain ⟨v_r177, h195, h⟩ := bind_some h
    by_cases h196 : v_r177 < v_a175.fN
    · rw [if_pos h196] at h
      obtain rfl := Option.some.inj h
      exact pend_sound TTok mix 17 (hs := [.c, .r ((eI .i64) v_r176), .t false, .c, .c, .c, .r ((eI .i64) v_r177), .c, .t true]) (by kernel_rfl) (by kernel_rfl) (by kernel_rfl) (.cons (G_area_check_ok n v_l174 v_a175 _ h192) (.cons (nf h194) (.cons (G_area_many_ok n v_l174 v_a175.fPage (wi .i64 (v_a175.fPage + v_a175.fN)) _ h195) (.cons (dt h196) .nil))))
    · rw [if_neg h196] at h
      obtain ⟨v_r178, h197, h⟩ := bind_some h
      obtain ⟨v_r179, h198, h⟩ := bind_some h
      obtain rfl := Option.some.inj h
      exact pend_sound TTok mix 17 (hs := [.c, .r ((eI .i64) v_r176), .t false, .c, .c, .c, .r ((eI .i64) v_r177), .c, .t false, .c, .c, .c, .h [] [] [.row 110 3 (v_r178.map eS_area_Area)] (.srf 0), .c, .h [87] [] [.none, .row 110 3 (v_r179.map eS_area_Area)] (.srf 1)]) (by kernel_rfl) (by kernel_rfl) (by kernel_rfl) (.cons (G_area_check_ok n v_l174 v_a175 _ h192) (.cons (nf h194) (.cons (G_area_many_ok n v_l174 v_a175.fPage (wi .i64 (v_a175.fPage + v_a175.fN)) _ h195) (.cons (df h196) (.cons (G_area_cut_h_ok n v_l174 v_a175.fPage (wi .i64 (v_a175.fPage + v_a175.fN)) _ h197) (.cons (G_area_lay_h_ok n v_r178 v_a175 _ h198) .nil))))))
  · rw [if_neg h194] at h
    obtain rfl := Option.some.inj h
    exact pend_sound TTok mix 12 (hs := [.c, .r ((eI .i64) v_r176), .t true]) (by kernel_rfl) (by kernel_rfl) (by kernel_rfl) (.cons (G_area_check_ok n v_l174 v_a175 _ h192) (.cons (nt h194) .nil))
inductive G_area_At_L1_R where
  | x0 (v_x187 : Bool) (v_x188 : Int) (v_b189 : S_area_Area)
  | x1 
def G_area_At_L1_ex : G_area_At_L1_R → Ex
  | .x0 _ _ _ => .ret
  | .x1  => .exit 0
def G_area_At_L1_st (v_page182 : Int) (v_l181 : (List S_area_Area)) : G_area_At_L1_R → PS
  | .x0 v_x187 v_x188 v_b189 => ⟨[dd, dd, dd, dd, .ref 0 0, .d (.v (.bool v_x187)), .d (.v (.int .i64 v_x188)), dd, dd, dd, dd, dd, dd, dd, dd, dd, dd, dd, dd, dd, dd, dd, dd, dd, dd, dd, dd, dd, dd, dd, dd, dd, dd, dd, dd, dd, dd, dd, dd, dd], [.box [.d (.v (.int .i64 v_b189.fPage)), .d (.v (.int .i64 v_b189.fN)), .d (.v (.int .i64 v_b189.fRights))]]⟩
  | .x1  => ⟨[dd, dd, dd, dd, .ref 0 0, dd, dd, dd, dd, dd, dd, dd, dd, dd, dd, dd, dd, dd, dd, dd, dd, dd, dd, dd, dd, dd, dd, dd, dd, dd, dd, dd, dd, dd, dd, dd, dd, dd, dd, dd], [.box [.d (.v (.int .i64 0)), .d (.v (.int .i64 0)), .d (.v (.int .i64 0))]]⟩
def G_area_At_L1_hd (v_page182 : Int) (v_l181 : (List S_area_Area)) (v_x184 : Int) : PS := ⟨[dd, .d (.v (.int .i64 v_page182)), dd, dd, .ref 0 0, dd, dd, dd, dd, dd, dd, dd, dd, dd, dd, dd, dd, dd, .d (.sl (v_l181.map eS_area_Area)), .d (.v (.int .i64 (v_l181.length : Int))), .d (.v (.int .i64 v_x184)), dd, dd, dd, dd, dd, dd, dd, dd, dd, dd, dd, dd, dd, dd, dd, dd, dd, dd, dd], [.box [.d (.v (.int .i64 0)), .d (.v (.int .i64 0)), .d (.v (.int .i64 0))]]⟩
def G_area_At_L1 (n : Nat) (v_page182 : Int) (v_l181 : (List S_area_Area)) : Nat → Int → Option G_area_At_L1_R
  | 0, _ => none
  | k + 1, v_x184 =>
    if v_x184 < (v_l181.length : Int) then
     (getI v_l181 v_x184).bind fun (v_y186 : S_area_Area) =>
     if v_page182 ≥ v_y186.fPage then
      if v_page182 < (wi .i64 (v_y186.fPage + v_y186.fN)) then
       some (.x0 true 0 v_y186)
      else
       G_area_At_L1 n v_page182 v_l181 k (wi .i64 (v_x184 + 1))
     else
      G_area_At_L1 n v_page182 v_l181 k (wi .i64 (v_x184 + 1))
    else
     some (.x1 )
theorem G_area_At_L1_ok {Fi : Ex → PS → Prop} (hF : KC 40 Fi) (ks : List Fr) (n : Nat) (v_page182 : Int) (v_l181 : (List S_area_Area))  : ∀ (k : Nat) (v_x184 : Int) (o : G_area_At_L1_R), G_area_At_L1 n v_page182 v_l181 k v_x184 = some o → RunE Try.prog 40 Fi ks (G_area_At_L1_ex o) (G_area_At_L1_st v_page182 v_l181 o) → RunE Try.prog 40 Fi (.l k (cP (cB (cR (cL (cR (cR (bodyOf Try.f65))))))) :: ks) .normal (G_area_At_L1_hd v_page182 v_l181 v_x184)
  | 0, v_x184, o, h, q => by rw [G_area_At_L1] at h; cases h
  | k + 1, v_x184, o, h, q => by
    rw [G_area_At_L1] at h
    by_cases h203 : v_x184 < (v_l181.length : Int)
    · rw [if_pos h203] at h
      obtain ⟨v_y186, h209, h⟩ := bind_some h
      by_cases h211 : v_page182 ≥ v_y186.fPage
      · rw [if_pos h211] at h
        by_cases h213 : v_page182 < (wi .i64 (v_y186.fPage + v_y186.fN))
        · rw [if_pos h213] at h
          cases h
          exact pkk_sound TTok mix hF 19 (hs := [.t true, .y (eS_area_Area v_y186), .c, .c, .t true, .c, .c, .c, .c, .c, .c, .c, .c, .t true, .c, .c]) (ts := []) (s := [0]) (l := [4, 5, 6]) (by kernel_rfl) (by kernel_rfl) (.cons (dt h203) (.cons (getI_ob (f := eS_area_Area) h209) (.cons (show 0 + 3 ≤ 3 by decide) (.cons (dt h211) (.cons (dt h213) (.cons (show 0 + 3 ≤ 3 by decide) .nil)))))) q
        · rw [if_neg h213] at h
          exact pkk_sound TTok mix hF 16 (hs := [.t true, .y (eS_area_Area v_y186), .c, .c, .t true, .c, .c, .c, .c, .c, .c, .c, .c, .t false]) (ts := []) (s := [0]) (l := [1, 4, 18, 19, 20]) (by kernel_rfl) (by kernel_rfl) (.cons (dt h203) (.cons (getI_ob (f := eS_area_Area) h209) (.cons (show 0 + 3 ≤ 3 by decide) (.cons (dt h211) (.cons (df h213) .nil))))) (G_area_At_L1_ok hF ks n v_page182 v_l181 k (wi .i64 (v_x184 + 1)) _ h q)
      · rw [if_neg h211] at h
        exact pkk_sound TTok mix hF 16 (hs := [.t true, .y (eS_area_Area v_y186), .c, .c, .t false, .c, .c, .c, .c, .c, .c, .c]) (ts := []) (s := [0]) (l := [1, 4, 18, 19, 20]) (by kernel_rfl) (by kernel_rfl) (.cons (dt h203) (.cons (getI_ob (f := eS_area_Area) h209) (.cons (show 0 + 3 ≤ 3 by decide) (.cons (df h211) .nil)))) (G_area_At_L1_ok hF ks n v_page182 v_l181 k (wi .i64 (v_x184 + 1)) _ h q)
    · rw [if_neg h203] at h
      cases h
      exact pkk_sound TTok mix hF 8 (hs := [.t false]) (ts := []) (s := [0]) (l := [4]) (by kernel_rfl) (by kernel_rfl) (.cons (df h203) .nil) q
/- ringhall/area.At -/
def G_area_At (n : Nat) (v_l181 : (List S_area_Area)) (v_page182 : Int) : Option (S_area_Area × Bool × Int) :=
  (G_area_check n v_l181 (S_area_Area.mk v_page182 1 0)).bind fun (v_r183 : (Int)) =>
  if v_r183 = 0 then
   (G_area_At_L1 n v_page182 v_l181 n 0).bind fun v_o190 => match v_o190 with
   | .x0 v_z191 v_z192 v_z193 =>
     some (v_z193, v_z191, v_z192)
   | .x1  =>
     some ((S_area_Area.mk 0 0 0), false, 0)
  else
   some ((S_area_Area.mk 0 0 0), false, v_r183)
theorem G_area_At_ok (n : Nat) (v_l181 : (List S_area_Area)) (v_page182 : Int) (r : S_area_Area × Bool × Int) (h : G_area_At n v_l181 v_page182 = some r) : Ret Try.prog 65 [(eL eS_area_Area) v_l181, (eI .i64) v_page182] (.tup [eS_area_Area r.1, eB r.2.1, (eI .i64) r.2.2]) := by
  refine ret_run (n := 40) (fn := Try.f65) (c := bodyOf Try.f65) (by kernel_rfl) (by kernel_rfl) (by kernel_rfl) (by kernel_rfl) ?_
  have hF : KC 40 (FinR Try.prog Try.f65 (.tup [eS_area_Area r.1, eB r.2.1, (eI .i64) r.2.2])) := FinR.kc' (by kernel_rfl)
  unfold G_area_At at h
  obtain ⟨v_r183, h200, h⟩ := bind_some h
  by_cases h202 : v_r183 = 0
  · rw [if_pos h202] at h
    obtain ⟨v_o190, h214, h⟩ := bind_some h
    refine pkk_sound TTok mix hF 14 (hs := [.r ((eI .i64) v_r183), .t false, .u (.d (.v (.int .i64 (v_l181.length : Int)))), .n n]) (ts := []) (s := [0]) (l := [1, 4, 18, 19, 20]) (by kernel_rfl) (by kernel_rfl) (.cons (G_area_check_ok n v_l181 (S_area_Area.mk v_page182 1 0) _ h200) (.cons (nf h202) (.cons (len_ob (f := eS_area_Area) (l := v_l181)) .nil))) (G_area_At_L1_ok hF (.b 0 :: .s (cR (cR (cR (bodyOf Try.f65)))) :: []) n v_page182 v_l181 n 0 _ h214 ?_)
    cases v_o190 with
    | x0 v_z191 v_z192 v_z193 =>
      try dsimp only at h
      obtain rfl := Option.some.inj h
      exact pend_sound TTok mix 2 (hs := []) (by kernel_rfl) (by kernel_rfl) (by kernel_rfl) .nil
    | x1  =>
      try dsimp only at h
      obtain rfl := Option.some.inj h
      exact pend_sound TTok mix 4 (hs := [.c]) (by kernel_rfl) (by kernel_rfl) (by kernel_rfl) (.cons (show 0 + 3 ≤ 3 by decide) .nil)
  · rw [if_neg h202] at h
    obtain rfl := Option.some.inj h
    exact pend_sound TTok mix 12 (hs := [.r ((eI .i64) v_r183), .t true, .c]) (by kernel_rfl) (by kernel_rfl) (by kernel_rfl) (.cons (G_area_check_ok n v_l181 (S_area_Area.mk v_page182 1 0) _ h200) (.cons (nt h202) (.cons (show 0 + 3 ≤ 3 by decide) .nil)))
inductive G_area_Gap_L1_R where
  | x0 (v_x202 : Int) (v_x203 : Int)
  | x1 (v_at204 : Int)
def G_area_Gap_L1_ex : G_area_Gap_L1_R → Ex
  | .x0 _ _ => .ret
  | .x1 _ => .exit 0
def G_area_Gap_L1_st (v_n196 : Int) (v_l195 : (List S_area_Area)) : G_area_Gap_L1_R → PS
  | .x0 v_x202 v_x203 => ⟨[dd, dd, dd, dd, .d (.v (.int .i64 v_x202)), .d (.v (.int .i64 v_x203)), dd, dd, dd, dd, dd, dd, dd, dd, dd, dd, dd, dd, dd, dd, dd, dd, dd, dd, dd, dd, dd, dd, dd, dd, dd, dd, dd, dd, dd, dd, dd, dd, dd, dd, dd], []⟩
  | .x1 v_at204 => ⟨[dd, .d (.v (.int .i64 v_n196)), dd, dd, dd, dd, dd, .d (.v (.int .i64 v_at204)), dd, dd, dd, dd, dd, dd, dd, dd, dd, dd, dd, dd, dd, dd, dd, dd, dd, dd, dd, dd, dd, dd, dd, dd, dd, dd, dd, dd, dd, dd, dd, dd, dd], []⟩
def G_area_Gap_L1_hd (v_n196 : Int) (v_l195 : (List S_area_Area)) (v_at198 : Int) (v_x199 : Int) : PS := ⟨[dd, .d (.v (.int .i64 v_n196)), dd, dd, dd, dd, dd, .d (.v (.int .i64 v_at198)), dd, dd, dd, dd, dd, dd, dd, dd, dd, .d (.sl (v_l195.map eS_area_Area)), .d (.v (.int .i64 (v_l195.length : Int))), .d (.v (.int .i64 v_x199)), dd, dd, dd, dd, dd, dd, dd, dd, dd, dd, dd, dd, dd, dd, dd, dd, dd, dd, dd, dd, dd], []⟩
def G_area_Gap_L1 (n : Nat) (v_n196 : Int) (v_l195 : (List S_area_Area)) : Nat → Int → Int → Option G_area_Gap_L1_R
  | 0, _, _ => none
  | k + 1, v_at198, v_x199 =>
    if v_x199 < (v_l195.length : Int) then
     (getI v_l195 v_x199).bind fun (v_y201 : S_area_Area) =>
     if (wi .i64 (v_y201.fPage - v_at198)) ≥ v_n196 then
      some (.x0 v_at198 0)
     else
      G_area_Gap_L1 n v_n196 v_l195 k (wi .i64 (v_y201.fPage + v_y201.fN)) (wi .i64 (v_x199 + 1))
    else
     some (.x1 v_at198)
theorem G_area_Gap_L1_ok {Fi : Ex → PS → Prop} (hF : KC 41 Fi) (ks : List Fr) (n : Nat) (v_n196 : Int) (v_l195 : (List S_area_Area))  : ∀ (k : Nat) (v_at198 : Int) (v_x199 : Int) (o : G_area_Gap_L1_R), G_area_Gap_L1 n v_n196 v_l195 k v_at198 v_x199 = some o → RunE Try.prog 41 Fi ks (G_area_Gap_L1_ex o) (G_area_Gap_L1_st v_n196 v_l195 o) → RunE Try.prog 41 Fi (.l k (cP (cB (cR (cL (cR (cR (cR (bodyOf Try.f66)))))))) :: ks) .normal (G_area_Gap_L1_hd v_n196 v_l195 v_at198 v_x199)
  | 0, v_at198, v_x199, o, h, q => by rw [G_area_Gap_L1] at h; cases h
  | k + 1, v_at198, v_x199, o, h, q => by
    rw [G_area_Gap_L1] at h
    by_cases h219 : v_x199 < (v_l195.length : Int)
    · rw [if_pos h219] at h
      obtain ⟨v_y201, h223, h⟩ := bind_some h
      by_cases h225 : (wi .i64 (v_y201.fPage - v_at198)) ≥ v_n196
      · rw [if_pos h225] at h
        cases h
        exact pkk_sound TTok mix hF 21 (hs := [.t true, .y (eS_area_Area v_y201), .c, .c, .t true]) (ts := []) (s := []) (l := [4, 5]) (by kernel_rfl) (by kernel_rfl) (.cons (dt h219) (.cons (getI_ob (f := eS_area_Area) h223) (.cons (show 0 + 3 ≤ 3 by decide) (.cons (dt h225) .nil)))) q
      · rw [if_neg h225] at h
        exact pkk_sound TTok mix hF 18 (hs := [.t true, .y (eS_area_Area v_y201), .c, .c, .t false, .c, .c]) (ts := []) (s := []) (l := [1, 7, 17, 18, 19]) (by kernel_rfl) (by kernel_rfl) (.cons (dt h219) (.cons (getI_ob (f := eS_area_Area) h223) (.cons (show 0 + 3 ≤ 3 by decide) (.cons (df h225) .nil)))) (G_area_Gap_L1_ok hF ks n v_n196 v_l195 k (wi .i64 (v_y201.fPage + v_y201.fN)) (wi .i64 (v_x199 + 1)) _ h q)
    · rw [if_neg h219] at h
      cases h
      exact pkk_sound TTok mix hF 8 (hs := [.t false]) (ts := []) (s := []) (l := [1, 7]) (by kernel_rfl) (by kernel_rfl) (.cons (df h219) .nil) q
/- ringhall/area.Gap -/
def G_area_Gap (n : Nat) (v_l195 : (List S_area_Area)) (v_n196 : Int) : Option (Int × Int) :=
  (G_area_check n v_l195 (S_area_Area.mk 0 v_n196 0)).bind fun (v_r197 : (Int)) =>
  if v_r197 = 0 then
   (G_area_Gap_L1 n v_n196 v_l195 n 0 0).bind fun v_o205 => match v_o205 with
   | .x0 v_z206 v_z207 =>
     some (v_z206, v_z207)
   | .x1 v_z208 =>
     if (wi .i64 (64 - v_z208)) < v_n196 then
      some (0, 6)
     else
      some (v_z208, 0)
  else
   some (0, v_r197)
theorem G_area_Gap_ok (n : Nat) (v_l195 : (List S_area_Area)) (v_n196 : Int) (r : Int × Int) (h : G_area_Gap n v_l195 v_n196 = some r) : Ret Try.prog 66 [(eL eS_area_Area) v_l195, (eI .i64) v_n196] (.tup [(eI .i64) r.1, (eI .i64) r.2]) := by
  refine ret_run (n := 41) (fn := Try.f66) (c := bodyOf Try.f66) (by kernel_rfl) (by kernel_rfl) (by kernel_rfl) (by kernel_rfl) ?_
  have hF : KC 41 (FinR Try.prog Try.f66 (.tup [(eI .i64) r.1, (eI .i64) r.2])) := FinR.kc' (by kernel_rfl)
  unfold G_area_Gap at h
  obtain ⟨v_r197, h216, h⟩ := bind_some h
  by_cases h218 : v_r197 = 0
  · rw [if_pos h218] at h
    obtain ⟨v_o205, h226, h⟩ := bind_some h
    refine pkk_sound TTok mix hF 16 (hs := [.r ((eI .i64) v_r197), .t false, .u (.d (.v (.int .i64 (v_l195.length : Int)))), .n n]) (ts := []) (s := []) (l := [1, 7, 17, 18, 19]) (by kernel_rfl) (by kernel_rfl) (.cons (G_area_check_ok n v_l195 (S_area_Area.mk 0 v_n196 0) _ h216) (.cons (nf h218) (.cons (len_ob (f := eS_area_Area) (l := v_l195)) .nil))) (G_area_Gap_L1_ok hF (.b 0 :: .s (cR (cR (cR (cR (bodyOf Try.f66))))) :: []) n v_n196 v_l195 n 0 0 _ h226 ?_)
    cases v_o205 with
    | x0 v_z206 v_z207 =>
      try dsimp only at h
      obtain rfl := Option.some.inj h
      exact pend_sound TTok mix 2 (hs := []) (by kernel_rfl) (by kernel_rfl) (by kernel_rfl) .nil
    | x1 v_z208 =>
      try dsimp only at h
      by_cases h227 : (wi .i64 (64 - v_z208)) < v_n196
      · rw [if_pos h227] at h
        obtain rfl := Option.some.inj h
        exact pend_sound TTok mix 9 (hs := [.t true]) (by kernel_rfl) (by kernel_rfl) (by kernel_rfl) (.cons (dt h227) .nil)
      · rw [if_neg h227] at h
        obtain rfl := Option.some.inj h
        exact pend_sound TTok mix 9 (hs := [.t false]) (by kernel_rfl) (by kernel_rfl) (by kernel_rfl) (.cons (df h227) .nil)
  · rw [if_neg h218] at h
    obtain rfl := Option.some.inj h
    exact pend_sound TTok mix 12 (hs := [.r ((eI .i64) v_r197), .t true]) (by kernel_rfl) (by kernel_rfl) (by kernel_rfl) (.cons (G_area_check_ok n v_l195 (S_area_Area.mk 0 v_n196 0) _ h216) (.cons (nt h218) .nil))
/- ringhall/ringref2.In -/
def G_ringref2_In (n : Nat) (v_n214 : Int) (v_least215 : Int) (v_most216 : Int) : Option (Bool) :=
  if v_n214 ≥ v_least215 then
   some (decide (v_n214 ≤ v_most216))
  else
   some false
theorem G_ringref2_In_ok (n : Nat) (v_n214 : Int) (v_least215 : Int) (v_most216 : Int) (r : Bool) (h : G_ringref2_In n v_n214 v_least215 v_most216 = some r) : Ret Try.prog 35 [(eI .i64) v_n214, (eI .i64) v_least215, (eI .i64) v_most216] (eB r) := by
  refine ret_run (n := 15) (fn := Try.f35) (c := bodyOf Try.f35) (by kernel_rfl) (by kernel_rfl) (by kernel_rfl) (by kernel_rfl) ?_
  have hF : KC 15 (FinR Try.prog Try.f35 (eB r)) := FinR.kc' (by kernel_rfl)
  unfold G_ringref2_In at h
  by_cases h232 : v_n214 ≥ v_least215
  · rw [if_pos h232] at h
    obtain rfl := Option.some.inj h
    exact pend_sound TTok mix 5 (hs := [.t true, .c, .c]) (by kernel_rfl) (by kernel_rfl) (by kernel_rfl) (.cons (dt h232) .nil)
  · rw [if_neg h232] at h
    obtain rfl := Option.some.inj h
    exact pend_sound TTok mix 5 (hs := [.t false, .c, .c]) (by kernel_rfl) (by kernel_rfl) (by kernel_rfl) (.cons (df h232) .nil)
inductive G_ringref2_AreaIs_C1_R where
  | x0 (v_x223 : Bool)
def G_ringref2_AreaIs_C1_ex : G_ringref2_AreaIs_C1_R → Ex
  | .x0 _ => .normal
def G_ringref2_AreaIs_C1_st (v_a213 : S_area_Area) : G_ringref2_AreaIs_C1_R → PS
  | .x0 v_x223 => ⟨[dd, dd, .d (.v (.bool v_x223)), dd, dd, dd, dd, dd, dd, dd, dd, dd, dd, dd, dd, dd, dd, dd, dd], []⟩
def G_ringref2_AreaIs_C1_hd (v_a213 : S_area_Area)  : PS := ⟨[dd, .ref 0 0, dd, dd, dd, dd, dd, dd, dd, dd, dd, dd, dd, dd, dd, dd, dd, dd, dd], [.box [.d (.v (.int .i64 v_a213.fPage)), .d (.v (.int .i64 v_a213.fN)), .d (.v (.int .i64 v_a213.fRights))]]⟩
def G_ringref2_AreaIs_C1 (n : Nat) (v_a213 : S_area_Area) : Option G_ringref2_AreaIs_C1_R :=
  (G_ringref2_In n v_a213.fPage 0 63).bind fun (v_r220 : (Bool)) =>
  if v_r220 = true then
   (G_ringref2_In n v_a213.fN 1 (wi .i64 (64 - v_a213.fPage))).bind fun (v_r221 : (Bool)) =>
   if v_r221 = true then
    (G_ringref2_In n v_a213.fRights 0 7).bind fun (v_r222 : (Bool)) =>
    some (.x0 v_r222)
   else
    some (.x0 false)
  else
   some (.x0 false)
theorem G_ringref2_AreaIs_C1_ok {Fi : Ex → PS → Prop} (hF : KC 19 Fi) (ks : List Fr) (n : Nat) (v_a213 : S_area_Area)  (o : G_ringref2_AreaIs_C1_R) (h : G_ringref2_AreaIs_C1 n v_a213 = some o) (q : RunE Try.prog 19 Fi ks (G_ringref2_AreaIs_C1_ex o) (G_ringref2_AreaIs_C1_st v_a213 o)) : RunE Try.prog 19 Fi (.s (cL (cR (bodyOf Try.f70))) :: ks) .normal (G_ringref2_AreaIs_C1_hd v_a213) := by
  unfold G_ringref2_AreaIs_C1 at h
  obtain ⟨v_r220, h238, h⟩ := bind_some h
  by_cases h239 : v_r220 = true
  · rw [if_pos h239] at h
    obtain ⟨v_r221, h240, h⟩ := bind_some h
    by_cases h241 : v_r221 = true
    · rw [if_pos h241] at h
      obtain ⟨v_r222, h242, h⟩ := bind_some h
      cases h
      exact pkk_sound TTok mix hF 1 (hs := [.c, .r (eB v_r220), .t true, .c, .c, .c, .c, .c, .c, .c, .r (eB v_r221), .t true, .c, .c, .c, .r (eB v_r222)]) (ts := []) (s := []) (l := [2]) (by kernel_rfl) (by kernel_rfl) (.cons (G_ringref2_In_ok n v_a213.fPage 0 63 _ h238) (.cons h239 (.cons (G_ringref2_In_ok n v_a213.fN 1 (wi .i64 (64 - v_a213.fPage)) _ h240) (.cons h241 (.cons (G_ringref2_In_ok n v_a213.fRights 0 7 _ h242) .nil))))) q
    · rw [if_neg h241] at h
      cases h
      exact pkk_sound TTok mix hF 1 (hs := [.c, .r (eB v_r220), .t true, .c, .c, .c, .c, .c, .c, .c, .r (eB v_r221), .t false, .c, .c]) (ts := []) (s := []) (l := [2]) (by kernel_rfl) (by kernel_rfl) (.cons (G_ringref2_In_ok n v_a213.fPage 0 63 _ h238) (.cons h239 (.cons (G_ringref2_In_ok n v_a213.fN 1 (wi .i64 (64 - v_a213.fPage)) _ h240) (.cons (vf h241) .nil)))) q
  · rw [if_neg h239] at h
    cases h
    exact pkk_sound TTok mix hF 1 (hs := [.c, .r (eB v_r220), .t false, .c, .c, .c, .c, .c, .c, .c, .c]) (ts := []) (s := []) (l := [2]) (by kernel_rfl) (by kernel_rfl) (.cons (G_ringref2_In_ok n v_a213.fPage 0 63 _ h238) (.cons (vf h239) .nil)) q
/- ringhall/ringref2.AreaIs -/
def G_ringref2_AreaIs (n : Nat) (v_a213 : S_area_Area) : Option (Bool) :=
  (G_ringref2_AreaIs_C1 n v_a213).bind fun v_o226 => match v_o226 with
  | .x0 v_z227 =>
    some v_z227
theorem G_ringref2_AreaIs_ok (n : Nat) (v_a213 : S_area_Area) (r : Bool) (h : G_ringref2_AreaIs n v_a213 = some r) : Ret Try.prog 70 [eS_area_Area v_a213] (eB r) := by
  refine ret_run (n := 19) (fn := Try.f70) (c := bodyOf Try.f70) (by kernel_rfl) (by kernel_rfl) (by kernel_rfl) (by kernel_rfl) ?_
  have hF : KC 19 (FinR Try.prog Try.f70 (eB r)) := FinR.kc' (by kernel_rfl)
  unfold G_ringref2_AreaIs at h
  obtain ⟨v_o226, h243, h⟩ := bind_some h
  refine pkk_sound TTok mix hF 3 (hs := []) (ts := []) (s := [0]) (l := [1]) (by kernel_rfl) (by kernel_rfl) .nil (G_ringref2_AreaIs_C1_ok hF (.s (cR (cR (bodyOf Try.f70))) :: []) n v_a213 _ h243 ?_)
  cases v_o226 with
  | x0 v_z227 =>
    try dsimp only at h
    obtain rfl := Option.some.inj h
    exact pend_sound TTok mix 1 (hs := []) (by kernel_rfl) (by kernel_rfl) (by kernel_rfl) .nil
inductive G_ringref2_AreaPages_L1_R where
  | x0 (v_b240 : (Fin 64 → Int))
def G_ringref2_AreaPages_L1_ex : G_ringref2_AreaPages_L1_R → Ex
  | .x0 _ => .exit 0
def G_ringref2_AreaPages_L1_st (v_l232 : (List S_area_Area)) : G_ringref2_AreaPages_L1_R → PS
  | .x0 v_b240 => ⟨[.d (.sl (v_l232.map eS_area_Area)), dd, .ref 0 0, .ref 1 0, dd, dd, dd, dd, dd, dd, dd, dd, dd, dd, dd, dd, dd, dd, dd, dd, dd, dd, dd, dd, dd, dd, dd, dd, dd, dd, dd, dd, dd, dd, dd], [.box ((cA_t119 (fun (_ : Fin 64) => 0)).map FV.d), .box ((cA_t119 v_b240).map FV.d)]⟩
def G_ringref2_AreaPages_L1_hd (v_l232 : (List S_area_Area)) (v_x236 : Int) (v_b237 : (Fin 64 → Int)) : PS := ⟨[.d (.sl (v_l232.map eS_area_Area)), dd, .ref 0 0, .ref 1 0, dd, dd, dd, dd, .d (.v (.int .i64 v_x236)), dd, dd, dd, dd, dd, dd, dd, dd, dd, dd, dd, dd, dd, dd, dd, dd, dd, dd, dd, dd, dd, dd, dd, dd, dd, dd], [.box ((cA_t119 (fun (_ : Fin 64) => 0)).map FV.d), .box ((cA_t119 v_b237).map FV.d)]⟩
def G_ringref2_AreaPages_L1 (n : Nat) (v_l232 : (List S_area_Area)) : Nat → Int → (Fin 64 → Int) → Option G_ringref2_AreaPages_L1_R
  | 0, _, _ => none
  | k + 1, v_x236, v_b237 =>
    if v_x236 < 64 then
     if 0 ≤ v_x236 ∧ v_x236 < (64 : Int) then
      (getA v_b237 v_x236).bind fun (v_y239 : Int) =>
      G_ringref2_AreaPages_L1 n v_l232 k (wi .i64 (v_x236 + 1)) (setA v_b237 v_x236 (-1))
     else none
    else
     some (.x0 v_b237)
theorem G_ringref2_AreaPages_L1_ok {Fi : Ex → PS → Prop} (hF : KC 35 Fi) (ks : List Fr) (n : Nat) (v_l232 : (List S_area_Area))  : ∀ (k : Nat) (v_x236 : Int) (v_b237 : (Fin 64 → Int)) (o : G_ringref2_AreaPages_L1_R), G_ringref2_AreaPages_L1 n v_l232 k v_x236 v_b237 = some o → RunE Try.prog 35 Fi ks (G_ringref2_AreaPages_L1_ex o) (G_ringref2_AreaPages_L1_st v_l232 o) → RunE Try.prog 35 Fi (.l k (cP (cB (cR (cL (cR (cR (bodyOf Try.f69))))))) :: ks) .normal (G_ringref2_AreaPages_L1_hd v_l232 v_x236 v_b237)
  | 0, v_x236, v_b237, o, h, q => by rw [G_ringref2_AreaPages_L1] at h; cases h
  | k + 1, v_x236, v_b237, o, h, q => by
    rw [G_ringref2_AreaPages_L1] at h
    by_cases h256 : v_x236 < 64
    · rw [if_pos h256] at h
      by_cases h259 : 0 ≤ v_x236 ∧ v_x236 < (64 : Int)
      · rw [if_pos h259] at h
        obtain ⟨v_y239, h260, h⟩ := bind_some h
        exact pkk_sound TTok mix hF 13 (hs := [.t true, .x ((cA_t119 (setA v_b237 v_x236 (-1))).map FV.d), .c]) (ts := []) (s := [0, 1]) (l := [0, 2, 3, 8]) (by kernel_rfl) (by kernel_rfl) (.cons (dt h256) (.cons h259 (.cons (arr_store (γ := FV) (sz := 1) (g := (fun x => [.d (.v (.int .i64 x))])) (pre := []) (post := []) (o := 0) (y := (-1)) (zs := [.d (.v (.int .i64 (-1)))]) (fun _ => rfl) h260 rfl (Nat.le_of_ble_eq_true rfl)).1 (.cons (arr_store (γ := FV) (sz := 1) (g := (fun x => [.d (.v (.int .i64 x))])) (pre := []) (post := []) (o := 0) (y := (-1)) (zs := [.d (.v (.int .i64 (-1)))]) (fun _ => rfl) h260 rfl (Nat.le_of_ble_eq_true rfl)).2 .nil)))) (G_ringref2_AreaPages_L1_ok hF ks n v_l232 k (wi .i64 (v_x236 + 1)) (setA v_b237 v_x236 (-1)) _ h q)
      · rw [if_neg h259] at h; cases h
    · rw [if_neg h256] at h
      cases h
      exact pkk_sound TTok mix hF 8 (hs := [.t false]) (ts := []) (s := [0, 1]) (l := [0, 2, 3]) (by kernel_rfl) (by kernel_rfl) (.cons (df h256) .nil) q
inductive G_ringref2_AreaPages_L2_R where
  | x0 (v_b252 : (Fin 64 → Int))
def G_ringref2_AreaPages_L2_ex : G_ringref2_AreaPages_L2_R → Ex
  | .x0 _ => .exit 4
def G_ringref2_AreaPages_L2_st (v_l232 : (List S_area_Area)) (v_x243 : Int) (v_y244 : S_area_Area) : G_ringref2_AreaPages_L2_R → PS
  | .x0 v_b252 => ⟨[dd, dd, .ref 0 0, .ref 1 0, dd, dd, dd, dd, dd, dd, dd, dd, dd, dd, .d (.sl (v_l232.map eS_area_Area)), .d (.v (.int .i64 (v_l232.length : Int))), .d (.v (.int .i64 v_x243)), dd, dd, dd, dd, dd, dd, dd, dd, dd, dd, dd, dd, dd, dd, dd, dd, dd, dd], [.box ((cA_t119 (fun (_ : Fin 64) => 0)).map FV.d), .box ((cA_t119 v_b252).map FV.d)]⟩
def G_ringref2_AreaPages_L2_hd (v_l232 : (List S_area_Area)) (v_x243 : Int) (v_y244 : S_area_Area) (v_x248 : Int) (v_b249 : (Fin 64 → Int)) : PS := ⟨[dd, dd, .ref 0 0, .ref 1 0, dd, dd, .ref 2 0, dd, dd, dd, dd, dd, dd, dd, .d (.sl (v_l232.map eS_area_Area)), .d (.v (.int .i64 (v_l232.length : Int))), .d (.v (.int .i64 v_x243)), dd, dd, dd, dd, .d (.v (.int .i64 v_y244.fN)), .d (.v (.int .i64 v_x248)), dd, dd, dd, dd, dd, dd, dd, dd, dd, dd, dd, dd], [.box ((cA_t119 (fun (_ : Fin 64) => 0)).map FV.d), .box ((cA_t119 v_b249).map FV.d), .box [.d (.v (.int .i64 v_y244.fPage)), .d (.v (.int .i64 v_y244.fN)), .d (.v (.int .i64 v_y244.fRights))]]⟩
def G_ringref2_AreaPages_L2 (n : Nat) (v_l232 : (List S_area_Area)) (v_x243 : Int) (v_y244 : S_area_Area) : Nat → Int → (Fin 64 → Int) → Option G_ringref2_AreaPages_L2_R
  | 0, _, _ => none
  | k + 1, v_x248, v_b249 =>
    if v_x248 < v_y244.fN then
     if 0 ≤ (wi .i64 (v_y244.fPage + v_x248)) ∧ (wi .i64 (v_y244.fPage + v_x248)) < (64 : Int) then
      (getA v_b249 (wi .i64 (v_y244.fPage + v_x248))).bind fun (v_y251 : Int) =>
      G_ringref2_AreaPages_L2 n v_l232 v_x243 v_y244 k (wi .i64 (v_x248 + 1)) (setA v_b249 (wi .i64 (v_y244.fPage + v_x248)) v_y244.fRights)
     else none
    else
     some (.x0 v_b249)
theorem G_ringref2_AreaPages_L2_ok {Fi : Ex → PS → Prop} (hF : KC 35 Fi) (ks : List Fr) (n : Nat) (v_l232 : (List S_area_Area)) (v_x243 : Int) (v_y244 : S_area_Area)  : ∀ (k : Nat) (v_x248 : Int) (v_b249 : (Fin 64 → Int)) (o : G_ringref2_AreaPages_L2_R), G_ringref2_AreaPages_L2 n v_l232 v_x243 v_y244 k v_x248 v_b249 = some o → RunE Try.prog 35 Fi ks (G_ringref2_AreaPages_L2_ex o) (G_ringref2_AreaPages_L2_st v_l232 v_x243 v_y244 o) → RunE Try.prog 35 Fi (.l k (cP (cB (cR (cR (cB (cL (cR (cR (cP (cB (cR (cL (cR (cR (cR (bodyOf Try.f69)))))))))))))))) :: ks) .normal (G_ringref2_AreaPages_L2_hd v_l232 v_x243 v_y244 v_x248 v_b249)
  | 0, v_x248, v_b249, o, h, q => by rw [G_ringref2_AreaPages_L2] at h; cases h
  | k + 1, v_x248, v_b249, o, h, q => by
    rw [G_ringref2_AreaPages_L2] at h
    by_cases h269 : v_x248 < v_y244.fN
    · rw [if_pos h269] at h
      by_cases h272 : 0 ≤ (wi .i64 (v_y244.fPage + v_x248)) ∧ (wi .i64 (v_y244.fPage + v_x248)) < (64 : Int)
      · rw [if_pos h272] at h
        obtain ⟨v_y251, h273, h⟩ := bind_some h
        exact pkk_sound TTok mix hF 13 (hs := [.t true, .c, .c, .x ((cA_t119 (setA v_b249 (wi .i64 (v_y244.fPage + v_x248)) v_y244.fRights)).map FV.d), .c]) (ts := []) (s := [0, 1, 2]) (l := [2, 3, 6, 14, 15, 16, 21, 22]) (by kernel_rfl) (by kernel_rfl) (.cons (dt h269) (.cons h272 (.cons (arr_store (γ := FV) (sz := 1) (g := (fun x => [.d (.v (.int .i64 x))])) (pre := []) (post := []) (o := 0) (y := v_y244.fRights) (zs := [.d (.v (.int .i64 v_y244.fRights))]) (fun _ => rfl) h273 rfl (Nat.le_of_ble_eq_true rfl)).1 (.cons (arr_store (γ := FV) (sz := 1) (g := (fun x => [.d (.v (.int .i64 x))])) (pre := []) (post := []) (o := 0) (y := v_y244.fRights) (zs := [.d (.v (.int .i64 v_y244.fRights))]) (fun _ => rfl) h273 rfl (Nat.le_of_ble_eq_true rfl)).2 .nil)))) (G_ringref2_AreaPages_L2_ok hF ks n v_l232 v_x243 v_y244 k (wi .i64 (v_x248 + 1)) (setA v_b249 (wi .i64 (v_y244.fPage + v_x248)) v_y244.fRights) _ h q)
      · rw [if_neg h272] at h; cases h
    · rw [if_neg h269] at h
      cases h
      exact pkk_sound TTok mix hF 8 (hs := [.t false]) (ts := []) (s := [0, 1]) (l := [2, 3, 14, 15, 16]) (by kernel_rfl) (by kernel_rfl) (.cons (df h269) .nil) q
inductive G_ringref2_AreaPages_L3_R where
  | x0 (v_b265 : (Fin 64 → Int))
def G_ringref2_AreaPages_L3_ex : G_ringref2_AreaPages_L3_R → Ex
  | .x0 _ => .exit 4
def G_ringref2_AreaPages_L3_st (v_l232 : (List S_area_Area)) (v_x255 : Int) (v_y257 : S_area_Area) : G_ringref2_AreaPages_L3_R → PS
  | .x0 v_b265 => ⟨[dd, dd, .ref 0 0, .ref 1 0, dd, dd, dd, dd, dd, dd, dd, dd, dd, dd, .d (.sl (v_l232.map eS_area_Area)), .d (.v (.int .i64 (v_l232.length : Int))), .d (.v (.int .i64 v_x255)), dd, dd, dd, dd, dd, dd, dd, dd, dd, dd, dd, dd, dd, dd, dd, dd, dd, dd], [.box ((cA_t119 (fun (_ : Fin 64) => 0)).map FV.d), .box ((cA_t119 v_b265).map FV.d)]⟩
def G_ringref2_AreaPages_L3_hd (v_l232 : (List S_area_Area)) (v_x255 : Int) (v_y257 : S_area_Area) (v_x261 : Int) (v_b262 : (Fin 64 → Int)) : PS := ⟨[dd, dd, .ref 0 0, .ref 1 0, dd, dd, .ref 2 0, dd, dd, dd, dd, dd, dd, dd, .d (.sl (v_l232.map eS_area_Area)), .d (.v (.int .i64 (v_l232.length : Int))), .d (.v (.int .i64 v_x255)), dd, dd, dd, dd, .d (.v (.int .i64 v_y257.fN)), .d (.v (.int .i64 v_x261)), dd, dd, dd, dd, dd, dd, dd, dd, dd, dd, dd, dd], [.box ((cA_t119 (fun (_ : Fin 64) => 0)).map FV.d), .box ((cA_t119 v_b262).map FV.d), .box [.d (.v (.int .i64 v_y257.fPage)), .d (.v (.int .i64 v_y257.fN)), .d (.v (.int .i64 v_y257.fRights))]]⟩
def G_ringref2_AreaPages_L3 (n : Nat) (v_l232 : (List S_area_Area)) (v_x255 : Int) (v_y257 : S_area_Area) : Nat → Int → (Fin 64 → Int) → Option G_ringref2_AreaPages_L3_R
  | 0, _, _ => none
  | k + 1, v_x261, v_b262 =>
    if v_x261 < v_y257.fN then
     if 0 ≤ (wi .i64 (v_y257.fPage + v_x261)) ∧ (wi .i64 (v_y257.fPage + v_x261)) < (64 : Int) then
      (getA v_b262 (wi .i64 (v_y257.fPage + v_x261))).bind fun (v_y264 : Int) =>
      G_ringref2_AreaPages_L3 n v_l232 v_x255 v_y257 k (wi .i64 (v_x261 + 1)) (setA v_b262 (wi .i64 (v_y257.fPage + v_x261)) v_y257.fRights)
     else none
    else
     some (.x0 v_b262)
theorem G_ringref2_AreaPages_L3_ok {Fi : Ex → PS → Prop} (hF : KC 35 Fi) (ks : List Fr) (n : Nat) (v_l232 : (List S_area_Area)) (v_x255 : Int) (v_y257 : S_area_Area)  : ∀ (k : Nat) (v_x261 : Int) (v_b262 : (Fin 64 → Int)) (o : G_ringref2_AreaPages_L3_R), G_ringref2_AreaPages_L3 n v_l232 v_x255 v_y257 k v_x261 v_b262 = some o → RunE Try.prog 35 Fi ks (G_ringref2_AreaPages_L3_ex o) (G_ringref2_AreaPages_L3_st v_l232 v_x255 v_y257 o) → RunE Try.prog 35 Fi (.l k (cP (cB (cR (cR (cB (cL (cR (cR (cP (cB (cR (cL (cR (cR (cR (bodyOf Try.f69)))))))))))))))) :: ks) .normal (G_ringref2_AreaPages_L3_hd v_l232 v_x255 v_y257 v_x261 v_b262)
  | 0, v_x261, v_b262, o, h, q => by rw [G_ringref2_AreaPages_L3] at h; cases h
  | k + 1, v_x261, v_b262, o, h, q => by
    rw [G_ringref2_AreaPages_L3] at h
    by_cases h282 : v_x261 < v_y257.fN
    · rw [if_pos h282] at h
      by_cases h285 : 0 ≤ (wi .i64 (v_y257.fPage + v_x261)) ∧ (wi .i64 (v_y257.fPage + v_x261)) < (64 : Int)
      · rw [if_pos h285] at h
        obtain ⟨v_y264, h286, h⟩ := bind_some h
        exact pkk_sound TTok mix hF 13 (hs := [.t true, .c, .c, .x ((cA_t119 (setA v_b262 (wi .i64 (v_y257.fPage + v_x261)) v_y257.fRights)).map FV.d), .c]) (ts := []) (s := [0, 1, 2]) (l := [2, 3, 6, 14, 15, 16, 21, 22]) (by kernel_rfl) (by kernel_rfl) (.cons (dt h282) (.cons h285 (.cons (arr_store (γ := FV) (sz := 1) (g := (fun x => [.d (.v (.int .i64 x))])) (pre := []) (post := []) (o := 0) (y := v_y257.fRights) (zs := [.d (.v (.int .i64 v_y257.fRights))]) (fun _ => rfl) h286 rfl (Nat.le_of_ble_eq_true rfl)).1 (.cons (arr_store (γ := FV) (sz := 1) (g := (fun x => [.d (.v (.int .i64 x))])) (pre := []) (post := []) (o := 0) (y := v_y257.fRights) (zs := [.d (.v (.int .i64 v_y257.fRights))]) (fun _ => rfl) h286 rfl (Nat.le_of_ble_eq_true rfl)).2 .nil)))) (G_ringref2_AreaPages_L3_ok hF ks n v_l232 v_x255 v_y257 k (wi .i64 (v_x261 + 1)) (setA v_b262 (wi .i64 (v_y257.fPage + v_x261)) v_y257.fRights) _ h q)
      · rw [if_neg h285] at h; cases h
    · rw [if_neg h282] at h
      cases h
      exact pkk_sound TTok mix hF 8 (hs := [.t false]) (ts := []) (s := [0, 1]) (l := [2, 3, 14, 15, 16]) (by kernel_rfl) (by kernel_rfl) (.cons (df h282) .nil) q
inductive G_ringref2_AreaPages_L4_R where
  | x0 (v_b268 : (Fin 64 → Int))
def G_ringref2_AreaPages_L4_ex : G_ringref2_AreaPages_L4_R → Ex
  | .x0 _ => .exit 2
def G_ringref2_AreaPages_L4_st (v_l232 : (List S_area_Area)) : G_ringref2_AreaPages_L4_R → PS
  | .x0 v_b268 => ⟨[dd, dd, .ref 0 0, .ref 1 0, dd, dd, dd, dd, dd, dd, dd, dd, dd, dd, dd, dd, dd, dd, dd, dd, dd, dd, dd, dd, dd, dd, dd, dd, dd, dd, dd, dd, dd, dd, dd], [.box ((cA_t119 (fun (_ : Fin 64) => 0)).map FV.d), .box ((cA_t119 v_b268).map FV.d)]⟩
def G_ringref2_AreaPages_L4_hd (v_l232 : (List S_area_Area)) (v_x255 : Int) (v_b256 : (Fin 64 → Int)) : PS := ⟨[dd, dd, .ref 0 0, .ref 1 0, dd, dd, dd, dd, dd, dd, dd, dd, dd, dd, .d (.sl (v_l232.map eS_area_Area)), .d (.v (.int .i64 (v_l232.length : Int))), .d (.v (.int .i64 v_x255)), dd, dd, dd, dd, dd, dd, dd, dd, dd, dd, dd, dd, dd, dd, dd, dd, dd, dd], [.box ((cA_t119 (fun (_ : Fin 64) => 0)).map FV.d), .box ((cA_t119 v_b256).map FV.d)]⟩
def G_ringref2_AreaPages_L4 (n : Nat) (v_l232 : (List S_area_Area)) : Nat → Int → (Fin 64 → Int) → Option G_ringref2_AreaPages_L4_R
  | 0, _, _ => none
  | k + 1, v_x255, v_b256 =>
    if v_x255 < (v_l232.length : Int) then
     (getI v_l232 v_x255).bind fun (v_y257 : S_area_Area) =>
     (G_ringref2_AreaPages_L3 n v_l232 v_x255 v_y257 n 0 v_b256).bind fun v_o266 => match v_o266 with
     | .x0 v_z267 =>
       G_ringref2_AreaPages_L4 n v_l232 k (wi .i64 (v_x255 + 1)) v_z267
    else
     some (.x0 v_b256)
theorem G_ringref2_AreaPages_L4_ok {Fi : Ex → PS → Prop} (hF : KC 35 Fi) (ks : List Fr) (n : Nat) (v_l232 : (List S_area_Area))  : ∀ (k : Nat) (v_x255 : Int) (v_b256 : (Fin 64 → Int)) (o : G_ringref2_AreaPages_L4_R), G_ringref2_AreaPages_L4 n v_l232 k v_x255 v_b256 = some o → RunE Try.prog 35 Fi ks (G_ringref2_AreaPages_L4_ex o) (G_ringref2_AreaPages_L4_st v_l232 o) → RunE Try.prog 35 Fi (.l k (cP (cB (cR (cL (cR (cR (cR (bodyOf Try.f69)))))))) :: ks) .normal (G_ringref2_AreaPages_L4_hd v_l232 v_x255 v_b256)
  | 0, v_x255, v_b256, o, h, q => by rw [G_ringref2_AreaPages_L4] at h; cases h
  | k + 1, v_x255, v_b256, o, h, q => by
    rw [G_ringref2_AreaPages_L4] at h
    by_cases h275 : v_x255 < (v_l232.length : Int)
    · rw [if_pos h275] at h
      obtain ⟨v_y257, h276, h⟩ := bind_some h
      obtain ⟨v_o266, h287, h⟩ := bind_some h
      refine pkk_sound TTok mix hF 14 (hs := [.t true, .y (eS_area_Area v_y257), .c, .c, .n n]) (ts := []) (s := [0, 1, 11]) (l := [2, 3, 6, 14, 15, 16, 21, 22]) (by kernel_rfl) (by kernel_rfl) (.cons (dt h275) (.cons (getI_ob (f := eS_area_Area) h276) (.cons (show 0 + 3 ≤ 3 by decide) .nil))) (G_ringref2_AreaPages_L3_ok hF (.b 4 :: .b 3 :: .s (cR (cR (cR (cP (cB (cR (cL (cR (cR (cR (bodyOf Try.f69))))))))))) :: .l k (cP (cB (cR (cL (cR (cR (cR (bodyOf Try.f69)))))))) :: ks) n v_l232 v_x255 v_y257 n 0 v_b256 _ h287 ?_)
      cases v_o266 with
      | x0 v_z267 =>
        try dsimp only at h
        exact pkk_sound TTok mix hF 3 (hs := []) (ts := []) (s := [0, 1]) (l := [2, 3, 14, 15, 16]) (by kernel_rfl) (by kernel_rfl) .nil (G_ringref2_AreaPages_L4_ok hF ks n v_l232 k (wi .i64 (v_x255 + 1)) v_z267 _ h q)
    · rw [if_neg h275] at h
      cases h
      exact pkk_sound TTok mix hF 8 (hs := [.t false]) (ts := []) (s := [0, 1]) (l := [2, 3]) (by kernel_rfl) (by kernel_rfl) (.cons (df h275) .nil) q
/- ringhall/ringref2.AreaPages -/
def G_ringref2_AreaPages (n : Nat) (v_l232 : (List S_area_Area)) : Option ((Fin 64 → Int)) :=
  (G_ringref2_AreaPages_L1 n v_l232 n 0 (fun (_ : Fin 64) => 0)).bind fun v_o241 => match v_o241 with
  | .x0 v_z242 =>
    (G_ringref2_AreaPages_L4 n v_l232 n 0 v_z242).bind fun v_o269 => match v_o269 with
    | .x0 v_z270 =>
      some v_z270
theorem G_ringref2_AreaPages_ok (n : Nat) (v_l232 : (List S_area_Area)) (r : (Fin 64 → Int)) (h : G_ringref2_AreaPages n v_l232 = some r) : Ret Try.prog 69 [(eL eS_area_Area) v_l232] ((fun x => PV.agg (cA_t119 x)) r) := by
  refine ret_run (n := 35) (fn := Try.f69) (c := bodyOf Try.f69) (by kernel_rfl) (by kernel_rfl) (by kernel_rfl) (by kernel_rfl) ?_
  have hF : KC 35 (FinR Try.prog Try.f69 ((fun x => PV.agg (cA_t119 x)) r)) := FinR.kc' (by kernel_rfl)
  unfold G_ringref2_AreaPages at h
  obtain ⟨v_o241, h261, h⟩ := bind_some h
  refine pkk_sound TTok mix hF 9 (hs := [.n n]) (ts := []) (s := [0, 3]) (l := [0, 2, 3, 8]) (by kernel_rfl) (by kernel_rfl) .nil (G_ringref2_AreaPages_L1_ok hF (.b 0 :: .s (cR (cR (cR (bodyOf Try.f69)))) :: []) n v_l232 n 0 (fun (_ : Fin 64) => 0) _ h261 ?_)
  cases v_o241 with
  | x0 v_z242 =>
    try dsimp only at h
    obtain ⟨v_o269, h288, h⟩ := bind_some h
    refine pkk_sound TTok mix hF 6 (hs := [.u (.d (.v (.int .i64 (v_l232.length : Int)))), .n n]) (ts := []) (s := [0, 1]) (l := [2, 3, 14, 15, 16]) (by kernel_rfl) (by kernel_rfl) (.cons (len_ob (f := eS_area_Area) (l := v_l232)) .nil) (G_ringref2_AreaPages_L4_ok hF (.b 2 :: .s (cR (cR (cR (cR (bodyOf Try.f69))))) :: []) n v_l232 n 0 v_z242 _ h288 ?_)
    cases v_o269 with
    | x0 v_z270 =>
      try dsimp only at h
      obtain rfl := Option.some.inj h
      exact pend_sound TTok mix 4 (hs := [.c, .c]) (by kernel_rfl) (by kernel_rfl) (by kernel_rfl) (.cons (show 0 + 64 ≤ 64 by decide) .nil)
inductive G_ringref2_AreasOf_C1_R where
  | x0 (v_w337 : (List S_area_Area))
def G_ringref2_AreasOf_C1_ex : G_ringref2_AreasOf_C1_R → Ex
  | .x0 _ => .normal
def G_ringref2_AreasOf_C1_st (v_x273 : Int) (v_y312 : Int) (v_p272 : (Fin 64 → Int)) (v_w274 : (List S_area_Area)) : G_ringref2_AreasOf_C1_R → PS
  | .x0 v_w337 => ⟨[dd, .ref 0 0, dd, .srf 1, dd, dd, .d (.agg (cA_t119 v_p272)), .d (.v (.int .i64 v_x273)), dd, dd, dd, dd, dd, dd, dd, dd, dd, dd, dd, dd, dd, dd, dd, dd, dd, dd, dd, dd, dd, dd, dd, dd, dd, dd, dd, dd, dd, dd, dd, dd, dd, dd, dd], [.box ((cA_t119 v_p272).map FV.d), .row 110 3 (v_w337.map eS_area_Area)]⟩
def G_ringref2_AreasOf_C1_hd (v_x273 : Int) (v_y312 : Int) (v_p272 : (Fin 64 → Int)) (v_w274 : (List S_area_Area))  : PS := ⟨[dd, .ref 0 0, dd, .srf 1, .d (.v (.int .i64 v_x273)), .d (.v (.int .i64 v_y312)), .d (.agg (cA_t119 v_p272)), .d (.v (.int .i64 v_x273)), dd, dd, dd, dd, dd, dd, dd, dd, dd, .d (.v (.bool (decide (v_y312 < 0)))), dd, dd, dd, dd, dd, dd, dd, dd, dd, dd, dd, dd, dd, dd, dd, dd, dd, dd, dd, dd, dd, dd, dd, dd, dd], [.box ((cA_t119 v_p272).map FV.d), .row 110 3 (v_w274.map eS_area_Area)]⟩
def G_ringref2_AreasOf_C1 (n : Nat) (v_x273 : Int) (v_y312 : Int) (v_p272 : (Fin 64 → Int)) (v_w274 : (List S_area_Area)) : Option G_ringref2_AreasOf_C1_R :=
  if v_y312 < 0 then
   some (.x0 v_w274)
  else
   if v_x273 > 0 then
    if 0 ≤ (wi .i64 (v_x273 - 1)) ∧ (wi .i64 (v_x273 - 1)) < (64 : Int) then
     (getA v_p272 (wi .i64 (v_x273 - 1))).bind fun (v_y339 : Int) =>
     if v_y339 = v_y312 then
      if 0 ≤ (wi .i64 ((v_w274.length : Int) - 1)) ∧ ((wi .i64 ((v_w274.length : Int) - 1))).toNat < v_w274.length then
       (v_w274[((wi .i64 ((v_w274.length : Int) - 1))).toNat]?).bind fun (v_y340 : S_area_Area) =>
       if 0 ≤ (wi .i64 ((v_w274.length : Int) - 1)) ∧ ((wi .i64 ((v_w274.length : Int) - 1))).toNat < v_w274.length then
        (v_w274[((wi .i64 ((v_w274.length : Int) - 1))).toNat]?).bind fun (v_y341 : S_area_Area) =>
        some (.x0 (v_w274.set ((wi .i64 ((v_w274.length : Int) - 1))).toNat (S_area_Area.mk v_y341.fPage (wi .i64 (v_y340.fN + 1)) v_y341.fRights)))
       else none
      else none
     else
      (app 24 v_w274 ([(S_area_Area.mk v_x273 1 v_y312)])).bind fun (v_a343 : (List S_area_Area)) =>
      some (.x0 v_a343)
    else none
   else
    (app 24 v_w274 ([(S_area_Area.mk v_x273 1 v_y312)])).bind fun (v_a345 : (List S_area_Area)) =>
    some (.x0 v_a345)
theorem G_ringref2_AreasOf_C1_ok {Fi : Ex → PS → Prop} (hF : KC 43 Fi) (ks : List Fr) (n : Nat) (v_x273 : Int) (v_y312 : Int) (v_p272 : (Fin 64 → Int)) (v_w274 : (List S_area_Area))  (o : G_ringref2_AreasOf_C1_R) (h : G_ringref2_AreasOf_C1 n v_x273 v_y312 v_p272 v_w274 = some o) (q : RunE Try.prog 43 Fi ks (G_ringref2_AreasOf_C1_ex o) (G_ringref2_AreasOf_C1_st v_x273 v_y312 v_p272 v_w274 o)) : RunE Try.prog 43 Fi (.s (cR (cB (cR (cB (cL (cR (cR (cP (cB (cR (cL (cR (cR (bodyOf Try.f72)))))))))))))) :: ks) .normal (G_ringref2_AreasOf_C1_hd v_x273 v_y312 v_p272 v_w274) := by
  unfold G_ringref2_AreasOf_C1 at h
  by_cases h394 : v_y312 < 0
  · rw [if_pos h394] at h
    cases h
    exact pkk_sound TTok mix hF 2 (hs := [.t true]) (ts := []) (s := [0, 1]) (l := [1, 3, 6, 7]) (by kernel_rfl) (by kernel_rfl) (.cons (dt h394) .nil) q
  · rw [if_neg h394] at h
    by_cases h398 : v_x273 > 0
    · rw [if_pos h398] at h
      by_cases h399 : 0 ≤ (wi .i64 (v_x273 - 1)) ∧ (wi .i64 (v_x273 - 1)) < (64 : Int)
      · rw [if_pos h399] at h
        obtain ⟨v_y339, h400, h⟩ := bind_some h
        by_cases h401 : v_y339 = v_y312
        · rw [if_pos h401] at h
          by_cases h402 : 0 ≤ (wi .i64 ((v_w274.length : Int) - 1)) ∧ ((wi .i64 ((v_w274.length : Int) - 1))).toNat < v_w274.length
          · rw [if_pos h402] at h
            obtain ⟨v_y340, h403, h⟩ := bind_some h
            by_cases h404 : 0 ≤ (wi .i64 ((v_w274.length : Int) - 1)) ∧ ((wi .i64 ((v_w274.length : Int) - 1))).toNat < v_w274.length
            · rw [if_pos h404] at h
              obtain ⟨v_y341, h405, h⟩ := bind_some h
              cases h
              exact pkk_sound TTok mix hF 5 (hs := [.t false, .t true, .c, .c, .c, .l (.d (.v (.int .i64 v_y339))), .c, .c, .t true, .u (.d (.v (.int .i64 (v_w274.length : Int)))), .y (eS_area_Area v_y340), .w ((v_w274.set ((wi .i64 ((v_w274.length : Int) - 1))).toNat (S_area_Area.mk v_y341.fPage (wi .i64 (v_y340.fN + 1)) v_y341.fRights)).map eS_area_Area), .y (eS_area_Area v_y341)]) (ts := []) (s := [0, 1]) (l := [1, 3, 6, 7]) (by kernel_rfl) (by kernel_rfl) (.cons (df h394) (.cons (dt h398) (.cons h399 (.cons (arr_cell (γ := FV) (sz := 1) (g := (fun x => [.d (.v (.int .i64 x))])) (pre := []) (post := []) (o := 0) (fun _ => rfl) h400 rfl) (.cons (bt h401) (.cons (len_ob (f := eS_area_Area) (l := v_w274)) (.cons (idx_ob (f := eS_area_Area) h402) (.cons (get_ob (f := eS_area_Area) h403) (.cons (idx_ob (f := eS_area_Area) h404) (.cons (get_ob (f := eS_area_Area) h405) (.cons (Eq.refl (pcells (.agg [.v (.int .i64 v_y341.fPage), .v (.int .i64 (wi .i64 (v_y340.fN + 1))), .v (.int .i64 v_y341.fRights)]))) (.cons (set_ob (f := eS_area_Area) (l := v_w274) (k := ((wi .i64 ((v_w274.length : Int) - 1))).toNat) (z := (S_area_Area.mk v_y341.fPage (wi .i64 (v_y340.fN + 1)) v_y341.fRights)) (p := .agg [.v (.int .i64 v_y341.fPage), .v (.int .i64 (wi .i64 (v_y340.fN + 1))), .v (.int .i64 v_y341.fRights)]) rfl) .nil)))))))))))) q
            · rw [if_neg h404] at h; cases h
          · rw [if_neg h402] at h; cases h
        · rw [if_neg h401] at h
          obtain ⟨v_a343, h406, h⟩ := bind_some h
          cases h
          exact pkk_sound TTok mix hF 5 (hs := [.t false, .t true, .c, .c, .c, .l (.d (.v (.int .i64 v_y339))), .c, .c, .t false, .bd, .w (v_a343.map eS_area_Area)]) (ts := []) (s := [0, 50]) (l := [1, 3, 6, 7]) (by kernel_rfl) (by kernel_rfl) (.cons (df h394) (.cons (dt h398) (.cons h399 (.cons (arr_cell (γ := FV) (sz := 1) (g := (fun x => [.d (.v (.int .i64 x))])) (pre := []) (post := []) (o := 0) (fun _ => rfl) h400 rfl) (.cons (bf h401) (.cons (app_ob (f := eS_area_Area) (s := 3) h406 (fun _ => rfl)).1 (.cons (app_ob (f := eS_area_Area) (s := 3) h406 (fun _ => rfl)).2.1 (.cons (app_ob (f := eS_area_Area) (s := 3) h406 (fun _ => rfl)).2.2.1 (.cons (app_ob (f := eS_area_Area) (s := 3) h406 (fun _ => rfl)).2.2.2 .nil))))))))) q
      · rw [if_neg h399] at h; cases h
    · rw [if_neg h398] at h
      obtain ⟨v_a345, h407, h⟩ := bind_some h
      cases h
      exact pkk_sound TTok mix hF 5 (hs := [.t false, .t false, .c, .c, .c, .c, .c, .c, .bd, .w (v_a345.map eS_area_Area)]) (ts := []) (s := [0, 50]) (l := [1, 3, 6, 7]) (by kernel_rfl) (by kernel_rfl) (.cons (df h394) (.cons (df h398) (.cons (app_ob (f := eS_area_Area) (s := 3) h407 (fun _ => rfl)).1 (.cons (app_ob (f := eS_area_Area) (s := 3) h407 (fun _ => rfl)).2.1 (.cons (app_ob (f := eS_area_Area) (s := 3) h407 (fun _ => rfl)).2.2.1 (.cons (app_ob (f := eS_area_Area) (s := 3) h407 (fun _ => rfl)).2.2.2 .nil)))))) q
inductive G_ringref2_AreasOf_L2_R where
  | x0 (v_w349 : (List S_area_Area))
def G_ringref2_AreasOf_L2_ex : G_ringref2_AreasOf_L2_R → Ex
  | .x0 _ => .exit 0
def G_ringref2_AreasOf_L2_st (v_p272 : (Fin 64 → Int)) : G_ringref2_AreasOf_L2_R → PS
  | .x0 v_w349 => ⟨[dd, dd, dd, .srf 0, dd, dd, dd, dd, dd, dd, dd, dd, dd, dd, dd, dd, dd, dd, dd, dd, dd, dd, dd, dd, dd, dd, dd, dd, dd, dd, dd, dd, dd, dd, dd, dd, dd, dd, dd, dd, dd, dd, dd], [.row 110 3 (v_w349.map eS_area_Area)]⟩
def G_ringref2_AreasOf_L2_hd (v_p272 : (Fin 64 → Int)) (v_x273 : Int) (v_w274 : (List S_area_Area)) : PS := ⟨[dd, .ref 0 0, dd, .srf 1, dd, dd, .d (.agg (cA_t119 v_p272)), .d (.v (.int .i64 v_x273)), dd, dd, dd, dd, dd, dd, dd, dd, dd, dd, dd, dd, dd, dd, dd, dd, dd, dd, dd, dd, dd, dd, dd, dd, dd, dd, dd, dd, dd, dd, dd, dd, dd, dd, dd], [.box ((cA_t119 v_p272).map FV.d), .row 110 3 (v_w274.map eS_area_Area)]⟩
def G_ringref2_AreasOf_L2 (n : Nat) (v_p272 : (Fin 64 → Int)) : Nat → Int → (List S_area_Area) → Option G_ringref2_AreasOf_L2_R
  | 0, _, _ => none
  | k + 1, v_x273, v_w274 =>
    if v_x273 < 64 then
     (getA v_p272 v_x273).bind fun (v_y312 : Int) =>
     (G_ringref2_AreasOf_C1 n v_x273 v_y312 v_p272 v_w274).bind fun v_o347 => match v_o347 with
     | .x0 v_z348 =>
       G_ringref2_AreasOf_L2 n v_p272 k (wi .i64 (v_x273 + 1)) v_z348
    else
     some (.x0 v_w274)
theorem G_ringref2_AreasOf_L2_ok {Fi : Ex → PS → Prop} (hF : KC 43 Fi) (ks : List Fr) (n : Nat) (v_p272 : (Fin 64 → Int))  : ∀ (k : Nat) (v_x273 : Int) (v_w274 : (List S_area_Area)) (o : G_ringref2_AreasOf_L2_R), G_ringref2_AreasOf_L2 n v_p272 k v_x273 v_w274 = some o → RunE Try.prog 43 Fi ks (G_ringref2_AreasOf_L2_ex o) (G_ringref2_AreasOf_L2_st v_p272 o) → RunE Try.prog 43 Fi (.l k (cP (cB (cR (cL (cR (cR (bodyOf Try.f72))))))) :: ks) .normal (G_ringref2_AreasOf_L2_hd v_p272 v_x273 v_w274)
  | 0, v_x273, v_w274, o, h, q => by rw [G_ringref2_AreasOf_L2] at h; cases h
  | k + 1, v_x273, v_w274, o, h, q => by
    rw [G_ringref2_AreasOf_L2] at h
    by_cases h290 : v_x273 < 64
    · rw [if_pos h290] at h
      obtain ⟨v_y312, h350, h⟩ := bind_some h
      obtain ⟨v_o347, h408, h⟩ := bind_some h
      refine pkk_sound TTok mix hF 13 (hs := [.t true, .l (.d (.v (.int .i64 v_y312)))]) (ts := []) (s := [0, 1]) (l := [1, 3, 4, 5, 6, 7, 17]) (by kernel_rfl) (by kernel_rfl) (.cons (dt h290) (.cons (getA_ob0 (fun x => FV.d ((eI .i64) x)) h350) .nil)) (G_ringref2_AreasOf_C1_ok hF (.b 2 :: .b 1 :: .s (cR (cR (cR (cP (cB (cR (cL (cR (cR (bodyOf Try.f72)))))))))) :: .l k (cP (cB (cR (cL (cR (cR (bodyOf Try.f72))))))) :: ks) n v_x273 v_y312 v_p272 v_w274 _ h408 ?_)
      cases v_o347 with
      | x0 v_z348 =>
        try dsimp only at h
        exact pkk_sound TTok mix hF 3 (hs := []) (ts := []) (s := [0, 1]) (l := [1, 3, 6, 7]) (by kernel_rfl) (by kernel_rfl) .nil (G_ringref2_AreasOf_L2_ok hF ks n v_p272 k (wi .i64 (v_x273 + 1)) v_z348 _ h q)
    · rw [if_neg h290] at h
      cases h
      exact pkk_sound TTok mix hF 8 (hs := [.t false]) (ts := []) (s := [1]) (l := [3]) (by kernel_rfl) (by kernel_rfl) (.cons (df h290) .nil) q
/- ringhall/ringref2.AreasOf -/
def G_ringref2_AreasOf (n : Nat) (v_p272 : (Fin 64 → Int)) : Option ((List S_area_Area)) :=
  (G_ringref2_AreasOf_L2 n v_p272 n 0 ([] : List S_area_Area)).bind fun v_o350 => match v_o350 with
  | .x0 v_z351 =>
    some v_z351
theorem G_ringref2_AreasOf_ok (n : Nat) (v_p272 : (Fin 64 → Int)) (r : (List S_area_Area)) (h : G_ringref2_AreasOf n v_p272 = some r) : Ret Try.prog 72 [(fun x => PV.agg (cA_t119 x)) v_p272] ((eL eS_area_Area) r) := by
  refine ret_run (n := 43) (fn := Try.f72) (c := bodyOf Try.f72) (by kernel_rfl) (by kernel_rfl) (by kernel_rfl) (by kernel_rfl) ?_
  have hF : KC 43 (FinR Try.prog Try.f72 ((eL eS_area_Area) r)) := FinR.kc' (by kernel_rfl)
  unfold G_ringref2_AreasOf at h
  obtain ⟨v_o350, h409, h⟩ := bind_some h
  refine pkk_sound TTok mix hF 9 (hs := [.c, .n n]) (ts := [(3, 110, 3)]) (s := [0, 15]) (l := [1, 3, 6, 7]) (by kernel_rfl) (by kernel_rfl) .nil (G_ringref2_AreasOf_L2_ok hF (.b 0 :: .s (cR (cR (cR (bodyOf Try.f72)))) :: []) n v_p272 n 0 ([] : List S_area_Area) _ h409 ?_)
  cases v_o350 with
  | x0 v_z351 =>
    try dsimp only at h
    obtain rfl := Option.some.inj h
    exact pend_sound TTok mix 4 (hs := []) (by kernel_rfl) (by kernel_rfl) (by kernel_rfl) .nil
inductive G_ringref2_AreaSame_L1_R where
  | x0 (v_x361 : Bool)
  | x1 
def G_ringref2_AreaSame_L1_ex : G_ringref2_AreaSame_L1_R → Ex
  | .x0 _ => .ret
  | .x1  => .exit 0
def G_ringref2_AreaSame_L1_st (v_a354 : (List S_area_Area)) (v_b355 : (List S_area_Area)) : G_ringref2_AreaSame_L1_R → PS
  | .x0 v_x361 => ⟨[dd, dd, dd, dd, .d (.v (.bool v_x361)), dd, dd, dd, dd, dd, dd, dd, dd, dd, dd, dd, dd, dd, dd, dd, dd, dd, dd, dd, dd, dd], []⟩
  | .x1  => ⟨[dd, dd, dd, dd, dd, dd, dd, dd, dd, dd, dd, dd, dd, dd, dd, dd, dd, dd, dd, dd, dd, dd, dd, dd, dd, dd], []⟩
def G_ringref2_AreaSame_L1_hd (v_a354 : (List S_area_Area)) (v_b355 : (List S_area_Area)) (v_x356 : Int) : PS := ⟨[.d (.sl (v_a354.map eS_area_Area)), .d (.sl (v_b355.map eS_area_Area)), dd, dd, dd, dd, dd, dd, dd, dd, dd, dd, .d (.v (.int .i64 (v_a354.length : Int))), .d (.v (.int .i64 v_x356)), dd, dd, dd, dd, dd, dd, dd, dd, dd, dd, dd, dd], []⟩
def G_ringref2_AreaSame_L1 (n : Nat) (v_a354 : (List S_area_Area)) (v_b355 : (List S_area_Area)) : Nat → Int → Option G_ringref2_AreaSame_L1_R
  | 0, _ => none
  | k + 1, v_x356 =>
    if v_x356 < (v_a354.length : Int) then
     (getI v_a354 v_x356).bind fun (v_y359 : S_area_Area) =>
     (getI v_b355 v_x356).bind fun (v_y360 : S_area_Area) =>
     if (eqRes .neq (eqS_area_Area v_y359 v_y360)) = true then
      some (.x0 false)
     else
      G_ringref2_AreaSame_L1 n v_a354 v_b355 k (wi .i64 (v_x356 + 1))
    else
     some (.x1 )
theorem G_ringref2_AreaSame_L1_ok {Fi : Ex → PS → Prop} (hF : KC 26 Fi) (ks : List Fr) (n : Nat) (v_a354 : (List S_area_Area)) (v_b355 : (List S_area_Area))  : ∀ (k : Nat) (v_x356 : Int) (o : G_ringref2_AreaSame_L1_R), G_ringref2_AreaSame_L1 n v_a354 v_b355 k v_x356 = some o → RunE Try.prog 26 Fi ks (G_ringref2_AreaSame_L1_ex o) (G_ringref2_AreaSame_L1_st v_a354 v_b355 o) → RunE Try.prog 26 Fi (.l k (cP (cB (cR (cL (cR (cR (bodyOf Try.f71))))))) :: ks) .normal (G_ringref2_AreaSame_L1_hd v_a354 v_b355 v_x356)
  | 0, v_x356, o, h, q => by rw [G_ringref2_AreaSame_L1] at h; cases h
  | k + 1, v_x356, o, h, q => by
    rw [G_ringref2_AreaSame_L1] at h
    by_cases h413 : v_x356 < (v_a354.length : Int)
    · rw [if_pos h413] at h
      obtain ⟨v_y359, h417, h⟩ := bind_some h
      obtain ⟨v_y360, h418, h⟩ := bind_some h
      by_cases h419 : (eqRes .neq (eqS_area_Area v_y359 v_y360)) = true
      · rw [if_pos h419] at h
        cases h
        exact pkk_sound TTok mix hF 19 (hs := [.t true, .y (eS_area_Area v_y359), .y (eS_area_Area v_y360), .q (eqS_area_Area v_y359 v_y360), .t true]) (ts := []) (s := []) (l := [4]) (by kernel_rfl) (by kernel_rfl) (.cons (dt h413) (.cons (getI_ob (f := eS_area_Area) h417) (.cons (getI_ob (f := eS_area_Area) h418) (.cons (eqS_area_Area_ok v_y359 v_y360) (.cons h419 .nil))))) q
      · rw [if_neg h419] at h
        exact pkk_sound TTok mix hF 16 (hs := [.t true, .y (eS_area_Area v_y359), .y (eS_area_Area v_y360), .q (eqS_area_Area v_y359 v_y360), .t false]) (ts := []) (s := []) (l := [0, 1, 12, 13]) (by kernel_rfl) (by kernel_rfl) (.cons (dt h413) (.cons (getI_ob (f := eS_area_Area) h417) (.cons (getI_ob (f := eS_area_Area) h418) (.cons (eqS_area_Area_ok v_y359 v_y360) (.cons (vf h419) .nil))))) (G_ringref2_AreaSame_L1_ok hF ks n v_a354 v_b355 k (wi .i64 (v_x356 + 1)) _ h q)
    · rw [if_neg h413] at h
      cases h
      exact pkk_sound TTok mix hF 8 (hs := [.t false]) (ts := []) (s := []) (l := []) (by kernel_rfl) (by kernel_rfl) (.cons (df h413) .nil) q
/- ringhall/ringref2.AreaSame -/
def G_ringref2_AreaSame (n : Nat) (v_a354 : (List S_area_Area)) (v_b355 : (List S_area_Area)) : Option (Bool) :=
  if (v_a354.length : Int) = (v_b355.length : Int) then
   (G_ringref2_AreaSame_L1 n v_a354 v_b355 n 0).bind fun v_o362 => match v_o362 with
   | .x0 v_z363 =>
     some v_z363
   | .x1  =>
     some true
  else
   some false
theorem G_ringref2_AreaSame_ok (n : Nat) (v_a354 : (List S_area_Area)) (v_b355 : (List S_area_Area)) (r : Bool) (h : G_ringref2_AreaSame n v_a354 v_b355 = some r) : Ret Try.prog 71 [(eL eS_area_Area) v_a354, (eL eS_area_Area) v_b355] (eB r) := by
  refine ret_run (n := 26) (fn := Try.f71) (c := bodyOf Try.f71) (by kernel_rfl) (by kernel_rfl) (by kernel_rfl) (by kernel_rfl) ?_
  have hF : KC 26 (FinR Try.prog Try.f71 (eB r)) := FinR.kc' (by kernel_rfl)
  unfold G_ringref2_AreaSame at h
  by_cases h412 : (v_a354.length : Int) = (v_b355.length : Int)
  · rw [if_pos h412] at h
    obtain ⟨v_o362, h420, h⟩ := bind_some h
    refine pkk_sound TTok mix hF 12 (hs := [.u (.d (.v (.int .i64 (v_a354.length : Int)))), .u (.d (.v (.int .i64 (v_b355.length : Int)))), .t false, .u (.d (.v (.int .i64 (v_a354.length : Int)))), .n n]) (ts := []) (s := []) (l := [0, 1, 12, 13]) (by kernel_rfl) (by kernel_rfl) (.cons (len_ob (f := eS_area_Area) (l := v_a354)) (.cons (len_ob (f := eS_area_Area) (l := v_b355)) (.cons (nf h412) (.cons (len_ob (f := eS_area_Area) (l := v_a354)) .nil)))) (G_ringref2_AreaSame_L1_ok hF (.b 0 :: .s (cR (cR (cR (bodyOf Try.f71)))) :: []) n v_a354 v_b355 n 0 _ h420 ?_)
    cases v_o362 with
    | x0 v_z363 =>
      try dsimp only at h
      obtain rfl := Option.some.inj h
      exact pend_sound TTok mix 2 (hs := []) (by kernel_rfl) (by kernel_rfl) (by kernel_rfl) .nil
    | x1  =>
      try dsimp only at h
      obtain rfl := Option.some.inj h
      exact pend_sound TTok mix 4 (hs := []) (by kernel_rfl) (by kernel_rfl) (by kernel_rfl) .nil
  · rw [if_neg h412] at h
    obtain rfl := Option.some.inj h
    exact pend_sound TTok mix 10 (hs := [.u (.d (.v (.int .i64 (v_a354.length : Int)))), .u (.d (.v (.int .i64 (v_b355.length : Int)))), .t true]) (by kernel_rfl) (by kernel_rfl) (by kernel_rfl) (.cons (len_ob (f := eS_area_Area) (l := v_a354)) (.cons (len_ob (f := eS_area_Area) (l := v_b355)) (.cons (nt h412) .nil)))
inductive G_ringref2_Areas_C1_R where
  | x0 (v_x389 : Bool)
def G_ringref2_Areas_C1_ex : G_ringref2_Areas_C1_R → Ex
  | .x0 _ => .normal
def G_ringref2_Areas_C1_st (v_l210 : (List S_area_Area)) (v_x211 : Int) (v_y377 : S_area_Area) : G_ringref2_Areas_C1_R → PS
  | .x0 v_x389 => ⟨[.d (.sl (v_l210.map eS_area_Area)), dd, dd, dd, dd, dd, dd, dd, .d (.sl (v_l210.map eS_area_Area)), .d (.v (.int .i64 (v_l210.length : Int))), .d (.v (.int .i64 v_x211)), dd, dd, dd, dd, dd, dd, dd, dd, dd, dd, dd, dd, dd, dd, dd, dd, dd, dd, dd, dd, dd, dd, dd, dd, dd, dd, dd, dd, dd, dd, dd, dd, dd, dd, dd, dd, dd, dd, dd, dd, .d (.v (.bool v_x389)), dd], []⟩
def G_ringref2_Areas_C1_hd (v_l210 : (List S_area_Area)) (v_x211 : Int) (v_y377 : S_area_Area)  : PS := ⟨[.d (.sl (v_l210.map eS_area_Area)), dd, dd, .d (.v (.int .i64 v_x211)), .ref 0 0, dd, dd, dd, .d (.sl (v_l210.map eS_area_Area)), .d (.v (.int .i64 (v_l210.length : Int))), .d (.v (.int .i64 v_x211)), dd, dd, dd, dd, dd, dd, dd, dd, dd, dd, dd, dd, dd, dd, dd, dd, dd, dd, dd, dd, dd, dd, dd, dd, dd, dd, dd, dd, dd, dd, dd, dd, dd, dd, dd, dd, dd, dd, dd, dd, dd, dd], [.box [.d (.v (.int .i64 v_y377.fPage)), .d (.v (.int .i64 v_y377.fN)), .d (.v (.int .i64 v_y377.fRights))]]⟩
def G_ringref2_Areas_C1 (n : Nat) (v_l210 : (List S_area_Area)) (v_x211 : Int) (v_y377 : S_area_Area) : Option G_ringref2_Areas_C1_R :=
  if v_x211 > 0 then
   (getI v_l210 (wi .i64 (v_x211 - 1))).bind fun (v_y387 : S_area_Area) =>
   (getI v_l210 (wi .i64 (v_x211 - 1))).bind fun (v_y388 : S_area_Area) =>
   if v_y377.fPage < (wi .i64 (v_y387.fPage + v_y388.fN)) then
    some (.x0 true)
   else
    (sub v_l210 0 (wi .i64 (v_x211 + 1))).bind fun (v_s390 : (List S_area_Area)) =>
    (G_ringref2_AreaPages n v_s390).bind fun (v_r391 : ((Fin 64 → Int))) =>
    (G_ringref2_AreasOf n v_r391).bind fun (v_r392 : ((List S_area_Area))) =>
    (sub v_l210 0 (wi .i64 (v_x211 + 1))).bind fun (v_s393 : (List S_area_Area)) =>
    (G_ringref2_AreaSame n v_r392 v_s393).bind fun (v_r394 : (Bool)) =>
    some (.x0 (!v_r394))
  else
   some (.x0 false)
theorem G_ringref2_Areas_C1_ok {Fi : Ex → PS → Prop} (hF : KC 53 Fi) (ks : List Fr) (n : Nat) (v_l210 : (List S_area_Area)) (v_x211 : Int) (v_y377 : S_area_Area)  (o : G_ringref2_Areas_C1_R) (h : G_ringref2_Areas_C1 n v_l210 v_x211 v_y377 = some o) (q : RunE Try.prog 53 Fi ks (G_ringref2_Areas_C1_ex o) (G_ringref2_Areas_C1_st v_l210 v_x211 v_y377 o)) : RunE Try.prog 53 Fi (.s (cL (cR (cR (cB (cL (cR (cR (cP (cB (cR (cL (cR (cR (bodyOf Try.f67)))))))))))))) :: ks) .normal (G_ringref2_Areas_C1_hd v_l210 v_x211 v_y377) := by
  unfold G_ringref2_Areas_C1 at h
  by_cases h445 : v_x211 > 0
  · rw [if_pos h445] at h
    obtain ⟨v_y387, h446, h⟩ := bind_some h
    obtain ⟨v_y388, h447, h⟩ := bind_some h
    by_cases h448 : v_y377.fPage < (wi .i64 (v_y387.fPage + v_y388.fN))
    · rw [if_pos h448] at h
      cases h
      exact pkk_sound TTok mix hF 1 (hs := [.t true, .c, .c, .c, .c, .c, .c, .y (eS_area_Area v_y387), .c, .c, .c, .c, .c, .c, .c, .y (eS_area_Area v_y388), .c, .c, .c, .c, .c, .c, .t true, .c, .c, .c, .c, .c, .c, .c, .c, .c, .c, .c, .c]) (ts := []) (s := []) (l := [0, 8, 9, 10, 51]) (by kernel_rfl) (by kernel_rfl) (.cons (dt h445) (.cons (getI_ob (f := eS_area_Area) h446) (.cons (getI_ob (f := eS_area_Area) h447) (.cons (dt h448) .nil)))) q
    · rw [if_neg h448] at h
      obtain ⟨v_s390, h449, h⟩ := bind_some h
      obtain ⟨v_r391, h450, h⟩ := bind_some h
      obtain ⟨v_r392, h451, h⟩ := bind_some h
      obtain ⟨v_s393, h452, h⟩ := bind_some h
      obtain ⟨v_r394, h453, h⟩ := bind_some h
      cases h
      exact pkk_sound TTok mix hF 1 (hs := [.t true, .c, .c, .c, .c, .c, .c, .y (eS_area_Area v_y387), .c, .c, .c, .c, .c, .c, .c, .y (eS_area_Area v_y388), .c, .c, .c, .c, .c, .c, .t false, .c, .c, .c, .w (v_s390.map eS_area_Area), .c, .r ((fun x => PV.agg (cA_t119 x)) v_r391), .c, .r ((eL eS_area_Area) v_r392), .c, .c, .c, .c, .w (v_s393.map eS_area_Area), .c, .r (eB v_r394), .c, .c]) (ts := []) (s := []) (l := [0, 8, 9, 10, 51]) (by kernel_rfl) (by kernel_rfl) (.cons (dt h445) (.cons (getI_ob (f := eS_area_Area) h446) (.cons (getI_ob (f := eS_area_Area) h447) (.cons (df h448) (.cons (sub_ob (f := eS_area_Area) (s := 3) h449 (fun _ => rfl)).1 (.cons (sub_ob (f := eS_area_Area) (s := 3) h449 (fun _ => rfl)).2.1 (.cons (sub_ob (f := eS_area_Area) (s := 3) h449 (fun _ => rfl)).2.2.1 (.cons (sub_ob (f := eS_area_Area) (s := 3) h449 (fun _ => rfl)).2.2.2.1 (.cons (sub_ob (f := eS_area_Area) (s := 3) h449 (fun _ => rfl)).2.2.2.2 (.cons (G_ringref2_AreaPages_ok n v_s390 _ h450) (.cons (G_ringref2_AreasOf_ok n v_r391 _ h451) (.cons (sub_ob (f := eS_area_Area) (s := 3) h452 (fun _ => rfl)).1 (.cons (sub_ob (f := eS_area_Area) (s := 3) h452 (fun _ => rfl)).2.1 (.cons (sub_ob (f := eS_area_Area) (s := 3) h452 (fun _ => rfl)).2.2.1 (.cons (sub_ob (f := eS_area_Area) (s := 3) h452 (fun _ => rfl)).2.2.2.1 (.cons (sub_ob (f := eS_area_Area) (s := 3) h452 (fun _ => rfl)).2.2.2.2 (.cons (G_ringref2_AreaSame_ok n v_r392 v_s393 _ h453) .nil))))))))))))))))) q
  · rw [if_neg h445] at h
    cases h
    exact pkk_sound TTok mix hF 1 (hs := [.t false, .c, .c, .c, .c, .c, .c, .c, .c, .c, .c, .c, .c, .c, .c, .c, .c, .c]) (ts := []) (s := []) (l := [0, 8, 9, 10, 51]) (by kernel_rfl) (by kernel_rfl) (.cons (df h445) .nil) q
inductive G_ringref2_Areas_L2_R where
  | x0 (v_x379 : Int)
  | x1 
def G_ringref2_Areas_L2_ex : G_ringref2_Areas_L2_R → Ex
  | .x0 _ => .ret
  | .x1  => .exit 0
def G_ringref2_Areas_L2_st (v_l210 : (List S_area_Area)) : G_ringref2_Areas_L2_R → PS
  | .x0 v_x379 => ⟨[dd, dd, .d (.v (.int .i64 v_x379)), dd, dd, dd, dd, dd, dd, dd, dd, dd, dd, dd, dd, dd, dd, dd, dd, dd, dd, dd, dd, dd, dd, dd, dd, dd, dd, dd, dd, dd, dd, dd, dd, dd, dd, dd, dd, dd, dd, dd, dd, dd, dd, dd, dd, dd, dd, dd, dd, dd, dd], []⟩
  | .x1  => ⟨[dd, dd, dd, dd, dd, dd, dd, dd, dd, dd, dd, dd, dd, dd, dd, dd, dd, dd, dd, dd, dd, dd, dd, dd, dd, dd, dd, dd, dd, dd, dd, dd, dd, dd, dd, dd, dd, dd, dd, dd, dd, dd, dd, dd, dd, dd, dd, dd, dd, dd, dd, dd, dd], []⟩
def G_ringref2_Areas_L2_hd (v_l210 : (List S_area_Area)) (v_x211 : Int) : PS := ⟨[.d (.sl (v_l210.map eS_area_Area)), dd, dd, dd, dd, dd, dd, dd, .d (.sl (v_l210.map eS_area_Area)), .d (.v (.int .i64 (v_l210.length : Int))), .d (.v (.int .i64 v_x211)), dd, dd, dd, dd, dd, dd, dd, dd, dd, dd, dd, dd, dd, dd, dd, dd, dd, dd, dd, dd, dd, dd, dd, dd, dd, dd, dd, dd, dd, dd, dd, dd, dd, dd, dd, dd, dd, dd, dd, dd, dd, dd], []⟩
def G_ringref2_Areas_L2 (n : Nat) (v_l210 : (List S_area_Area)) : Nat → Int → Option G_ringref2_Areas_L2_R
  | 0, _ => none
  | k + 1, v_x211 =>
    if v_x211 < (v_l210.length : Int) then
     (getI v_l210 v_x211).bind fun (v_y377 : S_area_Area) =>
     (G_ringref2_AreaIs n v_y377).bind fun (v_r378 : (Bool)) =>
     if v_r378 = true then
      (G_ringref2_Areas_C1 n v_l210 v_x211 v_y377).bind fun v_o397 => match v_o397 with
      | .x0 v_z398 =>
        if v_z398 = true then
         some (.x0 3)
        else
         G_ringref2_Areas_L2 n v_l210 k (wi .i64 (v_x211 + 1))
     else
      some (.x0 1)
    else
     some (.x1 )
theorem G_ringref2_Areas_L2_ok {Fi : Ex → PS → Prop} (hF : KC 53 Fi) (ks : List Fr) (n : Nat) (v_l210 : (List S_area_Area))  : ∀ (k : Nat) (v_x211 : Int) (o : G_ringref2_Areas_L2_R), G_ringref2_Areas_L2 n v_l210 k v_x211 = some o → RunE Try.prog 53 Fi ks (G_ringref2_Areas_L2_ex o) (G_ringref2_Areas_L2_st v_l210 o) → RunE Try.prog 53 Fi (.l k (cP (cB (cR (cL (cR (cR (bodyOf Try.f67))))))) :: ks) .normal (G_ringref2_Areas_L2_hd v_l210 v_x211)
  | 0, v_x211, o, h, q => by rw [G_ringref2_Areas_L2] at h; cases h
  | k + 1, v_x211, o, h, q => by
    rw [G_ringref2_Areas_L2] at h
    by_cases h230 : v_x211 < (v_l210.length : Int)
    · rw [if_pos h230] at h
      obtain ⟨v_y377, h433, h⟩ := bind_some h
      obtain ⟨v_r378, h434, h⟩ := bind_some h
      by_cases h435 : v_r378 = true
      · rw [if_pos h435] at h
        obtain ⟨v_o397, h454, h⟩ := bind_some h
        refine pkk_sound TTok mix hF 16 (hs := [.t true, .y (eS_area_Area v_y377), .c, .c, .r (eB v_r378), .t false]) (ts := []) (s := [12]) (l := [0, 3, 4, 8, 9, 10]) (by kernel_rfl) (by kernel_rfl) (.cons (dt h230) (.cons (getI_ob (f := eS_area_Area) h433) (.cons (show 0 + 3 ≤ 3 by decide) (.cons (G_ringref2_AreaIs_ok n v_y377 _ h434) (.cons (bnf h435) .nil))))) (G_ringref2_Areas_C1_ok hF (.s (cR (cR (cR (cB (cL (cR (cR (cP (cB (cR (cL (cR (cR (bodyOf Try.f67)))))))))))))) :: .b 1 :: .s (cR (cR (cR (cP (cB (cR (cL (cR (cR (bodyOf Try.f67)))))))))) :: .l k (cP (cB (cR (cL (cR (cR (bodyOf Try.f67))))))) :: ks) n v_l210 v_x211 v_y377 _ h454 ?_)
        cases v_o397 with
        | x0 v_z398 =>
          try dsimp only at h
          by_cases h455 : v_z398 = true
          · rw [if_pos h455] at h
            cases h
            exact pkk_sound TTok mix hF 7 (hs := [.t true]) (ts := []) (s := []) (l := [2]) (by kernel_rfl) (by kernel_rfl) (.cons h455 .nil) q
          · rw [if_neg h455] at h
            exact pkk_sound TTok mix hF 4 (hs := [.t false]) (ts := []) (s := []) (l := [0, 8, 9, 10]) (by kernel_rfl) (by kernel_rfl) (.cons (vf h455) .nil) (G_ringref2_Areas_L2_ok hF ks n v_l210 k (wi .i64 (v_x211 + 1)) _ h q)
      · rw [if_neg h435] at h
        cases h
        exact pkk_sound TTok mix hF 21 (hs := [.t true, .y (eS_area_Area v_y377), .c, .c, .r (eB v_r378), .t true]) (ts := []) (s := []) (l := [2]) (by kernel_rfl) (by kernel_rfl) (.cons (dt h230) (.cons (getI_ob (f := eS_area_Area) h433) (.cons (show 0 + 3 ≤ 3 by decide) (.cons (G_ringref2_AreaIs_ok n v_y377 _ h434) (.cons (bnt (vf h435)) .nil))))) q
    · rw [if_neg h230] at h
      cases h
      exact pkk_sound TTok mix hF 8 (hs := [.t false]) (ts := []) (s := []) (l := []) (by kernel_rfl) (by kernel_rfl) (.cons (df h230) .nil) q
/- ringhall/ringref2.Areas -/
def G_ringref2_Areas (n : Nat) (v_l210 : (List S_area_Area)) : Option (Int) :=
  if (v_l210.length : Int) > 64 then
   some 2
  else
   (G_ringref2_Areas_L2 n v_l210 n 0).bind fun v_o400 => match v_o400 with
   | .x0 v_z401 =>
     some v_z401
   | .x1  =>
     some 0
theorem G_ringref2_Areas_ok (n : Nat) (v_l210 : (List S_area_Area)) (r : Int) (h : G_ringref2_Areas n v_l210 = some r) : Ret Try.prog 67 [(eL eS_area_Area) v_l210] ((eI .i64) r) := by
  refine ret_run (n := 53) (fn := Try.f67) (c := bodyOf Try.f67) (by kernel_rfl) (by kernel_rfl) (by kernel_rfl) (by kernel_rfl) ?_
  have hF : KC 53 (FinR Try.prog Try.f67 ((eI .i64) r)) := FinR.kc' (by kernel_rfl)
  unfold G_ringref2_Areas at h
  by_cases h229 : (v_l210.length : Int) > 64
  · rw [if_pos h229] at h
    obtain rfl := Option.some.inj h
    exact pend_sound TTok mix 10 (hs := [.u (.d (.v (.int .i64 (v_l210.length : Int)))), .t true]) (by kernel_rfl) (by kernel_rfl) (by kernel_rfl) (.cons (len_ob (f := eS_area_Area) (l := v_l210)) (.cons (dt h229) .nil))
  · rw [if_neg h229] at h
    obtain ⟨v_o400, h456, h⟩ := bind_some h
    refine pkk_sound TTok mix hF 12 (hs := [.u (.d (.v (.int .i64 (v_l210.length : Int)))), .t false, .u (.d (.v (.int .i64 (v_l210.length : Int)))), .n n]) (ts := []) (s := []) (l := [0, 8, 9, 10]) (by kernel_rfl) (by kernel_rfl) (.cons (len_ob (f := eS_area_Area) (l := v_l210)) (.cons (df h229) (.cons (len_ob (f := eS_area_Area) (l := v_l210)) .nil))) (G_ringref2_Areas_L2_ok hF (.b 0 :: .s (cR (cR (cR (bodyOf Try.f67)))) :: []) n v_l210 n 0 _ h456 ?_)
    cases v_o400 with
    | x0 v_z401 =>
      try dsimp only at h
      obtain rfl := Option.some.inj h
      exact pend_sound TTok mix 2 (hs := []) (by kernel_rfl) (by kernel_rfl) (by kernel_rfl) .nil
    | x1  =>
      try dsimp only at h
      obtain rfl := Option.some.inj h
      exact pend_sound TTok mix 4 (hs := []) (by kernel_rfl) (by kernel_rfl) (by kernel_rfl) .nil
inductive G_slices_IndexFunc_int_int_L1_R where
  | x0 (v_x490 : Int)
  | x1 
def G_slices_IndexFunc_int_int_L1_ex : G_slices_IndexFunc_int_int_L1_R → Ex
  | .x0 _ => .ret
  | .x1  => .exit 0
def G_slices_IndexFunc_int_int_L1_st (v_s483 : (List Int)) (v_f484 : (Int → Option (Bool))) (v_f484_g : FuncId) (v_f484_c : (List PV)) : G_slices_IndexFunc_int_int_L1_R → PS
  | .x0 v_x490 => ⟨[dd, dd, dd, dd, .d (.v (.int .i64 v_x490)), dd, dd, dd, dd, dd, dd, dd, dd, dd, dd, dd, dd, dd, dd], []⟩
  | .x1  => ⟨[dd, dd, dd, dd, dd, dd, dd, dd, dd, dd, dd, dd, dd, dd, dd, dd, dd, dd, dd], []⟩
def G_slices_IndexFunc_int_int_L1_hd (v_s483 : (List Int)) (v_f484 : (Int → Option (Bool))) (v_f484_g : FuncId) (v_f484_c : (List PV)) (v_x485 : Int) : PS := ⟨[.d (.sl (v_s483.map (eI .i64))), .d (.clo v_f484_g v_f484_c), dd, dd, dd, dd, dd, .d (.v (.int .i64 (v_s483.length : Int))), .d (.v (.int .i64 v_x485)), dd, dd, dd, dd, dd, dd, dd, dd, dd, dd], []⟩
def G_slices_IndexFunc_int_int_L1 (n : Nat) (v_s483 : (List Int)) (v_f484 : (Int → Option (Bool))) : Nat → Int → Option G_slices_IndexFunc_int_int_L1_R
  | 0, _ => none
  | k + 1, v_x485 =>
    if v_x485 < (v_s483.length : Int) then
     (getI v_s483 v_x485).bind fun (v_y488 : Int) =>
     (v_f484 v_y488).bind fun (v_r489 : (Bool)) =>
     if v_r489 = true then
      some (.x0 v_x485)
     else
      G_slices_IndexFunc_int_int_L1 n v_s483 v_f484 k (wi .i64 (v_x485 + 1))
    else
     some (.x1 )
theorem G_slices_IndexFunc_int_int_L1_ok {Fi : Ex → PS → Prop} (hF : KC 19 Fi) (ks : List Fr) (n : Nat) (v_s483 : (List Int)) (v_f484 : (Int → Option (Bool))) (v_f484_g : FuncId) (v_f484_c : (List PV)) (v_f484_h : ∀ (x0 : Int) (r : Bool), v_f484 x0 = some r → Ret Try.prog v_f484_g ([(eI .i64) x0] ++ v_f484_c) (eB r)) : ∀ (k : Nat) (v_x485 : Int) (o : G_slices_IndexFunc_int_int_L1_R), G_slices_IndexFunc_int_int_L1 n v_s483 v_f484 k v_x485 = some o → RunE Try.prog 19 Fi ks (G_slices_IndexFunc_int_int_L1_ex o) (G_slices_IndexFunc_int_int_L1_st v_s483 v_f484 v_f484_g v_f484_c o) → RunE Try.prog 19 Fi (.l k (cP (cB (cR (cL (cR (bodyOf Try.f130)))))) :: ks) .normal (G_slices_IndexFunc_int_int_L1_hd v_s483 v_f484 v_f484_g v_f484_c v_x485)
  | 0, v_x485, o, h, q => by rw [G_slices_IndexFunc_int_int_L1] at h; cases h
  | k + 1, v_x485, o, h, q => by
    rw [G_slices_IndexFunc_int_int_L1] at h
    by_cases h569 : v_x485 < (v_s483.length : Int)
    · rw [if_pos h569] at h
      obtain ⟨v_y488, h573, h⟩ := bind_some h
      obtain ⟨v_r489, h574, h⟩ := bind_some h
      by_cases h575 : v_r489 = true
      · rw [if_pos h575] at h
        cases h
        exact pkk_sound TTok mix hF 19 (hs := [.t true, .y ((eI .i64) v_y488), .c, .r (eB v_r489), .t true]) (ts := []) (s := []) (l := [4]) (by kernel_rfl) (by kernel_rfl) (.cons (dt h569) (.cons (getI_ob (f := (eI .i64)) h573) (.cons (v_f484_h v_y488 _ h574) (.cons h575 .nil)))) q
      · rw [if_neg h575] at h
        exact pkk_sound TTok mix hF 16 (hs := [.t true, .y ((eI .i64) v_y488), .c, .r (eB v_r489), .t false]) (ts := []) (s := []) (l := [0, 1, 7, 8]) (by kernel_rfl) (by kernel_rfl) (.cons (dt h569) (.cons (getI_ob (f := (eI .i64)) h573) (.cons (v_f484_h v_y488 _ h574) (.cons (vf h575) .nil)))) (G_slices_IndexFunc_int_int_L1_ok hF ks n v_s483 v_f484 v_f484_g v_f484_c v_f484_h k (wi .i64 (v_x485 + 1)) _ h q)
    · rw [if_neg h569] at h
      cases h
      exact pkk_sound TTok mix hF 8 (hs := [.t false]) (ts := []) (s := []) (l := []) (by kernel_rfl) (by kernel_rfl) (.cons (df h569) .nil) q
/- slices.IndexFunc[[]int,int] -/
def G_slices_IndexFunc_int_int (n : Nat) (v_s483 : (List Int)) (v_f484 : (Int → Option (Bool))) : Option (Int) :=
  (G_slices_IndexFunc_int_int_L1 n v_s483 v_f484 n 0).bind fun v_o491 => match v_o491 with
  | .x0 v_z492 =>
    some v_z492
  | .x1  =>
    some (-1)
theorem G_slices_IndexFunc_int_int_ok (n : Nat) (v_s483 : (List Int)) (v_f484 : (Int → Option (Bool))) (v_f484_g : FuncId) (v_f484_c : List PV) (v_f484_h : ∀ (x0 : Int) (r : Bool), v_f484 x0 = some r → Ret Try.prog v_f484_g ([(eI .i64) x0] ++ v_f484_c) (eB r)) (r : Int) (h : G_slices_IndexFunc_int_int n v_s483 v_f484 = some r) : Ret Try.prog 130 [(eL (eI .i64)) v_s483, (.clo v_f484_g v_f484_c)] ((eI .i64) r) := by
  refine ret_run (n := 19) (fn := Try.f130) (c := bodyOf Try.f130) (by kernel_rfl) (by kernel_rfl) (by kernel_rfl) (by kernel_rfl) ?_
  have hF : KC 19 (FinR Try.prog Try.f130 ((eI .i64) r)) := FinR.kc' (by kernel_rfl)
  unfold G_slices_IndexFunc_int_int at h
  obtain ⟨v_o491, h576, h⟩ := bind_some h
  refine pkk_sound TTok mix hF 7 (hs := [.u (.d (.v (.int .i64 (v_s483.length : Int)))), .n n]) (ts := []) (s := []) (l := [0, 1, 7, 8]) (by kernel_rfl) (by kernel_rfl) (.cons (len_ob (f := (eI .i64)) (l := v_s483)) .nil) (G_slices_IndexFunc_int_int_L1_ok hF (.b 0 :: .s (cR (cR (bodyOf Try.f130))) :: []) n v_s483 v_f484 v_f484_g v_f484_c v_f484_h n 0 _ h576 ?_)
  cases v_o491 with
  | x0 v_z492 =>
    try dsimp only at h
    obtain rfl := Option.some.inj h
    exact pend_sound TTok mix 2 (hs := []) (by kernel_rfl) (by kernel_rfl) (by kernel_rfl) .nil
  | x1  =>
    try dsimp only at h
    obtain rfl := Option.some.inj h
    exact pend_sound TTok mix 4 (hs := []) (by kernel_rfl) (by kernel_rfl) (by kernel_rfl) .nil
/- slices.ContainsFunc[[]int,int] -/
def G_slices_ContainsFunc_int_int (n : Nat) (v_s481 : (List Int)) (v_f482 : (Int → Option (Bool))) : Option (Bool) :=
  (G_slices_IndexFunc_int_int n v_s481 v_f482).bind fun (v_r493 : (Int)) =>
  some (decide (v_r493 ≥ 0))
theorem G_slices_ContainsFunc_int_int_ok (n : Nat) (v_s481 : (List Int)) (v_f482 : (Int → Option (Bool))) (v_f482_g : FuncId) (v_f482_c : List PV) (v_f482_h : ∀ (x0 : Int) (r : Bool), v_f482 x0 = some r → Ret Try.prog v_f482_g ([(eI .i64) x0] ++ v_f482_c) (eB r)) (r : Bool) (h : G_slices_ContainsFunc_int_int n v_s481 v_f482 = some r) : Ret Try.prog 73 [(eL (eI .i64)) v_s481, (.clo v_f482_g v_f482_c)] (eB r) := by
  refine ret_run (n := 9) (fn := Try.f73) (c := bodyOf Try.f73) (by kernel_rfl) (by kernel_rfl) (by kernel_rfl) (by kernel_rfl) ?_
  have hF : KC 9 (FinR Try.prog Try.f73 (eB r)) := FinR.kc' (by kernel_rfl)
  unfold G_slices_ContainsFunc_int_int at h
  obtain ⟨v_r493, h577, h⟩ := bind_some h
  obtain rfl := Option.some.inj h
  exact pend_sound TTok mix 5 (hs := [.r ((eI .i64) v_r493)]) (by kernel_rfl) (by kernel_rfl) (by kernel_rfl) (.cons (G_slices_IndexFunc_int_int_ok n v_s481 v_f482 v_f482_g v_f482_c v_f482_h _ h577) .nil)
/- ringhall/ringlaw2.AreaTells$1 -/
def G_ringlaw2_AreaTells_1 (n : Nat) (v_r494 : Int) : Option (Bool) :=
  some (decide (v_r494 ≥ 0))
theorem G_ringlaw2_AreaTells_1_ok (n : Nat) (v_r494 : Int) (r : Bool) (h : G_ringlaw2_AreaTells_1 n v_r494 = some r) : Ret Try.prog 74 [(eI .i64) v_r494] (eB r) := by
  refine ret_run (n := 5) (fn := Try.f74) (c := bodyOf Try.f74) (by kernel_rfl) (by kernel_rfl) (by kernel_rfl) (by kernel_rfl) ?_
  have hF : KC 5 (FinR Try.prog Try.f74 (eB r)) := FinR.kc' (by kernel_rfl)
  unfold G_ringlaw2_AreaTells_1 at h
  obtain rfl := Option.some.inj h
  exact pend_sound TTok mix 5 (hs := []) (by kernel_rfl) (by kernel_rfl) (by kernel_rfl) .nil
inductive G_ringlaw2_AreaTells_C1_R where
  | x0 (v_x415 : Bool)
def G_ringlaw2_AreaTells_C1_ex : G_ringlaw2_AreaTells_C1_R → Ex
  | .x0 _ => .normal
def G_ringlaw2_AreaTells_C1_st (v_r139 : ((List S_area_Area) × Int)) (v_r173 : ((List S_area_Area) × Int)) (v_r180 : ((List S_area_Area) × Int)) (v_r194 : (S_area_Area × Bool × Int)) (v_r209 : (Int × Int)) (v_r402 : (Int)) : G_ringlaw2_AreaTells_C1_R → PS
  | .x0 v_x415 => ⟨[dd, dd, dd, dd, .d (.v (.bool v_x415)), dd, dd, dd, dd, dd, dd, dd, dd, dd, dd, dd, dd, dd, dd, dd, dd, dd, dd, dd, dd, dd, dd, dd, dd, dd, dd, dd, dd, dd, dd, dd, dd, dd, dd, dd, dd, dd, dd, dd, dd, dd, dd, dd, dd, dd, dd, dd, dd, dd, dd, dd, dd, dd, dd, dd, dd, dd, dd, dd, dd, dd, dd, dd, dd, dd, dd, dd, dd, dd, dd, dd, dd, dd, dd, dd, dd, dd, dd, dd, dd, dd, dd, dd, dd, dd, dd, dd, dd, dd, dd, dd, dd, dd, dd, dd, dd, dd, dd, dd, dd, dd, dd, dd, dd, dd, dd, dd, dd, dd, dd, dd, dd, dd, dd, dd, dd, dd, dd, dd, dd, dd, dd, dd, dd, dd, dd, dd, dd, dd, dd, dd, dd, dd, dd, dd, dd, dd, dd, dd, dd, dd, dd, dd, dd, dd, dd, dd, dd, dd, dd, dd, dd, dd, dd, dd, dd, dd, dd, dd, dd, dd, dd, dd, dd, dd, dd, dd, dd, dd, dd, dd, dd, dd, dd, dd, dd, dd, dd, dd, dd, dd, dd, dd, dd, dd, dd, dd, dd, dd, dd, dd, dd, dd, dd, dd, dd, dd, dd, dd, dd, dd, dd, dd, dd, dd, dd, dd, dd, dd, dd, dd, dd, dd, dd, dd, dd, dd, dd, dd, dd, dd, dd, dd, dd, dd, dd, dd, dd, dd, dd, dd, dd, dd, dd, dd, dd, dd, dd, dd, dd, dd, dd, dd, dd, dd, dd, dd, dd, dd, dd, dd, dd, dd, dd, dd, dd, dd, dd, dd, dd, dd, dd, dd, dd, dd, dd, dd, dd, dd, dd, dd, dd, dd, dd, dd, dd, dd, dd, dd, dd, dd, dd, dd, dd, dd, dd, dd, dd, dd, dd, dd, dd, dd, dd, dd, dd, dd, dd, dd, dd, dd, dd, dd, dd, dd, dd, dd, dd, dd, dd, dd, dd, dd, dd, dd, dd, dd, dd, dd, dd, dd, dd, dd, dd, dd, dd, dd, dd, dd, dd, dd, dd, dd, dd, dd, dd, dd, dd, dd, dd, dd, dd, dd, dd, dd], []⟩
def G_ringlaw2_AreaTells_C1_hd (v_r139 : ((List S_area_Area) × Int)) (v_r173 : ((List S_area_Area) × Int)) (v_r180 : ((List S_area_Area) × Int)) (v_r194 : (S_area_Area × Bool × Int)) (v_r209 : (Int × Int)) (v_r402 : (Int))  : PS := ⟨[dd, dd, dd, dd, dd, .d (.sl (v_r139.1.map eS_area_Area)), .d (.v (.int .i64 v_r139.2)), .d (.sl (v_r173.1.map eS_area_Area)), .d (.v (.int .i64 v_r173.2)), .d (.sl (v_r180.1.map eS_area_Area)), .d (.v (.int .i64 v_r180.2)), .ref 0 0, .d (.v (.bool v_r194.2.1)), .d (.v (.int .i64 v_r194.2.2)), .d (.v (.int .i64 v_r209.1)), .d (.v (.int .i64 v_r209.2)), .d (.v (.int .i64 v_r402)), dd, dd, dd, dd, dd, dd, dd, dd, dd, dd, dd, dd, dd, dd, dd, dd, dd, dd, dd, dd, dd, dd, dd, dd, dd, dd, dd, dd, dd, dd, dd, dd, dd, dd, dd, dd, dd, dd, dd, dd, dd, dd, dd, dd, dd, dd, dd, dd, dd, dd, dd, dd, dd, dd, dd, dd, dd, dd, dd, dd, dd, dd, dd, dd, dd, dd, dd, dd, dd, dd, dd, dd, dd, dd, dd, dd, dd, dd, dd, dd, dd, dd, dd, dd, dd, dd, dd, dd, dd, dd, dd, dd, dd, dd, dd, dd, dd, dd, dd, dd, dd, dd, dd, dd, dd, dd, dd, dd, dd, dd, dd, dd, dd, dd, dd, dd, dd, dd, dd, dd, dd, dd, dd, dd, dd, dd, dd, dd, dd, dd, dd, dd, dd, dd, dd, dd, dd, dd, dd, dd, dd, dd, dd, dd, dd, dd, dd, dd, dd, dd, dd, dd, dd, dd, dd, dd, dd, dd, dd, dd, dd, dd, dd, dd, dd, dd, dd, dd, dd, dd, dd, dd, dd, dd, dd, dd, dd, dd, dd, dd, dd, dd, dd, dd, dd, dd, dd, dd, dd, dd, dd, dd, dd, dd, dd, dd, dd, dd, dd, dd, dd, dd, dd, dd, dd, dd, dd, dd, dd, dd, dd, dd, dd, dd, dd, dd, dd, dd, dd, dd, dd, dd, dd, dd, dd, dd, dd, dd, dd, dd, dd, dd, dd, dd, dd, dd, dd, dd, dd, dd, dd, dd, dd, dd, dd, dd, dd, dd, dd, dd, dd, dd, dd, dd, dd, dd, dd, dd, dd, dd, dd, dd, dd, dd, dd, dd, dd, dd, dd, dd, dd, dd, dd, dd, dd, dd, dd, dd, dd, dd, dd, dd, dd, dd, dd, dd, dd, dd, dd, dd, dd, dd, dd, dd, dd, dd, dd, dd, dd, dd, dd, dd, dd, dd, dd, dd, dd, dd, dd, dd, dd, dd, dd, dd, dd, dd, dd, dd, dd, dd, dd, dd, dd, dd, dd, dd, dd, dd, dd, dd, dd, dd, dd], [.box [.d (.v (.int .i64 v_r194.1.fPage)), .d (.v (.int .i64 v_r194.1.fN)), .d (.v (.int .i64 v_r194.1.fRights))]]⟩
def G_ringlaw2_AreaTells_C1 (n : Nat) (v_r139 : ((List S_area_Area) × Int)) (v_r173 : ((List S_area_Area) × Int)) (v_r180 : ((List S_area_Area) × Int)) (v_r194 : (S_area_Area × Bool × Int)) (v_r209 : (Int × Int)) (v_r402 : (Int)) : Option G_ringlaw2_AreaTells_C1_R :=
  if (wi .i64 ((wi .i64 ((v_r139.1.length : Int) + (v_r173.1.length : Int))) + (v_r180.1.length : Int))) = 0 then
   if (eqRes .eql (eqS_area_Area v_r194.1 (S_area_Area.mk 0 0 0))) = true then
    if v_r194.2.1 = true then
     some (.x0 false)
    else
     if v_r209.1 = 0 then
      if v_r139.2 = v_r402 then
       if v_r173.2 = v_r402 then
        if v_r180.2 = v_r402 then
         if v_r194.2.2 = v_r402 then
          some (.x0 (v_r209.2 == v_r402))
         else
          some (.x0 false)
        else
         some (.x0 false)
       else
        some (.x0 false)
      else
       some (.x0 false)
     else
      some (.x0 false)
   else
    some (.x0 false)
  else
   some (.x0 false)
theorem G_ringlaw2_AreaTells_C1_ok {Fi : Ex → PS → Prop} (hF : KC 350 Fi) (ks : List Fr) (n : Nat) (v_r139 : ((List S_area_Area) × Int)) (v_r173 : ((List S_area_Area) × Int)) (v_r180 : ((List S_area_Area) × Int)) (v_r194 : (S_area_Area × Bool × Int)) (v_r209 : (Int × Int)) (v_r402 : (Int))  (o : G_ringlaw2_AreaTells_C1_R) (h : G_ringlaw2_AreaTells_C1 n v_r139 v_r173 v_r180 v_r194 v_r209 v_r402 = some o) (q : RunE Try.prog 350 Fi ks (G_ringlaw2_AreaTells_C1_ex o) (G_ringlaw2_AreaTells_C1_st v_r139 v_r173 v_r180 v_r194 v_r209 v_r402 o)) : RunE Try.prog 350 Fi (.s (cL (cT (cR (cL (cR (cR (cR (cR (cR (cR (cR (cR (bodyOf Try.f8))))))))))))) :: ks) .normal (G_ringlaw2_AreaTells_C1_hd v_r139 v_r173 v_r180 v_r194 v_r209 v_r402) := by
  unfold G_ringlaw2_AreaTells_C1 at h
  by_cases h487 : (wi .i64 ((wi .i64 ((v_r139.1.length : Int) + (v_r173.1.length : Int))) + (v_r180.1.length : Int))) = 0
  · rw [if_pos h487] at h
    by_cases h488 : (eqRes .eql (eqS_area_Area v_r194.1 (S_area_Area.mk 0 0 0))) = true
    · rw [if_pos h488] at h
      by_cases h489 : v_r194.2.1 = true
      · rw [if_pos h489] at h
        cases h
        exact pkk_sound TTok mix hF 1 (hs := [.u (.d (.v (.int .i64 (v_r139.1.length : Int)))), .u (.d (.v (.int .i64 (v_r173.1.length : Int)))), .u (.d (.v (.int .i64 (v_r180.1.length : Int)))), .t true, .c, .c, .c, .q (eqS_area_Area v_r194.1 (S_area_Area.mk 0 0 0)), .t true, .c, .t false, .c, .c, .c, .c, .c, .c, .c, .c, .c, .c, .c, .c, .c, .c, .c, .c]) (ts := []) (s := []) (l := [4]) (by kernel_rfl) (by kernel_rfl) (.cons (len_ob (f := eS_area_Area) (l := v_r139.1)) (.cons (len_ob (f := eS_area_Area) (l := v_r173.1)) (.cons (len_ob (f := eS_area_Area) (l := v_r180.1)) (.cons (bt h487) (.cons (eqS_area_Area_ok v_r194.1 (S_area_Area.mk 0 0 0)) (.cons h488 (.cons (bnf h489) .nil))))))) q
      · rw [if_neg h489] at h
        by_cases h490 : v_r209.1 = 0
        · rw [if_pos h490] at h
          by_cases h491 : v_r139.2 = v_r402
          · rw [if_pos h491] at h
            by_cases h492 : v_r173.2 = v_r402
            · rw [if_pos h492] at h
              by_cases h493 : v_r180.2 = v_r402
              · rw [if_pos h493] at h
                by_cases h494 : v_r194.2.2 = v_r402
                · rw [if_pos h494] at h
                  cases h
                  exact pkk_sound TTok mix hF 1 (hs := [.u (.d (.v (.int .i64 (v_r139.1.length : Int)))), .u (.d (.v (.int .i64 (v_r173.1.length : Int)))), .u (.d (.v (.int .i64 (v_r180.1.length : Int)))), .t true, .c, .c, .c, .q (eqS_area_Area v_r194.1 (S_area_Area.mk 0 0 0)), .t true, .c, .t true, .c, .t true, .c, .c, .t true, .c, .c, .t true, .c, .c, .t true, .c, .c, .t true, .c, .c]) (ts := []) (s := []) (l := [4]) (by kernel_rfl) (by kernel_rfl) (.cons (len_ob (f := eS_area_Area) (l := v_r139.1)) (.cons (len_ob (f := eS_area_Area) (l := v_r173.1)) (.cons (len_ob (f := eS_area_Area) (l := v_r180.1)) (.cons (bt h487) (.cons (eqS_area_Area_ok v_r194.1 (S_area_Area.mk 0 0 0)) (.cons h488 (.cons (bnt (vf h489)) (.cons (bt h490) (.cons (bt h491) (.cons (bt h492) (.cons (bt h493) (.cons (bt h494) .nil)))))))))))) q
                · rw [if_neg h494] at h
                  cases h
                  exact pkk_sound TTok mix hF 1 (hs := [.u (.d (.v (.int .i64 (v_r139.1.length : Int)))), .u (.d (.v (.int .i64 (v_r173.1.length : Int)))), .u (.d (.v (.int .i64 (v_r180.1.length : Int)))), .t true, .c, .c, .c, .q (eqS_area_Area v_r194.1 (S_area_Area.mk 0 0 0)), .t true, .c, .t true, .c, .t true, .c, .c, .t true, .c, .c, .t true, .c, .c, .t true, .c, .c, .t false, .c, .c]) (ts := []) (s := []) (l := [4]) (by kernel_rfl) (by kernel_rfl) (.cons (len_ob (f := eS_area_Area) (l := v_r139.1)) (.cons (len_ob (f := eS_area_Area) (l := v_r173.1)) (.cons (len_ob (f := eS_area_Area) (l := v_r180.1)) (.cons (bt h487) (.cons (eqS_area_Area_ok v_r194.1 (S_area_Area.mk 0 0 0)) (.cons h488 (.cons (bnt (vf h489)) (.cons (bt h490) (.cons (bt h491) (.cons (bt h492) (.cons (bt h493) (.cons (bf h494) .nil)))))))))))) q
              · rw [if_neg h493] at h
                cases h
                exact pkk_sound TTok mix hF 1 (hs := [.u (.d (.v (.int .i64 (v_r139.1.length : Int)))), .u (.d (.v (.int .i64 (v_r173.1.length : Int)))), .u (.d (.v (.int .i64 (v_r180.1.length : Int)))), .t true, .c, .c, .c, .q (eqS_area_Area v_r194.1 (S_area_Area.mk 0 0 0)), .t true, .c, .t true, .c, .t true, .c, .c, .t true, .c, .c, .t true, .c, .c, .t false, .c, .c, .c, .c, .c]) (ts := []) (s := []) (l := [4]) (by kernel_rfl) (by kernel_rfl) (.cons (len_ob (f := eS_area_Area) (l := v_r139.1)) (.cons (len_ob (f := eS_area_Area) (l := v_r173.1)) (.cons (len_ob (f := eS_area_Area) (l := v_r180.1)) (.cons (bt h487) (.cons (eqS_area_Area_ok v_r194.1 (S_area_Area.mk 0 0 0)) (.cons h488 (.cons (bnt (vf h489)) (.cons (bt h490) (.cons (bt h491) (.cons (bt h492) (.cons (bf h493) .nil))))))))))) q
            · rw [if_neg h492] at h
              cases h
              exact pkk_sound TTok mix hF 1 (hs := [.u (.d (.v (.int .i64 (v_r139.1.length : Int)))), .u (.d (.v (.int .i64 (v_r173.1.length : Int)))), .u (.d (.v (.int .i64 (v_r180.1.length : Int)))), .t true, .c, .c, .c, .q (eqS_area_Area v_r194.1 (S_area_Area.mk 0 0 0)), .t true, .c, .t true, .c, .t true, .c, .c, .t true, .c, .c, .t false, .c, .c, .c, .c, .c, .c, .c, .c]) (ts := []) (s := []) (l := [4]) (by kernel_rfl) (by kernel_rfl) (.cons (len_ob (f := eS_area_Area) (l := v_r139.1)) (.cons (len_ob (f := eS_area_Area) (l := v_r173.1)) (.cons (len_ob (f := eS_area_Area) (l := v_r180.1)) (.cons (bt h487) (.cons (eqS_area_Area_ok v_r194.1 (S_area_Area.mk 0 0 0)) (.cons h488 (.cons (bnt (vf h489)) (.cons (bt h490) (.cons (bt h491) (.cons (bf h492) .nil)))))))))) q
          · rw [if_neg h491] at h
            cases h
            exact pkk_sound TTok mix hF 1 (hs := [.u (.d (.v (.int .i64 (v_r139.1.length : Int)))), .u (.d (.v (.int .i64 (v_r173.1.length : Int)))), .u (.d (.v (.int .i64 (v_r180.1.length : Int)))), .t true, .c, .c, .c, .q (eqS_area_Area v_r194.1 (S_area_Area.mk 0 0 0)), .t true, .c, .t true, .c, .t true, .c, .c, .t false, .c, .c, .c, .c, .c, .c, .c, .c, .c, .c, .c]) (ts := []) (s := []) (l := [4]) (by kernel_rfl) (by kernel_rfl) (.cons (len_ob (f := eS_area_Area) (l := v_r139.1)) (.cons (len_ob (f := eS_area_Area) (l := v_r173.1)) (.cons (len_ob (f := eS_area_Area) (l := v_r180.1)) (.cons (bt h487) (.cons (eqS_area_Area_ok v_r194.1 (S_area_Area.mk 0 0 0)) (.cons h488 (.cons (bnt (vf h489)) (.cons (bt h490) (.cons (bf h491) .nil))))))))) q
        · rw [if_neg h490] at h
          cases h
          exact pkk_sound TTok mix hF 1 (hs := [.u (.d (.v (.int .i64 (v_r139.1.length : Int)))), .u (.d (.v (.int .i64 (v_r173.1.length : Int)))), .u (.d (.v (.int .i64 (v_r180.1.length : Int)))), .t true, .c, .c, .c, .q (eqS_area_Area v_r194.1 (S_area_Area.mk 0 0 0)), .t true, .c, .t true, .c, .t false, .c, .c, .c, .c, .c, .c, .c, .c, .c, .c, .c, .c, .c, .c]) (ts := []) (s := []) (l := [4]) (by kernel_rfl) (by kernel_rfl) (.cons (len_ob (f := eS_area_Area) (l := v_r139.1)) (.cons (len_ob (f := eS_area_Area) (l := v_r173.1)) (.cons (len_ob (f := eS_area_Area) (l := v_r180.1)) (.cons (bt h487) (.cons (eqS_area_Area_ok v_r194.1 (S_area_Area.mk 0 0 0)) (.cons h488 (.cons (bnt (vf h489)) (.cons (bf h490) .nil)))))))) q
    · rw [if_neg h488] at h
      cases h
      exact pkk_sound TTok mix hF 1 (hs := [.u (.d (.v (.int .i64 (v_r139.1.length : Int)))), .u (.d (.v (.int .i64 (v_r173.1.length : Int)))), .u (.d (.v (.int .i64 (v_r180.1.length : Int)))), .t true, .c, .c, .c, .q (eqS_area_Area v_r194.1 (S_area_Area.mk 0 0 0)), .t false, .c, .c, .c, .c, .c, .c, .c, .c, .c, .c, .c, .c, .c, .c, .c, .c, .c, .c]) (ts := []) (s := []) (l := [4]) (by kernel_rfl) (by kernel_rfl) (.cons (len_ob (f := eS_area_Area) (l := v_r139.1)) (.cons (len_ob (f := eS_area_Area) (l := v_r173.1)) (.cons (len_ob (f := eS_area_Area) (l := v_r180.1)) (.cons (bt h487) (.cons (eqS_area_Area_ok v_r194.1 (S_area_Area.mk 0 0 0)) (.cons (vf h488) .nil)))))) q
  · rw [if_neg h487] at h
    cases h
    exact pkk_sound TTok mix hF 1 (hs := [.u (.d (.v (.int .i64 (v_r139.1.length : Int)))), .u (.d (.v (.int .i64 (v_r173.1.length : Int)))), .u (.d (.v (.int .i64 (v_r180.1.length : Int)))), .t false, .c, .c, .c, .c, .c, .c, .c, .c, .c, .c, .c, .c, .c, .c, .c, .c, .c, .c, .c, .c, .c]) (ts := []) (s := []) (l := [4]) (by kernel_rfl) (by kernel_rfl) (.cons (len_ob (f := eS_area_Area) (l := v_r139.1)) (.cons (len_ob (f := eS_area_Area) (l := v_r173.1)) (.cons (len_ob (f := eS_area_Area) (l := v_r180.1)) (.cons (bf h487) .nil)))) q
inductive G_ringlaw2_AreaTells_L2_R where
  | x0 
def G_ringlaw2_AreaTells_L2_ex : G_ringlaw2_AreaTells_L2_R → Ex
  | .x0  => .exit 0
def G_ringlaw2_AreaTells_L2_st (v_l1 : (List S_area_Area)) (v_r139 : ((List S_area_Area) × Int)) (v_r173 : ((List S_area_Area) × Int)) (v_r180 : ((List S_area_Area) × Int)) (v_r194 : (S_area_Area × Bool × Int)) (v_r209 : (Int × Int)) (v_x2 : S_area_Area) (v_r426 : ((Fin 64 → Int))) : G_ringlaw2_AreaTells_L2_R → PS
  | .x0  => ⟨[.d (.sl (v_l1.map eS_area_Area)), dd, dd, .ref 0 0, dd, .d (.sl (v_r139.1.map eS_area_Area)), .d (.v (.int .i64 v_r139.2)), .d (.sl (v_r173.1.map eS_area_Area)), .d (.v (.int .i64 v_r173.2)), .d (.sl (v_r180.1.map eS_area_Area)), .d (.v (.int .i64 v_r180.2)), .ref 1 0, .d (.v (.bool v_r194.2.1)), .d (.v (.int .i64 v_r194.2.2)), .d (.v (.int .i64 v_r209.1)), .d (.v (.int .i64 v_r209.2)), dd, .ref 2 0, .d (.v (.int .i64 1)), .d (.v (.int .i64 1)), .d (.v (.int .i64 1)), .ref 3 0, .ref 4 0, .ref 5 0, dd, dd, dd, dd, dd, dd, dd, dd, dd, dd, dd, dd, dd, dd, dd, dd, dd, dd, dd, dd, dd, dd, dd, dd, dd, dd, dd, dd, dd, dd, dd, dd, dd, dd, dd, dd, dd, dd, dd, dd, dd, dd, dd, dd, dd, dd, dd, dd, dd, dd, dd, dd, dd, dd, dd, dd, dd, dd, dd, dd, dd, dd, dd, dd, dd, dd, dd, dd, dd, dd, dd, dd, dd, dd, dd, dd, dd, dd, dd, dd, dd, dd, dd, dd, dd, dd, dd, dd, dd, dd, dd, dd, dd, dd, dd, dd, dd, dd, dd, dd, dd, dd, dd, dd, dd, dd, dd, dd, dd, dd, dd, dd, dd, dd, dd, dd, dd, dd, dd, dd, dd, dd, dd, dd, dd, dd, dd, dd, dd, dd, dd, dd, dd, dd, dd, dd, dd, dd, dd, dd, dd, dd, dd, dd, dd, dd, dd, dd, dd, dd, dd, dd, dd, dd, dd, dd, dd, dd, dd, dd, dd, dd, dd, dd, dd, dd, dd, dd, dd, dd, dd, dd, dd, dd, dd, dd, dd, dd, dd, dd, dd, dd, dd, dd, dd, dd, dd, dd, dd, dd, dd, dd, dd, dd, dd, dd, dd, dd, dd, dd, dd, dd, dd, dd, dd, dd, dd, dd, dd, dd, dd, dd, dd, dd, dd, dd, dd, dd, dd, dd, dd, dd, dd, dd, dd, dd, dd, dd, dd, dd, dd, dd, dd, dd, dd, dd, dd, dd, dd, dd, dd, dd, dd, dd, dd, dd, dd, dd, dd, dd, dd, dd, dd, dd, dd, dd, dd, dd, dd, dd, dd, dd, dd, dd, dd, dd, dd, dd, dd, dd, dd, dd, dd, dd, dd, dd, dd, dd, dd, dd, dd, dd, dd, dd, dd, dd, dd, dd, dd, dd, dd, dd, dd, dd, dd, dd, dd, dd, dd, dd, dd, dd, dd, dd, dd, dd, dd, dd, dd, dd, dd, dd, dd, dd, dd, dd, dd, dd, dd, dd, dd, dd, dd, dd, dd, dd], [.box [.d (.v (.int .i64 v_x2.fPage)), .d (.v (.int .i64 v_x2.fN)), .d (.v (.int .i64 v_x2.fRights))], .box [.d (.v (.int .i64 v_r194.1.fPage)), .d (.v (.int .i64 v_r194.1.fN)), .d (.v (.int .i64 v_r194.1.fRights))], .box ((cA_t119 v_r426).map FV.d), .box ((cA_t119 v_r426).map FV.d), .box ((cA_t119 v_r426).map FV.d), .box ((cA_t119 v_r426).map FV.d)]⟩
def G_ringlaw2_AreaTells_L2_hd (v_l1 : (List S_area_Area)) (v_r139 : ((List S_area_Area) × Int)) (v_r173 : ((List S_area_Area) × Int)) (v_r180 : ((List S_area_Area) × Int)) (v_r194 : (S_area_Area × Bool × Int)) (v_r209 : (Int × Int)) (v_x2 : S_area_Area) (v_r426 : ((Fin 64 → Int))) (v_k429 : Int) : PS := ⟨[.d (.sl (v_l1.map eS_area_Area)), dd, dd, .ref 0 0, dd, .d (.sl (v_r139.1.map eS_area_Area)), .d (.v (.int .i64 v_r139.2)), .d (.sl (v_r173.1.map eS_area_Area)), .d (.v (.int .i64 v_r173.2)), .d (.sl (v_r180.1.map eS_area_Area)), .d (.v (.int .i64 v_r180.2)), .ref 1 0, .d (.v (.bool v_r194.2.1)), .d (.v (.int .i64 v_r194.2.2)), .d (.v (.int .i64 v_r209.1)), .d (.v (.int .i64 v_r209.2)), dd, .ref 2 0, .d (.v (.int .i64 1)), .d (.v (.int .i64 1)), .d (.v (.int .i64 1)), .ref 3 0, .ref 4 0, .ref 5 0, .d (.v (.int .i64 v_k429)), dd, dd, dd, dd, dd, dd, dd, dd, dd, dd, dd, dd, dd, dd, dd, dd, dd, dd, dd, dd, dd, dd, dd, dd, dd, dd, dd, dd, dd, dd, dd, dd, dd, dd, dd, dd, dd, dd, dd, dd, dd, dd, dd, dd, dd, dd, dd, dd, dd, dd, dd, dd, dd, dd, dd, dd, dd, dd, dd, dd, dd, dd, dd, dd, dd, dd, dd, dd, dd, dd, dd, dd, dd, dd, dd, dd, dd, dd, dd, dd, dd, dd, dd, dd, dd, dd, dd, dd, dd, dd, dd, dd, dd, dd, dd, dd, dd, dd, dd, dd, dd, dd, dd, dd, dd, dd, dd, dd, dd, dd, dd, dd, dd, dd, dd, dd, dd, dd, dd, dd, dd, dd, dd, dd, dd, dd, dd, dd, dd, dd, dd, dd, dd, dd, dd, dd, dd, dd, dd, dd, dd, dd, dd, dd, dd, dd, dd, dd, dd, dd, dd, dd, dd, dd, dd, dd, dd, dd, dd, dd, dd, dd, dd, dd, dd, dd, dd, dd, dd, dd, dd, dd, dd, dd, dd, dd, dd, dd, dd, dd, dd, dd, dd, dd, dd, dd, dd, dd, dd, dd, dd, dd, dd, dd, dd, dd, dd, dd, dd, dd, dd, dd, dd, dd, dd, dd, dd, dd, dd, dd, dd, dd, dd, dd, dd, dd, dd, dd, dd, dd, dd, dd, dd, dd, dd, dd, dd, dd, dd, dd, dd, dd, dd, dd, dd, dd, dd, dd, dd, dd, dd, dd, dd, dd, dd, dd, dd, dd, dd, dd, dd, dd, dd, dd, dd, dd, dd, dd, dd, dd, dd, dd, dd, dd, dd, dd, dd, dd, dd, dd, dd, dd, dd, dd, dd, dd, dd, dd, dd, dd, dd, dd, dd, dd, dd, dd, dd, dd, dd, dd, dd, dd, dd, dd, dd, dd, dd, dd, dd, dd, dd, dd, dd, dd, dd, dd, dd, dd, dd, dd, dd, dd, dd, dd, dd, dd, dd, dd, dd, dd, dd, dd, dd, dd, dd], [.box [.d (.v (.int .i64 v_x2.fPage)), .d (.v (.int .i64 v_x2.fN)), .d (.v (.int .i64 v_x2.fRights))], .box [.d (.v (.int .i64 v_r194.1.fPage)), .d (.v (.int .i64 v_r194.1.fN)), .d (.v (.int .i64 v_r194.1.fRights))], .box ((cA_t119 v_r426).map FV.d), .box ((cA_t119 v_r426).map FV.d), .box ((cA_t119 v_r426).map FV.d), .box ((cA_t119 v_r426).map FV.d)]⟩
def G_ringlaw2_AreaTells_L2 (n : Nat) (v_l1 : (List S_area_Area)) (v_r139 : ((List S_area_Area) × Int)) (v_r173 : ((List S_area_Area) × Int)) (v_r180 : ((List S_area_Area) × Int)) (v_r194 : (S_area_Area × Bool × Int)) (v_r209 : (Int × Int)) (v_x2 : S_area_Area) (v_r426 : ((Fin 64 → Int))) : Nat → Int → Option G_ringlaw2_AreaTells_L2_R
  | 0, _ => none
  | k + 1, v_k429 =>
    some (.x0 )
theorem G_ringlaw2_AreaTells_L2_ok {Fi : Ex → PS → Prop} (hF : KC 350 Fi) (ks : List Fr) (n : Nat) (v_l1 : (List S_area_Area)) (v_r139 : ((List S_area_Area) × Int)) (v_r173 : ((List S_area_Area) × Int)) (v_r180 : ((List S_area_Area) × Int)) (v_r194 : (S_area_Area × Bool × Int)) (v_r209 : (Int × Int)) (v_x2 : S_area_Area) (v_r426 : ((Fin 64 → Int)))  : ∀ (k : Nat) (v_k429 : Int) (o : G_ringlaw2_AreaTells_L2_R), G_ringlaw2_AreaTells_L2 n v_l1 v_r139 v_r173 v_r180 v_r194 v_r209 v_x2 v_r426 k v_k429 = some o → RunE Try.prog 350 Fi ks (G_ringlaw2_AreaTells_L2_ex o) (G_ringlaw2_AreaTells_L2_st v_l1 v_r139 v_r173 v_r180 v_r194 v_r209 v_x2 v_r426 o) → RunE Try.prog 350 Fi (.l k (cP (cB (cR (cL (cR (cR (cR (cR (cR (cR (cR (cR (cR (cR (cR (cR (cR (cR (bodyOf Try.f8))))))))))))))))))) :: ks) .normal (G_ringlaw2_AreaTells_L2_hd v_l1 v_r139 v_r173 v_r180 v_r194 v_r209 v_x2 v_r426 v_k429)
  | 0, v_k429, o, h, q => by rw [G_ringlaw2_AreaTells_L2] at h; cases h
  | k + 1, v_k429, o, h, q => by
    rw [G_ringlaw2_AreaTells_L2] at h
    cases h
    exact pkk_sound TTok mix hF 8 (hs := [.c, .c, .c, .c, .c]) (ts := []) (s := [0, 1, 2, 3, 4, 5]) (l := [0, 3, 5, 6, 7, 8, 9, 10, 11, 12, 13, 14, 15, 17, 18, 19, 20, 21, 22, 23]) (by kernel_rfl) (by kernel_rfl) .nil q
inductive G_ringlaw2_AreaTells_L3_R where
  | x0 
def G_ringlaw2_AreaTells_L3_ex : G_ringlaw2_AreaTells_L3_R → Ex
  | .x0  => .exit 2
def G_ringlaw2_AreaTells_L3_st (v_l1 : (List S_area_Area)) (v_r139 : ((List S_area_Area) × Int)) (v_r173 : ((List S_area_Area) × Int)) (v_r180 : ((List S_area_Area) × Int)) (v_r194 : (S_area_Area × Bool × Int)) (v_r209 : (Int × Int)) (v_x2 : S_area_Area) (v_r426 : ((Fin 64 → Int))) : G_ringlaw2_AreaTells_L3_R → PS
  | .x0  => ⟨[.d (.sl (v_l1.map eS_area_Area)), dd, dd, .ref 0 0, dd, .d (.sl (v_r139.1.map eS_area_Area)), .d (.v (.int .i64 v_r139.2)), .d (.sl (v_r173.1.map eS_area_Area)), .d (.v (.int .i64 v_r173.2)), .d (.sl (v_r180.1.map eS_area_Area)), .d (.v (.int .i64 v_r180.2)), .ref 1 0, .d (.v (.bool v_r194.2.1)), .d (.v (.int .i64 v_r194.2.2)), .d (.v (.int .i64 v_r209.1)), .d (.v (.int .i64 v_r209.2)), dd, .ref 2 0, .d (.v (.int .i64 1)), .d (.v (.int .i64 1)), .d (.v (.int .i64 1)), .ref 3 0, .ref 4 0, .ref 5 0, dd, dd, dd, dd, dd, dd, dd, dd, dd, dd, dd, dd, dd, dd, dd, dd, dd, dd, dd, dd, dd, dd, dd, dd, dd, dd, dd, dd, dd, dd, dd, dd, dd, dd, dd, dd, dd, dd, dd, dd, dd, dd, dd, dd, dd, dd, dd, dd, dd, dd, dd, dd, dd, dd, dd, dd, dd, dd, dd, dd, dd, dd, dd, dd, dd, dd, dd, dd, dd, dd, dd, dd, dd, dd, dd, dd, dd, dd, dd, dd, dd, dd, dd, dd, dd, dd, dd, dd, dd, dd, dd, dd, dd, dd, dd, dd, dd, dd, dd, dd, dd, dd, dd, dd, dd, dd, dd, dd, dd, dd, dd, dd, dd, dd, dd, dd, dd, dd, dd, dd, dd, dd, dd, dd, dd, dd, dd, dd, dd, dd, dd, dd, dd, dd, dd, dd, dd, dd, dd, dd, dd, dd, dd, dd, dd, dd, dd, dd, dd, dd, dd, dd, dd, dd, dd, dd, dd, dd, dd, dd, dd, dd, dd, dd, dd, dd, dd, dd, dd, dd, dd, dd, dd, dd, dd, dd, dd, dd, dd, dd, dd, dd, dd, dd, dd, dd, dd, dd, dd, dd, dd, dd, dd, dd, dd, dd, dd, dd, dd, dd, dd, dd, dd, dd, dd, dd, dd, dd, dd, dd, dd, dd, dd, dd, dd, dd, dd, dd, dd, dd, dd, dd, dd, dd, dd, dd, dd, dd, dd, dd, dd, dd, dd, dd, dd, dd, dd, dd, dd, dd, dd, dd, dd, dd, dd, dd, dd, dd, dd, dd, dd, dd, dd, dd, dd, dd, dd, dd, dd, dd, dd, dd, dd, dd, dd, dd, dd, dd, dd, dd, dd, dd, dd, dd, dd, dd, dd, dd, dd, dd, dd, dd, dd, dd, dd, dd, dd, dd, dd, dd, dd, dd, dd, dd, dd, dd, dd, dd, dd, dd, dd, dd, dd, dd, dd, dd, dd, dd, dd, dd, dd, dd, dd, dd, dd, dd, dd, dd, dd, dd, dd, dd, dd, dd, dd, dd], [.box [.d (.v (.int .i64 v_x2.fPage)), .d (.v (.int .i64 v_x2.fN)), .d (.v (.int .i64 v_x2.fRights))], .box [.d (.v (.int .i64 v_r194.1.fPage)), .d (.v (.int .i64 v_r194.1.fN)), .d (.v (.int .i64 v_r194.1.fRights))], .box ((cA_t119 v_r426).map FV.d), .box ((cA_t119 v_r426).map FV.d), .box ((cA_t119 v_r426).map FV.d), .box ((cA_t119 v_r426).map FV.d)]⟩
def G_ringlaw2_AreaTells_L3_hd (v_l1 : (List S_area_Area)) (v_r139 : ((List S_area_Area) × Int)) (v_r173 : ((List S_area_Area) × Int)) (v_r180 : ((List S_area_Area) × Int)) (v_r194 : (S_area_Area × Bool × Int)) (v_r209 : (Int × Int)) (v_x2 : S_area_Area) (v_r426 : ((Fin 64 → Int))) (v_k431 : Int) : PS := ⟨[.d (.sl (v_l1.map eS_area_Area)), dd, dd, .ref 0 0, dd, .d (.sl (v_r139.1.map eS_area_Area)), .d (.v (.int .i64 v_r139.2)), .d (.sl (v_r173.1.map eS_area_Area)), .d (.v (.int .i64 v_r173.2)), .d (.sl (v_r180.1.map eS_area_Area)), .d (.v (.int .i64 v_r180.2)), .ref 1 0, .d (.v (.bool v_r194.2.1)), .d (.v (.int .i64 v_r194.2.2)), .d (.v (.int .i64 v_r209.1)), .d (.v (.int .i64 v_r209.2)), dd, .ref 2 0, .d (.v (.int .i64 1)), .d (.v (.int .i64 1)), .d (.v (.int .i64 1)), .ref 3 0, .ref 4 0, .ref 5 0, dd, dd, .d (.v (.int .i64 v_k431)), dd, dd, dd, dd, dd, dd, dd, dd, dd, dd, dd, dd, dd, dd, dd, dd, dd, dd, dd, dd, dd, dd, dd, dd, dd, dd, dd, dd, dd, dd, dd, dd, dd, dd, dd, dd, dd, dd, dd, dd, dd, dd, dd, dd, dd, dd, dd, dd, dd, dd, dd, dd, dd, dd, dd, dd, dd, dd, dd, dd, dd, dd, dd, dd, dd, dd, dd, dd, dd, dd, dd, dd, dd, dd, dd, dd, dd, dd, dd, dd, dd, dd, dd, dd, dd, dd, dd, dd, dd, dd, dd, dd, dd, dd, dd, dd, dd, dd, dd, dd, dd, dd, dd, dd, dd, dd, dd, dd, dd, dd, dd, dd, dd, dd, dd, dd, dd, dd, dd, dd, dd, dd, dd, dd, dd, dd, dd, dd, dd, dd, dd, dd, dd, dd, dd, dd, dd, dd, dd, dd, dd, dd, dd, dd, dd, dd, dd, dd, dd, dd, dd, dd, dd, dd, dd, dd, dd, dd, dd, dd, dd, dd, dd, dd, dd, dd, dd, dd, dd, dd, dd, dd, dd, dd, dd, dd, dd, dd, dd, dd, dd, dd, dd, dd, dd, dd, dd, dd, dd, dd, dd, dd, dd, dd, dd, dd, dd, dd, dd, dd, dd, dd, dd, dd, dd, dd, dd, dd, dd, dd, dd, dd, dd, dd, dd, dd, dd, dd, dd, dd, dd, dd, dd, dd, dd, dd, dd, dd, dd, dd, dd, dd, dd, dd, dd, dd, dd, dd, dd, dd, dd, dd, dd, dd, dd, dd, dd, dd, dd, dd, dd, dd, dd, dd, dd, dd, dd, dd, dd, dd, dd, dd, dd, dd, dd, dd, dd, dd, dd, dd, dd, dd, dd, dd, dd, dd, dd, dd, dd, dd, dd, dd, dd, dd, dd, dd, dd, dd, dd, dd, dd, dd, dd, dd, dd, dd, dd, dd, dd, dd, dd, dd, dd, dd, dd, dd, dd, dd, dd, dd, dd, dd, dd, dd, dd, dd, dd, dd, dd, dd, dd, dd, dd], [.box [.d (.v (.int .i64 v_x2.fPage)), .d (.v (.int .i64 v_x2.fN)), .d (.v (.int .i64 v_x2.fRights))], .box [.d (.v (.int .i64 v_r194.1.fPage)), .d (.v (.int .i64 v_r194.1.fN)), .d (.v (.int .i64 v_r194.1.fRights))], .box ((cA_t119 v_r426).map FV.d), .box ((cA_t119 v_r426).map FV.d), .box ((cA_t119 v_r426).map FV.d), .box ((cA_t119 v_r426).map FV.d)]⟩
def G_ringlaw2_AreaTells_L3 (n : Nat) (v_l1 : (List S_area_Area)) (v_r139 : ((List S_area_Area) × Int)) (v_r173 : ((List S_area_Area) × Int)) (v_r180 : ((List S_area_Area) × Int)) (v_r194 : (S_area_Area × Bool × Int)) (v_r209 : (Int × Int)) (v_x2 : S_area_Area) (v_r426 : ((Fin 64 → Int))) : Nat → Int → Option G_ringlaw2_AreaTells_L3_R
  | 0, _ => none
  | k + 1, v_k431 =>
    some (.x0 )
theorem G_ringlaw2_AreaTells_L3_ok {Fi : Ex → PS → Prop} (hF : KC 350 Fi) (ks : List Fr) (n : Nat) (v_l1 : (List S_area_Area)) (v_r139 : ((List S_area_Area) × Int)) (v_r173 : ((List S_area_Area) × Int)) (v_r180 : ((List S_area_Area) × Int)) (v_r194 : (S_area_Area × Bool × Int)) (v_r209 : (Int × Int)) (v_x2 : S_area_Area) (v_r426 : ((Fin 64 → Int)))  : ∀ (k : Nat) (v_k431 : Int) (o : G_ringlaw2_AreaTells_L3_R), G_ringlaw2_AreaTells_L3 n v_l1 v_r139 v_r173 v_r180 v_r194 v_r209 v_x2 v_r426 k v_k431 = some o → RunE Try.prog 350 Fi ks (G_ringlaw2_AreaTells_L3_ex o) (G_ringlaw2_AreaTells_L3_st v_l1 v_r139 v_r173 v_r180 v_r194 v_r209 v_x2 v_r426 o) → RunE Try.prog 350 Fi (.l k (cP (cB (cR (cL (cR (cR (cR (cR (cR (cR (cR (cR (cR (cR (cR (cR (cR (cR (cR (bodyOf Try.f8)))))))))))))))))))) :: ks) .normal (G_ringlaw2_AreaTells_L3_hd v_l1 v_r139 v_r173 v_r180 v_r194 v_r209 v_x2 v_r426 v_k431)
  | 0, v_k431, o, h, q => by rw [G_ringlaw2_AreaTells_L3] at h; cases h
  | k + 1, v_k431, o, h, q => by
    rw [G_ringlaw2_AreaTells_L3] at h
    cases h
    exact pkk_sound TTok mix hF 8 (hs := [.c, .c, .c, .c, .c]) (ts := []) (s := [0, 1, 2, 3, 4, 5]) (l := [0, 3, 5, 6, 7, 8, 9, 10, 11, 12, 13, 14, 15, 17, 18, 19, 20, 21, 22, 23]) (by kernel_rfl) (by kernel_rfl) .nil q
inductive G_ringlaw2_AreaTells_L4_R where
  | x0 (v_put440 : Int) (v_turn441 : Int)
def G_ringlaw2_AreaTells_L4_ex : G_ringlaw2_AreaTells_L4_R → Ex
  | .x0 _ _ => .exit 4
def G_ringlaw2_AreaTells_L4_st (v_l1 : (List S_area_Area)) (v_r139 : ((List S_area_Area) × Int)) (v_r173 : ((List S_area_Area) × Int)) (v_r180 : ((List S_area_Area) × Int)) (v_r194 : (S_area_Area × Bool × Int)) (v_r209 : (Int × Int)) (v_x2 : S_area_Area) (v_r426 : ((Fin 64 → Int))) : G_ringlaw2_AreaTells_L4_R → PS
  | .x0 v_put440 v_turn441 => ⟨[.d (.sl (v_l1.map eS_area_Area)), dd, dd, .ref 0 0, dd, .d (.sl (v_r139.1.map eS_area_Area)), .d (.v (.int .i64 v_r139.2)), .d (.sl (v_r173.1.map eS_area_Area)), .d (.v (.int .i64 v_r173.2)), .d (.sl (v_r180.1.map eS_area_Area)), .d (.v (.int .i64 v_r180.2)), .ref 1 0, .d (.v (.bool v_r194.2.1)), .d (.v (.int .i64 v_r194.2.2)), .d (.v (.int .i64 v_r209.1)), .d (.v (.int .i64 v_r209.2)), dd, .ref 2 0, .d (.v (.int .i64 v_put440)), .d (.v (.int .i64 1)), .d (.v (.int .i64 v_turn441)), .ref 3 0, .ref 4 0, .ref 5 0, dd, dd, dd, dd, dd, dd, dd, dd, dd, dd, dd, dd, dd, dd, dd, dd, dd, dd, dd, dd, dd, dd, dd, dd, dd, dd, dd, dd, dd, dd, dd, dd, dd, dd, dd, dd, dd, dd, dd, dd, dd, dd, dd, dd, dd, dd, dd, dd, dd, dd, dd, dd, dd, dd, dd, dd, dd, dd, dd, dd, dd, dd, dd, dd, dd, dd, dd, dd, dd, dd, dd, dd, dd, dd, dd, dd, dd, dd, dd, dd, dd, dd, dd, dd, dd, dd, dd, dd, dd, dd, dd, dd, dd, dd, dd, dd, dd, dd, dd, dd, dd, dd, dd, dd, dd, dd, dd, dd, dd, dd, dd, dd, dd, dd, dd, dd, dd, dd, dd, dd, dd, dd, dd, dd, dd, dd, dd, dd, dd, dd, dd, dd, dd, dd, dd, dd, dd, dd, dd, dd, dd, dd, dd, dd, dd, dd, dd, dd, dd, dd, dd, dd, dd, dd, dd, dd, dd, dd, dd, dd, dd, dd, dd, dd, dd, dd, dd, dd, dd, dd, dd, dd, dd, dd, dd, dd, dd, dd, dd, dd, dd, dd, dd, dd, dd, dd, dd, dd, dd, dd, dd, dd, dd, dd, dd, dd, dd, dd, dd, dd, dd, dd, dd, dd, dd, dd, dd, dd, dd, dd, dd, dd, dd, dd, dd, dd, dd, dd, dd, dd, dd, dd, dd, dd, dd, dd, dd, dd, dd, dd, dd, dd, dd, dd, dd, dd, dd, dd, dd, dd, dd, dd, dd, dd, dd, dd, dd, dd, dd, dd, dd, dd, dd, dd, dd, dd, dd, dd, dd, dd, dd, dd, dd, dd, dd, dd, dd, dd, dd, dd, dd, dd, dd, dd, dd, dd, dd, dd, dd, dd, dd, dd, dd, dd, dd, dd, dd, dd, dd, dd, dd, dd, dd, dd, dd, dd, dd, dd, dd, dd, dd, dd, dd, dd, dd, dd, dd, dd, dd, dd, dd, dd, dd, dd, dd, dd, dd, dd, dd, dd, dd, dd, dd, dd, dd, dd], [.box [.d (.v (.int .i64 v_x2.fPage)), .d (.v (.int .i64 v_x2.fN)), .d (.v (.int .i64 v_x2.fRights))], .box [.d (.v (.int .i64 v_r194.1.fPage)), .d (.v (.int .i64 v_r194.1.fN)), .d (.v (.int .i64 v_r194.1.fRights))], .box ((cA_t119 v_r426).map FV.d), .box ((cA_t119 v_r426).map FV.d), .box ((cA_t119 v_r426).map FV.d), .box ((cA_t119 v_r426).map FV.d)]⟩
def G_ringlaw2_AreaTells_L4_hd (v_l1 : (List S_area_Area)) (v_r139 : ((List S_area_Area) × Int)) (v_r173 : ((List S_area_Area) × Int)) (v_r180 : ((List S_area_Area) × Int)) (v_r194 : (S_area_Area × Bool × Int)) (v_r209 : (Int × Int)) (v_x2 : S_area_Area) (v_r426 : ((Fin 64 → Int))) (v_put433 : Int) (v_turn434 : Int) (v_k435 : Int) : PS := ⟨[.d (.sl (v_l1.map eS_area_Area)), dd, dd, .ref 0 0, dd, .d (.sl (v_r139.1.map eS_area_Area)), .d (.v (.int .i64 v_r139.2)), .d (.sl (v_r173.1.map eS_area_Area)), .d (.v (.int .i64 v_r173.2)), .d (.sl (v_r180.1.map eS_area_Area)), .d (.v (.int .i64 v_r180.2)), .ref 1 0, .d (.v (.bool v_r194.2.1)), .d (.v (.int .i64 v_r194.2.2)), .d (.v (.int .i64 v_r209.1)), .d (.v (.int .i64 v_r209.2)), dd, .ref 2 0, .d (.v (.int .i64 v_put433)), .d (.v (.int .i64 1)), .d (.v (.int .i64 v_turn434)), .ref 3 0, .ref 4 0, .ref 5 0, dd, dd, dd, .d (.v (.int .i64 v_k435)), dd, dd, dd, dd, dd, dd, dd, dd, dd, dd, dd, dd, dd, dd, dd, dd, dd, dd, dd, dd, dd, dd, dd, dd, dd, dd, dd, dd, dd, dd, dd, dd, dd, dd, dd, dd, dd, dd, dd, dd, dd, dd, dd, dd, dd, dd, dd, dd, dd, dd, dd, dd, dd, dd, dd, dd, dd, dd, dd, dd, dd, dd, dd, dd, dd, dd, dd, dd, dd, dd, dd, dd, dd, dd, dd, dd, dd, dd, dd, dd, dd, dd, dd, dd, dd, dd, dd, dd, dd, dd, dd, dd, dd, dd, dd, dd, dd, dd, dd, dd, dd, dd, dd, dd, dd, dd, dd, dd, dd, dd, dd, dd, dd, dd, dd, dd, dd, dd, dd, dd, dd, dd, dd, dd, dd, dd, dd, dd, dd, dd, dd, dd, dd, dd, dd, dd, dd, dd, dd, dd, dd, dd, dd, dd, dd, dd, dd, dd, dd, dd, dd, dd, dd, dd, dd, dd, dd, dd, dd, dd, dd, dd, dd, dd, dd, dd, dd, dd, dd, dd, dd, dd, dd, dd, dd, dd, dd, dd, dd, dd, dd, dd, dd, dd, dd, dd, dd, dd, dd, dd, dd, dd, dd, dd, dd, dd, dd, dd, dd, dd, dd, dd, dd, dd, dd, dd, dd, dd, dd, dd, dd, dd, dd, dd, dd, dd, dd, dd, dd, dd, dd, dd, dd, dd, dd, dd, dd, dd, dd, dd, dd, dd, dd, dd, dd, dd, dd, dd, dd, dd, dd, dd, dd, dd, dd, dd, dd, dd, dd, dd, dd, dd, dd, dd, dd, dd, dd, dd, dd, dd, dd, dd, dd, dd, dd, dd, dd, dd, dd, dd, dd, dd, dd, dd, dd, dd, dd, dd, dd, dd, dd, dd, dd, dd, dd, dd, dd, dd, dd, dd, dd, dd, dd, dd, dd, dd, dd, dd, dd, dd, dd, dd, dd, dd, dd, dd, dd, dd, dd, dd, dd, dd, dd, dd, dd, dd, dd, dd, dd, dd, dd, dd], [.box [.d (.v (.int .i64 v_x2.fPage)), .d (.v (.int .i64 v_x2.fN)), .d (.v (.int .i64 v_x2.fRights))], .box [.d (.v (.int .i64 v_r194.1.fPage)), .d (.v (.int .i64 v_r194.1.fN)), .d (.v (.int .i64 v_r194.1.fRights))], .box ((cA_t119 v_r426).map FV.d), .box ((cA_t119 v_r426).map FV.d), .box ((cA_t119 v_r426).map FV.d), .box ((cA_t119 v_r426).map FV.d)]⟩
def G_ringlaw2_AreaTells_L4 (n : Nat) (v_l1 : (List S_area_Area)) (v_r139 : ((List S_area_Area) × Int)) (v_r173 : ((List S_area_Area) × Int)) (v_r180 : ((List S_area_Area) × Int)) (v_r194 : (S_area_Area × Bool × Int)) (v_r209 : (Int × Int)) (v_x2 : S_area_Area) (v_r426 : ((Fin 64 → Int))) : Nat → Int → Int → Int → Option G_ringlaw2_AreaTells_L4_R
  | 0, _, _, _ => none
  | k + 1, v_put433, v_turn434, v_k435 =>
    (G_ringref2_AreaIs n v_x2).bind fun (v_r437 : (Bool)) =>
    if v_r437 = true then
     if v_k435 < v_x2.fN then
      if 0 ≤ (wi .i64 (v_x2.fPage + v_k435)) ∧ (wi .i64 (v_x2.fPage + v_k435)) < (64 : Int) then
       (getA v_r426 (wi .i64 (v_x2.fPage + v_k435))).bind fun (v_y439 : Int) =>
       if v_y439 ≥ 0 then
        G_ringlaw2_AreaTells_L4 n v_l1 v_r139 v_r173 v_r180 v_r194 v_r209 v_x2 v_r426 k 5 v_turn434 (wi .i64 (v_k435 + 1))
       else
        G_ringlaw2_AreaTells_L4 n v_l1 v_r139 v_r173 v_r180 v_r194 v_r209 v_x2 v_r426 k v_put433 11 (wi .i64 (v_k435 + 1))
      else none
     else
      some (.x0 v_put433 v_turn434)
    else
     some (.x0 v_put433 v_turn434)
theorem G_ringlaw2_AreaTells_L4_ok {Fi : Ex → PS → Prop} (hF : KC 350 Fi) (ks : List Fr) (n : Nat) (v_l1 : (List S_area_Area)) (v_r139 : ((List S_area_Area) × Int)) (v_r173 : ((List S_area_Area) × Int)) (v_r180 : ((List S_area_Area) × Int)) (v_r194 : (S_area_Area × Bool × Int)) (v_r209 : (Int × Int)) (v_x2 : S_area_Area) (v_r426 : ((Fin 64 → Int)))  : ∀ (k : Nat) (v_put433 : Int) (v_turn434 : Int) (v_k435 : Int) (o : G_ringlaw2_AreaTells_L4_R), G_ringlaw2_AreaTells_L4 n v_l1 v_r139 v_r173 v_r180 v_r194 v_r209 v_x2 v_r426 k v_put433 v_turn434 v_k435 = some o → RunE Try.prog 350 Fi ks (G_ringlaw2_AreaTells_L4_ex o) (G_ringlaw2_AreaTells_L4_st v_l1 v_r139 v_r173 v_r180 v_r194 v_r209 v_x2 v_r426 o) → RunE Try.prog 350 Fi (.l k (cP (cB (cR (cL (cR (cR (cR (cR (cR (cR (cR (cR (cR (cR (cR (cR (cR (cR (cR (cR (bodyOf Try.f8))))))))))))))))))))) :: ks) .normal (G_ringlaw2_AreaTells_L4_hd v_l1 v_r139 v_r173 v_r180 v_r194 v_r209 v_x2 v_r426 v_put433 v_turn434 v_k435)
  | 0, v_put433, v_turn434, v_k435, o, h, q => by rw [G_ringlaw2_AreaTells_L4] at h; cases h
  | k + 1, v_put433, v_turn434, v_k435, o, h, q => by
    rw [G_ringlaw2_AreaTells_L4] at h
    obtain ⟨v_r437, h505, h⟩ := bind_some h
    by_cases h506 : v_r437 = true
    · rw [if_pos h506] at h
      by_cases h507 : v_k435 < v_x2.fN
      · rw [if_pos h507] at h
        by_cases h511 : 0 ≤ (wi .i64 (v_x2.fPage + v_k435)) ∧ (wi .i64 (v_x2.fPage + v_k435)) < (64 : Int)
        · rw [if_pos h511] at h
          obtain ⟨v_y439, h512, h⟩ := bind_some h
          by_cases h513 : v_y439 ≥ 0
          · rw [if_pos h513] at h
            exact pkk_sound TTok mix hF 14 (hs := [.c, .r (eB v_r437), .t true, .c, .c, .c, .c, .t true, .c, .l (.d (.v (.int .i64 v_y439))), .t true]) (ts := []) (s := [0, 1, 2, 3, 4, 5]) (l := [0, 3, 5, 6, 7, 8, 9, 10, 11, 12, 13, 14, 15, 17, 18, 19, 20, 21, 22, 23, 27]) (by kernel_rfl) (by kernel_rfl) (.cons (G_ringref2_AreaIs_ok n v_x2 _ h505) (.cons h506 (.cons (dt h507) (.cons h511 (.cons (arr_cell (γ := FV) (sz := 1) (g := (fun x => [.d (.v (.int .i64 x))])) (pre := []) (post := []) (o := 0) (fun _ => rfl) h512 rfl) (.cons (dt h513) .nil)))))) (G_ringlaw2_AreaTells_L4_ok hF ks n v_l1 v_r139 v_r173 v_r180 v_r194 v_r209 v_x2 v_r426 k 5 v_turn434 (wi .i64 (v_k435 + 1)) _ h q)
          · rw [if_neg h513] at h
            exact pkk_sound TTok mix hF 14 (hs := [.c, .r (eB v_r437), .t true, .c, .c, .c, .c, .t true, .c, .l (.d (.v (.int .i64 v_y439))), .t false]) (ts := []) (s := [0, 1, 2, 3, 4, 5]) (l := [0, 3, 5, 6, 7, 8, 9, 10, 11, 12, 13, 14, 15, 17, 18, 19, 20, 21, 22, 23, 27]) (by kernel_rfl) (by kernel_rfl) (.cons (G_ringref2_AreaIs_ok n v_x2 _ h505) (.cons h506 (.cons (dt h507) (.cons h511 (.cons (arr_cell (γ := FV) (sz := 1) (g := (fun x => [.d (.v (.int .i64 x))])) (pre := []) (post := []) (o := 0) (fun _ => rfl) h512 rfl) (.cons (df h513) .nil)))))) (G_ringlaw2_AreaTells_L4_ok hF ks n v_l1 v_r139 v_r173 v_r180 v_r194 v_r209 v_x2 v_r426 k v_put433 11 (wi .i64 (v_k435 + 1)) _ h q)
        · rw [if_neg h511] at h; cases h
      · rw [if_neg h507] at h
        cases h
        exact pkk_sound TTok mix hF 8 (hs := [.c, .r (eB v_r437), .t true, .c, .c, .c, .c, .t false]) (ts := []) (s := [0, 1, 2, 3, 4, 5]) (l := [0, 3, 5, 6, 7, 8, 9, 10, 11, 12, 13, 14, 15, 17, 18, 19, 20, 21, 22, 23]) (by kernel_rfl) (by kernel_rfl) (.cons (G_ringref2_AreaIs_ok n v_x2 _ h505) (.cons h506 (.cons (df h507) .nil))) q
    · rw [if_neg h506] at h
      cases h
      exact pkk_sound TTok mix hF 8 (hs := [.c, .r (eB v_r437), .t false, .c, .c, .c, .c]) (ts := []) (s := [0, 1, 2, 3, 4, 5]) (l := [0, 3, 5, 6, 7, 8, 9, 10, 11, 12, 13, 14, 15, 17, 18, 19, 20, 21, 22, 23]) (by kernel_rfl) (by kernel_rfl) (.cons (G_ringref2_AreaIs_ok n v_x2 _ h505) (.cons (vf h506) .nil)) q
inductive G_ringlaw2_AreaTells_C5_R where
  | x0 (v_x447 : Bool)
def G_ringlaw2_AreaTells_C5_ex : G_ringlaw2_AreaTells_C5_R → Ex
  | .x0 _ => .normal
def G_ringlaw2_AreaTells_C5_st (v_l1 : (List S_area_Area)) (v_r139 : ((List S_area_Area) × Int)) (v_r173 : ((List S_area_Area) × Int)) (v_r180 : ((List S_area_Area) × Int)) (v_r194 : (S_area_Area × Bool × Int)) (v_r209 : (Int × Int)) (v_z445 : Int) (v_z446 : Int) (v_x2 : S_area_Area) (v_r426 : ((Fin 64 → Int))) : G_ringlaw2_AreaTells_C5_R → PS
  | .x0 v_x447 => ⟨[.d (.sl (v_l1.map eS_area_Area)), dd, dd, .ref 0 0, dd, .d (.sl (v_r139.1.map eS_area_Area)), dd, .d (.sl (v_r173.1.map eS_area_Area)), dd, .d (.sl (v_r180.1.map eS_area_Area)), dd, .ref 1 0, .d (.v (.bool v_r194.2.1)), .d (.v (.int .i64 v_r194.2.2)), .d (.v (.int .i64 v_r209.1)), .d (.v (.int .i64 v_r209.2)), dd, .ref 2 0, .d (.v (.int .i64 v_z445)), .d (.v (.int .i64 1)), .d (.v (.int .i64 v_z446)), .ref 3 0, .ref 4 0, .ref 5 0, dd, dd, dd, dd, dd, dd, dd, dd, dd, dd, dd, dd, dd, dd, dd, dd, dd, dd, dd, dd, dd, dd, dd, dd, dd, dd, dd, dd, dd, dd, dd, dd, dd, dd, dd, dd, dd, dd, dd, dd, dd, dd, dd, dd, dd, dd, dd, dd, dd, dd, dd, dd, dd, dd, dd, dd, dd, dd, dd, dd, dd, dd, dd, dd, dd, dd, dd, dd, dd, dd, dd, dd, dd, dd, dd, dd, dd, dd, dd, dd, dd, dd, dd, dd, dd, dd, dd, dd, dd, dd, dd, dd, dd, dd, dd, dd, dd, dd, dd, dd, dd, dd, dd, dd, dd, dd, dd, dd, dd, dd, dd, dd, dd, dd, dd, dd, dd, dd, dd, dd, dd, dd, dd, dd, dd, dd, dd, dd, dd, dd, dd, dd, dd, dd, dd, dd, dd, dd, dd, dd, dd, dd, dd, dd, dd, dd, dd, dd, dd, dd, dd, dd, dd, dd, dd, dd, dd, dd, dd, dd, dd, dd, dd, dd, dd, dd, dd, dd, dd, dd, dd, dd, dd, dd, dd, dd, dd, dd, dd, dd, dd, dd, dd, dd, dd, dd, dd, dd, dd, dd, dd, dd, dd, dd, dd, dd, dd, dd, dd, dd, dd, dd, dd, dd, dd, dd, dd, .d (.v (.bool v_x447)), dd, dd, dd, dd, dd, dd, dd, dd, dd, dd, dd, dd, dd, dd, dd, dd, dd, dd, dd, dd, dd, dd, dd, dd, dd, dd, dd, dd, dd, dd, dd, dd, dd, dd, dd, dd, dd, dd, dd, dd, dd, dd, dd, dd, dd, dd, dd, dd, dd, dd, dd, dd, dd, dd, dd, dd, dd, dd, dd, dd, dd, dd, dd, dd, dd, dd, dd, dd, dd, dd, dd, dd, dd, dd, dd, dd, dd, dd, dd, dd, dd, dd, dd, dd, dd, dd, dd, dd, dd, dd, dd, dd, dd, dd, dd, dd, dd, dd, dd, dd, dd, dd, dd, dd, dd, dd, dd, dd, dd, dd, dd, dd, dd, dd, dd, dd, dd, dd], [.box [.d (.v (.int .i64 v_x2.fPage)), .d (.v (.int .i64 v_x2.fN)), .d (.v (.int .i64 v_x2.fRights))], .box [.d (.v (.int .i64 v_r194.1.fPage)), .d (.v (.int .i64 v_r194.1.fN)), .d (.v (.int .i64 v_r194.1.fRights))], .box ((cA_t119 v_r426).map FV.d), .box ((cA_t119 v_r426).map FV.d), .box ((cA_t119 v_r426).map FV.d), .box ((cA_t119 v_r426).map FV.d)]⟩
def G_ringlaw2_AreaTells_C5_hd (v_l1 : (List S_area_Area)) (v_r139 : ((List S_area_Area) × Int)) (v_r173 : ((List S_area_Area) × Int)) (v_r180 : ((List S_area_Area) × Int)) (v_r194 : (S_area_Area × Bool × Int)) (v_r209 : (Int × Int)) (v_z445 : Int) (v_z446 : Int) (v_x2 : S_area_Area) (v_r426 : ((Fin 64 → Int)))  : PS := ⟨[.d (.sl (v_l1.map eS_area_Area)), dd, dd, .ref 0 0, dd, .d (.sl (v_r139.1.map eS_area_Area)), .d (.v (.int .i64 v_r139.2)), .d (.sl (v_r173.1.map eS_area_Area)), .d (.v (.int .i64 v_r173.2)), .d (.sl (v_r180.1.map eS_area_Area)), .d (.v (.int .i64 v_r180.2)), .ref 1 0, .d (.v (.bool v_r194.2.1)), .d (.v (.int .i64 v_r194.2.2)), .d (.v (.int .i64 v_r209.1)), .d (.v (.int .i64 v_r209.2)), dd, .ref 2 0, .d (.v (.int .i64 v_z445)), .d (.v (.int .i64 1)), .d (.v (.int .i64 v_z446)), .ref 3 0, .ref 4 0, .ref 5 0, dd, dd, dd, dd, dd, dd, dd, dd, dd, dd, dd, dd, dd, dd, dd, dd, dd, dd, dd, dd, dd, dd, dd, dd, dd, dd, dd, dd, dd, dd, dd, dd, dd, dd, dd, dd, dd, dd, dd, dd, dd, dd, dd, dd, dd, dd, dd, dd, dd, dd, dd, dd, dd, dd, dd, dd, dd, dd, dd, dd, dd, dd, dd, dd, dd, dd, dd, dd, dd, dd, dd, dd, dd, dd, dd, dd, dd, dd, dd, dd, dd, dd, dd, dd, dd, dd, dd, dd, dd, dd, dd, dd, dd, dd, dd, dd, dd, dd, dd, dd, dd, dd, dd, dd, dd, dd, dd, dd, dd, dd, dd, dd, dd, dd, dd, dd, dd, dd, dd, dd, dd, dd, dd, dd, dd, dd, dd, dd, dd, dd, dd, dd, dd, dd, dd, dd, dd, dd, dd, dd, dd, dd, dd, dd, dd, dd, dd, dd, dd, dd, dd, dd, dd, dd, dd, dd, dd, dd, dd, dd, dd, dd, dd, dd, dd, dd, dd, dd, dd, dd, dd, dd, dd, dd, dd, dd, dd, dd, dd, dd, dd, dd, dd, dd, dd, dd, dd, dd, dd, dd, dd, dd, dd, dd, dd, dd, dd, dd, dd, dd, dd, dd, dd, dd, dd, dd, dd, dd, dd, dd, dd, dd, dd, dd, dd, dd, dd, dd, dd, dd, dd, dd, dd, dd, dd, dd, dd, dd, dd, dd, dd, dd, dd, dd, dd, dd, dd, dd, dd, dd, dd, dd, dd, dd, dd, dd, dd, dd, dd, dd, dd, dd, dd, dd, dd, dd, dd, dd, dd, dd, dd, dd, dd, dd, dd, dd, dd, dd, dd, dd, dd, dd, dd, dd, dd, dd, dd, dd, dd, dd, dd, dd, dd, dd, dd, dd, dd, dd, dd, dd, dd, dd, dd, dd, dd, dd, dd, dd, dd, dd, dd, dd, dd, dd, dd, dd, dd, dd, dd, dd, dd, dd, dd, dd, dd, dd, dd, dd, dd, dd, dd, dd, dd, dd, dd, dd], [.box [.d (.v (.int .i64 v_x2.fPage)), .d (.v (.int .i64 v_x2.fN)), .d (.v (.int .i64 v_x2.fRights))], .box [.d (.v (.int .i64 v_r194.1.fPage)), .d (.v (.int .i64 v_r194.1.fN)), .d (.v (.int .i64 v_r194.1.fRights))], .box ((cA_t119 v_r426).map FV.d), .box ((cA_t119 v_r426).map FV.d), .box ((cA_t119 v_r426).map FV.d), .box ((cA_t119 v_r426).map FV.d)]⟩
def G_ringlaw2_AreaTells_C5 (n : Nat) (v_l1 : (List S_area_Area)) (v_r139 : ((List S_area_Area) × Int)) (v_r173 : ((List S_area_Area) × Int)) (v_r180 : ((List S_area_Area) × Int)) (v_r194 : (S_area_Area × Bool × Int)) (v_r209 : (Int × Int)) (v_z445 : Int) (v_z446 : Int) (v_x2 : S_area_Area) (v_r426 : ((Fin 64 → Int))) : Option G_ringlaw2_AreaTells_C5_R :=
  if v_r139.2 = v_z445 then
   if v_r173.2 = 1 then
    if v_r180.2 = v_z446 then
     if v_z445 = 0 then
      if (v_r173.1.length : Int) > 0 then
       some (.x0 true)
      else
       if v_z446 = 0 then
        some (.x0 false)
       else
        some (.x0 (decide ((v_r180.1.length : Int) > 0)))
     else
      if (v_r139.1.length : Int) > 0 then
       some (.x0 true)
      else
       if (v_r173.1.length : Int) > 0 then
        some (.x0 true)
       else
        if v_z446 = 0 then
         some (.x0 false)
        else
         some (.x0 (decide ((v_r180.1.length : Int) > 0)))
    else
     some (.x0 true)
   else
    some (.x0 true)
  else
   some (.x0 true)
theorem G_ringlaw2_AreaTells_C5_ok {Fi : Ex → PS → Prop} (hF : KC 350 Fi) (ks : List Fr) (n : Nat) (v_l1 : (List S_area_Area)) (v_r139 : ((List S_area_Area) × Int)) (v_r173 : ((List S_area_Area) × Int)) (v_r180 : ((List S_area_Area) × Int)) (v_r194 : (S_area_Area × Bool × Int)) (v_r209 : (Int × Int)) (v_z445 : Int) (v_z446 : Int) (v_x2 : S_area_Area) (v_r426 : ((Fin 64 → Int)))  (o : G_ringlaw2_AreaTells_C5_R) (h : G_ringlaw2_AreaTells_C5 n v_l1 v_r139 v_r173 v_r180 v_r194 v_r209 v_z445 v_z446 v_x2 v_r426 = some o) (q : RunE Try.prog 350 Fi ks (G_ringlaw2_AreaTells_C5_ex o) (G_ringlaw2_AreaTells_C5_st v_l1 v_r139 v_r173 v_r180 v_r194 v_r209 v_z445 v_z446 v_x2 v_r426 o)) : RunE Try.prog 350 Fi (.s (cL (cL (cR (cR (cR (cR (cR (cR (cR (cR (cR (cR (cR (cR (cR (cR (cR (cR (cR (bodyOf Try.f8)))))))))))))))))))) :: ks) .normal (G_ringlaw2_AreaTells_C5_hd v_l1 v_r139 v_r173 v_r180 v_r194 v_r209 v_z445 v_z446 v_x2 v_r426) := by
  unfold G_ringlaw2_AreaTells_C5 at h
  by_cases h524 : v_r139.2 = v_z445
  · rw [if_pos h524] at h
    by_cases h525 : v_r173.2 = 1
    · rw [if_pos h525] at h
      by_cases h526 : v_r180.2 = v_z446
      · rw [if_pos h526] at h
        by_cases h527 : v_z445 = 0
        · rw [if_pos h527] at h
          by_cases h531 : (v_r173.1.length : Int) > 0
          · rw [if_pos h531] at h
            cases h
            exact pkk_sound TTok mix hF 1 (hs := [.t false, .c, .c, .t false, .c, .c, .t false, .c, .c, .t false, .c, .c, .c, .c, .c, .c, .c, .c, .u (.d (.v (.int .i64 (v_r173.1.length : Int)))), .c, .c, .t true, .c, .c, .c]) (ts := []) (s := [0, 1, 2, 3, 4, 5]) (l := [0, 3, 5, 7, 9, 11, 12, 13, 14, 15, 17, 18, 19, 20, 21, 22, 23, 231]) (by kernel_rfl) (by kernel_rfl) (.cons (nf h524) (.cons (nf h525) (.cons (nf h526) (.cons (nf h527) (.cons (len_ob (f := eS_area_Area) (l := v_r173.1)) (.cons (dt h531) .nil)))))) q
          · rw [if_neg h531] at h
            by_cases h532 : v_z446 = 0
            · rw [if_pos h532] at h
              cases h
              exact pkk_sound TTok mix hF 1 (hs := [.t false, .c, .c, .t false, .c, .c, .t false, .c, .c, .t false, .c, .c, .c, .c, .c, .c, .c, .c, .u (.d (.v (.int .i64 (v_r173.1.length : Int)))), .c, .c, .t false, .c, .c, .t false, .c, .c, .c]) (ts := []) (s := [0, 1, 2, 3, 4, 5]) (l := [0, 3, 5, 7, 9, 11, 12, 13, 14, 15, 17, 18, 19, 20, 21, 22, 23, 231]) (by kernel_rfl) (by kernel_rfl) (.cons (nf h524) (.cons (nf h525) (.cons (nf h526) (.cons (nf h527) (.cons (len_ob (f := eS_area_Area) (l := v_r173.1)) (.cons (df h531) (.cons (nf h532) .nil))))))) q
            · rw [if_neg h532] at h
              cases h
              exact pkk_sound TTok mix hF 1 (hs := [.t false, .c, .c, .t false, .c, .c, .t false, .c, .c, .t false, .c, .c, .c, .c, .c, .c, .c, .c, .u (.d (.v (.int .i64 (v_r173.1.length : Int)))), .c, .c, .t false, .c, .c, .t true, .c, .u (.d (.v (.int .i64 (v_r180.1.length : Int)))), .c, .c]) (ts := []) (s := [0, 1, 2, 3, 4, 5]) (l := [0, 3, 5, 7, 9, 11, 12, 13, 14, 15, 17, 18, 19, 20, 21, 22, 23, 231]) (by kernel_rfl) (by kernel_rfl) (.cons (nf h524) (.cons (nf h525) (.cons (nf h526) (.cons (nf h527) (.cons (len_ob (f := eS_area_Area) (l := v_r173.1)) (.cons (df h531) (.cons (nt h532) (.cons (len_ob (f := eS_area_Area) (l := v_r180.1)) .nil)))))))) q
        · rw [if_neg h527] at h
          by_cases h528 : (v_r139.1.length : Int) > 0
          · rw [if_pos h528] at h
            cases h
            exact pkk_sound TTok mix hF 1 (hs := [.t false, .c, .c, .t false, .c, .c, .t false, .c, .c, .t true, .c, .u (.d (.v (.int .i64 (v_r139.1.length : Int)))), .c, .c, .t true, .c, .c, .c, .c, .c, .c, .c]) (ts := []) (s := [0, 1, 2, 3, 4, 5]) (l := [0, 3, 5, 7, 9, 11, 12, 13, 14, 15, 17, 18, 19, 20, 21, 22, 23, 231]) (by kernel_rfl) (by kernel_rfl) (.cons (nf h524) (.cons (nf h525) (.cons (nf h526) (.cons (nt h527) (.cons (len_ob (f := eS_area_Area) (l := v_r139.1)) (.cons (dt h528) .nil)))))) q
          · rw [if_neg h528] at h
            by_cases h529 : (v_r173.1.length : Int) > 0
            · rw [if_pos h529] at h
              cases h
              exact pkk_sound TTok mix hF 1 (hs := [.t false, .c, .c, .t false, .c, .c, .t false, .c, .c, .t true, .c, .u (.d (.v (.int .i64 (v_r139.1.length : Int)))), .c, .c, .t false, .c, .c, .c, .c, .u (.d (.v (.int .i64 (v_r173.1.length : Int)))), .c, .c, .t true, .c, .c, .c]) (ts := []) (s := [0, 1, 2, 3, 4, 5]) (l := [0, 3, 5, 7, 9, 11, 12, 13, 14, 15, 17, 18, 19, 20, 21, 22, 23, 231]) (by kernel_rfl) (by kernel_rfl) (.cons (nf h524) (.cons (nf h525) (.cons (nf h526) (.cons (nt h527) (.cons (len_ob (f := eS_area_Area) (l := v_r139.1)) (.cons (df h528) (.cons (len_ob (f := eS_area_Area) (l := v_r173.1)) (.cons (dt h529) .nil)))))))) q
            · rw [if_neg h529] at h
              by_cases h530 : v_z446 = 0
              · rw [if_pos h530] at h
                cases h
                exact pkk_sound TTok mix hF 1 (hs := [.t false, .c, .c, .t false, .c, .c, .t false, .c, .c, .t true, .c, .u (.d (.v (.int .i64 (v_r139.1.length : Int)))), .c, .c, .t false, .c, .c, .c, .c, .u (.d (.v (.int .i64 (v_r173.1.length : Int)))), .c, .c, .t false, .c, .c, .t false, .c, .c, .c]) (ts := []) (s := [0, 1, 2, 3, 4, 5]) (l := [0, 3, 5, 7, 9, 11, 12, 13, 14, 15, 17, 18, 19, 20, 21, 22, 23, 231]) (by kernel_rfl) (by kernel_rfl) (.cons (nf h524) (.cons (nf h525) (.cons (nf h526) (.cons (nt h527) (.cons (len_ob (f := eS_area_Area) (l := v_r139.1)) (.cons (df h528) (.cons (len_ob (f := eS_area_Area) (l := v_r173.1)) (.cons (df h529) (.cons (nf h530) .nil))))))))) q
              · rw [if_neg h530] at h
                cases h
                exact pkk_sound TTok mix hF 1 (hs := [.t false, .c, .c, .t false, .c, .c, .t false, .c, .c, .t true, .c, .u (.d (.v (.int .i64 (v_r139.1.length : Int)))), .c, .c, .t false, .c, .c, .c, .c, .u (.d (.v (.int .i64 (v_r173.1.length : Int)))), .c, .c, .t false, .c, .c, .t true, .c, .u (.d (.v (.int .i64 (v_r180.1.length : Int)))), .c, .c]) (ts := []) (s := [0, 1, 2, 3, 4, 5]) (l := [0, 3, 5, 7, 9, 11, 12, 13, 14, 15, 17, 18, 19, 20, 21, 22, 23, 231]) (by kernel_rfl) (by kernel_rfl) (.cons (nf h524) (.cons (nf h525) (.cons (nf h526) (.cons (nt h527) (.cons (len_ob (f := eS_area_Area) (l := v_r139.1)) (.cons (df h528) (.cons (len_ob (f := eS_area_Area) (l := v_r173.1)) (.cons (df h529) (.cons (nt h530) (.cons (len_ob (f := eS_area_Area) (l := v_r180.1)) .nil)))))))))) q
      · rw [if_neg h526] at h
        cases h
        exact pkk_sound TTok mix hF 1 (hs := [.t false, .c, .c, .t false, .c, .c, .t true, .c, .c, .c, .c, .c, .c, .c, .c, .c, .c, .c]) (ts := []) (s := [0, 1, 2, 3, 4, 5]) (l := [0, 3, 5, 7, 9, 11, 12, 13, 14, 15, 17, 18, 19, 20, 21, 22, 23, 231]) (by kernel_rfl) (by kernel_rfl) (.cons (nf h524) (.cons (nf h525) (.cons (nt h526) .nil))) q
    · rw [if_neg h525] at h
      cases h
      exact pkk_sound TTok mix hF 1 (hs := [.t false, .c, .c, .t true, .c, .c, .c, .c, .c, .c, .c, .c, .c, .c, .c, .c, .c, .c]) (ts := []) (s := [0, 1, 2, 3, 4, 5]) (l := [0, 3, 5, 7, 9, 11, 12, 13, 14, 15, 17, 18, 19, 20, 21, 22, 23, 231]) (by kernel_rfl) (by kernel_rfl) (.cons (nf h524) (.cons (nt h525) .nil)) q
  · rw [if_neg h524] at h
    cases h
    exact pkk_sound TTok mix hF 1 (hs := [.t true, .c, .c, .c, .c, .c, .c, .c, .c, .c, .c, .c, .c, .c, .c, .c, .c, .c]) (ts := []) (s := [0, 1, 2, 3, 4, 5]) (l := [0, 3, 5, 7, 9, 11, 12, 13, 14, 15, 17, 18, 19, 20, 21, 22, 23, 231]) (by kernel_rfl) (by kernel_rfl) (.cons (nt h524) .nil) q
inductive G_ringlaw2_AreaTells_C6_R where
  | x0 (v_x467 : Bool)
def G_ringlaw2_AreaTells_C6_ex : G_ringlaw2_AreaTells_C6_R → Ex
  | .x0 _ => .normal
def G_ringlaw2_AreaTells_C6_st (v_l1 : (List S_area_Area)) (v_r139 : ((List S_area_Area) × Int)) (v_r173 : ((List S_area_Area) × Int)) (v_r180 : ((List S_area_Area) × Int)) (v_r194 : (S_area_Area × Bool × Int)) (v_r209 : (Int × Int)) (v_z445 : Int) (v_z446 : Int) (v_x2 : S_area_Area) (v_r426 : ((Fin 64 → Int))) : G_ringlaw2_AreaTells_C6_R → PS
  | .x0 v_x467 => ⟨[.d (.sl (v_l1.map eS_area_Area)), dd, dd, .ref 0 0, dd, dd, dd, dd, dd, dd, dd, .ref 1 0, .d (.v (.bool v_r194.2.1)), .d (.v (.int .i64 v_r194.2.2)), .d (.v (.int .i64 v_r209.1)), .d (.v (.int .i64 v_r209.2)), dd, .ref 2 0, dd, dd, dd, dd, dd, dd, dd, dd, dd, dd, dd, dd, dd, dd, dd, dd, dd, dd, dd, dd, dd, dd, dd, dd, dd, dd, dd, dd, dd, dd, dd, dd, dd, dd, dd, dd, dd, dd, dd, dd, dd, dd, dd, dd, dd, dd, dd, dd, dd, dd, dd, dd, dd, dd, dd, dd, dd, dd, dd, dd, dd, dd, dd, dd, dd, dd, dd, dd, dd, dd, dd, dd, dd, dd, dd, dd, dd, dd, dd, dd, dd, dd, dd, dd, dd, dd, dd, dd, dd, dd, dd, dd, dd, dd, dd, dd, dd, dd, dd, dd, dd, dd, dd, dd, dd, dd, dd, dd, dd, dd, dd, dd, dd, dd, dd, dd, dd, dd, dd, dd, dd, dd, dd, dd, dd, dd, dd, dd, dd, dd, dd, dd, dd, dd, dd, dd, dd, dd, dd, dd, dd, dd, dd, dd, dd, dd, dd, dd, dd, dd, dd, dd, dd, dd, dd, dd, dd, dd, dd, dd, dd, dd, dd, dd, dd, dd, dd, dd, dd, dd, dd, dd, dd, dd, dd, dd, dd, dd, dd, dd, dd, dd, dd, dd, dd, dd, dd, dd, dd, dd, dd, dd, dd, dd, dd, dd, dd, dd, dd, dd, dd, dd, dd, dd, dd, dd, dd, dd, dd, dd, dd, dd, dd, dd, dd, dd, dd, dd, dd, dd, dd, dd, dd, dd, dd, dd, dd, dd, dd, dd, dd, dd, dd, dd, dd, dd, dd, dd, dd, dd, dd, dd, dd, dd, .d (.v (.bool v_x467)), dd, dd, dd, dd, dd, dd, dd, dd, dd, dd, dd, dd, dd, dd, dd, dd, dd, dd, dd, dd, dd, dd, dd, dd, dd, dd, dd, dd, dd, dd, dd, dd, dd, dd, dd, dd, dd, dd, dd, dd, dd, dd, dd, dd, dd, dd, dd, dd, dd, dd, dd, dd, dd, dd, dd, dd, dd, dd, dd, dd, dd, dd, dd, dd, dd, dd, dd, dd, dd, dd, dd, dd, dd, dd, dd, dd, dd, dd, dd, dd, dd, dd, dd, dd, dd, dd, dd], [.box [.d (.v (.int .i64 v_x2.fPage)), .d (.v (.int .i64 v_x2.fN)), .d (.v (.int .i64 v_x2.fRights))], .box [.d (.v (.int .i64 v_r194.1.fPage)), .d (.v (.int .i64 v_r194.1.fN)), .d (.v (.int .i64 v_r194.1.fRights))], .box ((cA_t119 v_r426).map FV.d)]⟩
def G_ringlaw2_AreaTells_C6_hd (v_l1 : (List S_area_Area)) (v_r139 : ((List S_area_Area) × Int)) (v_r173 : ((List S_area_Area) × Int)) (v_r180 : ((List S_area_Area) × Int)) (v_r194 : (S_area_Area × Bool × Int)) (v_r209 : (Int × Int)) (v_z445 : Int) (v_z446 : Int) (v_x2 : S_area_Area) (v_r426 : ((Fin 64 → Int)))  : PS := ⟨[.d (.sl (v_l1.map eS_area_Area)), dd, dd, .ref 0 0, dd, .d (.sl (v_r139.1.map eS_area_Area)), dd, .d (.sl (v_r173.1.map eS_area_Area)), dd, .d (.sl (v_r180.1.map eS_area_Area)), dd, .ref 1 0, .d (.v (.bool v_r194.2.1)), .d (.v (.int .i64 v_r194.2.2)), .d (.v (.int .i64 v_r209.1)), .d (.v (.int .i64 v_r209.2)), dd, .ref 2 0, .d (.v (.int .i64 v_z445)), .d (.v (.int .i64 1)), .d (.v (.int .i64 v_z446)), .ref 3 0, .ref 4 0, .ref 5 0, dd, dd, dd, dd, dd, dd, dd, dd, dd, dd, dd, dd, dd, dd, dd, dd, dd, dd, dd, dd, dd, dd, dd, dd, dd, dd, dd, dd, dd, dd, dd, dd, dd, dd, dd, dd, dd, dd, dd, dd, dd, dd, dd, dd, dd, dd, dd, dd, dd, dd, dd, dd, dd, dd, dd, dd, dd, dd, dd, dd, dd, dd, dd, dd, dd, dd, dd, dd, dd, dd, dd, dd, dd, dd, dd, dd, dd, dd, dd, dd, dd, dd, dd, dd, dd, dd, dd, dd, dd, dd, dd, dd, dd, dd, dd, dd, dd, dd, dd, dd, dd, dd, dd, dd, dd, dd, dd, dd, dd, dd, dd, dd, dd, dd, dd, dd, dd, dd, dd, dd, dd, dd, dd, dd, dd, dd, dd, dd, dd, dd, dd, dd, dd, dd, dd, dd, dd, dd, dd, dd, dd, dd, dd, dd, dd, dd, dd, dd, dd, dd, dd, dd, dd, dd, dd, dd, dd, dd, dd, dd, dd, dd, dd, dd, dd, dd, dd, dd, dd, dd, dd, dd, dd, dd, dd, dd, dd, dd, dd, dd, dd, dd, dd, dd, dd, dd, dd, dd, dd, dd, dd, dd, dd, dd, dd, dd, dd, dd, dd, dd, dd, dd, dd, dd, dd, dd, dd, dd, dd, dd, dd, dd, dd, dd, dd, dd, dd, dd, dd, dd, dd, dd, dd, dd, dd, dd, dd, dd, dd, dd, dd, dd, dd, dd, dd, dd, dd, dd, dd, dd, dd, dd, dd, dd, dd, dd, dd, dd, dd, dd, dd, dd, dd, dd, dd, dd, dd, dd, dd, dd, dd, dd, dd, dd, dd, dd, dd, dd, dd, dd, dd, dd, dd, dd, dd, dd, dd, dd, dd, dd, dd, dd, dd, dd, dd, dd, dd, dd, dd, dd, dd, dd, dd, dd, dd, dd, dd, dd, dd, dd, dd, dd, dd, dd, dd, dd, dd, dd, dd, dd, dd, dd, dd, dd, dd, dd, dd, dd, dd, dd, dd, dd, dd, dd, dd, dd], [.box [.d (.v (.int .i64 v_x2.fPage)), .d (.v (.int .i64 v_x2.fN)), .d (.v (.int .i64 v_x2.fRights))], .box [.d (.v (.int .i64 v_r194.1.fPage)), .d (.v (.int .i64 v_r194.1.fN)), .d (.v (.int .i64 v_r194.1.fRights))], .box ((cA_t119 v_r426).map FV.d), .box ((cA_t119 v_r426).map FV.d), .box ((cA_t119 v_r426).map FV.d), .box ((cA_t119 v_r426).map FV.d)]⟩
def G_ringlaw2_AreaTells_C6 (n : Nat) (v_l1 : (List S_area_Area)) (v_r139 : ((List S_area_Area) × Int)) (v_r173 : ((List S_area_Area) × Int)) (v_r180 : ((List S_area_Area) × Int)) (v_r194 : (S_area_Area × Bool × Int)) (v_r209 : (Int × Int)) (v_z445 : Int) (v_z446 : Int) (v_x2 : S_area_Area) (v_r426 : ((Fin 64 → Int))) : Option G_ringlaw2_AreaTells_C6_R :=
  if v_z445 = 0 then
   (G_ringref2_AreasOf n v_r426).bind fun (v_r465 : ((List S_area_Area))) =>
   (G_ringref2_AreaSame n v_r139.1 v_r465).bind fun (v_r466 : (Bool)) =>
   if v_r466 = true then
    if v_z446 = 0 then
     (G_ringref2_AreasOf n v_r426).bind fun (v_r468 : ((List S_area_Area))) =>
     (G_ringref2_AreaSame n v_r180.1 v_r468).bind fun (v_r469 : (Bool)) =>
     some (.x0 (!v_r469))
    else
     some (.x0 false)
   else
    some (.x0 true)
  else
   if v_z446 = 0 then
    (G_ringref2_AreasOf n v_r426).bind fun (v_r472 : ((List S_area_Area))) =>
    (G_ringref2_AreaSame n v_r180.1 v_r472).bind fun (v_r473 : (Bool)) =>
    some (.x0 (!v_r473))
   else
    some (.x0 false)
theorem G_ringlaw2_AreaTells_C6_ok {Fi : Ex → PS → Prop} (hF : KC 350 Fi) (ks : List Fr) (n : Nat) (v_l1 : (List S_area_Area)) (v_r139 : ((List S_area_Area) × Int)) (v_r173 : ((List S_area_Area) × Int)) (v_r180 : ((List S_area_Area) × Int)) (v_r194 : (S_area_Area × Bool × Int)) (v_r209 : (Int × Int)) (v_z445 : Int) (v_z446 : Int) (v_x2 : S_area_Area) (v_r426 : ((Fin 64 → Int)))  (o : G_ringlaw2_AreaTells_C6_R) (h : G_ringlaw2_AreaTells_C6 n v_l1 v_r139 v_r173 v_r180 v_r194 v_r209 v_z445 v_z446 v_x2 v_r426 = some o) (q : RunE Try.prog 350 Fi ks (G_ringlaw2_AreaTells_C6_ex o) (G_ringlaw2_AreaTells_C6_st v_l1 v_r139 v_r173 v_r180 v_r194 v_r209 v_z445 v_z446 v_x2 v_r426 o)) : RunE Try.prog 350 Fi (.s (cL (cL (cR (cR (cR (cR (cR (cR (cR (cR (cR (cR (cR (cR (cR (cR (cR (cR (cR (cR (bodyOf Try.f8))))))))))))))))))))) :: ks) .normal (G_ringlaw2_AreaTells_C6_hd v_l1 v_r139 v_r173 v_r180 v_r194 v_r209 v_z445 v_z446 v_x2 v_r426) := by
  unfold G_ringlaw2_AreaTells_C6 at h
  by_cases h545 : v_z445 = 0
  · rw [if_pos h545] at h
    obtain ⟨v_r465, h546, h⟩ := bind_some h
    obtain ⟨v_r466, h547, h⟩ := bind_some h
    by_cases h548 : v_r466 = true
    · rw [if_pos h548] at h
      by_cases h549 : v_z446 = 0
      · rw [if_pos h549] at h
        obtain ⟨v_r468, h550, h⟩ := bind_some h
        obtain ⟨v_r469, h551, h⟩ := bind_some h
        cases h
        exact pkk_sound TTok mix hF 1 (hs := [.t true, .c, .c, .c, .r ((eL eS_area_Area) v_r465), .c, .r (eB v_r466), .c, .t false, .c, .c, .c, .c, .c, .c, .c, .c, .c, .c, .c, .t true, .c, .c, .c, .r ((eL eS_area_Area) v_r468), .c, .r (eB v_r469), .c, .c]) (ts := []) (s := [0, 1, 2]) (l := [0, 3, 11, 12, 13, 14, 15, 17, 262]) (by kernel_rfl) (by kernel_rfl) (.cons (bt h545) (.cons (G_ringref2_AreasOf_ok n v_r426 _ h546) (.cons (G_ringref2_AreaSame_ok n v_r139.1 v_r465 _ h547) (.cons (bnf h548) (.cons (bt h549) (.cons (G_ringref2_AreasOf_ok n v_r426 _ h550) (.cons (G_ringref2_AreaSame_ok n v_r180.1 v_r468 _ h551) .nil))))))) q
      · rw [if_neg h549] at h
        cases h
        exact pkk_sound TTok mix hF 1 (hs := [.t true, .c, .c, .c, .r ((eL eS_area_Area) v_r465), .c, .r (eB v_r466), .c, .t false, .c, .c, .c, .c, .c, .c, .c, .c, .c, .c, .c, .t false, .c, .c, .c, .c, .c]) (ts := []) (s := [0, 1, 2]) (l := [0, 3, 11, 12, 13, 14, 15, 17, 262]) (by kernel_rfl) (by kernel_rfl) (.cons (bt h545) (.cons (G_ringref2_AreasOf_ok n v_r426 _ h546) (.cons (G_ringref2_AreaSame_ok n v_r139.1 v_r465 _ h547) (.cons (bnf h548) (.cons (bf h549) .nil))))) q
    · rw [if_neg h548] at h
      cases h
      exact pkk_sound TTok mix hF 1 (hs := [.t true, .c, .c, .c, .r ((eL eS_area_Area) v_r465), .c, .r (eB v_r466), .c, .t true, .c, .c, .c, .c, .c, .c, .c]) (ts := []) (s := [0, 1, 2]) (l := [0, 3, 11, 12, 13, 14, 15, 17, 262]) (by kernel_rfl) (by kernel_rfl) (.cons (bt h545) (.cons (G_ringref2_AreasOf_ok n v_r426 _ h546) (.cons (G_ringref2_AreaSame_ok n v_r139.1 v_r465 _ h547) (.cons (bnt (vf h548)) .nil)))) q
  · rw [if_neg h545] at h
    by_cases h552 : v_z446 = 0
    · rw [if_pos h552] at h
      obtain ⟨v_r472, h553, h⟩ := bind_some h
      obtain ⟨v_r473, h554, h⟩ := bind_some h
      cases h
      exact pkk_sound TTok mix hF 1 (hs := [.t false, .c, .c, .c, .c, .c, .c, .c, .c, .c, .c, .c, .c, .c, .c, .c, .c, .t true, .c, .c, .c, .r ((eL eS_area_Area) v_r472), .c, .r (eB v_r473), .c, .c]) (ts := []) (s := [0, 1, 2]) (l := [0, 3, 11, 12, 13, 14, 15, 17, 262]) (by kernel_rfl) (by kernel_rfl) (.cons (bf h545) (.cons (bt h552) (.cons (G_ringref2_AreasOf_ok n v_r426 _ h553) (.cons (G_ringref2_AreaSame_ok n v_r180.1 v_r472 _ h554) .nil)))) q
    · rw [if_neg h552] at h
      cases h
      exact pkk_sound TTok mix hF 1 (hs := [.t false, .c, .c, .c, .c, .c, .c, .c, .c, .c, .c, .c, .c, .c, .c, .c, .c, .t false, .c, .c, .c, .c, .c]) (ts := []) (s := [0, 1, 2]) (l := [0, 3, 11, 12, 13, 14, 15, 17, 262]) (by kernel_rfl) (by kernel_rfl) (.cons (bf h545) (.cons (bf h552) .nil)) q
inductive G_ringlaw2_AreaTells_L7_R where
  | x0 (v_x497 : Bool)
  | x1 
def G_ringlaw2_AreaTells_L7_ex : G_ringlaw2_AreaTells_L7_R → Ex
  | .x0 _ => .ret
  | .x1  => .exit 8
def G_ringlaw2_AreaTells_L7_st (v_r209 : (Int × Int)) (v_x2 : S_area_Area) (v_r426 : ((Fin 64 → Int))) : G_ringlaw2_AreaTells_L7_R → PS
  | .x0 v_x497 => ⟨[dd, dd, dd, dd, .d (.v (.bool v_x497)), dd, dd, dd, dd, dd, dd, dd, dd, dd, dd, dd, dd, dd, dd, dd, dd, dd, dd, dd, dd, dd, dd, dd, dd, dd, dd, dd, dd, dd, dd, dd, dd, dd, dd, dd, dd, dd, dd, dd, dd, dd, dd, dd, dd, dd, dd, dd, dd, dd, dd, dd, dd, dd, dd, dd, dd, dd, dd, dd, dd, dd, dd, dd, dd, dd, dd, dd, dd, dd, dd, dd, dd, dd, dd, dd, dd, dd, dd, dd, dd, dd, dd, dd, dd, dd, dd, dd, dd, dd, dd, dd, dd, dd, dd, dd, dd, dd, dd, dd, dd, dd, dd, dd, dd, dd, dd, dd, dd, dd, dd, dd, dd, dd, dd, dd, dd, dd, dd, dd, dd, dd, dd, dd, dd, dd, dd, dd, dd, dd, dd, dd, dd, dd, dd, dd, dd, dd, dd, dd, dd, dd, dd, dd, dd, dd, dd, dd, dd, dd, dd, dd, dd, dd, dd, dd, dd, dd, dd, dd, dd, dd, dd, dd, dd, dd, dd, dd, dd, dd, dd, dd, dd, dd, dd, dd, dd, dd, dd, dd, dd, dd, dd, dd, dd, dd, dd, dd, dd, dd, dd, dd, dd, dd, dd, dd, dd, dd, dd, dd, dd, dd, dd, dd, dd, dd, dd, dd, dd, dd, dd, dd, dd, dd, dd, dd, dd, dd, dd, dd, dd, dd, dd, dd, dd, dd, dd, dd, dd, dd, dd, dd, dd, dd, dd, dd, dd, dd, dd, dd, dd, dd, dd, dd, dd, dd, dd, dd, dd, dd, dd, dd, dd, dd, dd, dd, dd, dd, dd, dd, dd, dd, dd, dd, dd, dd, dd, dd, dd, dd, dd, dd, dd, dd, dd, dd, dd, dd, dd, dd, dd, dd, dd, dd, dd, dd, dd, dd, dd, dd, dd, dd, dd, dd, dd, dd, dd, dd, dd, dd, dd, dd, dd, dd, dd, dd, dd, dd, dd, dd, dd, dd, dd, dd, dd, dd, dd, dd, dd, dd, dd, dd, dd, dd, dd, dd, dd, dd, dd, dd, dd, dd, dd, dd, dd, dd, dd, dd, dd, dd, dd, dd, dd, dd, dd, dd], []⟩
  | .x1  => ⟨[dd, dd, dd, dd, dd, dd, dd, dd, dd, dd, dd, dd, dd, dd, .d (.v (.int .i64 v_r209.1)), .d (.v (.int .i64 v_r209.2)), dd, dd, dd, dd, dd, dd, dd, dd, dd, dd, dd, dd, dd, dd, dd, dd, dd, dd, dd, dd, dd, dd, dd, dd, dd, dd, dd, dd, dd, dd, dd, dd, dd, dd, dd, dd, dd, dd, dd, dd, dd, dd, dd, dd, dd, dd, dd, dd, dd, dd, dd, dd, dd, dd, dd, dd, dd, dd, dd, dd, dd, dd, dd, dd, dd, dd, dd, dd, dd, dd, dd, dd, dd, dd, dd, dd, dd, dd, dd, dd, dd, dd, dd, dd, dd, dd, dd, dd, dd, dd, dd, dd, dd, dd, dd, dd, dd, dd, dd, dd, dd, dd, dd, dd, dd, dd, dd, dd, dd, dd, dd, dd, dd, dd, dd, dd, dd, dd, dd, dd, dd, dd, dd, dd, dd, dd, dd, dd, dd, dd, dd, dd, dd, dd, dd, dd, dd, dd, dd, dd, dd, dd, dd, dd, dd, dd, dd, dd, dd, dd, dd, dd, dd, dd, dd, dd, dd, dd, dd, dd, dd, dd, dd, dd, dd, dd, dd, dd, dd, dd, dd, dd, dd, dd, dd, dd, dd, dd, dd, dd, dd, dd, dd, dd, dd, dd, dd, dd, dd, dd, dd, dd, dd, dd, dd, dd, dd, dd, dd, dd, dd, dd, dd, dd, dd, dd, dd, dd, dd, dd, dd, dd, dd, dd, dd, dd, dd, dd, dd, dd, dd, dd, dd, dd, dd, dd, dd, dd, dd, dd, dd, dd, dd, dd, dd, dd, dd, dd, dd, dd, dd, dd, dd, dd, dd, dd, dd, dd, dd, dd, dd, dd, dd, dd, dd, dd, dd, dd, dd, dd, dd, dd, dd, dd, dd, dd, dd, dd, dd, dd, dd, dd, dd, dd, dd, dd, dd, dd, dd, dd, dd, dd, dd, dd, dd, dd, dd, dd, dd, dd, dd, dd, dd, dd, dd, dd, dd, dd, dd, dd, dd, dd, dd, dd, dd, dd, dd, dd, dd, dd, dd, dd, dd, dd, dd, dd, dd, dd, dd, dd, dd, dd, dd, dd, dd, dd, dd, dd, dd, dd, dd, dd, dd, dd], []⟩
def G_ringlaw2_AreaTells_L7_hd (v_r209 : (Int × Int)) (v_x2 : S_area_Area) (v_r426 : ((Fin 64 → Int))) (v_first480 : Int) : PS := ⟨[dd, dd, dd, .ref 0 0, dd, dd, dd, dd, dd, dd, dd, dd, dd, dd, .d (.v (.int .i64 v_r209.1)), .d (.v (.int .i64 v_r209.2)), dd, .ref 1 0, dd, dd, dd, dd, dd, dd, dd, dd, dd, dd, dd, dd, dd, .d (.v (.int .i64 v_first480)), dd, dd, dd, dd, dd, dd, dd, dd, dd, dd, dd, dd, dd, dd, dd, dd, dd, dd, dd, dd, dd, dd, dd, dd, dd, dd, dd, dd, dd, dd, dd, dd, dd, dd, dd, dd, dd, dd, dd, dd, dd, dd, dd, dd, dd, dd, dd, dd, dd, dd, dd, dd, dd, dd, dd, dd, dd, dd, dd, dd, dd, dd, dd, dd, dd, dd, dd, dd, dd, dd, dd, dd, dd, dd, dd, dd, dd, dd, dd, dd, dd, dd, dd, dd, dd, dd, dd, dd, dd, dd, dd, dd, dd, dd, dd, dd, dd, dd, dd, dd, dd, dd, dd, dd, dd, dd, dd, dd, dd, dd, dd, dd, dd, dd, dd, dd, dd, dd, dd, dd, dd, dd, dd, dd, dd, dd, dd, dd, dd, dd, dd, dd, dd, dd, dd, dd, dd, dd, dd, dd, dd, dd, dd, dd, dd, dd, dd, dd, dd, dd, dd, dd, dd, dd, dd, dd, dd, dd, dd, dd, dd, dd, dd, dd, dd, dd, dd, dd, dd, dd, dd, dd, dd, dd, dd, dd, dd, dd, dd, dd, dd, dd, dd, dd, dd, dd, dd, dd, dd, dd, dd, dd, dd, dd, dd, dd, dd, dd, dd, dd, dd, dd, dd, dd, dd, dd, dd, dd, dd, dd, dd, dd, dd, dd, dd, dd, dd, dd, dd, dd, dd, dd, dd, dd, dd, dd, dd, dd, dd, dd, dd, dd, dd, dd, dd, dd, dd, dd, dd, dd, dd, dd, dd, dd, dd, dd, dd, dd, dd, dd, dd, dd, dd, dd, dd, dd, dd, dd, dd, dd, dd, dd, dd, dd, dd, dd, dd, dd, dd, dd, dd, dd, dd, dd, dd, dd, dd, dd, dd, dd, dd, dd, dd, dd, dd, dd, dd, dd, dd, dd, dd, dd, dd, dd, dd, dd, dd, dd, dd, dd, dd, dd, dd, dd, dd, dd, dd, dd, dd, dd, dd, dd, dd, dd, dd, dd, dd, dd], [.box [.d (.v (.int .i64 v_x2.fPage)), .d (.v (.int .i64 v_x2.fN)), .d (.v (.int .i64 v_x2.fRights))], .box ((cA_t119 v_r426).map FV.d)]⟩
def G_ringlaw2_AreaTells_L7 (n : Nat) (v_r209 : (Int × Int)) (v_x2 : S_area_Area) (v_r426 : ((Fin 64 → Int))) : Nat → Int → Option G_ringlaw2_AreaTells_L7_R
  | 0, _ => none
  | k + 1, v_first480 =>
    if (wi .i64 (v_first480 + v_x2.fN)) ≤ 64 then
     if 0 ≤ v_first480 ∧ v_first480 ≤ (wi .i64 (v_first480 + v_x2.fN)) ∧ (wi .i64 (v_first480 + v_x2.fN)) ≤ (64 : Int) ∧ v_first480 < (64 : Int) then
      (G_slices_ContainsFunc_int_int n (((List.ofFn v_r426).drop v_first480.toNat).take ((wi .i64 (v_first480 + v_x2.fN)).toNat - v_first480.toNat)) (fun (y0 : Int) => G_ringlaw2_AreaTells_1 n y0)).bind fun (v_r496 : (Bool)) =>
      if v_r496 = true then
       G_ringlaw2_AreaTells_L7 n v_r209 v_x2 v_r426 k (wi .i64 (v_first480 + 1))
      else
       if v_r209.1 = v_first480 then
        some (.x0 (v_r209.2 == 0))
       else
        some (.x0 false)
     else none
    else
     some (.x1 )
theorem G_ringlaw2_AreaTells_L7_ok {Fi : Ex → PS → Prop} (hF : KC 350 Fi) (ks : List Fr) (n : Nat) (v_r209 : (Int × Int)) (v_x2 : S_area_Area) (v_r426 : ((Fin 64 → Int)))  : ∀ (k : Nat) (v_first480 : Int) (o : G_ringlaw2_AreaTells_L7_R), G_ringlaw2_AreaTells_L7 n v_r209 v_x2 v_r426 k v_first480 = some o → RunE Try.prog 350 Fi ks (G_ringlaw2_AreaTells_L7_ex o) (G_ringlaw2_AreaTells_L7_st v_r209 v_x2 v_r426 o) → RunE Try.prog 350 Fi (.l k (cP (cB (cR (cL (cR (cR (cR (cR (cR (cR (cR (cR (cR (cR (cR (cR (cR (cR (cR (cR (cR (cR (cR (cR (cR (bodyOf Try.f8)))))))))))))))))))))))))) :: ks) .normal (G_ringlaw2_AreaTells_L7_hd v_r209 v_x2 v_r426 v_first480)
  | 0, v_first480, o, h, q => by rw [G_ringlaw2_AreaTells_L7] at h; cases h
  | k + 1, v_first480, o, h, q => by
    rw [G_ringlaw2_AreaTells_L7] at h
    by_cases h567 : (wi .i64 (v_first480 + v_x2.fN)) ≤ 64
    · rw [if_pos h567] at h
      by_cases h583 : 0 ≤ v_first480 ∧ v_first480 ≤ (wi .i64 (v_first480 + v_x2.fN)) ∧ (wi .i64 (v_first480 + v_x2.fN)) ≤ (64 : Int) ∧ v_first480 < (64 : Int)
      · rw [if_pos h583] at h
        obtain ⟨v_r496, h584, h⟩ := bind_some h
        by_cases h587 : v_r496 = true
        · rw [if_pos h587] at h
          exact pkk_sound TTok mix hF 14 (hs := [.c, .t true, .c, .c, .e 35 [1] (.d (.v (.bool v_r496))) [], .t false]) (ts := []) (s := [0, 1]) (l := [3, 14, 15, 17, 31]) (by kernel_rfl) (by kernel_rfl) (.cons (dt h567) (.cons (h583.1) (.cons (h583.2.1) (.cons (h583.2.2.1) (.cons (h583.2.2.2) (.cons (xcallF (P := Try.prog) (T := TT) (fv := .d (.clo 73 [])) (vs := [.asl 1 (0 + v_first480.toNat * 1) ((wi .i64 (v_first480 + v_x2.fN)).toNat - v_first480.toNat) (64 - v_first480.toNat) 1 false, .d (.clo 74 [])]) (f := .func 73) (args := #[(.tmp 334), (.func 74)]) (tys := #[22, 125]) (m0 := [(1, .box ((cA_t119 v_r426).map FV.d))]) (fun m hm => rfl) (fun m hm => (fz_cons (fzA (l := 1) (cells := ((cA_t119 v_r426).map FV.d)) (c := (64 - v_first480.toNat)) (A := v_r426) (f := (eI .i64)) (a := v_first480) (b := (wi .i64 (v_first480 + v_x2.fN))) (by first | rfl | exact congrArg (List.map FV.d) (flatMap_one _ _)) ⟨h583.1, h583.2.1, h583.2.2.1⟩ (by simp) m hm) (fz_cons (fzD (m := m) (.clo 74 [])) fz_nil))) (G_slices_ContainsFunc_int_int_ok n (((List.ofFn v_r426).drop v_first480.toNat).take ((wi .i64 (v_first480 + v_x2.fN)).toNat - v_first480.toNat)) (fun (y0 : Int) => G_ringlaw2_AreaTells_1 n y0) 74 [] (fun y0 r h => G_ringlaw2_AreaTells_1_ok n y0 r h) _ h584) (by rfl)) (.cons (bnf h587) .nil))))))) (G_ringlaw2_AreaTells_L7_ok hF ks n v_r209 v_x2 v_r426 k (wi .i64 (v_first480 + 1)) _ h q)
        · rw [if_neg h587] at h
          by_cases h588 : v_r209.1 = v_first480
          · rw [if_pos h588] at h
            cases h
            exact pkk_sound TTok mix hF 17 (hs := [.c, .t true, .c, .c, .e 35 [1] (.d (.v (.bool v_r496))) [], .t true, .t true, .c]) (ts := []) (s := []) (l := [4]) (by kernel_rfl) (by kernel_rfl) (.cons (dt h567) (.cons (h583.1) (.cons (h583.2.1) (.cons (h583.2.2.1) (.cons (h583.2.2.2) (.cons (xcallF (P := Try.prog) (T := TT) (fv := .d (.clo 73 [])) (vs := [.asl 1 (0 + v_first480.toNat * 1) ((wi .i64 (v_first480 + v_x2.fN)).toNat - v_first480.toNat) (64 - v_first480.toNat) 1 false, .d (.clo 74 [])]) (f := .func 73) (args := #[(.tmp 334), (.func 74)]) (tys := #[22, 125]) (m0 := [(1, .box ((cA_t119 v_r426).map FV.d))]) (fun m hm => rfl) (fun m hm => (fz_cons (fzA (l := 1) (cells := ((cA_t119 v_r426).map FV.d)) (c := (64 - v_first480.toNat)) (A := v_r426) (f := (eI .i64)) (a := v_first480) (b := (wi .i64 (v_first480 + v_x2.fN))) (by first | rfl | exact congrArg (List.map FV.d) (flatMap_one _ _)) ⟨h583.1, h583.2.1, h583.2.2.1⟩ (by simp) m hm) (fz_cons (fzD (m := m) (.clo 74 [])) fz_nil))) (G_slices_ContainsFunc_int_int_ok n (((List.ofFn v_r426).drop v_first480.toNat).take ((wi .i64 (v_first480 + v_x2.fN)).toNat - v_first480.toNat)) (fun (y0 : Int) => G_ringlaw2_AreaTells_1 n y0) 74 [] (fun y0 r h => G_ringlaw2_AreaTells_1_ok n y0 r h) _ h584) (by rfl)) (.cons (bnt (vf h587)) (.cons (bt h588) .nil)))))))) q
          · rw [if_neg h588] at h
            cases h
            exact pkk_sound TTok mix hF 17 (hs := [.c, .t true, .c, .c, .e 35 [1] (.d (.v (.bool v_r496))) [], .t true, .t false, .c]) (ts := []) (s := []) (l := [4]) (by kernel_rfl) (by kernel_rfl) (.cons (dt h567) (.cons (h583.1) (.cons (h583.2.1) (.cons (h583.2.2.1) (.cons (h583.2.2.2) (.cons (xcallF (P := Try.prog) (T := TT) (fv := .d (.clo 73 [])) (vs := [.asl 1 (0 + v_first480.toNat * 1) ((wi .i64 (v_first480 + v_x2.fN)).toNat - v_first480.toNat) (64 - v_first480.toNat) 1 false, .d (.clo 74 [])]) (f := .func 73) (args := #[(.tmp 334), (.func 74)]) (tys := #[22, 125]) (m0 := [(1, .box ((cA_t119 v_r426).map FV.d))]) (fun m hm => rfl) (fun m hm => (fz_cons (fzA (l := 1) (cells := ((cA_t119 v_r426).map FV.d)) (c := (64 - v_first480.toNat)) (A := v_r426) (f := (eI .i64)) (a := v_first480) (b := (wi .i64 (v_first480 + v_x2.fN))) (by first | rfl | exact congrArg (List.map FV.d) (flatMap_one _ _)) ⟨h583.1, h583.2.1, h583.2.2.1⟩ (by simp) m hm) (fz_cons (fzD (m := m) (.clo 74 [])) fz_nil))) (G_slices_ContainsFunc_int_int_ok n (((List.ofFn v_r426).drop v_first480.toNat).take ((wi .i64 (v_first480 + v_x2.fN)).toNat - v_first480.toNat)) (fun (y0 : Int) => G_ringlaw2_AreaTells_1 n y0) 74 [] (fun y0 r h => G_ringlaw2_AreaTells_1_ok n y0 r h) _ h584) (by rfl)) (.cons (bnt (vf h587)) (.cons (bf h588) .nil)))))))) q
      · rw [if_neg h583] at h; cases h
    · rw [if_neg h567] at h
      cases h
      exact pkk_sound TTok mix hF 8 (hs := [.c, .t false]) (ts := []) (s := []) (l := [14, 15]) (by kernel_rfl) (by kernel_rfl) (.cons (df h567) .nil) q
inductive G_ringlaw2_AreaTells_L8_R where
  | x0 (v_b512 : S_area_Area)
def G_ringlaw2_AreaTells_L8_ex : G_ringlaw2_AreaTells_L8_R → Ex
  | .x0 _ => .exit 6
def G_ringlaw2_AreaTells_L8_st (v_r194 : (S_area_Area × Bool × Int)) (v_r209 : (Int × Int)) (v_l1 : (List S_area_Area)) (v_x2 : S_area_Area) (v_r426 : ((Fin 64 → Int))) : G_ringlaw2_AreaTells_L8_R → PS
  | .x0 v_b512 => ⟨[dd, dd, dd, .ref 0 0, dd, dd, dd, dd, dd, dd, dd, .ref 1 0, .d (.v (.bool v_r194.2.1)), .d (.v (.int .i64 v_r194.2.2)), .d (.v (.int .i64 v_r209.1)), .d (.v (.int .i64 v_r209.2)), dd, .ref 2 0, dd, dd, dd, dd, dd, dd, dd, dd, dd, dd, .ref 3 0, dd, dd, dd, dd, dd, dd, dd, dd, dd, dd, dd, dd, dd, dd, dd, dd, dd, dd, dd, dd, dd, dd, dd, dd, dd, dd, dd, dd, dd, dd, dd, dd, dd, dd, dd, dd, dd, dd, dd, dd, dd, dd, dd, dd, dd, dd, dd, dd, dd, dd, dd, dd, dd, dd, dd, dd, dd, dd, dd, dd, dd, dd, dd, dd, dd, dd, dd, dd, dd, dd, dd, dd, dd, dd, dd, dd, dd, dd, dd, dd, dd, dd, dd, dd, dd, dd, dd, dd, dd, dd, dd, dd, dd, dd, dd, dd, dd, dd, dd, dd, dd, dd, dd, dd, dd, dd, dd, dd, dd, dd, dd, dd, dd, dd, dd, dd, dd, dd, dd, dd, dd, dd, dd, dd, dd, dd, dd, dd, dd, dd, dd, dd, dd, dd, dd, dd, dd, dd, dd, dd, dd, dd, dd, dd, dd, dd, dd, dd, dd, dd, dd, dd, dd, dd, dd, dd, dd, dd, dd, dd, dd, dd, dd, dd, dd, dd, dd, dd, dd, dd, dd, dd, dd, dd, dd, dd, dd, dd, dd, dd, dd, dd, dd, dd, dd, dd, dd, dd, dd, dd, dd, dd, dd, dd, dd, dd, dd, dd, dd, dd, dd, dd, dd, dd, dd, dd, dd, dd, dd, dd, dd, dd, dd, dd, dd, dd, dd, dd, dd, dd, dd, dd, dd, dd, dd, dd, dd, dd, dd, dd, dd, dd, dd, dd, dd, dd, dd, dd, dd, dd, dd, dd, dd, dd, dd, dd, dd, dd, dd, dd, dd, dd, dd, dd, dd, dd, dd, dd, dd, dd, dd, dd, dd, dd, dd, dd, dd, dd, dd, dd, dd, dd, dd, dd, dd, dd, dd, dd, dd, dd, dd, dd, dd, dd, dd, dd, dd, dd, dd, dd, dd, dd, dd, dd, dd, dd, dd, dd, dd, dd, dd, dd, dd, dd, dd, dd, dd, dd, dd, dd, dd, dd, dd, dd, dd, dd, dd, dd, dd, dd, dd], [.box [.d (.v (.int .i64 v_x2.fPage)), .d (.v (.int .i64 v_x2.fN)), .d (.v (.int .i64 v_x2.fRights))], .box [.d (.v (.int .i64 v_r194.1.fPage)), .d (.v (.int .i64 v_r194.1.fN)), .d (.v (.int .i64 v_r194.1.fRights))], .box ((cA_t119 v_r426).map FV.d), .box [.d (.v (.int .i64 v_b512.fPage)), .d (.v (.int .i64 v_b512.fN)), .d (.v (.int .i64 v_b512.fRights))]]⟩
def G_ringlaw2_AreaTells_L8_hd (v_r194 : (S_area_Area × Bool × Int)) (v_r209 : (Int × Int)) (v_l1 : (List S_area_Area)) (v_x2 : S_area_Area) (v_r426 : ((Fin 64 → Int))) (v_x506 : Int) (v_b507 : S_area_Area) : PS := ⟨[dd, dd, dd, .ref 0 0, dd, dd, dd, dd, dd, dd, dd, .ref 1 0, .d (.v (.bool v_r194.2.1)), .d (.v (.int .i64 v_r194.2.2)), .d (.v (.int .i64 v_r209.1)), .d (.v (.int .i64 v_r209.2)), dd, .ref 2 0, dd, dd, dd, dd, dd, dd, dd, dd, dd, dd, .ref 3 0, dd, dd, dd, dd, dd, dd, dd, dd, dd, dd, dd, dd, dd, dd, dd, dd, dd, dd, dd, dd, dd, dd, dd, dd, dd, dd, dd, dd, dd, dd, dd, dd, dd, dd, dd, dd, dd, dd, dd, dd, dd, dd, dd, dd, dd, dd, dd, dd, dd, dd, dd, dd, dd, dd, dd, dd, dd, dd, dd, dd, dd, dd, dd, dd, dd, dd, dd, dd, dd, dd, dd, dd, dd, dd, dd, dd, dd, dd, dd, dd, dd, dd, dd, dd, dd, dd, dd, dd, dd, dd, dd, dd, dd, dd, dd, dd, dd, dd, dd, dd, dd, dd, dd, dd, dd, dd, dd, dd, dd, dd, dd, dd, dd, dd, dd, dd, dd, dd, dd, dd, dd, dd, dd, dd, dd, dd, dd, dd, dd, dd, dd, dd, dd, dd, dd, dd, dd, dd, dd, dd, dd, dd, dd, dd, dd, dd, dd, dd, dd, dd, dd, dd, dd, dd, dd, dd, dd, dd, dd, dd, dd, dd, dd, dd, dd, dd, dd, dd, dd, dd, dd, dd, dd, dd, dd, dd, dd, dd, dd, dd, dd, dd, dd, dd, dd, dd, dd, dd, dd, dd, dd, dd, dd, dd, dd, dd, dd, dd, dd, dd, dd, dd, dd, dd, dd, dd, dd, dd, dd, dd, dd, dd, dd, dd, dd, dd, dd, dd, dd, dd, dd, dd, dd, dd, dd, dd, dd, dd, dd, dd, dd, dd, dd, dd, dd, dd, dd, dd, dd, dd, dd, dd, dd, dd, dd, dd, dd, dd, .d (.sl (v_l1.map eS_area_Area)), .d (.v (.int .i64 (v_l1.length : Int))), .d (.v (.int .i64 v_x506)), dd, dd, dd, dd, dd, dd, dd, dd, dd, dd, dd, dd, dd, dd, dd, dd, dd, dd, dd, dd, dd, dd, dd, dd, dd, dd, dd, dd, dd, dd, dd, dd, dd, dd, dd, dd, dd, dd, dd, dd, dd, dd, dd, dd, dd, dd, dd, dd, dd, dd, dd, dd, dd, dd, dd, dd, dd, dd, dd, dd, dd, dd, dd, dd, dd, dd, dd, dd, dd, dd], [.box [.d (.v (.int .i64 v_x2.fPage)), .d (.v (.int .i64 v_x2.fN)), .d (.v (.int .i64 v_x2.fRights))], .box [.d (.v (.int .i64 v_r194.1.fPage)), .d (.v (.int .i64 v_r194.1.fN)), .d (.v (.int .i64 v_r194.1.fRights))], .box ((cA_t119 v_r426).map FV.d), .box [.d (.v (.int .i64 v_b507.fPage)), .d (.v (.int .i64 v_b507.fN)), .d (.v (.int .i64 v_b507.fRights))]]⟩
def G_ringlaw2_AreaTells_L8 (n : Nat) (v_r194 : (S_area_Area × Bool × Int)) (v_r209 : (Int × Int)) (v_l1 : (List S_area_Area)) (v_x2 : S_area_Area) (v_r426 : ((Fin 64 → Int))) : Nat → Int → S_area_Area → Option G_ringlaw2_AreaTells_L8_R
  | 0, _, _ => none
  | k + 1, v_x506, v_b507 =>
    if v_x506 < (v_l1.length : Int) then
     (getI v_l1 v_x506).bind fun (v_y510 : S_area_Area) =>
     (G_ringref2_In n v_x2.fPage v_y510.fPage (wi .i64 ((wi .i64 (v_y510.fPage + v_y510.fN)) - 1))).bind fun (v_r511 : (Bool)) =>
     if v_r511 = true then
      G_ringlaw2_AreaTells_L8 n v_r194 v_r209 v_l1 v_x2 v_r426 k (wi .i64 (v_x506 + 1)) v_y510
     else
      G_ringlaw2_AreaTells_L8 n v_r194 v_r209 v_l1 v_x2 v_r426 k (wi .i64 (v_x506 + 1)) v_b507
    else
     some (.x0 v_b507)
theorem G_ringlaw2_AreaTells_L8_ok {Fi : Ex → PS → Prop} (hF : KC 350 Fi) (ks : List Fr) (n : Nat) (v_r194 : (S_area_Area × Bool × Int)) (v_r209 : (Int × Int)) (v_l1 : (List S_area_Area)) (v_x2 : S_area_Area) (v_r426 : ((Fin 64 → Int)))  : ∀ (k : Nat) (v_x506 : Int) (v_b507 : S_area_Area) (o : G_ringlaw2_AreaTells_L8_R), G_ringlaw2_AreaTells_L8 n v_r194 v_r209 v_l1 v_x2 v_r426 k v_x506 v_b507 = some o → RunE Try.prog 350 Fi ks (G_ringlaw2_AreaTells_L8_ex o) (G_ringlaw2_AreaTells_L8_st v_r194 v_r209 v_l1 v_x2 v_r426 o) → RunE Try.prog 350 Fi (.l k (cP (cB (cR (cL (cR (cF (cR (cL (cR (cR (cR (cR (cR (cR (cR (cR (cR (cR (cR (cR (cR (cR (cR (cR (cR (cR (cR (bodyOf Try.f8)))))))))))))))))))))))))))) :: ks) .normal (G_ringlaw2_AreaTells_L8_hd v_r194 v_r209 v_l1 v_x2 v_r426 v_x506 v_b507)
  | 0, v_x506, v_b507, o, h, q => by rw [G_ringlaw2_AreaTells_L8] at h; cases h
  | k + 1, v_x506, v_b507, o, h, q => by
    rw [G_ringlaw2_AreaTells_L8] at h
    by_cases h598 : v_x506 < (v_l1.length : Int)
    · rw [if_pos h598] at h
      obtain ⟨v_y510, h602, h⟩ := bind_some h
      obtain ⟨v_r511, h603, h⟩ := bind_some h
      by_cases h604 : v_r511 = true
      · rw [if_pos h604] at h
        exact pkk_sound TTok mix hF 16 (hs := [.t true, .y (eS_area_Area v_y510), .c, .c, .c, .c, .c, .r (eB v_r511), .t true, .c, .c]) (ts := []) (s := [0, 1, 2, 3]) (l := [3, 11, 12, 13, 14, 15, 17, 28, 277, 278, 279]) (by kernel_rfl) (by kernel_rfl) (.cons (dt h598) (.cons (getI_ob (f := eS_area_Area) h602) (.cons (show 0 + 3 ≤ 3 by decide) (.cons (G_ringref2_In_ok n v_x2.fPage v_y510.fPage (wi .i64 ((wi .i64 (v_y510.fPage + v_y510.fN)) - 1)) _ h603) (.cons h604 (.cons (show 0 + 3 ≤ 3 by decide) .nil)))))) (G_ringlaw2_AreaTells_L8_ok hF ks n v_r194 v_r209 v_l1 v_x2 v_r426 k (wi .i64 (v_x506 + 1)) v_y510 _ h q)
      · rw [if_neg h604] at h
        exact pkk_sound TTok mix hF 16 (hs := [.t true, .y (eS_area_Area v_y510), .c, .c, .c, .c, .c, .r (eB v_r511), .t false]) (ts := []) (s := [0, 1, 2, 3]) (l := [3, 11, 12, 13, 14, 15, 17, 28, 277, 278, 279]) (by kernel_rfl) (by kernel_rfl) (.cons (dt h598) (.cons (getI_ob (f := eS_area_Area) h602) (.cons (show 0 + 3 ≤ 3 by decide) (.cons (G_ringref2_In_ok n v_x2.fPage v_y510.fPage (wi .i64 ((wi .i64 (v_y510.fPage + v_y510.fN)) - 1)) _ h603) (.cons (vf h604) .nil))))) (G_ringlaw2_AreaTells_L8_ok hF ks n v_r194 v_r209 v_l1 v_x2 v_r426 k (wi .i64 (v_x506 + 1)) v_b507 _ h q)
    · rw [if_neg h598] at h
      cases h
      exact pkk_sound TTok mix hF 8 (hs := [.t false]) (ts := []) (s := [0, 1, 2, 3]) (l := [3, 11, 12, 13, 14, 15, 17, 28]) (by kernel_rfl) (by kernel_rfl) (.cons (df h598) .nil) q
inductive G_ringlaw2_AreaTells_C9_R where
  | x0 (v_x516 : Bool)
def G_ringlaw2_AreaTells_C9_ex : G_ringlaw2_AreaTells_C9_R → Ex
  | .x0 _ => .normal
def G_ringlaw2_AreaTells_C9_st (v_r194 : (S_area_Area × Bool × Int)) (v_r209 : (Int × Int)) (v_x2 : S_area_Area) (v_r426 : ((Fin 64 → Int))) (v_z514 : S_area_Area) : G_ringlaw2_AreaTells_C9_R → PS
  | .x0 v_x516 => ⟨[dd, dd, dd, .ref 0 0, dd, dd, dd, dd, dd, dd, dd, dd, dd, dd, .d (.v (.int .i64 v_r209.1)), .d (.v (.int .i64 v_r209.2)), dd, .ref 1 0, dd, dd, dd, dd, dd, dd, dd, dd, dd, dd, dd, dd, dd, dd, dd, dd, dd, dd, dd, dd, dd, dd, dd, dd, dd, dd, dd, dd, dd, dd, dd, dd, dd, dd, dd, dd, dd, dd, dd, dd, dd, dd, dd, dd, dd, dd, dd, dd, dd, dd, dd, dd, dd, dd, dd, dd, dd, dd, dd, dd, dd, dd, dd, dd, dd, dd, dd, dd, dd, dd, dd, dd, dd, dd, dd, dd, dd, dd, dd, dd, dd, dd, dd, dd, dd, dd, dd, dd, dd, dd, dd, dd, dd, dd, dd, dd, dd, dd, dd, dd, dd, dd, dd, dd, dd, dd, dd, dd, dd, dd, dd, dd, dd, dd, dd, dd, dd, dd, dd, dd, dd, dd, dd, dd, dd, dd, dd, dd, dd, dd, dd, dd, dd, dd, dd, dd, dd, dd, dd, dd, dd, dd, dd, dd, dd, dd, dd, dd, dd, dd, dd, dd, dd, dd, dd, dd, dd, dd, dd, dd, dd, dd, dd, dd, dd, dd, dd, dd, dd, dd, dd, dd, dd, dd, dd, dd, dd, dd, dd, dd, dd, dd, dd, dd, dd, dd, dd, dd, dd, dd, dd, dd, dd, dd, dd, dd, dd, dd, dd, dd, dd, dd, dd, dd, dd, dd, dd, dd, dd, dd, dd, dd, dd, dd, dd, dd, dd, dd, dd, dd, dd, dd, dd, dd, dd, dd, dd, dd, dd, dd, dd, dd, dd, dd, dd, dd, dd, dd, dd, dd, dd, dd, dd, dd, dd, dd, dd, dd, dd, dd, dd, dd, dd, dd, dd, dd, dd, dd, dd, dd, dd, dd, dd, dd, dd, dd, dd, dd, dd, dd, dd, dd, dd, dd, dd, dd, dd, dd, dd, dd, dd, dd, dd, dd, dd, dd, dd, dd, dd, dd, dd, dd, dd, .d (.v (.bool v_x516)), dd, dd, dd, dd, dd, dd, dd, dd, dd, dd, dd, dd, dd, dd, dd, dd, dd, dd, dd, dd, dd, dd, dd, dd, dd, dd, dd, dd, dd, dd, dd, dd, dd, dd, dd, dd, dd, dd], [.box [.d (.v (.int .i64 v_x2.fPage)), .d (.v (.int .i64 v_x2.fN)), .d (.v (.int .i64 v_x2.fRights))], .box ((cA_t119 v_r426).map FV.d)]⟩
def G_ringlaw2_AreaTells_C9_hd (v_r194 : (S_area_Area × Bool × Int)) (v_r209 : (Int × Int)) (v_x2 : S_area_Area) (v_r426 : ((Fin 64 → Int))) (v_z514 : S_area_Area)  : PS := ⟨[dd, dd, dd, .ref 0 0, dd, dd, dd, dd, dd, dd, dd, .ref 1 0, .d (.v (.bool v_r194.2.1)), .d (.v (.int .i64 v_r194.2.2)), .d (.v (.int .i64 v_r209.1)), .d (.v (.int .i64 v_r209.2)), dd, .ref 2 0, dd, dd, dd, dd, dd, dd, dd, dd, dd, dd, .ref 3 0, dd, dd, dd, dd, dd, dd, dd, dd, dd, dd, dd, dd, dd, dd, dd, dd, dd, dd, dd, dd, dd, dd, dd, dd, dd, dd, dd, dd, dd, dd, dd, dd, dd, dd, dd, dd, dd, dd, dd, dd, dd, dd, dd, dd, dd, dd, dd, dd, dd, dd, dd, dd, dd, dd, dd, dd, dd, dd, dd, dd, dd, dd, dd, dd, dd, dd, dd, dd, dd, dd, dd, dd, dd, dd, dd, dd, dd, dd, dd, dd, dd, dd, dd, dd, dd, dd, dd, dd, dd, dd, dd, dd, dd, dd, dd, dd, dd, dd, dd, dd, dd, dd, dd, dd, dd, dd, dd, dd, dd, dd, dd, dd, dd, dd, dd, dd, dd, dd, dd, dd, dd, dd, dd, dd, dd, dd, dd, dd, dd, dd, dd, dd, dd, dd, dd, dd, dd, dd, dd, dd, dd, dd, dd, dd, dd, dd, dd, dd, dd, dd, dd, dd, dd, dd, dd, dd, dd, dd, dd, dd, dd, dd, dd, dd, dd, dd, dd, dd, dd, dd, dd, dd, dd, dd, dd, dd, dd, dd, dd, dd, dd, dd, dd, dd, dd, dd, dd, dd, dd, dd, dd, dd, dd, dd, dd, dd, dd, dd, dd, dd, dd, dd, dd, dd, dd, dd, dd, dd, dd, dd, dd, dd, dd, dd, dd, dd, dd, dd, dd, dd, dd, dd, dd, dd, dd, dd, dd, dd, dd, dd, dd, dd, dd, dd, dd, dd, dd, dd, dd, dd, dd, dd, dd, dd, dd, dd, dd, dd, dd, dd, dd, dd, dd, dd, dd, dd, dd, dd, dd, dd, dd, dd, dd, dd, dd, dd, dd, dd, dd, dd, dd, dd, dd, dd, dd, dd, dd, dd, dd, dd, dd, dd, dd, dd, dd, dd, dd, dd, dd, dd, dd, dd, dd, dd, dd, dd, dd, dd, dd, dd, dd, dd, dd, dd, dd, dd, dd, dd, dd, dd, dd, dd, dd, dd, dd, dd, dd, dd, dd, dd, dd], [.box [.d (.v (.int .i64 v_x2.fPage)), .d (.v (.int .i64 v_x2.fN)), .d (.v (.int .i64 v_x2.fRights))], .box [.d (.v (.int .i64 v_r194.1.fPage)), .d (.v (.int .i64 v_r194.1.fN)), .d (.v (.int .i64 v_r194.1.fRights))], .box ((cA_t119 v_r426).map FV.d), .box [.d (.v (.int .i64 v_z514.fPage)), .d (.v (.int .i64 v_z514.fN)), .d (.v (.int .i64 v_z514.fRights))]]⟩
def G_ringlaw2_AreaTells_C9 (n : Nat) (v_r194 : (S_area_Area × Bool × Int)) (v_r209 : (Int × Int)) (v_x2 : S_area_Area) (v_r426 : ((Fin 64 → Int))) (v_z514 : S_area_Area) : Option G_ringlaw2_AreaTells_C9_R :=
  if (eqRes .neq (eqS_area_Area v_r194.1 v_z514)) = true then
   some (.x0 true)
  else
   if 0 ≤ v_x2.fPage ∧ v_x2.fPage < (64 : Int) then
    (getA v_r426 v_x2.fPage).bind fun (v_y517 : Int) =>
    if (eqRes .neq (v_r194.2.1 == (decide (v_y517 ≥ 0)))) = true then
     some (.x0 true)
    else
     some (.x0 (v_r194.2.2 != 0))
   else none
theorem G_ringlaw2_AreaTells_C9_ok {Fi : Ex → PS → Prop} (hF : KC 350 Fi) (ks : List Fr) (n : Nat) (v_r194 : (S_area_Area × Bool × Int)) (v_r209 : (Int × Int)) (v_x2 : S_area_Area) (v_r426 : ((Fin 64 → Int))) (v_z514 : S_area_Area)  (o : G_ringlaw2_AreaTells_C9_R) (h : G_ringlaw2_AreaTells_C9 n v_r194 v_r209 v_x2 v_r426 v_z514 = some o) (q : RunE Try.prog 350 Fi ks (G_ringlaw2_AreaTells_C9_ex o) (G_ringlaw2_AreaTells_C9_st v_r194 v_r209 v_x2 v_r426 v_z514 o)) : RunE Try.prog 350 Fi (.s (cL (cR (cR (cF (cR (cL (cR (cR (cR (cR (cR (cR (cR (cR (cR (cR (cR (cR (cR (cR (cR (cR (cR (cR (cR (bodyOf Try.f8)))))))))))))))))))))))))) :: ks) .normal (G_ringlaw2_AreaTells_C9_hd v_r194 v_r209 v_x2 v_r426 v_z514) := by
  unfold G_ringlaw2_AreaTells_C9 at h
  by_cases h610 : (eqRes .neq (eqS_area_Area v_r194.1 v_z514)) = true
  · rw [if_pos h610] at h
    cases h
    exact pkk_sound TTok mix hF 1 (hs := [.c, .c, .q (eqS_area_Area v_r194.1 v_z514), .t true, .c, .c, .c, .c, .c, .c, .c, .c]) (ts := []) (s := [0, 2]) (l := [3, 14, 15, 17, 311]) (by kernel_rfl) (by kernel_rfl) (.cons (eqS_area_Area_ok v_r194.1 v_z514) (.cons h610 .nil)) q
  · rw [if_neg h610] at h
    by_cases h611 : 0 ≤ v_x2.fPage ∧ v_x2.fPage < (64 : Int)
    · rw [if_pos h611] at h
      obtain ⟨v_y517, h612, h⟩ := bind_some h
      by_cases h613 : (eqRes .neq (v_r194.2.1 == (decide (v_y517 ≥ 0)))) = true
      · rw [if_pos h613] at h
        cases h
        exact pkk_sound TTok mix hF 1 (hs := [.c, .c, .q (eqS_area_Area v_r194.1 v_z514), .t false, .c, .c, .c, .c, .c, .l (.d (.v (.int .i64 v_y517))), .c, .c, .t true, .c]) (ts := []) (s := [0, 2]) (l := [3, 14, 15, 17, 311]) (by kernel_rfl) (by kernel_rfl) (.cons (eqS_area_Area_ok v_r194.1 v_z514) (.cons (vf h610) (.cons h611 (.cons (arr_cell (γ := FV) (sz := 1) (g := (fun x => [.d (.v (.int .i64 x))])) (pre := []) (post := []) (o := 0) (fun _ => rfl) h612 rfl) (.cons h613 .nil))))) q
      · rw [if_neg h613] at h
        cases h
        exact pkk_sound TTok mix hF 1 (hs := [.c, .c, .q (eqS_area_Area v_r194.1 v_z514), .t false, .c, .c, .c, .c, .c, .l (.d (.v (.int .i64 v_y517))), .c, .c, .t false, .c]) (ts := []) (s := [0, 2]) (l := [3, 14, 15, 17, 311]) (by kernel_rfl) (by kernel_rfl) (.cons (eqS_area_Area_ok v_r194.1 v_z514) (.cons (vf h610) (.cons h611 (.cons (arr_cell (γ := FV) (sz := 1) (g := (fun x => [.d (.v (.int .i64 x))])) (pre := []) (post := []) (o := 0) (fun _ => rfl) h612 rfl) (.cons (vf h613) .nil))))) q
    · rw [if_neg h611] at h; cases h
inductive G_ringlaw2_AreaTells_L10_R where
  | x0 (v_x526 : Bool)
  | x1 
def G_ringlaw2_AreaTells_L10_ex : G_ringlaw2_AreaTells_L10_R → Ex
  | .x0 _ => .ret
  | .x1  => .exit 8
def G_ringlaw2_AreaTells_L10_st (v_r209 : (Int × Int)) (v_x2 : S_area_Area) (v_r426 : ((Fin 64 → Int))) : G_ringlaw2_AreaTells_L10_R → PS
  | .x0 v_x526 => ⟨[dd, dd, dd, dd, .d (.v (.bool v_x526)), dd, dd, dd, dd, dd, dd, dd, dd, dd, dd, dd, dd, dd, dd, dd, dd, dd, dd, dd, dd, dd, dd, dd, dd, dd, dd, dd, dd, dd, dd, dd, dd, dd, dd, dd, dd, dd, dd, dd, dd, dd, dd, dd, dd, dd, dd, dd, dd, dd, dd, dd, dd, dd, dd, dd, dd, dd, dd, dd, dd, dd, dd, dd, dd, dd, dd, dd, dd, dd, dd, dd, dd, dd, dd, dd, dd, dd, dd, dd, dd, dd, dd, dd, dd, dd, dd, dd, dd, dd, dd, dd, dd, dd, dd, dd, dd, dd, dd, dd, dd, dd, dd, dd, dd, dd, dd, dd, dd, dd, dd, dd, dd, dd, dd, dd, dd, dd, dd, dd, dd, dd, dd, dd, dd, dd, dd, dd, dd, dd, dd, dd, dd, dd, dd, dd, dd, dd, dd, dd, dd, dd, dd, dd, dd, dd, dd, dd, dd, dd, dd, dd, dd, dd, dd, dd, dd, dd, dd, dd, dd, dd, dd, dd, dd, dd, dd, dd, dd, dd, dd, dd, dd, dd, dd, dd, dd, dd, dd, dd, dd, dd, dd, dd, dd, dd, dd, dd, dd, dd, dd, dd, dd, dd, dd, dd, dd, dd, dd, dd, dd, dd, dd, dd, dd, dd, dd, dd, dd, dd, dd, dd, dd, dd, dd, dd, dd, dd, dd, dd, dd, dd, dd, dd, dd, dd, dd, dd, dd, dd, dd, dd, dd, dd, dd, dd, dd, dd, dd, dd, dd, dd, dd, dd, dd, dd, dd, dd, dd, dd, dd, dd, dd, dd, dd, dd, dd, dd, dd, dd, dd, dd, dd, dd, dd, dd, dd, dd, dd, dd, dd, dd, dd, dd, dd, dd, dd, dd, dd, dd, dd, dd, dd, dd, dd, dd, dd, dd, dd, dd, dd, dd, dd, dd, dd, dd, dd, dd, dd, dd, dd, dd, dd, dd, dd, dd, dd, dd, dd, dd, dd, dd, dd, dd, dd, dd, dd, dd, dd, dd, dd, dd, dd, dd, dd, dd, dd, dd, dd, dd, dd, dd, dd, dd, dd, dd, dd, dd, dd, dd, dd, dd, dd, dd, dd, dd], []⟩
  | .x1  => ⟨[dd, dd, dd, dd, dd, dd, dd, dd, dd, dd, dd, dd, dd, dd, .d (.v (.int .i64 v_r209.1)), .d (.v (.int .i64 v_r209.2)), dd, dd, dd, dd, dd, dd, dd, dd, dd, dd, dd, dd, dd, dd, dd, dd, dd, dd, dd, dd, dd, dd, dd, dd, dd, dd, dd, dd, dd, dd, dd, dd, dd, dd, dd, dd, dd, dd, dd, dd, dd, dd, dd, dd, dd, dd, dd, dd, dd, dd, dd, dd, dd, dd, dd, dd, dd, dd, dd, dd, dd, dd, dd, dd, dd, dd, dd, dd, dd, dd, dd, dd, dd, dd, dd, dd, dd, dd, dd, dd, dd, dd, dd, dd, dd, dd, dd, dd, dd, dd, dd, dd, dd, dd, dd, dd, dd, dd, dd, dd, dd, dd, dd, dd, dd, dd, dd, dd, dd, dd, dd, dd, dd, dd, dd, dd, dd, dd, dd, dd, dd, dd, dd, dd, dd, dd, dd, dd, dd, dd, dd, dd, dd, dd, dd, dd, dd, dd, dd, dd, dd, dd, dd, dd, dd, dd, dd, dd, dd, dd, dd, dd, dd, dd, dd, dd, dd, dd, dd, dd, dd, dd, dd, dd, dd, dd, dd, dd, dd, dd, dd, dd, dd, dd, dd, dd, dd, dd, dd, dd, dd, dd, dd, dd, dd, dd, dd, dd, dd, dd, dd, dd, dd, dd, dd, dd, dd, dd, dd, dd, dd, dd, dd, dd, dd, dd, dd, dd, dd, dd, dd, dd, dd, dd, dd, dd, dd, dd, dd, dd, dd, dd, dd, dd, dd, dd, dd, dd, dd, dd, dd, dd, dd, dd, dd, dd, dd, dd, dd, dd, dd, dd, dd, dd, dd, dd, dd, dd, dd, dd, dd, dd, dd, dd, dd, dd, dd, dd, dd, dd, dd, dd, dd, dd, dd, dd, dd, dd, dd, dd, dd, dd, dd, dd, dd, dd, dd, dd, dd, dd, dd, dd, dd, dd, dd, dd, dd, dd, dd, dd, dd, dd, dd, dd, dd, dd, dd, dd, dd, dd, dd, dd, dd, dd, dd, dd, dd, dd, dd, dd, dd, dd, dd, dd, dd, dd, dd, dd, dd, dd, dd, dd, dd, dd, dd, dd, dd, dd, dd, dd, dd, dd, dd, dd], []⟩
def G_ringlaw2_AreaTells_L10_hd (v_r209 : (Int × Int)) (v_x2 : S_area_Area) (v_r426 : ((Fin 64 → Int))) (v_first523 : Int) : PS := ⟨[dd, dd, dd, .ref 0 0, dd, dd, dd, dd, dd, dd, dd, dd, dd, dd, .d (.v (.int .i64 v_r209.1)), .d (.v (.int .i64 v_r209.2)), dd, .ref 1 0, dd, dd, dd, dd, dd, dd, dd, dd, dd, dd, dd, dd, dd, .d (.v (.int .i64 v_first523)), dd, dd, dd, dd, dd, dd, dd, dd, dd, dd, dd, dd, dd, dd, dd, dd, dd, dd, dd, dd, dd, dd, dd, dd, dd, dd, dd, dd, dd, dd, dd, dd, dd, dd, dd, dd, dd, dd, dd, dd, dd, dd, dd, dd, dd, dd, dd, dd, dd, dd, dd, dd, dd, dd, dd, dd, dd, dd, dd, dd, dd, dd, dd, dd, dd, dd, dd, dd, dd, dd, dd, dd, dd, dd, dd, dd, dd, dd, dd, dd, dd, dd, dd, dd, dd, dd, dd, dd, dd, dd, dd, dd, dd, dd, dd, dd, dd, dd, dd, dd, dd, dd, dd, dd, dd, dd, dd, dd, dd, dd, dd, dd, dd, dd, dd, dd, dd, dd, dd, dd, dd, dd, dd, dd, dd, dd, dd, dd, dd, dd, dd, dd, dd, dd, dd, dd, dd, dd, dd, dd, dd, dd, dd, dd, dd, dd, dd, dd, dd, dd, dd, dd, dd, dd, dd, dd, dd, dd, dd, dd, dd, dd, dd, dd, dd, dd, dd, dd, dd, dd, dd, dd, dd, dd, dd, dd, dd, dd, dd, dd, dd, dd, dd, dd, dd, dd, dd, dd, dd, dd, dd, dd, dd, dd, dd, dd, dd, dd, dd, dd, dd, dd, dd, dd, dd, dd, dd, dd, dd, dd, dd, dd, dd, dd, dd, dd, dd, dd, dd, dd, dd, dd, dd, dd, dd, dd, dd, dd, dd, dd, dd, dd, dd, dd, dd, dd, dd, dd, dd, dd, dd, dd, dd, dd, dd, dd, dd, dd, dd, dd, dd, dd, dd, dd, dd, dd, dd, dd, dd, dd, dd, dd, dd, dd, dd, dd, dd, dd, dd, dd, dd, dd, dd, dd, dd, dd, dd, dd, dd, dd, dd, dd, dd, dd, dd, dd, dd, dd, dd, dd, dd, dd, dd, dd, dd, dd, dd, dd, dd, dd, dd, dd, dd, dd, dd, dd, dd, dd, dd, dd, dd, dd, dd, dd, dd, dd, dd, dd], [.box [.d (.v (.int .i64 v_x2.fPage)), .d (.v (.int .i64 v_x2.fN)), .d (.v (.int .i64 v_x2.fRights))], .box ((cA_t119 v_r426).map FV.d)]⟩
def G_ringlaw2_AreaTells_L10 (n : Nat) (v_r209 : (Int × Int)) (v_x2 : S_area_Area) (v_r426 : ((Fin 64 → Int))) : Nat → Int → Option G_ringlaw2_AreaTells_L10_R
  | 0, _ => none
  | k + 1, v_first523 =>
    if (wi .i64 (v_first523 + v_x2.fN)) ≤ 64 then
     if 0 ≤ v_first523 ∧ v_first523 ≤ (wi .i64 (v_first523 + v_x2.fN)) ∧ (wi .i64 (v_first523 + v_x2.fN)) ≤ (64 : Int) ∧ v_first523 < (64 : Int) then
      (G_slices_ContainsFunc_int_int n (((List.ofFn v_r426).drop v_first523.toNat).take ((wi .i64 (v_first523 + v_x2.fN)).toNat - v_first523.toNat)) (fun (y0 : Int) => G_ringlaw2_AreaTells_1 n y0)).bind fun (v_r525 : (Bool)) =>
      if v_r525 = true then
       G_ringlaw2_AreaTells_L10 n v_r209 v_x2 v_r426 k (wi .i64 (v_first523 + 1))
      else
       if v_r209.1 = v_first523 then
        some (.x0 (v_r209.2 == 0))
       else
        some (.x0 false)
     else none
    else
     some (.x1 )

end Go.Proofs.Ytnmpnljjaoddhaa.pv
