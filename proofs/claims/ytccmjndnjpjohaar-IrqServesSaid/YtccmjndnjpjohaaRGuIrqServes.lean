/- What the functions compute, as functions over plain data, with their contracts: written by gen.py. -/
import Derived.Test.YtccmjndnjpjohaaRProg
import Derived.Test.YtccmjndnjpjohaaRQr
set_option maxRecDepth 100000
set_option linter.all false
namespace Go.Proofs.YtccmjndnjpjohaaR.pv
open Go.RowKit
def TT : List TI := [
⟨1, 0, .oth, []⟩,
⟨1, 8, .oth, [.nf]⟩,
⟨1, 8, .int .i64, [.i .i64]⟩,
⟨1, 8, .int .i64, [.i .i64]⟩,
⟨1, 1, .bool, [.b]⟩,
⟨1, 1, .int .u8, [.i .u8]⟩,
⟨1, 1, .int .u8, [.i .u8]⟩,
⟨4, 24, .st [(0, 2), (1, 3), (2, 4), (3, 6)], [.i .i64, .i .i64, .b, .i .u8]⟩,
⟨4, 24, .st [(0, 2), (1, 3), (2, 4), (3, 6)], [.i .i64, .i .i64, .b, .i .u8]⟩,
⟨1, 16, .str, [.s]⟩,
⟨1, 16, .str, [.s]⟩,
⟨1, 16, .str, [.s]⟩,
⟨1, 8, .int .u64, [.i .u64]⟩,
⟨2, 24, .st [(0, 9), (1, 12)], [.s, .i .u64]⟩,
⟨2, 24, .st [(0, 9), (1, 12)], [.s, .i .u64]⟩,
⟨1, 8, .oth, [.np]⟩,
⟨1, 8, .oth, [.np]⟩,
⟨1, 8, .oth, [.np]⟩,
⟨1, 8, .st [(0, 17)], [.np]⟩,
⟨1, 8, .st [(0, 17)], [.np]⟩,
⟨1, 16, .oth, [.ni]⟩,
⟨1, 4, .int .i32, [.i .i32]⟩,
⟨4, 32, .st [(0, 3), (1, 3), (2, 3), (3, 3)], [.i .i64, .i .i64, .i .i64, .i .i64]⟩,
⟨4, 32, .st [(0, 3), (1, 3), (2, 3), (3, 3)], [.i .i64, .i .i64, .i .i64, .i .i64]⟩,
⟨1, 8, .int .i64, [.i .i64]⟩,
⟨1, 0, .oth, []⟩,
⟨1, 8, .oth, [.nf]⟩,
⟨1, 0, .oth, []⟩,
⟨1, 8, .oth, [.nf]⟩,
⟨1, 0, .oth, []⟩,
⟨1, 8, .oth, [.nf]⟩,
⟨1, 8, .oth, [.nf]⟩,
⟨1, 8, .oth, [.nf]⟩,
⟨4, 4, .st [(0, 4), (1, 4), (2, 4), (3, 4)], [.b, .b, .b, .b]⟩,
⟨4, 4, .st [(0, 4), (1, 4), (2, 4), (3, 4)], [.b, .b, .b, .b]⟩,
⟨32, 32, .arr 8 34, List.replicate 32 (.b)⟩,
⟨1, 8, .oth, [.nf]⟩,
⟨1, 8, .oth, [.nf]⟩,
⟨1, 24, .sl 34, [.sl]⟩,
⟨1, 8, .oth, [.nf]⟩,
⟨1, 8, .oth, [.nf]⟩,
⟨1, 8, .oth, [.nf]⟩,
⟨1, 24, .sl 3, [.sl]⟩,
⟨1, 8, .oth, [.nf]⟩,
⟨1, 8, .oth, [.nf]⟩,
⟨1, 8, .oth, [.nf]⟩,
⟨1, 8, .oth, [.nf]⟩,
⟨1, 8, .oth, [.nf]⟩,
⟨1, 24, .sl 64, [.sl]⟩,
⟨16, 16, .arr 16 5, List.replicate 16 (.i .u8)⟩,
⟨1, 0, .oth, []⟩,
⟨1, 8, .oth, [.nf]⟩,
⟨1, 0, .oth, []⟩,
⟨1, 8, .oth, [.nf]⟩,
⟨1, 0, .oth, []⟩,
⟨1, 8, .oth, [.nf]⟩,
⟨1, 0, .oth, []⟩,
⟨1, 8, .oth, [.nf]⟩,
⟨1, 0, .oth, []⟩,
⟨1, 8, .oth, [.nf]⟩,
⟨1, 8, .oth, [.nf]⟩,
⟨1, 8, .oth, [.nf]⟩,
⟨1, 8, .oth, [.nf]⟩,
⟨17, 24, .st [(0, 3), (1, 49)], List.replicate 1 (.i .i64) ++ List.replicate 16 (.i .u8)⟩,
⟨17, 24, .st [(0, 3), (1, 49)], List.replicate 1 (.i .i64) ++ List.replicate 16 (.i .u8)⟩,
⟨1, 8, .oth, [.nf]⟩,
⟨1, 8, .oth, [.nf]⟩,
⟨1, 24, .sl 79, [.sl]⟩,
⟨1, 24, .sl 70, [.sl]⟩,
⟨1, 24, .sl 71, [.sl]⟩,
⟨1, 24, .sl 73, [.sl]⟩,
⟨1, 24, .sl 74, [.sl]⟩,
⟨3, 24, .st [(0, 3), (1, 3), (2, 3)], [.i .i64, .i .i64, .i .i64]⟩,
⟨3, 24, .st [(0, 3), (1, 3), (2, 3)], [.i .i64, .i .i64, .i .i64]⟩,
⟨3, 24, .st [(0, 3), (1, 3), (2, 3)], [.i .i64, .i .i64, .i .i64]⟩,
⟨1, 0, .oth, []⟩,
⟨1, 8, .oth, [.nf]⟩,
⟨1, 8, .oth, [.nf]⟩,
⟨1, 8, .oth, [.nf]⟩,
⟨1, 4, .int .u32, [.i .u32]⟩,
⟨1, 8, .oth, [.nf]⟩,
⟨1, 24, .sl 91, [.sl]⟩,
⟨1, 0, .oth, []⟩,
⟨1, 8, .oth, [.nf]⟩,
⟨1, 8, .oth, [.nf]⟩,
⟨1, 0, .oth, []⟩,
⟨1, 8, .oth, [.nf]⟩,
⟨1, 0, .oth, []⟩,
⟨1, 8, .oth, [.nf]⟩,
⟨1, 8, .oth, [.nf]⟩,
⟨3, 24, .st [(0, 3), (1, 3), (2, 3)], [.i .i64, .i .i64, .i .i64]⟩,
⟨3, 24, .st [(0, 3), (1, 3), (2, 3)], [.i .i64, .i .i64, .i .i64]⟩,
⟨1, 8, .oth, [.nf]⟩,
⟨1, 8, .oth, [.nf]⟩,
⟨1, 8, .oth, [.nf]⟩,
⟨1, 8, .oth, [.nf]⟩,
⟨7, 32, .st [(0, 4), (1, 4), (2, 3), (3, 3), (4, 4), (5, 4), (6, 4)], [.b, .b, .i .i64, .i .i64, .b, .b, .b]⟩,
⟨7, 32, .st [(0, 4), (1, 4), (2, 3), (3, 3), (4, 4), (5, 4), (6, 4)], [.b, .b, .i .i64, .i .i64, .b, .b, .b]⟩,
⟨10, 56, .st [(0, 3), (1, 97), (8, 3), (9, 3)], [.i .i64, .b, .b, .i .i64, .i .i64, .b, .b, .b, .i .i64, .i .i64]⟩,
⟨10, 56, .st [(0, 3), (1, 97), (8, 3), (9, 3)], [.i .i64, .b, .b, .i .i64, .i .i64, .b, .b, .b, .i .i64, .i .i64]⟩,
⟨1, 8, .oth, [.nf]⟩,
⟨1, 0, .oth, []⟩,
⟨1, 8, .oth, [.nf]⟩,
⟨1, 0, .oth, []⟩,
⟨1, 8, .oth, [.nf]⟩,
⟨1, 8, .oth, [.nf]⟩,
⟨1, 8, .oth, [.nf]⟩,
⟨1, 8, .oth, [.nf]⟩,
⟨1, 8, .oth, [.nf]⟩,
⟨1, 8, .oth, [.nf]⟩,
⟨1, 8, .oth, [.nf]⟩,
⟨1, 8, .oth, [.nf]⟩,
⟨1, 8, .oth, [.nf]⟩,
⟨1, 8, .oth, [.nf]⟩,
⟨1, 8, .oth, [.nf]⟩,
⟨1, 8, .oth, [.nf]⟩,
⟨1, 24, .sl 122, [.sl]⟩,
⟨1, 0, .oth, []⟩,
⟨1, 8, .oth, [.nf]⟩,
⟨1, 8, .oth, [.nf]⟩,
⟨1, 24, .sl 123, [.sl]⟩,
⟨3, 24, .st [(0, 3), (1, 3), (2, 3)], [.i .i64, .i .i64, .i .i64]⟩,
⟨3, 24, .st [(0, 3), (1, 3), (2, 3)], [.i .i64, .i .i64, .i .i64]⟩,
⟨3, 24, .arr 3 3, [.i .i64, .i .i64, .i .i64]⟩,
⟨1, 8, .oth, [.nf]⟩,
⟨1, 8, .oth, [.nf]⟩,
⟨1, 8, .oth, [.nf]⟩,
⟨1, 8, .oth, [.nf]⟩,
⟨1, 8, .oth, [.nf]⟩,
⟨1, 8, .oth, [.nf]⟩,
⟨1, 8, .oth, [.nf]⟩,
⟨6, 48, .st [(0, 3), (1, 3), (2, 3), (3, 3), (4, 3), (5, 3)], [.i .i64, .i .i64, .i .i64, .i .i64, .i .i64, .i .i64]⟩,
⟨6, 48, .st [(0, 3), (1, 3), (2, 3), (3, 3), (4, 3), (5, 3)], [.i .i64, .i .i64, .i .i64, .i .i64, .i .i64, .i .i64]⟩,
⟨1, 24, .sl 140, [.sl]⟩,
⟨6, 64, .st [(0, 3), (1, 3), (2, 42), (3, 3), (4, 3), (5, 3)], [.i .i64, .i .i64, .sl, .i .i64, .i .i64, .i .i64]⟩,
⟨6, 64, .st [(0, 3), (1, 3), (2, 42), (3, 3), (4, 3), (5, 3)], [.i .i64, .i .i64, .sl, .i .i64, .i .i64, .i .i64]⟩,
⟨1, 0, .oth, []⟩,
⟨1, 8, .oth, [.nf]⟩,
⟨1, 8, .oth, [.nf]⟩,
⟨3, 24, .st [(0, 4), (1, 3), (2, 3)], [.b, .i .i64, .i .i64]⟩,
⟨3, 24, .st [(0, 4), (1, 3), (2, 3)], [.b, .i .i64, .i .i64]⟩,
⟨1, 8, .oth, [.nf]⟩,
⟨1, 8, .oth, [.nf]⟩,
⟨1, 8, .oth, [.nf]⟩,
⟨1, 24, .sl 4, [.sl]⟩,
⟨1, 8, .oth, [.nf]⟩,
⟨1, 8, .oth, [.nf]⟩,
⟨1, 0, .oth, []⟩,
⟨1, 8, .oth, [.nf]⟩,
⟨1, 8, .oth, [.nf]⟩,
⟨1, 8, .oth, [.nf]⟩,
⟨1, 8, .oth, [.nf]⟩,
⟨1, 8, .oth, [.nf]⟩,
⟨1, 8, .oth, [.nf]⟩,
⟨1, 8, .oth, [.nf]⟩,
⟨1, 8, .oth, [.nf]⟩,
⟨1, 8, .oth, [.nf]⟩,
⟨1, 8, .oth, [.nf]⟩,
⟨1, 8, .oth, [.nf]⟩,
⟨1, 8, .oth, [.nf]⟩,
⟨1, 8, .oth, [.nf]⟩,
⟨1, 8, .oth, [.nf]⟩,
⟨1, 8, .oth, [.np]⟩,
⟨1, 8, .oth, [.nf]⟩,
⟨1, 8, .oth, [.nf]⟩,
⟨1, 8, .oth, [.nf]⟩,
⟨1, 8, .oth, [.nf]⟩,
⟨1, 8, .oth, [.nf]⟩,
⟨1, 8, .oth, [.np]⟩,
⟨1, 8, .oth, [.nf]⟩,
⟨1, 8, .oth, [.nf]⟩,
⟨7, 7, .arr 7 4, [.b, .b, .b, .b, .b, .b, .b]⟩,
⟨1, 8, .oth, [.nf]⟩,
⟨1, 8, .oth, [.nf]⟩,
⟨4, 32, .arr 4 3, [.i .i64, .i .i64, .i .i64, .i .i64]⟩,
⟨1, 8, .oth, [.nf]⟩,
⟨1, 8, .oth, [.nf]⟩,
⟨1, 8, .oth, [.nf]⟩,
⟨1, 8, .oth, [.nf]⟩,
⟨1, 8, .oth, [.nf]⟩,
⟨1, 8, .oth, [.nf]⟩,
⟨1, 8, .oth, [.nf]⟩,
⟨1, 24, .sl 42, [.sl]⟩,
⟨1, 8, .oth, [.nf]⟩,
⟨1, 8, .oth, [.nf]⟩,
⟨1, 8, .oth, [.nf]⟩,
⟨1, 8, .oth, [.nf]⟩,
⟨1, 8, .oth, [.nm]⟩,
⟨1, 8, .oth, [.nf]⟩,
⟨1, 8, .int .u64, [.i .u64]⟩,
⟨1, 8, .oth, [.nf]⟩,
⟨4, 40, .st [(0, 17), (1, 17), (2, 17), (3, 9)], [.np, .np, .np, .s]⟩,
⟨4, 40, .st [(0, 17), (1, 17), (2, 17), (3, 9)], [.np, .np, .np, .s]⟩,
⟨0, 0, .arr 0 16, []⟩,
⟨0, 0, .st [(0, 193)], []⟩,
⟨0, 0, .st [(0, 193)], []⟩,
⟨1, 8, .oth, [.nf]⟩,
⟨1, 1, .int .u8, [.i .u8]⟩,
⟨1, 1, .int .u8, [.i .u8]⟩,
⟨1, 8, .oth, [.nf]⟩,
⟨1, 8, .oth, [.np]⟩,
⟨1, 4, .int .i32, [.i .i32]⟩,
⟨1, 4, .int .i32, [.i .i32]⟩,
⟨11, 48, .st [(0, 12), (1, 12), (2, 79), (3, 197), (4, 5), (5, 5), (6, 198), (7, 199), (8, 200), (9, 201), (10, 202)], [.i .u64, .i .u64, .i .u32, .i .u8, .i .u8, .i .u8, .i .u8, .nf, .np, .i .i32, .i .i32]⟩,
⟨11, 48, .st [(0, 12), (1, 12), (2, 79), (3, 197), (4, 5), (5, 5), (6, 198), (7, 199), (8, 200), (9, 201), (10, 202)], [.i .u64, .i .u64, .i .u32, .i .u8, .i .u8, .i .u8, .i .u8, .nf, .np, .i .i32, .i .i32]⟩,
⟨1, 8, .oth, [.np]⟩]
theorem TTok : TOk Try.prog TT := by unfold TOk; kernel_rfl
theorem mix : Try.prog.follows .mixedOrders = true := by kernel_rfl
structure S_irq_Lines where
  fEdge : Int
  fUp : Int
  fMasked : Int
  fPending : Int
def eS_irq_Lines (x : S_irq_Lines) : PV := .agg [.v (.int .i64 x.fEdge), .v (.int .i64 x.fUp), .v (.int .i64 x.fMasked), .v (.int .i64 x.fPending)]

inductive G_irq_Check_L1_R where
  | x0 (v_x36 : Int)
  | x1 
def G_irq_Check_L1_ex : G_irq_Check_L1_R → Ex
  | .x0 _ => .ret
  | .x1  => .exit 0
def G_irq_Check_L1_st (v_l32 : S_irq_Lines) : G_irq_Check_L1_R → PS
  | .x0 v_x36 => ⟨[dd, dd, .d (.v (.int .i64 v_x36)), dd, dd, dd, dd, dd, dd, dd, dd, dd, dd, dd, dd, dd, dd, dd, dd, dd, dd, dd, dd, dd, dd, dd, dd, dd, dd, dd, dd, dd], []⟩
  | .x1  => ⟨[dd, .ref 0 0, dd, dd, dd, dd, dd, dd, dd, dd, dd, dd, dd, dd, dd, dd, dd, dd, dd, dd, dd, dd, dd, dd, dd, dd, dd, dd, dd, dd, dd, dd], [.box [.d (.v (.int .i64 v_l32.fEdge)), .d (.v (.int .i64 v_l32.fUp)), .d (.v (.int .i64 v_l32.fMasked)), .d (.v (.int .i64 v_l32.fPending))]]⟩
def G_irq_Check_L1_hd (v_l32 : S_irq_Lines) (v_x33 : Int) : PS := ⟨[dd, .ref 0 0, dd, dd, dd, dd, dd, dd, dd, dd, dd, dd, dd, .d (.sl (([v_l32.fEdge, v_l32.fUp, v_l32.fMasked, v_l32.fPending]).map (eI .i64))), .d (.v (.int .i64 (([v_l32.fEdge, v_l32.fUp, v_l32.fMasked, v_l32.fPending]).length : Int))), .d (.v (.int .i64 v_x33)), dd, dd, dd, dd, dd, dd, dd, dd, dd, dd, dd, dd, dd, dd, dd, dd], [.box [.d (.v (.int .i64 v_l32.fEdge)), .d (.v (.int .i64 v_l32.fUp)), .d (.v (.int .i64 v_l32.fMasked)), .d (.v (.int .i64 v_l32.fPending))]]⟩
def G_irq_Check_L1 (n : Nat) (v_l32 : S_irq_Lines) : Nat → Int → Option G_irq_Check_L1_R
  | 0, _ => none
  | k + 1, v_x33 =>
    if v_x33 < (([v_l32.fEdge, v_l32.fUp, v_l32.fMasked, v_l32.fPending]).length : Int) then
     (getI ([v_l32.fEdge, v_l32.fUp, v_l32.fMasked, v_l32.fPending]) v_x33).bind fun (v_y35 : Int) =>
     if v_y35 < 0 then
      some (.x0 1)
     else
      if v_y35 > 255 then
       some (.x0 1)
      else
       G_irq_Check_L1 n v_l32 k (wi .i64 (v_x33 + 1))
    else
     some (.x1 )
theorem G_irq_Check_L1_ok {Fi : Ex → PS → Prop} (hF : KC 32 Fi) (ks : List Fr) (n : Nat) (v_l32 : S_irq_Lines)  : ∀ (k : Nat) (v_x33 : Int) (o : G_irq_Check_L1_R), G_irq_Check_L1 n v_l32 k v_x33 = some o → RunE Try.prog 32 Fi ks (G_irq_Check_L1_ex o) (G_irq_Check_L1_st v_l32 o) → RunE Try.prog 32 Fi (.l k (cP (cB (cR (cL (cR (bodyOf Try.f18)))))) :: ks) .normal (G_irq_Check_L1_hd v_l32 v_x33)
  | 0, v_x33, o, h, q => by rw [G_irq_Check_L1] at h; cases h
  | k + 1, v_x33, o, h, q => by
    rw [G_irq_Check_L1] at h
    by_cases h25 : v_x33 < (([v_l32.fEdge, v_l32.fUp, v_l32.fMasked, v_l32.fPending]).length : Int)
    · rw [if_pos h25] at h
      obtain ⟨v_y35, h29, h⟩ := bind_some h
      by_cases h30 : v_y35 < 0
      · rw [if_pos h30] at h
        cases h
        exact pkk_sound TTok mix hF 19 (hs := [.t true, .y ((eI .i64) v_y35), .c, .t true, .c, .c]) (ts := []) (s := []) (l := [2]) (by kernel_rfl) (by kernel_rfl) (.cons (dt h25) (.cons (getI_ob (f := (eI .i64)) h29) (.cons (dt h30) .nil))) q
      · rw [if_neg h30] at h
        by_cases h31 : v_y35 > 255
        · rw [if_pos h31] at h
          cases h
          exact pkk_sound TTok mix hF 19 (hs := [.t true, .y ((eI .i64) v_y35), .c, .t false, .c, .t true]) (ts := []) (s := []) (l := [2]) (by kernel_rfl) (by kernel_rfl) (.cons (dt h25) (.cons (getI_ob (f := (eI .i64)) h29) (.cons (df h30) (.cons (dt h31) .nil)))) q
        · rw [if_neg h31] at h
          exact pkk_sound TTok mix hF 16 (hs := [.t true, .y ((eI .i64) v_y35), .c, .t false, .c, .t false]) (ts := []) (s := [0]) (l := [1, 13, 14, 15]) (by kernel_rfl) (by kernel_rfl) (.cons (dt h25) (.cons (getI_ob (f := (eI .i64)) h29) (.cons (df h30) (.cons (df h31) .nil)))) (G_irq_Check_L1_ok hF ks n v_l32 k (wi .i64 (v_x33 + 1)) _ h q)
    · rw [if_neg h25] at h
      cases h
      exact pkk_sound TTok mix hF 8 (hs := [.t false]) (ts := []) (s := [0]) (l := [1]) (by kernel_rfl) (by kernel_rfl) (.cons (df h25) .nil) q
/- ringhall/irq.Check -/
def G_irq_Check (n : Nat) (v_l32 : S_irq_Lines) : Option (Int) :=
  (G_irq_Check_L1 n v_l32 n 0).bind fun v_o38 => match v_o38 with
  | .x0 v_z39 =>
    some v_z39
  | .x1  =>
    if (bits .andNot .i64 v_l32.fPending v_l32.fEdge) = 0 then
     some 0
    else
     some 3
theorem G_irq_Check_ok (n : Nat) (v_l32 : S_irq_Lines) (r : Int) (h : G_irq_Check n v_l32 = some r) : Ret Try.prog 18 [eS_irq_Lines v_l32] ((eI .i64) r) := by
  refine ret_run (n := 32) (fn := Try.f18) (c := bodyOf Try.f18) (by kernel_rfl) (by kernel_rfl) (by kernel_rfl) (by kernel_rfl) ?_
  have hF : KC 32 (FinR Try.prog Try.f18 ((eI .i64) r)) := FinR.kc' (by kernel_rfl)
  unfold G_irq_Check at h
  obtain ⟨v_o38, h32, h⟩ := bind_some h
  refine pkk_sound TTok mix hF 7 (hs := [.c, .c, .c, .c, .q true, .u (.d (.v (.int .i64 (([v_l32.fEdge, v_l32.fUp, v_l32.fMasked, v_l32.fPending]).length : Int)))), .n n]) (ts := []) (s := [0]) (l := [1, 13, 14, 15]) (by kernel_rfl) (by kernel_rfl) (.cons (len_ob (f := (eI .i64)) (l := [v_l32.fEdge, v_l32.fUp, v_l32.fMasked, v_l32.fPending])) .nil) (G_irq_Check_L1_ok hF (.b 0 :: .s (cR (cR (bodyOf Try.f18))) :: []) n v_l32 n 0 _ h32 ?_)
  cases v_o38 with
  | x0 v_z39 =>
    dsimp only at h
    obtain rfl := Option.some.inj h
    exact pend_sound TTok mix 2 (hs := []) (by kernel_rfl) (by kernel_rfl) (by kernel_rfl) .nil
  | x1  =>
    dsimp only at h
    by_cases h33 : (bits .andNot .i64 v_l32.fPending v_l32.fEdge) = 0
    · rw [if_pos h33] at h
      obtain rfl := Option.some.inj h
      exact pend_sound TTok mix 9 (hs := [.c, .c, .t false]) (by kernel_rfl) (by kernel_rfl) (by kernel_rfl) (.cons (nf h33) .nil)
    · rw [if_neg h33] at h
      obtain rfl := Option.some.inj h
      exact pend_sound TTok mix 9 (hs := [.c, .c, .t true]) (by kernel_rfl) (by kernel_rfl) (by kernel_rfl) (.cons (nt h33) .nil)
/- ringhall/irq.line -/
def G_irq_line (n : Nat) (v_l30 : S_irq_Lines) (v_k31 : Int) : Option (Int × Int) :=
  (G_irq_Check n v_l30).bind fun (v_r40 : (Int)) =>
  if v_r40 = 0 then
   if v_k31 < 0 then
    some (0, 1)
   else
    if v_k31 ≥ 8 then
     some (0, 1)
    else
     if 0 ≤ v_k31 then
      some ((shlI .i64 1 v_k31), 0)
     else none
  else
   some (0, v_r40)
theorem G_irq_line_ok (n : Nat) (v_l30 : S_irq_Lines) (v_k31 : Int) (r : Int × Int) (h : G_irq_line n v_l30 v_k31 = some r) : Ret Try.prog 88 [eS_irq_Lines v_l30, (eI .i64) v_k31] (.tup [(eI .i64) r.1, (eI .i64) r.2]) := by
  refine ret_run (n := 20) (fn := Try.f88) (c := bodyOf Try.f88) (by kernel_rfl) (by kernel_rfl) (by kernel_rfl) (by kernel_rfl) ?_
  have hF : KC 20 (FinR Try.prog Try.f88 (.tup [(eI .i64) r.1, (eI .i64) r.2])) := FinR.kc' (by kernel_rfl)
  unfold G_irq_line at h
  obtain ⟨v_r40, h34, h⟩ := bind_some h
  by_cases h36 : v_r40 = 0
  · rw [if_pos h36] at h
    by_cases h37 : v_k31 < 0
    · rw [if_pos h37] at h
      obtain rfl := Option.some.inj h
      exact pend_sound TTok mix 17 (hs := [.c, .r ((eI .i64) v_r40), .t false, .t true, .c, .c]) (by kernel_rfl) (by kernel_rfl) (by kernel_rfl) (.cons (G_irq_Check_ok n v_l30 _ h34) (.cons (nf h36) (.cons (dt h37) .nil)))
    · rw [if_neg h37] at h
      by_cases h38 : v_k31 ≥ 8
      · rw [if_pos h38] at h
        obtain rfl := Option.some.inj h
        exact pend_sound TTok mix 17 (hs := [.c, .r ((eI .i64) v_r40), .t false, .t false, .c, .t true]) (by kernel_rfl) (by kernel_rfl) (by kernel_rfl) (.cons (G_irq_Check_ok n v_l30 _ h34) (.cons (nf h36) (.cons (df h37) (.cons (dt h38) .nil))))
      · rw [if_neg h38] at h
        by_cases h39 : 0 ≤ v_k31
        · rw [if_pos h39] at h
          obtain rfl := Option.some.inj h
          exact pend_sound TTok mix 17 (hs := [.c, .r ((eI .i64) v_r40), .t false, .t false, .c, .t false]) (by kernel_rfl) (by kernel_rfl) (by kernel_rfl) (.cons (G_irq_Check_ok n v_l30 _ h34) (.cons (nf h36) (.cons (df h37) (.cons (df h38) (.cons h39 .nil)))))
        · rw [if_neg h39] at h; cases h
  · rw [if_neg h36] at h
    obtain rfl := Option.some.inj h
    exact pend_sound TTok mix 12 (hs := [.c, .r ((eI .i64) v_r40), .t true]) (by kernel_rfl) (by kernel_rfl) (by kernel_rfl) (.cons (G_irq_Check_ok n v_l30 _ h34) (.cons (nt h36) .nil))
/- ringhall/irq.Set -/
def G_irq_Set (n : Nat) (v_l27 : S_irq_Lines) (v_k28 : Int) (v_up29 : Bool) : Option (S_irq_Lines × Int) :=
  (G_irq_line n v_l27 v_k28).bind fun (v_r41 : (Int × Int)) =>
  if v_r41.2 = 0 then
   if v_up29 = true then
    some ((S_irq_Lines.mk v_l27.fEdge (bits .or .i64 v_l27.fUp v_r41.1) v_l27.fMasked (bits .or .i64 v_l27.fPending (bits .andNot .i64 (bits .and .i64 v_r41.1 v_l27.fEdge) v_l27.fUp))), 0)
   else
    some ((S_irq_Lines.mk v_l27.fEdge (bits .andNot .i64 v_l27.fUp v_r41.1) v_l27.fMasked v_l27.fPending), 0)
  else
   some ((S_irq_Lines.mk 0 0 0 0), v_r41.2)
theorem G_irq_Set_ok (n : Nat) (v_l27 : S_irq_Lines) (v_k28 : Int) (v_up29 : Bool) (r : S_irq_Lines × Int) (h : G_irq_Set n v_l27 v_k28 v_up29 = some r) : Ret Try.prog 13 [eS_irq_Lines v_l27, (eI .i64) v_k28, eB v_up29] (.tup [eS_irq_Lines r.1, (eI .i64) r.2]) := by
  refine ret_run (n := 43) (fn := Try.f13) (c := bodyOf Try.f13) (by kernel_rfl) (by kernel_rfl) (by kernel_rfl) (by kernel_rfl) ?_
  have hF : KC 43 (FinR Try.prog Try.f13 (.tup [eS_irq_Lines r.1, (eI .i64) r.2])) := FinR.kc' (by kernel_rfl)
  unfold G_irq_Set at h
  obtain ⟨v_r41, h40, h⟩ := bind_some h
  by_cases h42 : v_r41.2 = 0
  · rw [if_pos h42] at h
    by_cases h44 : v_up29 = true
    · rw [if_pos h44] at h
      obtain rfl := Option.some.inj h
      exact pend_sound TTok mix 19 (hs := [.c, .r (.tup [(eI .i64) v_r41.1, (eI .i64) v_r41.2]), .t false, .t true, .c, .c, .c, .c, .c, .c, .c, .c]) (by kernel_rfl) (by kernel_rfl) (by kernel_rfl) (.cons (G_irq_line_ok n v_l27 v_k28 _ h40) (.cons (nf h42) (.cons h44 (.cons (show 3 + 1 ≤ 4 by decide) (.cons (show 1 + 1 ≤ 4 by decide) (.cons (show 0 + 4 ≤ 4 by decide) .nil))))))
    · rw [if_neg h44] at h
      obtain rfl := Option.some.inj h
      exact pend_sound TTok mix 17 (hs := [.c, .r (.tup [(eI .i64) v_r41.1, (eI .i64) v_r41.2]), .t false, .t false, .c, .c, .c, .c]) (by kernel_rfl) (by kernel_rfl) (by kernel_rfl) (.cons (G_irq_line_ok n v_l27 v_k28 _ h40) (.cons (nf h42) (.cons (vf h44) (.cons (show 1 + 1 ≤ 4 by decide) (.cons (show 0 + 4 ≤ 4 by decide) .nil)))))
  · rw [if_neg h42] at h
    obtain rfl := Option.some.inj h
    exact pend_sound TTok mix 12 (hs := [.c, .r (.tup [(eI .i64) v_r41.1, (eI .i64) v_r41.2]), .t true, .c]) (by kernel_rfl) (by kernel_rfl) (by kernel_rfl) (.cons (G_irq_line_ok n v_l27 v_k28 _ h40) (.cons (nt h42) (.cons (show 0 + 4 ≤ 4 by decide) .nil)))
inductive G_irq_Next_L1_R where
  | x0 (v_x53 : Int) (v_x54 : Int)
  | x1 
def G_irq_Next_L1_ex : G_irq_Next_L1_R → Ex
  | .x0 _ _ => .ret
  | .x1  => .exit 0
def G_irq_Next_L1_st (v_l50 : S_irq_Lines) : G_irq_Next_L1_R → PS
  | .x0 v_x53 v_x54 => ⟨[dd, dd, .d (.v (.int .i64 v_x53)), .d (.v (.int .i64 v_x54)), dd, dd, dd, dd, dd, dd, dd, dd, dd, dd, dd, dd, dd, dd, dd, dd, dd, dd, dd, dd, dd, dd, dd, dd, dd, dd, dd, dd, dd], []⟩
  | .x1  => ⟨[dd, dd, dd, dd, dd, dd, dd, dd, dd, dd, dd, dd, dd, dd, dd, dd, dd, dd, dd, dd, dd, dd, dd, dd, dd, dd, dd, dd, dd, dd, dd, dd, dd], []⟩
def G_irq_Next_L1_hd (v_l50 : S_irq_Lines) (v_x52 : Int) : PS := ⟨[dd, dd, dd, dd, dd, .d (.v (.int .i64 (bits .andNot .i64 (bits .or .i64 v_l50.fPending (bits .andNot .i64 v_l50.fUp v_l50.fEdge)) v_l50.fMasked))), dd, dd, dd, dd, dd, dd, dd, dd, dd, dd, dd, dd, dd, dd, dd, dd, dd, .d (.v (.int .i64 v_x52)), dd, dd, dd, dd, dd, dd, dd, dd, dd], []⟩
def G_irq_Next_L1 (n : Nat) (v_l50 : S_irq_Lines) : Nat → Int → Option G_irq_Next_L1_R
  | 0, _ => none
  | k + 1, v_x52 =>
    if v_x52 < 8 then
     if 0 ≤ v_x52 then
      if (bits .and .i64 (shrI .i64 (bits .andNot .i64 (bits .or .i64 v_l50.fPending (bits .andNot .i64 v_l50.fUp v_l50.fEdge)) v_l50.fMasked) v_x52) 1) = 1 then
       some (.x0 v_x52 0)
      else
       G_irq_Next_L1 n v_l50 k (wi .i64 (v_x52 + 1))
     else none
    else
     some (.x1 )
theorem G_irq_Next_L1_ok {Fi : Ex → PS → Prop} (hF : KC 33 Fi) (ks : List Fr) (n : Nat) (v_l50 : S_irq_Lines)  : ∀ (k : Nat) (v_x52 : Int) (o : G_irq_Next_L1_R), G_irq_Next_L1 n v_l50 k v_x52 = some o → RunE Try.prog 33 Fi ks (G_irq_Next_L1_ex o) (G_irq_Next_L1_st v_l50 o) → RunE Try.prog 33 Fi (.l k (cP (cB (cR (cL (cR (cR (cR (bodyOf Try.f15)))))))) :: ks) .normal (G_irq_Next_L1_hd v_l50 v_x52)
  | 0, v_x52, o, h, q => by rw [G_irq_Next_L1] at h; cases h
  | k + 1, v_x52, o, h, q => by
    rw [G_irq_Next_L1] at h
    by_cases h54 : v_x52 < 8
    · rw [if_pos h54] at h
      by_cases h58 : 0 ≤ v_x52
      · rw [if_pos h58] at h
        by_cases h60 : (bits .and .i64 (shrI .i64 (bits .andNot .i64 (bits .or .i64 v_l50.fPending (bits .andNot .i64 v_l50.fUp v_l50.fEdge)) v_l50.fMasked) v_x52) 1) = 1
        · rw [if_pos h60] at h
          cases h
          exact pkk_sound TTok mix hF 19 (hs := [.t true, .t true]) (ts := []) (s := []) (l := [2, 3]) (by kernel_rfl) (by kernel_rfl) (.cons (dt h54) (.cons h58 (.cons (bt h60) .nil))) q
        · rw [if_neg h60] at h
          exact pkk_sound TTok mix hF 16 (hs := [.t true, .t false]) (ts := []) (s := []) (l := [5, 23]) (by kernel_rfl) (by kernel_rfl) (.cons (dt h54) (.cons h58 (.cons (bf h60) .nil))) (G_irq_Next_L1_ok hF ks n v_l50 k (wi .i64 (v_x52 + 1)) _ h q)
      · rw [if_neg h58] at h; cases h
    · rw [if_neg h54] at h
      cases h
      exact pkk_sound TTok mix hF 8 (hs := [.t false]) (ts := []) (s := []) (l := []) (by kernel_rfl) (by kernel_rfl) (.cons (df h54) .nil) q
/- ringhall/irq.Next -/
def G_irq_Next (n : Nat) (v_l50 : S_irq_Lines) : Option (Int × Int) :=
  (G_irq_Check n v_l50).bind fun (v_r51 : (Int)) =>
  if v_r51 = 0 then
   (G_irq_Next_L1 n v_l50 n 0).bind fun v_o55 => match v_o55 with
   | .x0 v_z56 v_z57 =>
     some (v_z56, v_z57)
   | .x1  =>
     some (0, 4)
  else
   some (0, v_r51)
theorem G_irq_Next_ok (n : Nat) (v_l50 : S_irq_Lines) (r : Int × Int) (h : G_irq_Next n v_l50 = some r) : Ret Try.prog 15 [eS_irq_Lines v_l50] (.tup [(eI .i64) r.1, (eI .i64) r.2]) := by
  refine ret_run (n := 33) (fn := Try.f15) (c := bodyOf Try.f15) (by kernel_rfl) (by kernel_rfl) (by kernel_rfl) (by kernel_rfl) ?_
  have hF : KC 33 (FinR Try.prog Try.f15 (.tup [(eI .i64) r.1, (eI .i64) r.2])) := FinR.kc' (by kernel_rfl)
  unfold G_irq_Next at h
  obtain ⟨v_r51, h51, h⟩ := bind_some h
  by_cases h53 : v_r51 = 0
  · rw [if_pos h53] at h
    obtain ⟨v_o55, h61, h⟩ := bind_some h
    refine pkk_sound TTok mix hF 16 (hs := [.c, .r ((eI .i64) v_r51), .t false, .c, .c, .c, .c, .n n]) (ts := []) (s := []) (l := [5, 23]) (by kernel_rfl) (by kernel_rfl) (.cons (G_irq_Check_ok n v_l50 _ h51) (.cons (nf h53) .nil)) (G_irq_Next_L1_ok hF (.b 0 :: .s (cR (cR (cR (cR (bodyOf Try.f15))))) :: []) n v_l50 n 0 _ h61 ?_)
    cases v_o55 with
    | x0 v_z56 v_z57 =>
      dsimp only at h
      obtain rfl := Option.some.inj h
      exact pend_sound TTok mix 2 (hs := []) (by kernel_rfl) (by kernel_rfl) (by kernel_rfl) .nil
    | x1  =>
      dsimp only at h
      obtain rfl := Option.some.inj h
      exact pend_sound TTok mix 4 (hs := []) (by kernel_rfl) (by kernel_rfl) (by kernel_rfl) .nil
  · rw [if_neg h53] at h
    obtain rfl := Option.some.inj h
    exact pend_sound TTok mix 12 (hs := [.c, .r ((eI .i64) v_r51), .t true]) (by kernel_rfl) (by kernel_rfl) (by kernel_rfl) (.cons (G_irq_Check_ok n v_l50 _ h51) (.cons (nt h53) .nil))
/- ringhall/irq.Take -/
def G_irq_Take (n : Nat) (v_l49 : S_irq_Lines) : Option (S_irq_Lines × Int × Int) :=
  (G_irq_Next n v_l49).bind fun (v_r58 : (Int × Int)) =>
  if v_r58.2 = 0 then
   if 0 ≤ v_r58.1 then
    some ((S_irq_Lines.mk v_l49.fEdge v_l49.fUp v_l49.fMasked (bits .andNot .i64 v_l49.fPending (shlI .i64 1 v_r58.1))), v_r58.1, 0)
   else none
  else
   some ((S_irq_Lines.mk 0 0 0 0), 0, v_r58.2)
theorem G_irq_Take_ok (n : Nat) (v_l49 : S_irq_Lines) (r : S_irq_Lines × Int × Int) (h : G_irq_Take n v_l49 = some r) : Ret Try.prog 16 [eS_irq_Lines v_l49] (.tup [eS_irq_Lines r.1, (eI .i64) r.2.1, (eI .i64) r.2.2]) := by
  refine ret_run (n := 24) (fn := Try.f16) (c := bodyOf Try.f16) (by kernel_rfl) (by kernel_rfl) (by kernel_rfl) (by kernel_rfl) ?_
  have hF : KC 24 (FinR Try.prog Try.f16 (.tup [eS_irq_Lines r.1, (eI .i64) r.2.1, (eI .i64) r.2.2])) := FinR.kc' (by kernel_rfl)
  unfold G_irq_Take at h
  obtain ⟨v_r58, h62, h⟩ := bind_some h
  by_cases h64 : v_r58.2 = 0
  · rw [if_pos h64] at h
    by_cases h65 : 0 ≤ v_r58.1
    · rw [if_pos h65] at h
      obtain rfl := Option.some.inj h
      exact pend_sound TTok mix 14 (hs := [.c, .r (.tup [(eI .i64) v_r58.1, (eI .i64) v_r58.2]), .t false, .c, .c, .c, .c]) (by kernel_rfl) (by kernel_rfl) (by kernel_rfl) (.cons (G_irq_Next_ok n v_l49 _ h62) (.cons (nf h64) (.cons h65 (.cons (show 3 + 1 ≤ 4 by decide) (.cons (show 0 + 4 ≤ 4 by decide) .nil)))))
    · rw [if_neg h65] at h; cases h
  · rw [if_neg h64] at h
    obtain rfl := Option.some.inj h
    exact pend_sound TTok mix 12 (hs := [.c, .r (.tup [(eI .i64) v_r58.1, (eI .i64) v_r58.2]), .t true, .c]) (by kernel_rfl) (by kernel_rfl) (by kernel_rfl) (.cons (G_irq_Next_ok n v_l49 _ h62) (.cons (nt h64) (.cons (show 0 + 4 ≤ 4 by decide) .nil)))
inductive G_irq_Serve_C1_R where
  | x0 (v_t7 : Bool)
def G_irq_Serve_C1_ex : G_irq_Serve_C1_R → Ex
  | .x0 _ => .normal
def G_irq_Serve_C1_st (v_t4 : (List Int)) (v_t5 : (List Int)) (v_t6 : (List Bool)) : G_irq_Serve_C1_R → PS
  | .x0 v_t7 => ⟨[.d (.sl (v_t4.map (eI .i64))), .d (.sl (v_t5.map (eI .i64))), .d (.sl (v_t6.map eB)), dd, dd, dd, dd, dd, dd, dd, dd, dd, dd, dd, dd, dd, dd, dd, dd, dd, dd, dd, dd, dd, dd, dd, dd, dd, dd, dd, dd, dd, dd, dd, .d (.v (.bool v_t7)), dd, dd, dd, dd, dd, dd, dd, dd, dd, dd, dd, dd, dd, dd, dd, dd, dd, dd, dd, dd, dd, dd, dd, dd, dd, dd, dd, dd, dd, dd, dd, dd, dd, dd, dd, dd, dd, dd, dd, dd, dd, dd, dd, dd, dd, dd, dd, dd, dd, dd, dd, dd, dd, dd, dd, dd, dd, dd, dd, dd, dd, dd, dd, dd, dd, dd, dd, dd, dd, dd, dd, dd, dd, dd, dd], []⟩
def G_irq_Serve_C1_hd (v_t4 : (List Int)) (v_t5 : (List Int)) (v_t6 : (List Bool))  : PS := ⟨[.d (.sl (v_t4.map (eI .i64))), .d (.sl (v_t5.map (eI .i64))), .d (.sl (v_t6.map eB)), dd, dd, dd, dd, dd, dd, dd, dd, dd, dd, dd, dd, dd, dd, dd, dd, dd, dd, dd, dd, dd, dd, dd, dd, dd, dd, dd, dd, dd, dd, dd, dd, dd, dd, dd, dd, dd, dd, dd, dd, dd, dd, dd, dd, dd, dd, dd, dd, dd, dd, dd, dd, dd, dd, dd, dd, dd, dd, dd, dd, dd, dd, dd, dd, dd, dd, dd, dd, dd, dd, dd, dd, dd, dd, dd, dd, dd, dd, dd, dd, dd, dd, dd, dd, dd, dd, dd, dd, dd, dd, dd, dd, dd, dd, dd, dd, dd, dd, dd, dd, dd, dd, dd, dd, dd, dd, dd], []⟩
def G_irq_Serve_C1 (n : Nat) (v_t4 : (List Int)) (v_t5 : (List Int)) (v_t6 : (List Bool)) : Option G_irq_Serve_C1_R :=
  if (v_t4.length : Int) = (v_t5.length : Int) then
   if (v_t6.length : Int) = (v_t5.length : Int) then
    some (.x0 (decide ((v_t5.length : Int) > 64)))
   else
    some (.x0 true)
  else
   some (.x0 true)
theorem G_irq_Serve_C1_ok {Fi : Ex → PS → Prop} (hF : KC 110 Fi) (ks : List Fr) (n : Nat) (v_t4 : (List Int)) (v_t5 : (List Int)) (v_t6 : (List Bool))  (o : G_irq_Serve_C1_R) (h : G_irq_Serve_C1 n v_t4 v_t5 v_t6 = some o) (q : RunE Try.prog 110 Fi ks (G_irq_Serve_C1_ex o) (G_irq_Serve_C1_st v_t4 v_t5 v_t6 o)) : RunE Try.prog 110 Fi (.s (cL (cL (cR (bodyOf Try.f84)))) :: ks) .normal (G_irq_Serve_C1_hd v_t4 v_t5 v_t6) := by
  unfold G_irq_Serve_C1 at h
  by_cases h3 : (v_t4.length : Int) = (v_t5.length : Int)
  · rw [if_pos h3] at h
    by_cases h4 : (v_t6.length : Int) = (v_t5.length : Int)
    · rw [if_pos h4] at h
      cases h
      exact pkk_sound TTok mix hF 1 (hs := [.u (.d (.v (.int .i64 (v_t4.length : Int)))), .u (.d (.v (.int .i64 (v_t5.length : Int)))), .t false, .c, .u (.d (.v (.int .i64 (v_t6.length : Int)))), .c, .c, .u (.d (.v (.int .i64 (v_t5.length : Int)))), .c, .t false, .c, .u (.d (.v (.int .i64 (v_t5.length : Int)))), .c]) (ts := []) (s := []) (l := [0, 1, 2, 34]) (by kernel_rfl) (by kernel_rfl) (.cons (len_ob (f := (eI .i64)) (l := v_t4)) (.cons (len_ob (f := (eI .i64)) (l := v_t5)) (.cons (nf h3) (.cons (len_ob (f := eB) (l := v_t6)) (.cons (len_ob (f := (eI .i64)) (l := v_t5)) (.cons (nf h4) (.cons (len_ob (f := (eI .i64)) (l := v_t5)) .nil))))))) q
    · rw [if_neg h4] at h
      cases h
      exact pkk_sound TTok mix hF 1 (hs := [.u (.d (.v (.int .i64 (v_t4.length : Int)))), .u (.d (.v (.int .i64 (v_t5.length : Int)))), .t false, .c, .u (.d (.v (.int .i64 (v_t6.length : Int)))), .c, .c, .u (.d (.v (.int .i64 (v_t5.length : Int)))), .c, .t true, .c, .c]) (ts := []) (s := []) (l := [0, 1, 2, 34]) (by kernel_rfl) (by kernel_rfl) (.cons (len_ob (f := (eI .i64)) (l := v_t4)) (.cons (len_ob (f := (eI .i64)) (l := v_t5)) (.cons (nf h3) (.cons (len_ob (f := eB) (l := v_t6)) (.cons (len_ob (f := (eI .i64)) (l := v_t5)) (.cons (nt h4) .nil)))))) q
  · rw [if_neg h3] at h
    cases h
    exact pkk_sound TTok mix hF 1 (hs := [.u (.d (.v (.int .i64 (v_t4.length : Int)))), .u (.d (.v (.int .i64 (v_t5.length : Int)))), .t true, .c, .c, .c, .c, .c, .c, .c]) (ts := []) (s := []) (l := [0, 1, 2, 34]) (by kernel_rfl) (by kernel_rfl) (.cons (len_ob (f := (eI .i64)) (l := v_t4)) (.cons (len_ob (f := (eI .i64)) (l := v_t5)) (.cons (nt h3) .nil))) q
inductive G_irq_Serve_C2_R where
  | x0 (v_t66 : Bool)
def G_irq_Serve_C2_ex : G_irq_Serve_C2_R → Ex
  | .x0 _ => .normal
def G_irq_Serve_C2_st (v_t4 : (List Int)) (v_t6 : (List Bool)) (v_t12 : Int) (v_t13 : Int) (v_t14 : Int) (v_y63 : Int) (v_t5 : (List Int)) : G_irq_Serve_C2_R → PS
  | .x0 v_t66 => ⟨[.d (.sl (v_t4.map (eI .i64))), dd, .d (.sl (v_t6.map eB)), dd, dd, dd, dd, dd, dd, .d (.v (.int .i64 v_t12)), .d (.v (.int .i64 v_t13)), .ref 0 0, .d (.v (.int .i64 v_t14)), .d (.v (.int .i64 v_y63)), dd, dd, dd, dd, dd, dd, dd, dd, dd, dd, dd, dd, dd, dd, dd, dd, dd, dd, dd, dd, dd, dd, .d (.sl (v_t5.map (eI .i64))), .d (.v (.int .i64 (v_t5.length : Int))), .d (.v (.int .i64 v_t14)), dd, dd, dd, dd, dd, dd, dd, dd, dd, dd, dd, dd, dd, dd, dd, dd, dd, dd, dd, dd, dd, dd, dd, .d (.v (.bool v_t66)), dd, dd, dd, dd, dd, dd, dd, dd, dd, dd, dd, dd, dd, dd, dd, dd, dd, dd, dd, dd, dd, dd, dd, dd, dd, dd, dd, dd, dd, dd, dd, dd, dd, dd, dd, dd, dd, dd, dd, dd, dd, dd, dd, dd, dd, dd, dd], [.box [.d (.v (.int .i64 1)), .d (.v (.int .i64 0)), .d (.v (.int .i64 0)), .d (.v (.int .i64 0))]]⟩
def G_irq_Serve_C2_hd (v_t4 : (List Int)) (v_t6 : (List Bool)) (v_t12 : Int) (v_t13 : Int) (v_t14 : Int) (v_y63 : Int) (v_t5 : (List Int))  : PS := ⟨[.d (.sl (v_t4.map (eI .i64))), dd, .d (.sl (v_t6.map eB)), dd, dd, dd, dd, dd, dd, .d (.v (.int .i64 v_t12)), .d (.v (.int .i64 v_t13)), .ref 0 0, .d (.v (.int .i64 v_t14)), .d (.v (.int .i64 v_y63)), dd, dd, dd, dd, dd, dd, dd, dd, dd, dd, dd, dd, dd, dd, dd, dd, dd, dd, dd, dd, dd, dd, .d (.sl (v_t5.map (eI .i64))), .d (.v (.int .i64 (v_t5.length : Int))), .d (.v (.int .i64 v_t14)), dd, dd, dd, dd, dd, dd, dd, dd, dd, dd, dd, dd, dd, dd, dd, dd, dd, dd, dd, dd, dd, dd, dd, dd, dd, dd, dd, dd, dd, dd, dd, dd, dd, dd, dd, dd, dd, dd, dd, dd, dd, dd, dd, dd, dd, dd, dd, dd, dd, dd, dd, dd, dd, dd, dd, dd, dd, dd, dd, dd, dd, dd, dd, dd, dd, dd, dd, dd, dd, dd, dd], [.box [.d (.v (.int .i64 1)), .d (.v (.int .i64 0)), .d (.v (.int .i64 0)), .d (.v (.int .i64 0))]]⟩
def G_irq_Serve_C2 (n : Nat) (v_t4 : (List Int)) (v_t6 : (List Bool)) (v_t12 : Int) (v_t13 : Int) (v_t14 : Int) (v_y63 : Int) (v_t5 : (List Int)) : Option G_irq_Serve_C2_R :=
  if v_y63 < 0 then
   some (.x0 true)
  else
   if v_y63 > 100 then
    some (.x0 true)
   else
    (getI v_t4 v_t14).bind fun (v_y68 : Int) =>
    if v_y68 < 0 then
     some (.x0 true)
    else
     (getI v_t4 v_t14).bind fun (v_y70 : Int) =>
     some (.x0 (decide (v_y70 > 100)))
theorem G_irq_Serve_C2_ok {Fi : Ex → PS → Prop} (hF : KC 110 Fi) (ks : List Fr) (n : Nat) (v_t4 : (List Int)) (v_t6 : (List Bool)) (v_t12 : Int) (v_t13 : Int) (v_t14 : Int) (v_y63 : Int) (v_t5 : (List Int))  (o : G_irq_Serve_C2_R) (h : G_irq_Serve_C2 n v_t4 v_t6 v_t12 v_t13 v_t14 v_y63 v_t5 = some o) (q : RunE Try.prog 110 Fi ks (G_irq_Serve_C2_ex o) (G_irq_Serve_C2_st v_t4 v_t6 v_t12 v_t13 v_t14 v_y63 v_t5 o)) : RunE Try.prog 110 Fi (.s (cL (cL (cR (cB (cL (cR (cR (cP (cB (cR (cL (cR (cR (cR (cR (bodyOf Try.f84)))))))))))))))) :: ks) .normal (G_irq_Serve_C2_hd v_t4 v_t6 v_t12 v_t13 v_t14 v_y63 v_t5) := by
  unfold G_irq_Serve_C2 at h
  by_cases h82 : v_y63 < 0
  · rw [if_pos h82] at h
    cases h
    exact pkk_sound TTok mix hF 1 (hs := [.t true, .c, .c, .c, .c, .c, .c, .c, .c, .c, .c, .c]) (ts := []) (s := [0]) (l := [0, 2, 9, 10, 11, 12, 13, 36, 37, 38, 62]) (by kernel_rfl) (by kernel_rfl) (.cons (dt h82) .nil) q
  · rw [if_neg h82] at h
    by_cases h83 : v_y63 > 100
    · rw [if_pos h83] at h
      cases h
      exact pkk_sound TTok mix hF 1 (hs := [.t false, .c, .t true, .c, .c, .c, .c, .c, .c, .c, .c, .c]) (ts := []) (s := [0]) (l := [0, 2, 9, 10, 11, 12, 13, 36, 37, 38, 62]) (by kernel_rfl) (by kernel_rfl) (.cons (df h82) (.cons (dt h83) .nil)) q
    · rw [if_neg h83] at h
      obtain ⟨v_y68, h84, h⟩ := bind_some h
      by_cases h85 : v_y68 < 0
      · rw [if_pos h85] at h
        cases h
        exact pkk_sound TTok mix hF 1 (hs := [.t false, .c, .t false, .c, .c, .y ((eI .i64) v_y68), .c, .c, .c, .t true, .c, .c, .c, .c]) (ts := []) (s := [0]) (l := [0, 2, 9, 10, 11, 12, 13, 36, 37, 38, 62]) (by kernel_rfl) (by kernel_rfl) (.cons (df h82) (.cons (df h83) (.cons (getI_ob (f := (eI .i64)) h84) (.cons (dt h85) .nil)))) q
      · rw [if_neg h85] at h
        obtain ⟨v_y70, h86, h⟩ := bind_some h
        cases h
        exact pkk_sound TTok mix hF 1 (hs := [.t false, .c, .t false, .c, .c, .y ((eI .i64) v_y68), .c, .c, .c, .t false, .c, .c, .y ((eI .i64) v_y70), .c, .c, .c]) (ts := []) (s := [0]) (l := [0, 2, 9, 10, 11, 12, 13, 36, 37, 38, 62]) (by kernel_rfl) (by kernel_rfl) (.cons (df h82) (.cons (df h83) (.cons (getI_ob (f := (eI .i64)) h84) (.cons (df h85) (.cons (getI_ob (f := (eI .i64)) h86) .nil))))) q
inductive G_irq_Serve_C3_R where
  | x0 (v_b82 : S_irq_Lines)
  | x1 
def G_irq_Serve_C3_ex : G_irq_Serve_C3_R → Ex
  | .x0 _ => .normal
  | .x1  => .normal
def G_irq_Serve_C3_st (v_t4 : (List Int)) (v_t6 : (List Bool)) (v_t12 : Int) (v_y63 : Int) (v_t13 : Int) (v_t14 : Int) (v_t5 : (List Int)) (v_y77 : Bool) : G_irq_Serve_C3_R → PS
  | .x0 v_b82 => ⟨[.d (.sl (v_t4.map (eI .i64))), dd, .d (.sl (v_t6.map eB)), dd, dd, dd, dd, dd, dd, .d (.v (.int .i64 (wi .i64 (v_t12 + v_y63)))), .d (.v (.int .i64 v_t13)), .ref 0 0, .d (.v (.int .i64 v_t14)), dd, dd, dd, dd, dd, dd, dd, dd, dd, dd, dd, dd, dd, dd, dd, dd, dd, dd, dd, dd, dd, dd, dd, .d (.sl (v_t5.map (eI .i64))), .d (.v (.int .i64 (v_t5.length : Int))), .d (.v (.int .i64 v_t14)), dd, dd, dd, dd, dd, dd, dd, dd, dd, dd, dd, dd, dd, dd, dd, dd, dd, dd, dd, dd, dd, dd, dd, dd, dd, dd, dd, dd, dd, dd, dd, dd, dd, dd, dd, dd, dd, dd, dd, dd, dd, dd, dd, dd, dd, dd, dd, dd, dd, dd, dd, dd, dd, dd, dd, dd, dd, dd, dd, dd, dd, dd, dd, dd, dd, dd, dd, dd, dd, dd, dd], [.box [.d (.v (.int .i64 v_b82.fEdge)), .d (.v (.int .i64 v_b82.fUp)), .d (.v (.int .i64 v_b82.fMasked)), .d (.v (.int .i64 v_b82.fPending))]]⟩
  | .x1  => ⟨[.d (.sl (v_t4.map (eI .i64))), dd, .d (.sl (v_t6.map eB)), dd, dd, dd, dd, dd, dd, .d (.v (.int .i64 (wi .i64 (v_t12 + v_y63)))), .d (.v (.int .i64 v_t13)), .ref 0 0, .d (.v (.int .i64 v_t14)), dd, dd, dd, dd, dd, dd, dd, dd, dd, dd, dd, dd, dd, dd, dd, dd, dd, dd, dd, dd, dd, dd, dd, .d (.sl (v_t5.map (eI .i64))), .d (.v (.int .i64 (v_t5.length : Int))), .d (.v (.int .i64 v_t14)), dd, dd, dd, dd, dd, dd, dd, dd, dd, dd, dd, dd, dd, dd, dd, dd, dd, dd, dd, dd, dd, dd, dd, dd, dd, dd, dd, dd, dd, dd, dd, dd, dd, dd, dd, dd, dd, dd, dd, dd, dd, dd, dd, dd, dd, dd, dd, dd, dd, dd, dd, dd, dd, dd, dd, dd, dd, dd, dd, dd, dd, dd, dd, dd, dd, dd, dd, dd, dd, dd, dd], [.box [.d (.v (.int .i64 1)), .d (.v (.int .i64 0)), .d (.v (.int .i64 0)), .d (.v (.int .i64 0))]]⟩
def G_irq_Serve_C3_hd (v_t4 : (List Int)) (v_t6 : (List Bool)) (v_t12 : Int) (v_y63 : Int) (v_t13 : Int) (v_t14 : Int) (v_t5 : (List Int)) (v_y77 : Bool)  : PS := ⟨[.d (.sl (v_t4.map (eI .i64))), dd, .d (.sl (v_t6.map eB)), dd, dd, dd, dd, dd, dd, .d (.v (.int .i64 (wi .i64 (v_t12 + v_y63)))), .d (.v (.int .i64 v_t13)), .ref 0 0, .d (.v (.int .i64 v_t14)), dd, dd, dd, dd, dd, dd, dd, dd, dd, dd, dd, dd, dd, dd, dd, dd, dd, dd, dd, dd, dd, dd, dd, .d (.sl (v_t5.map (eI .i64))), .d (.v (.int .i64 (v_t5.length : Int))), .d (.v (.int .i64 v_t14)), dd, dd, dd, dd, dd, dd, dd, dd, dd, dd, dd, dd, dd, dd, dd, dd, dd, dd, dd, dd, dd, dd, dd, dd, dd, dd, dd, dd, dd, dd, .d (.v (.bool v_y77)), dd, dd, dd, dd, dd, dd, dd, dd, dd, dd, dd, dd, dd, dd, dd, dd, dd, dd, dd, dd, dd, dd, dd, dd, dd, dd, dd, dd, dd, dd, dd, dd, dd, dd, dd, dd, dd, dd, dd, dd], [.box [.d (.v (.int .i64 1)), .d (.v (.int .i64 0)), .d (.v (.int .i64 0)), .d (.v (.int .i64 0))]]⟩
def G_irq_Serve_C3 (n : Nat) (v_t4 : (List Int)) (v_t6 : (List Bool)) (v_t12 : Int) (v_y63 : Int) (v_t13 : Int) (v_t14 : Int) (v_t5 : (List Int)) (v_y77 : Bool) : Option G_irq_Serve_C3_R :=
  if v_y77 = true then
   (G_irq_Set n (S_irq_Lines.mk 1 0 0 0) 0 false).bind fun (v_r80 : (S_irq_Lines × Int)) =>
   (G_irq_Set n v_r80.1 0 true).bind fun (v_r81 : (S_irq_Lines × Int)) =>
   some (.x0 v_r81.1)
  else
   some (.x1 )
theorem G_irq_Serve_C3_ok {Fi : Ex → PS → Prop} (hF : KC 110 Fi) (ks : List Fr) (n : Nat) (v_t4 : (List Int)) (v_t6 : (List Bool)) (v_t12 : Int) (v_y63 : Int) (v_t13 : Int) (v_t14 : Int) (v_t5 : (List Int)) (v_y77 : Bool)  (o : G_irq_Serve_C3_R) (h : G_irq_Serve_C3 n v_t4 v_t6 v_t12 v_y63 v_t13 v_t14 v_t5 v_y77 = some o) (q : RunE Try.prog 110 Fi ks (G_irq_Serve_C3_ex o) (G_irq_Serve_C3_st v_t4 v_t6 v_t12 v_y63 v_t13 v_t14 v_t5 v_y77 o)) : RunE Try.prog 110 Fi (.s (cR (cL (cR (cR (cR (cB (cL (cR (cR (cP (cB (cR (cL (cR (cR (cR (cR (bodyOf Try.f84)))))))))))))))))) :: ks) .normal (G_irq_Serve_C3_hd v_t4 v_t6 v_t12 v_y63 v_t13 v_t14 v_t5 v_y77) := by
  unfold G_irq_Serve_C3 at h
  by_cases h94 : v_y77 = true
  · rw [if_pos h94] at h
    obtain ⟨v_r80, h95, h⟩ := bind_some h
    obtain ⟨v_r81, h96, h⟩ := bind_some h
    cases h
    exact pkk_sound TTok mix hF 4 (hs := [.t true, .c, .r (.tup [eS_irq_Lines v_r80.1, (eI .i64) v_r80.2]), .c, .c, .r (.tup [eS_irq_Lines v_r81.1, (eI .i64) v_r81.2]), .c]) (ts := []) (s := [0]) (l := [0, 2, 9, 10, 11, 12, 36, 37, 38]) (by kernel_rfl) (by kernel_rfl) (.cons h94 (.cons (G_irq_Set_ok n (S_irq_Lines.mk 1 0 0 0) 0 false _ h95) (.cons (show 0 + 4 ≤ 4 by decide) (.cons (G_irq_Set_ok n v_r80.1 0 true _ h96) (.cons (show 0 + 4 ≤ 4 by decide) .nil))))) q
  · rw [if_neg h94] at h
    cases h
    exact pkk_sound TTok mix hF 2 (hs := [.t false]) (ts := []) (s := [0]) (l := [0, 2, 9, 10, 11, 12, 36, 37, 38]) (by kernel_rfl) (by kernel_rfl) (.cons (vf h94) .nil) q
inductive G_irq_Serve_C4_R where
  | x0 (v_t74 : Int) (v_t75 : Int) (v_t76 : Int)
  | x1 (v_t86 : Int) (v_t87 : Int) (v_b88 : S_irq_Lines)
  | x2 (v_t97 : Int) (v_t98 : Int)
def G_irq_Serve_C4_ex : G_irq_Serve_C4_R → Ex
  | .x0 _ _ _ => .ret
  | .x1 _ _ _ => .normal
  | .x2 _ _ => .normal
def G_irq_Serve_C4_st (v_t4 : (List Int)) (v_t6 : (List Bool)) (v_t12 : Int) (v_t13 : Int) (v_t5 : (List Int)) (v_t14 : Int) : G_irq_Serve_C4_R → PS
  | .x0 v_t74 v_t75 v_t76 => ⟨[dd, dd, dd, dd, dd, dd, .d (.v (.int .i64 v_t74)), .d (.v (.int .i64 v_t75)), .d (.v (.int .i64 v_t76)), dd, dd, dd, dd, dd, dd, dd, dd, dd, dd, dd, dd, dd, dd, dd, dd, dd, dd, dd, dd, dd, dd, dd, dd, dd, dd, dd, dd, dd, dd, dd, dd, dd, dd, dd, dd, dd, dd, dd, dd, dd, dd, dd, dd, dd, dd, dd, dd, dd, dd, dd, dd, dd, dd, dd, dd, dd, dd, dd, dd, dd, dd, dd, dd, dd, dd, dd, dd, dd, dd, dd, dd, dd, dd, dd, dd, dd, dd, dd, dd, dd, dd, dd, dd, dd, dd, dd, dd, dd, dd, dd, dd, dd, dd, dd, dd, dd, dd, dd, dd, dd], []⟩
  | .x1 v_t86 v_t87 v_b88 => ⟨[.d (.sl (v_t4.map (eI .i64))), dd, .d (.sl (v_t6.map eB)), dd, dd, dd, dd, dd, dd, .d (.v (.int .i64 v_t86)), .d (.v (.int .i64 v_t87)), .ref 0 0, dd, dd, dd, dd, dd, dd, dd, dd, dd, dd, dd, dd, dd, dd, dd, dd, dd, dd, dd, dd, dd, dd, dd, dd, .d (.sl (v_t5.map (eI .i64))), .d (.v (.int .i64 (v_t5.length : Int))), .d (.v (.int .i64 v_t14)), dd, dd, dd, dd, dd, dd, dd, dd, dd, dd, dd, dd, dd, dd, dd, dd, dd, dd, dd, dd, dd, dd, dd, dd, dd, dd, dd, dd, dd, dd, dd, dd, dd, dd, dd, dd, dd, dd, dd, dd, dd, dd, dd, dd, dd, dd, dd, dd, dd, dd, dd, dd, dd, dd, dd, dd, dd, dd, dd, dd, dd, dd, dd, dd, dd, dd, dd, dd, dd, dd, dd], [.box [.d (.v (.int .i64 v_b88.fEdge)), .d (.v (.int .i64 v_b88.fUp)), .d (.v (.int .i64 v_b88.fMasked)), .d (.v (.int .i64 v_b88.fPending))]]⟩
  | .x2 v_t97 v_t98 => ⟨[.d (.sl (v_t4.map (eI .i64))), dd, .d (.sl (v_t6.map eB)), dd, dd, dd, dd, dd, dd, .d (.v (.int .i64 v_t97)), .d (.v (.int .i64 v_t98)), .ref 0 0, dd, dd, dd, dd, dd, dd, dd, dd, dd, dd, dd, dd, dd, dd, dd, dd, dd, dd, dd, dd, dd, dd, dd, dd, .d (.sl (v_t5.map (eI .i64))), .d (.v (.int .i64 (v_t5.length : Int))), .d (.v (.int .i64 v_t14)), dd, dd, dd, dd, dd, dd, dd, dd, dd, dd, dd, dd, dd, dd, dd, dd, dd, dd, dd, dd, dd, dd, dd, dd, dd, dd, dd, dd, dd, dd, dd, dd, dd, dd, dd, dd, dd, dd, dd, dd, dd, dd, dd, dd, dd, dd, dd, dd, dd, dd, dd, dd, dd, dd, dd, dd, dd, dd, dd, dd, dd, dd, dd, dd, dd, dd, dd, dd, dd, dd, dd], [.box [.d (.v (.int .i64 1)), .d (.v (.int .i64 0)), .d (.v (.int .i64 0)), .d (.v (.int .i64 0))]]⟩
def G_irq_Serve_C4_hd (v_t4 : (List Int)) (v_t6 : (List Bool)) (v_t12 : Int) (v_t13 : Int) (v_t5 : (List Int)) (v_t14 : Int)  : PS := ⟨[.d (.sl (v_t4.map (eI .i64))), dd, .d (.sl (v_t6.map eB)), dd, dd, dd, dd, dd, dd, .d (.v (.int .i64 v_t12)), .d (.v (.int .i64 v_t13)), .ref 0 0, dd, dd, dd, dd, dd, dd, dd, dd, dd, dd, dd, dd, dd, dd, dd, dd, dd, dd, dd, dd, dd, dd, dd, dd, .d (.sl (v_t5.map (eI .i64))), .d (.v (.int .i64 (v_t5.length : Int))), .d (.v (.int .i64 v_t14)), dd, dd, dd, dd, dd, dd, dd, dd, dd, dd, dd, dd, dd, dd, dd, dd, dd, dd, dd, dd, dd, dd, dd, dd, dd, dd, dd, dd, dd, dd, dd, dd, dd, dd, dd, dd, dd, dd, dd, dd, dd, dd, dd, dd, dd, dd, dd, dd, dd, dd, dd, dd, dd, dd, dd, dd, dd, dd, dd, dd, dd, dd, dd, dd, dd, dd, dd, dd, dd, dd, dd], [.box [.d (.v (.int .i64 1)), .d (.v (.int .i64 0)), .d (.v (.int .i64 0)), .d (.v (.int .i64 0))]]⟩
def G_irq_Serve_C4 (n : Nat) (v_t4 : (List Int)) (v_t6 : (List Bool)) (v_t12 : Int) (v_t13 : Int) (v_t5 : (List Int)) (v_t14 : Int) : Option G_irq_Serve_C4_R :=
  (getI v_t5 v_t14).bind fun (v_y63 : Int) =>
  (G_irq_Serve_C2 n v_t4 v_t6 v_t12 v_t13 v_t14 v_y63 v_t5).bind fun v_o72 => match v_o72 with
  | .x0 v_z73 =>
    if v_z73 = true then
     some (.x0 0 0 1)
    else
     (getI v_t6 v_t14).bind fun (v_y77 : Bool) =>
     (G_irq_Serve_C3 n v_t4 v_t6 v_t12 v_y63 v_t13 v_t14 v_t5 v_y77).bind fun v_o83 => match v_o83 with
     | .x0 v_z84 =>
       (G_irq_Take n v_z84).bind fun (v_r85 : (S_irq_Lines × Int × Int)) =>
       if v_r85.2.2 = 0 then
        (getI v_t4 v_t14).bind fun (v_y89 : Int) =>
        if (wi .i64 ((wi .i64 (v_t12 + v_y63)) - (minI (wi .i64 (v_t12 + v_y63)) v_y89))) > 0 then
         some (.x1 (wi .i64 ((wi .i64 (v_t12 + v_y63)) - (minI (wi .i64 (v_t12 + v_y63)) v_y89))) (wi .i64 (v_t13 + (minI (wi .i64 (v_t12 + v_y63)) v_y89))) (S_irq_Lines.mk v_r85.1.fEdge v_r85.1.fUp v_r85.1.fMasked (bits .or .i64 v_r85.1.fPending 1)))
        else
         some (.x1 (wi .i64 ((wi .i64 (v_t12 + v_y63)) - (minI (wi .i64 (v_t12 + v_y63)) v_y89))) (wi .i64 (v_t13 + (minI (wi .i64 (v_t12 + v_y63)) v_y89))) v_r85.1)
       else
        some (.x1 (wi .i64 (v_t12 + v_y63)) v_t13 v_z84)
     | .x1  =>
       (G_irq_Take n (S_irq_Lines.mk 1 0 0 0)).bind fun (v_r96 : (S_irq_Lines × Int × Int)) =>
       if v_r96.2.2 = 0 then
        (getI v_t4 v_t14).bind fun (v_y99 : Int) =>
        if (wi .i64 ((wi .i64 (v_t12 + v_y63)) - (minI (wi .i64 (v_t12 + v_y63)) v_y99))) > 0 then
         some (.x1 (wi .i64 ((wi .i64 (v_t12 + v_y63)) - (minI (wi .i64 (v_t12 + v_y63)) v_y99))) (wi .i64 (v_t13 + (minI (wi .i64 (v_t12 + v_y63)) v_y99))) (S_irq_Lines.mk v_r96.1.fEdge v_r96.1.fUp v_r96.1.fMasked (bits .or .i64 v_r96.1.fPending 1)))
        else
         some (.x1 (wi .i64 ((wi .i64 (v_t12 + v_y63)) - (minI (wi .i64 (v_t12 + v_y63)) v_y99))) (wi .i64 (v_t13 + (minI (wi .i64 (v_t12 + v_y63)) v_y99))) v_r96.1)
       else
        some (.x2 (wi .i64 (v_t12 + v_y63)) v_t13)
theorem G_irq_Serve_C4_ok {Fi : Ex → PS → Prop} (hF : KC 110 Fi) (ks : List Fr) (n : Nat) (v_t4 : (List Int)) (v_t6 : (List Bool)) (v_t12 : Int) (v_t13 : Int) (v_t5 : (List Int)) (v_t14 : Int)  (o : G_irq_Serve_C4_R) (h : G_irq_Serve_C4 n v_t4 v_t6 v_t12 v_t13 v_t5 v_t14 = some o) (q : RunE Try.prog 110 Fi ks (G_irq_Serve_C4_ex o) (G_irq_Serve_C4_st v_t4 v_t6 v_t12 v_t13 v_t5 v_t14 o)) : RunE Try.prog 110 Fi (.s (cL (cR (cR (cP (cB (cR (cL (cR (cR (cR (cR (bodyOf Try.f84)))))))))))) :: ks) .normal (G_irq_Serve_C4_hd v_t4 v_t6 v_t12 v_t13 v_t5 v_t14) := by
  unfold G_irq_Serve_C4 at h
  obtain ⟨v_y63, h76, h⟩ := bind_some h
  obtain ⟨v_o72, h87, h⟩ := bind_some h
  refine pkk_sound TTok mix hF 5 (hs := [.y ((eI .i64) v_y63), .c]) (ts := []) (s := [0]) (l := [0, 2, 9, 10, 11, 12, 13, 36, 37, 38]) (by kernel_rfl) (by kernel_rfl) (.cons (getI_ob (f := (eI .i64)) h76) .nil) (G_irq_Serve_C2_ok hF (.s (cR (cL (cR (cB (cL (cR (cR (cP (cB (cR (cL (cR (cR (cR (cR (bodyOf Try.f84)))))))))))))))) :: .s (cR (cR (cB (cL (cR (cR (cP (cB (cR (cL (cR (cR (cR (cR (bodyOf Try.f84))))))))))))))) :: .b 1 :: ks) n v_t4 v_t6 v_t12 v_t13 v_t14 v_y63 v_t5 _ h87 ?_)
  cases v_o72 with
  | x0 v_z73 =>
    dsimp only at h
    by_cases h89 : v_z73 = true
    · rw [if_pos h89] at h
      cases h
      exact pkk_sound TTok mix hF 6 (hs := [.t true]) (ts := []) (s := []) (l := [6, 7, 8]) (by kernel_rfl) (by kernel_rfl) (.cons h89 .nil) q
    · rw [if_neg h89] at h
      obtain ⟨v_y77, h90, h⟩ := bind_some h
      obtain ⟨v_o83, h97, h⟩ := bind_some h
      refine pkk_sound TTok mix hF 7 (hs := [.t false, .y (eB v_y77), .c]) (ts := []) (s := [0]) (l := [0, 2, 9, 10, 11, 12, 36, 37, 38, 69]) (by kernel_rfl) (by kernel_rfl) (.cons (vf h89) (.cons (getI_ob (f := eB) h90) .nil)) (G_irq_Serve_C3_ok hF (.s (cR (cR (cR (cR (cB (cL (cR (cR (cP (cB (cR (cL (cR (cR (cR (cR (bodyOf Try.f84))))))))))))))))) :: .b 1 :: ks) n v_t4 v_t6 v_t12 v_y63 v_t13 v_t14 v_t5 v_y77 _ h97 ?_)
      cases v_o83 with
      | x0 v_z84 =>
        dsimp only at h
        obtain ⟨v_r85, h98, h⟩ := bind_some h
        by_cases h99 : v_r85.2.2 = 0
        · rw [if_pos h99] at h
          obtain ⟨v_y89, h100, h⟩ := bind_some h
          by_cases h102 : (wi .i64 ((wi .i64 (v_t12 + v_y63)) - (minI (wi .i64 (v_t12 + v_y63)) v_y89))) > 0
          · rw [if_pos h102] at h
            cases h
            exact pkk_sound TTok mix hF 20 (hs := [.c, .r (.tup [eS_irq_Lines v_r85.1, (eI .i64) v_r85.2.1, (eI .i64) v_r85.2.2]), .c, .t false, .c, .c, .y ((eI .i64) v_y89), .c, .t true, .c, .c]) (ts := []) (s := [0]) (l := [0, 2, 9, 10, 11, 36, 37, 38]) (by kernel_rfl) (by kernel_rfl) (.cons (G_irq_Take_ok n v_z84 _ h98) (.cons (show 0 + 4 ≤ 4 by decide) (.cons (nf h99) (.cons (show 0 + 4 ≤ 4 by decide) (.cons (getI_ob (f := (eI .i64)) h100) (.cons (dt h102) (.cons (show 3 + 1 ≤ 4 by decide) .nil))))))) q
          · rw [if_neg h102] at h
            cases h
            exact pkk_sound TTok mix hF 20 (hs := [.c, .r (.tup [eS_irq_Lines v_r85.1, (eI .i64) v_r85.2.1, (eI .i64) v_r85.2.2]), .c, .t false, .c, .c, .y ((eI .i64) v_y89), .c, .t false]) (ts := []) (s := [0]) (l := [0, 2, 9, 10, 11, 36, 37, 38]) (by kernel_rfl) (by kernel_rfl) (.cons (G_irq_Take_ok n v_z84 _ h98) (.cons (show 0 + 4 ≤ 4 by decide) (.cons (nf h99) (.cons (show 0 + 4 ≤ 4 by decide) (.cons (getI_ob (f := (eI .i64)) h100) (.cons (df h102) .nil)))))) q
        · rw [if_neg h99] at h
          cases h
          exact pkk_sound TTok mix hF 9 (hs := [.c, .r (.tup [eS_irq_Lines v_r85.1, (eI .i64) v_r85.2.1, (eI .i64) v_r85.2.2]), .c, .t true]) (ts := []) (s := [0]) (l := [0, 2, 9, 10, 11, 36, 37, 38]) (by kernel_rfl) (by kernel_rfl) (.cons (G_irq_Take_ok n v_z84 _ h98) (.cons (show 0 + 4 ≤ 4 by decide) (.cons (nt h99) .nil))) q
      | x1  =>
        dsimp only at h
        obtain ⟨v_r96, h103, h⟩ := bind_some h
        by_cases h104 : v_r96.2.2 = 0
        · rw [if_pos h104] at h
          obtain ⟨v_y99, h105, h⟩ := bind_some h
          by_cases h107 : (wi .i64 ((wi .i64 (v_t12 + v_y63)) - (minI (wi .i64 (v_t12 + v_y63)) v_y99))) > 0
          · rw [if_pos h107] at h
            cases h
            exact pkk_sound TTok mix hF 20 (hs := [.c, .r (.tup [eS_irq_Lines v_r96.1, (eI .i64) v_r96.2.1, (eI .i64) v_r96.2.2]), .c, .t false, .c, .c, .y ((eI .i64) v_y99), .c, .t true, .c, .c]) (ts := []) (s := [0]) (l := [0, 2, 9, 10, 11, 36, 37, 38]) (by kernel_rfl) (by kernel_rfl) (.cons (G_irq_Take_ok n (S_irq_Lines.mk 1 0 0 0) _ h103) (.cons (show 0 + 4 ≤ 4 by decide) (.cons (nf h104) (.cons (show 0 + 4 ≤ 4 by decide) (.cons (getI_ob (f := (eI .i64)) h105) (.cons (dt h107) (.cons (show 3 + 1 ≤ 4 by decide) .nil))))))) q
          · rw [if_neg h107] at h
            cases h
            exact pkk_sound TTok mix hF 20 (hs := [.c, .r (.tup [eS_irq_Lines v_r96.1, (eI .i64) v_r96.2.1, (eI .i64) v_r96.2.2]), .c, .t false, .c, .c, .y ((eI .i64) v_y99), .c, .t false]) (ts := []) (s := [0]) (l := [0, 2, 9, 10, 11, 36, 37, 38]) (by kernel_rfl) (by kernel_rfl) (.cons (G_irq_Take_ok n (S_irq_Lines.mk 1 0 0 0) _ h103) (.cons (show 0 + 4 ≤ 4 by decide) (.cons (nf h104) (.cons (show 0 + 4 ≤ 4 by decide) (.cons (getI_ob (f := (eI .i64)) h105) (.cons (df h107) .nil)))))) q
        · rw [if_neg h104] at h
          cases h
          exact pkk_sound TTok mix hF 9 (hs := [.c, .r (.tup [eS_irq_Lines v_r96.1, (eI .i64) v_r96.2.1, (eI .i64) v_r96.2.2]), .c, .t true]) (ts := []) (s := [0]) (l := [0, 2, 9, 10, 11, 36, 37, 38]) (by kernel_rfl) (by kernel_rfl) (.cons (G_irq_Take_ok n (S_irq_Lines.mk 1 0 0 0) _ h103) (.cons (show 0 + 4 ≤ 4 by decide) (.cons (nt h104) .nil))) q
inductive G_irq_Serve_C5_R where
  | x0 (v_t146 : Bool)
def G_irq_Serve_C5_ex : G_irq_Serve_C5_R → Ex
  | .x0 _ => .normal
def G_irq_Serve_C5_st (v_t4 : (List Int)) (v_t6 : (List Bool)) (v_t116 : Int) (v_t117 : Int) (v_t118 : Int) (v_y143 : Int) (v_t5 : (List Int)) (v_b119 : S_irq_Lines) : G_irq_Serve_C5_R → PS
  | .x0 v_t146 => ⟨[.d (.sl (v_t4.map (eI .i64))), dd, .d (.sl (v_t6.map eB)), dd, dd, dd, dd, dd, dd, .d (.v (.int .i64 v_t116)), .d (.v (.int .i64 v_t117)), .ref 0 0, .d (.v (.int .i64 v_t118)), .d (.v (.int .i64 v_y143)), dd, dd, dd, dd, dd, dd, dd, dd, dd, dd, dd, dd, dd, dd, dd, dd, dd, dd, dd, dd, dd, dd, .d (.sl (v_t5.map (eI .i64))), .d (.v (.int .i64 (v_t5.length : Int))), .d (.v (.int .i64 v_t118)), dd, dd, dd, dd, dd, dd, dd, dd, dd, dd, dd, dd, dd, dd, dd, dd, dd, dd, dd, dd, dd, dd, dd, .d (.v (.bool v_t146)), dd, dd, dd, dd, dd, dd, dd, dd, dd, dd, dd, dd, dd, dd, dd, dd, dd, dd, dd, dd, dd, dd, dd, dd, dd, dd, dd, dd, dd, dd, dd, dd, dd, dd, dd, dd, dd, dd, dd, dd, dd, dd, dd, dd, dd, dd, dd], [.box [.d (.v (.int .i64 v_b119.fEdge)), .d (.v (.int .i64 v_b119.fUp)), .d (.v (.int .i64 v_b119.fMasked)), .d (.v (.int .i64 v_b119.fPending))]]⟩
def G_irq_Serve_C5_hd (v_t4 : (List Int)) (v_t6 : (List Bool)) (v_t116 : Int) (v_t117 : Int) (v_t118 : Int) (v_y143 : Int) (v_t5 : (List Int)) (v_b119 : S_irq_Lines)  : PS := ⟨[.d (.sl (v_t4.map (eI .i64))), dd, .d (.sl (v_t6.map eB)), dd, dd, dd, dd, dd, dd, .d (.v (.int .i64 v_t116)), .d (.v (.int .i64 v_t117)), .ref 0 0, .d (.v (.int .i64 v_t118)), .d (.v (.int .i64 v_y143)), dd, dd, dd, dd, dd, dd, dd, dd, dd, dd, dd, dd, dd, dd, dd, dd, dd, dd, dd, dd, dd, dd, .d (.sl (v_t5.map (eI .i64))), .d (.v (.int .i64 (v_t5.length : Int))), .d (.v (.int .i64 v_t118)), dd, dd, dd, dd, dd, dd, dd, dd, dd, dd, dd, dd, dd, dd, dd, dd, dd, dd, dd, dd, dd, dd, dd, dd, dd, dd, dd, dd, dd, dd, dd, dd, dd, dd, dd, dd, dd, dd, dd, dd, dd, dd, dd, dd, dd, dd, dd, dd, dd, dd, dd, dd, dd, dd, dd, dd, dd, dd, dd, dd, dd, dd, dd, dd, dd, dd, dd, dd, dd, dd, dd], [.box [.d (.v (.int .i64 v_b119.fEdge)), .d (.v (.int .i64 v_b119.fUp)), .d (.v (.int .i64 v_b119.fMasked)), .d (.v (.int .i64 v_b119.fPending))]]⟩
def G_irq_Serve_C5 (n : Nat) (v_t4 : (List Int)) (v_t6 : (List Bool)) (v_t116 : Int) (v_t117 : Int) (v_t118 : Int) (v_y143 : Int) (v_t5 : (List Int)) (v_b119 : S_irq_Lines) : Option G_irq_Serve_C5_R :=
  if v_y143 < 0 then
   some (.x0 true)
  else
   if v_y143 > 100 then
    some (.x0 true)
   else
    (getI v_t4 v_t118).bind fun (v_y148 : Int) =>
    if v_y148 < 0 then
     some (.x0 true)
    else
     (getI v_t4 v_t118).bind fun (v_y150 : Int) =>
     some (.x0 (decide (v_y150 > 100)))
theorem G_irq_Serve_C5_ok {Fi : Ex → PS → Prop} (hF : KC 110 Fi) (ks : List Fr) (n : Nat) (v_t4 : (List Int)) (v_t6 : (List Bool)) (v_t116 : Int) (v_t117 : Int) (v_t118 : Int) (v_y143 : Int) (v_t5 : (List Int)) (v_b119 : S_irq_Lines)  (o : G_irq_Serve_C5_R) (h : G_irq_Serve_C5 n v_t4 v_t6 v_t116 v_t117 v_t118 v_y143 v_t5 v_b119 = some o) (q : RunE Try.prog 110 Fi ks (G_irq_Serve_C5_ex o) (G_irq_Serve_C5_st v_t4 v_t6 v_t116 v_t117 v_t118 v_y143 v_t5 v_b119 o)) : RunE Try.prog 110 Fi (.s (cL (cL (cR (cB (cL (cR (cR (cP (cB (cR (cL (cR (cR (cR (cR (bodyOf Try.f84)))))))))))))))) :: ks) .normal (G_irq_Serve_C5_hd v_t4 v_t6 v_t116 v_t117 v_t118 v_y143 v_t5 v_b119) := by
  unfold G_irq_Serve_C5 at h
  by_cases h148 : v_y143 < 0
  · rw [if_pos h148] at h
    cases h
    exact pkk_sound TTok mix hF 1 (hs := [.t true, .c, .c, .c, .c, .c, .c, .c, .c, .c, .c, .c]) (ts := []) (s := [0]) (l := [0, 2, 9, 10, 11, 12, 13, 36, 37, 38, 62]) (by kernel_rfl) (by kernel_rfl) (.cons (dt h148) .nil) q
  · rw [if_neg h148] at h
    by_cases h149 : v_y143 > 100
    · rw [if_pos h149] at h
      cases h
      exact pkk_sound TTok mix hF 1 (hs := [.t false, .c, .t true, .c, .c, .c, .c, .c, .c, .c, .c, .c]) (ts := []) (s := [0]) (l := [0, 2, 9, 10, 11, 12, 13, 36, 37, 38, 62]) (by kernel_rfl) (by kernel_rfl) (.cons (df h148) (.cons (dt h149) .nil)) q
    · rw [if_neg h149] at h
      obtain ⟨v_y148, h150, h⟩ := bind_some h
      by_cases h151 : v_y148 < 0
      · rw [if_pos h151] at h
        cases h
        exact pkk_sound TTok mix hF 1 (hs := [.t false, .c, .t false, .c, .c, .y ((eI .i64) v_y148), .c, .c, .c, .t true, .c, .c, .c, .c]) (ts := []) (s := [0]) (l := [0, 2, 9, 10, 11, 12, 13, 36, 37, 38, 62]) (by kernel_rfl) (by kernel_rfl) (.cons (df h148) (.cons (df h149) (.cons (getI_ob (f := (eI .i64)) h150) (.cons (dt h151) .nil)))) q
      · rw [if_neg h151] at h
        obtain ⟨v_y150, h152, h⟩ := bind_some h
        cases h
        exact pkk_sound TTok mix hF 1 (hs := [.t false, .c, .t false, .c, .c, .y ((eI .i64) v_y148), .c, .c, .c, .t false, .c, .c, .y ((eI .i64) v_y150), .c, .c, .c]) (ts := []) (s := [0]) (l := [0, 2, 9, 10, 11, 12, 13, 36, 37, 38, 62]) (by kernel_rfl) (by kernel_rfl) (.cons (df h148) (.cons (df h149) (.cons (getI_ob (f := (eI .i64)) h150) (.cons (df h151) (.cons (getI_ob (f := (eI .i64)) h152) .nil))))) q
inductive G_irq_Serve_C6_R where
  | x0 (v_b162 : S_irq_Lines)
  | x1 
def G_irq_Serve_C6_ex : G_irq_Serve_C6_R → Ex
  | .x0 _ => .normal
  | .x1  => .normal
def G_irq_Serve_C6_st (v_t4 : (List Int)) (v_t6 : (List Bool)) (v_t116 : Int) (v_y143 : Int) (v_t117 : Int) (v_t118 : Int) (v_t5 : (List Int)) (v_y157 : Bool) (v_b119 : S_irq_Lines) : G_irq_Serve_C6_R → PS
  | .x0 v_b162 => ⟨[.d (.sl (v_t4.map (eI .i64))), dd, .d (.sl (v_t6.map eB)), dd, dd, dd, dd, dd, dd, .d (.v (.int .i64 (wi .i64 (v_t116 + v_y143)))), .d (.v (.int .i64 v_t117)), .ref 0 0, .d (.v (.int .i64 v_t118)), dd, dd, dd, dd, dd, dd, dd, dd, dd, dd, dd, dd, dd, dd, dd, dd, dd, dd, dd, dd, dd, dd, dd, .d (.sl (v_t5.map (eI .i64))), .d (.v (.int .i64 (v_t5.length : Int))), .d (.v (.int .i64 v_t118)), dd, dd, dd, dd, dd, dd, dd, dd, dd, dd, dd, dd, dd, dd, dd, dd, dd, dd, dd, dd, dd, dd, dd, dd, dd, dd, dd, dd, dd, dd, dd, dd, dd, dd, dd, dd, dd, dd, dd, dd, dd, dd, dd, dd, dd, dd, dd, dd, dd, dd, dd, dd, dd, dd, dd, dd, dd, dd, dd, dd, dd, dd, dd, dd, dd, dd, dd, dd, dd, dd, dd], [.box [.d (.v (.int .i64 v_b162.fEdge)), .d (.v (.int .i64 v_b162.fUp)), .d (.v (.int .i64 v_b162.fMasked)), .d (.v (.int .i64 v_b162.fPending))]]⟩
  | .x1  => ⟨[.d (.sl (v_t4.map (eI .i64))), dd, .d (.sl (v_t6.map eB)), dd, dd, dd, dd, dd, dd, .d (.v (.int .i64 (wi .i64 (v_t116 + v_y143)))), .d (.v (.int .i64 v_t117)), .ref 0 0, .d (.v (.int .i64 v_t118)), dd, dd, dd, dd, dd, dd, dd, dd, dd, dd, dd, dd, dd, dd, dd, dd, dd, dd, dd, dd, dd, dd, dd, .d (.sl (v_t5.map (eI .i64))), .d (.v (.int .i64 (v_t5.length : Int))), .d (.v (.int .i64 v_t118)), dd, dd, dd, dd, dd, dd, dd, dd, dd, dd, dd, dd, dd, dd, dd, dd, dd, dd, dd, dd, dd, dd, dd, dd, dd, dd, dd, dd, dd, dd, dd, dd, dd, dd, dd, dd, dd, dd, dd, dd, dd, dd, dd, dd, dd, dd, dd, dd, dd, dd, dd, dd, dd, dd, dd, dd, dd, dd, dd, dd, dd, dd, dd, dd, dd, dd, dd, dd, dd, dd, dd], [.box [.d (.v (.int .i64 v_b119.fEdge)), .d (.v (.int .i64 v_b119.fUp)), .d (.v (.int .i64 v_b119.fMasked)), .d (.v (.int .i64 v_b119.fPending))]]⟩
def G_irq_Serve_C6_hd (v_t4 : (List Int)) (v_t6 : (List Bool)) (v_t116 : Int) (v_y143 : Int) (v_t117 : Int) (v_t118 : Int) (v_t5 : (List Int)) (v_y157 : Bool) (v_b119 : S_irq_Lines)  : PS := ⟨[.d (.sl (v_t4.map (eI .i64))), dd, .d (.sl (v_t6.map eB)), dd, dd, dd, dd, dd, dd, .d (.v (.int .i64 (wi .i64 (v_t116 + v_y143)))), .d (.v (.int .i64 v_t117)), .ref 0 0, .d (.v (.int .i64 v_t118)), dd, dd, dd, dd, dd, dd, dd, dd, dd, dd, dd, dd, dd, dd, dd, dd, dd, dd, dd, dd, dd, dd, dd, .d (.sl (v_t5.map (eI .i64))), .d (.v (.int .i64 (v_t5.length : Int))), .d (.v (.int .i64 v_t118)), dd, dd, dd, dd, dd, dd, dd, dd, dd, dd, dd, dd, dd, dd, dd, dd, dd, dd, dd, dd, dd, dd, dd, dd, dd, dd, dd, dd, dd, dd, .d (.v (.bool v_y157)), dd, dd, dd, dd, dd, dd, dd, dd, dd, dd, dd, dd, dd, dd, dd, dd, dd, dd, dd, dd, dd, dd, dd, dd, dd, dd, dd, dd, dd, dd, dd, dd, dd, dd, dd, dd, dd, dd, dd, dd], [.box [.d (.v (.int .i64 v_b119.fEdge)), .d (.v (.int .i64 v_b119.fUp)), .d (.v (.int .i64 v_b119.fMasked)), .d (.v (.int .i64 v_b119.fPending))]]⟩
def G_irq_Serve_C6 (n : Nat) (v_t4 : (List Int)) (v_t6 : (List Bool)) (v_t116 : Int) (v_y143 : Int) (v_t117 : Int) (v_t118 : Int) (v_t5 : (List Int)) (v_y157 : Bool) (v_b119 : S_irq_Lines) : Option G_irq_Serve_C6_R :=
  if v_y157 = true then
   (G_irq_Set n v_b119 0 false).bind fun (v_r160 : (S_irq_Lines × Int)) =>
   (G_irq_Set n v_r160.1 0 true).bind fun (v_r161 : (S_irq_Lines × Int)) =>
   some (.x0 v_r161.1)
  else
   some (.x1 )
theorem G_irq_Serve_C6_ok {Fi : Ex → PS → Prop} (hF : KC 110 Fi) (ks : List Fr) (n : Nat) (v_t4 : (List Int)) (v_t6 : (List Bool)) (v_t116 : Int) (v_y143 : Int) (v_t117 : Int) (v_t118 : Int) (v_t5 : (List Int)) (v_y157 : Bool) (v_b119 : S_irq_Lines)  (o : G_irq_Serve_C6_R) (h : G_irq_Serve_C6 n v_t4 v_t6 v_t116 v_y143 v_t117 v_t118 v_t5 v_y157 v_b119 = some o) (q : RunE Try.prog 110 Fi ks (G_irq_Serve_C6_ex o) (G_irq_Serve_C6_st v_t4 v_t6 v_t116 v_y143 v_t117 v_t118 v_t5 v_y157 v_b119 o)) : RunE Try.prog 110 Fi (.s (cR (cL (cR (cR (cR (cB (cL (cR (cR (cP (cB (cR (cL (cR (cR (cR (cR (bodyOf Try.f84)))))))))))))))))) :: ks) .normal (G_irq_Serve_C6_hd v_t4 v_t6 v_t116 v_y143 v_t117 v_t118 v_t5 v_y157 v_b119) := by
  unfold G_irq_Serve_C6 at h
  by_cases h160 : v_y157 = true
  · rw [if_pos h160] at h
    obtain ⟨v_r160, h161, h⟩ := bind_some h
    obtain ⟨v_r161, h162, h⟩ := bind_some h
    cases h
    exact pkk_sound TTok mix hF 4 (hs := [.t true, .c, .r (.tup [eS_irq_Lines v_r160.1, (eI .i64) v_r160.2]), .c, .c, .r (.tup [eS_irq_Lines v_r161.1, (eI .i64) v_r161.2]), .c]) (ts := []) (s := [0]) (l := [0, 2, 9, 10, 11, 12, 36, 37, 38]) (by kernel_rfl) (by kernel_rfl) (.cons h160 (.cons (G_irq_Set_ok n v_b119 0 false _ h161) (.cons (show 0 + 4 ≤ 4 by decide) (.cons (G_irq_Set_ok n v_r160.1 0 true _ h162) (.cons (show 0 + 4 ≤ 4 by decide) .nil))))) q
  · rw [if_neg h160] at h
    cases h
    exact pkk_sound TTok mix hF 2 (hs := [.t false]) (ts := []) (s := [0]) (l := [0, 2, 9, 10, 11, 12, 36, 37, 38]) (by kernel_rfl) (by kernel_rfl) (.cons (vf h160) .nil) q
inductive G_irq_Serve_C7_R where
  | x0 (v_t154 : Int) (v_t155 : Int) (v_t156 : Int)
  | x1 (v_t166 : Int) (v_t167 : Int) (v_b168 : S_irq_Lines)
  | x2 (v_t177 : Int) (v_t178 : Int)
def G_irq_Serve_C7_ex : G_irq_Serve_C7_R → Ex
  | .x0 _ _ _ => .ret
  | .x1 _ _ _ => .normal
  | .x2 _ _ => .normal
def G_irq_Serve_C7_st (v_t4 : (List Int)) (v_t6 : (List Bool)) (v_t116 : Int) (v_t117 : Int) (v_t5 : (List Int)) (v_t118 : Int) (v_b119 : S_irq_Lines) : G_irq_Serve_C7_R → PS
  | .x0 v_t154 v_t155 v_t156 => ⟨[dd, dd, dd, dd, dd, dd, .d (.v (.int .i64 v_t154)), .d (.v (.int .i64 v_t155)), .d (.v (.int .i64 v_t156)), dd, dd, dd, dd, dd, dd, dd, dd, dd, dd, dd, dd, dd, dd, dd, dd, dd, dd, dd, dd, dd, dd, dd, dd, dd, dd, dd, dd, dd, dd, dd, dd, dd, dd, dd, dd, dd, dd, dd, dd, dd, dd, dd, dd, dd, dd, dd, dd, dd, dd, dd, dd, dd, dd, dd, dd, dd, dd, dd, dd, dd, dd, dd, dd, dd, dd, dd, dd, dd, dd, dd, dd, dd, dd, dd, dd, dd, dd, dd, dd, dd, dd, dd, dd, dd, dd, dd, dd, dd, dd, dd, dd, dd, dd, dd, dd, dd, dd, dd, dd, dd], []⟩
  | .x1 v_t166 v_t167 v_b168 => ⟨[.d (.sl (v_t4.map (eI .i64))), dd, .d (.sl (v_t6.map eB)), dd, dd, dd, dd, dd, dd, .d (.v (.int .i64 v_t166)), .d (.v (.int .i64 v_t167)), .ref 0 0, dd, dd, dd, dd, dd, dd, dd, dd, dd, dd, dd, dd, dd, dd, dd, dd, dd, dd, dd, dd, dd, dd, dd, dd, .d (.sl (v_t5.map (eI .i64))), .d (.v (.int .i64 (v_t5.length : Int))), .d (.v (.int .i64 v_t118)), dd, dd, dd, dd, dd, dd, dd, dd, dd, dd, dd, dd, dd, dd, dd, dd, dd, dd, dd, dd, dd, dd, dd, dd, dd, dd, dd, dd, dd, dd, dd, dd, dd, dd, dd, dd, dd, dd, dd, dd, dd, dd, dd, dd, dd, dd, dd, dd, dd, dd, dd, dd, dd, dd, dd, dd, dd, dd, dd, dd, dd, dd, dd, dd, dd, dd, dd, dd, dd, dd, dd], [.box [.d (.v (.int .i64 v_b168.fEdge)), .d (.v (.int .i64 v_b168.fUp)), .d (.v (.int .i64 v_b168.fMasked)), .d (.v (.int .i64 v_b168.fPending))]]⟩
  | .x2 v_t177 v_t178 => ⟨[.d (.sl (v_t4.map (eI .i64))), dd, .d (.sl (v_t6.map eB)), dd, dd, dd, dd, dd, dd, .d (.v (.int .i64 v_t177)), .d (.v (.int .i64 v_t178)), .ref 0 0, dd, dd, dd, dd, dd, dd, dd, dd, dd, dd, dd, dd, dd, dd, dd, dd, dd, dd, dd, dd, dd, dd, dd, dd, .d (.sl (v_t5.map (eI .i64))), .d (.v (.int .i64 (v_t5.length : Int))), .d (.v (.int .i64 v_t118)), dd, dd, dd, dd, dd, dd, dd, dd, dd, dd, dd, dd, dd, dd, dd, dd, dd, dd, dd, dd, dd, dd, dd, dd, dd, dd, dd, dd, dd, dd, dd, dd, dd, dd, dd, dd, dd, dd, dd, dd, dd, dd, dd, dd, dd, dd, dd, dd, dd, dd, dd, dd, dd, dd, dd, dd, dd, dd, dd, dd, dd, dd, dd, dd, dd, dd, dd, dd, dd, dd, dd], [.box [.d (.v (.int .i64 v_b119.fEdge)), .d (.v (.int .i64 v_b119.fUp)), .d (.v (.int .i64 v_b119.fMasked)), .d (.v (.int .i64 v_b119.fPending))]]⟩
def G_irq_Serve_C7_hd (v_t4 : (List Int)) (v_t6 : (List Bool)) (v_t116 : Int) (v_t117 : Int) (v_t5 : (List Int)) (v_t118 : Int) (v_b119 : S_irq_Lines)  : PS := ⟨[.d (.sl (v_t4.map (eI .i64))), dd, .d (.sl (v_t6.map eB)), dd, dd, dd, dd, dd, dd, .d (.v (.int .i64 v_t116)), .d (.v (.int .i64 v_t117)), .ref 0 0, dd, dd, dd, dd, dd, dd, dd, dd, dd, dd, dd, dd, dd, dd, dd, dd, dd, dd, dd, dd, dd, dd, dd, dd, .d (.sl (v_t5.map (eI .i64))), .d (.v (.int .i64 (v_t5.length : Int))), .d (.v (.int .i64 v_t118)), dd, dd, dd, dd, dd, dd, dd, dd, dd, dd, dd, dd, dd, dd, dd, dd, dd, dd, dd, dd, dd, dd, dd, dd, dd, dd, dd, dd, dd, dd, dd, dd, dd, dd, dd, dd, dd, dd, dd, dd, dd, dd, dd, dd, dd, dd, dd, dd, dd, dd, dd, dd, dd, dd, dd, dd, dd, dd, dd, dd, dd, dd, dd, dd, dd, dd, dd, dd, dd, dd, dd], [.box [.d (.v (.int .i64 v_b119.fEdge)), .d (.v (.int .i64 v_b119.fUp)), .d (.v (.int .i64 v_b119.fMasked)), .d (.v (.int .i64 v_b119.fPending))]]⟩
def G_irq_Serve_C7 (n : Nat) (v_t4 : (List Int)) (v_t6 : (List Bool)) (v_t116 : Int) (v_t117 : Int) (v_t5 : (List Int)) (v_t118 : Int) (v_b119 : S_irq_Lines) : Option G_irq_Serve_C7_R :=
  (getI v_t5 v_t118).bind fun (v_y143 : Int) =>
  (G_irq_Serve_C5 n v_t4 v_t6 v_t116 v_t117 v_t118 v_y143 v_t5 v_b119).bind fun v_o152 => match v_o152 with
  | .x0 v_z153 =>
    if v_z153 = true then
     some (.x0 0 0 1)
    else
     (getI v_t6 v_t118).bind fun (v_y157 : Bool) =>
     (G_irq_Serve_C6 n v_t4 v_t6 v_t116 v_y143 v_t117 v_t118 v_t5 v_y157 v_b119).bind fun v_o163 => match v_o163 with
     | .x0 v_z164 =>
       (G_irq_Take n v_z164).bind fun (v_r165 : (S_irq_Lines × Int × Int)) =>
       if v_r165.2.2 = 0 then
        (getI v_t4 v_t118).bind fun (v_y169 : Int) =>
        if (wi .i64 ((wi .i64 (v_t116 + v_y143)) - (minI (wi .i64 (v_t116 + v_y143)) v_y169))) > 0 then
         some (.x1 (wi .i64 ((wi .i64 (v_t116 + v_y143)) - (minI (wi .i64 (v_t116 + v_y143)) v_y169))) (wi .i64 (v_t117 + (minI (wi .i64 (v_t116 + v_y143)) v_y169))) (S_irq_Lines.mk v_r165.1.fEdge v_r165.1.fUp v_r165.1.fMasked (bits .or .i64 v_r165.1.fPending 1)))
        else
         some (.x1 (wi .i64 ((wi .i64 (v_t116 + v_y143)) - (minI (wi .i64 (v_t116 + v_y143)) v_y169))) (wi .i64 (v_t117 + (minI (wi .i64 (v_t116 + v_y143)) v_y169))) v_r165.1)
       else
        some (.x1 (wi .i64 (v_t116 + v_y143)) v_t117 v_z164)
     | .x1  =>
       (G_irq_Take n v_b119).bind fun (v_r176 : (S_irq_Lines × Int × Int)) =>
       if v_r176.2.2 = 0 then
        (getI v_t4 v_t118).bind fun (v_y179 : Int) =>
        if (wi .i64 ((wi .i64 (v_t116 + v_y143)) - (minI (wi .i64 (v_t116 + v_y143)) v_y179))) > 0 then
         some (.x1 (wi .i64 ((wi .i64 (v_t116 + v_y143)) - (minI (wi .i64 (v_t116 + v_y143)) v_y179))) (wi .i64 (v_t117 + (minI (wi .i64 (v_t116 + v_y143)) v_y179))) (S_irq_Lines.mk v_r176.1.fEdge v_r176.1.fUp v_r176.1.fMasked (bits .or .i64 v_r176.1.fPending 1)))
        else
         some (.x1 (wi .i64 ((wi .i64 (v_t116 + v_y143)) - (minI (wi .i64 (v_t116 + v_y143)) v_y179))) (wi .i64 (v_t117 + (minI (wi .i64 (v_t116 + v_y143)) v_y179))) v_r176.1)
       else
        some (.x2 (wi .i64 (v_t116 + v_y143)) v_t117)
theorem G_irq_Serve_C7_ok {Fi : Ex → PS → Prop} (hF : KC 110 Fi) (ks : List Fr) (n : Nat) (v_t4 : (List Int)) (v_t6 : (List Bool)) (v_t116 : Int) (v_t117 : Int) (v_t5 : (List Int)) (v_t118 : Int) (v_b119 : S_irq_Lines)  (o : G_irq_Serve_C7_R) (h : G_irq_Serve_C7 n v_t4 v_t6 v_t116 v_t117 v_t5 v_t118 v_b119 = some o) (q : RunE Try.prog 110 Fi ks (G_irq_Serve_C7_ex o) (G_irq_Serve_C7_st v_t4 v_t6 v_t116 v_t117 v_t5 v_t118 v_b119 o)) : RunE Try.prog 110 Fi (.s (cL (cR (cR (cP (cB (cR (cL (cR (cR (cR (cR (bodyOf Try.f84)))))))))))) :: ks) .normal (G_irq_Serve_C7_hd v_t4 v_t6 v_t116 v_t117 v_t5 v_t118 v_b119) := by
  unfold G_irq_Serve_C7 at h
  obtain ⟨v_y143, h142, h⟩ := bind_some h
  obtain ⟨v_o152, h153, h⟩ := bind_some h
  refine pkk_sound TTok mix hF 5 (hs := [.y ((eI .i64) v_y143), .c]) (ts := []) (s := [0]) (l := [0, 2, 9, 10, 11, 12, 13, 36, 37, 38]) (by kernel_rfl) (by kernel_rfl) (.cons (getI_ob (f := (eI .i64)) h142) .nil) (G_irq_Serve_C5_ok hF (.s (cR (cL (cR (cB (cL (cR (cR (cP (cB (cR (cL (cR (cR (cR (cR (bodyOf Try.f84)))))))))))))))) :: .s (cR (cR (cB (cL (cR (cR (cP (cB (cR (cL (cR (cR (cR (cR (bodyOf Try.f84))))))))))))))) :: .b 1 :: ks) n v_t4 v_t6 v_t116 v_t117 v_t118 v_y143 v_t5 v_b119 _ h153 ?_)
  cases v_o152 with
  | x0 v_z153 =>
    dsimp only at h
    by_cases h155 : v_z153 = true
    · rw [if_pos h155] at h
      cases h
      exact pkk_sound TTok mix hF 6 (hs := [.t true]) (ts := []) (s := []) (l := [6, 7, 8]) (by kernel_rfl) (by kernel_rfl) (.cons h155 .nil) q
    · rw [if_neg h155] at h
      obtain ⟨v_y157, h156, h⟩ := bind_some h
      obtain ⟨v_o163, h163, h⟩ := bind_some h
      refine pkk_sound TTok mix hF 7 (hs := [.t false, .y (eB v_y157), .c]) (ts := []) (s := [0]) (l := [0, 2, 9, 10, 11, 12, 36, 37, 38, 69]) (by kernel_rfl) (by kernel_rfl) (.cons (vf h155) (.cons (getI_ob (f := eB) h156) .nil)) (G_irq_Serve_C6_ok hF (.s (cR (cR (cR (cR (cB (cL (cR (cR (cP (cB (cR (cL (cR (cR (cR (cR (bodyOf Try.f84))))))))))))))))) :: .b 1 :: ks) n v_t4 v_t6 v_t116 v_y143 v_t117 v_t118 v_t5 v_y157 v_b119 _ h163 ?_)
      cases v_o163 with
      | x0 v_z164 =>
        dsimp only at h
        obtain ⟨v_r165, h164, h⟩ := bind_some h
        by_cases h165 : v_r165.2.2 = 0
        · rw [if_pos h165] at h
          obtain ⟨v_y169, h166, h⟩ := bind_some h
          by_cases h168 : (wi .i64 ((wi .i64 (v_t116 + v_y143)) - (minI (wi .i64 (v_t116 + v_y143)) v_y169))) > 0
          · rw [if_pos h168] at h
            cases h
            exact pkk_sound TTok mix hF 20 (hs := [.c, .r (.tup [eS_irq_Lines v_r165.1, (eI .i64) v_r165.2.1, (eI .i64) v_r165.2.2]), .c, .t false, .c, .c, .y ((eI .i64) v_y169), .c, .t true, .c, .c]) (ts := []) (s := [0]) (l := [0, 2, 9, 10, 11, 36, 37, 38]) (by kernel_rfl) (by kernel_rfl) (.cons (G_irq_Take_ok n v_z164 _ h164) (.cons (show 0 + 4 ≤ 4 by decide) (.cons (nf h165) (.cons (show 0 + 4 ≤ 4 by decide) (.cons (getI_ob (f := (eI .i64)) h166) (.cons (dt h168) (.cons (show 3 + 1 ≤ 4 by decide) .nil))))))) q
          · rw [if_neg h168] at h
            cases h
            exact pkk_sound TTok mix hF 20 (hs := [.c, .r (.tup [eS_irq_Lines v_r165.1, (eI .i64) v_r165.2.1, (eI .i64) v_r165.2.2]), .c, .t false, .c, .c, .y ((eI .i64) v_y169), .c, .t false]) (ts := []) (s := [0]) (l := [0, 2, 9, 10, 11, 36, 37, 38]) (by kernel_rfl) (by kernel_rfl) (.cons (G_irq_Take_ok n v_z164 _ h164) (.cons (show 0 + 4 ≤ 4 by decide) (.cons (nf h165) (.cons (show 0 + 4 ≤ 4 by decide) (.cons (getI_ob (f := (eI .i64)) h166) (.cons (df h168) .nil)))))) q
        · rw [if_neg h165] at h
          cases h
          exact pkk_sound TTok mix hF 9 (hs := [.c, .r (.tup [eS_irq_Lines v_r165.1, (eI .i64) v_r165.2.1, (eI .i64) v_r165.2.2]), .c, .t true]) (ts := []) (s := [0]) (l := [0, 2, 9, 10, 11, 36, 37, 38]) (by kernel_rfl) (by kernel_rfl) (.cons (G_irq_Take_ok n v_z164 _ h164) (.cons (show 0 + 4 ≤ 4 by decide) (.cons (nt h165) .nil))) q
      | x1  =>
        dsimp only at h
        obtain ⟨v_r176, h169, h⟩ := bind_some h
        by_cases h170 : v_r176.2.2 = 0
        · rw [if_pos h170] at h
          obtain ⟨v_y179, h171, h⟩ := bind_some h
          by_cases h173 : (wi .i64 ((wi .i64 (v_t116 + v_y143)) - (minI (wi .i64 (v_t116 + v_y143)) v_y179))) > 0
          · rw [if_pos h173] at h
            cases h
            exact pkk_sound TTok mix hF 20 (hs := [.c, .r (.tup [eS_irq_Lines v_r176.1, (eI .i64) v_r176.2.1, (eI .i64) v_r176.2.2]), .c, .t false, .c, .c, .y ((eI .i64) v_y179), .c, .t true, .c, .c]) (ts := []) (s := [0]) (l := [0, 2, 9, 10, 11, 36, 37, 38]) (by kernel_rfl) (by kernel_rfl) (.cons (G_irq_Take_ok n v_b119 _ h169) (.cons (show 0 + 4 ≤ 4 by decide) (.cons (nf h170) (.cons (show 0 + 4 ≤ 4 by decide) (.cons (getI_ob (f := (eI .i64)) h171) (.cons (dt h173) (.cons (show 3 + 1 ≤ 4 by decide) .nil))))))) q
          · rw [if_neg h173] at h
            cases h
            exact pkk_sound TTok mix hF 20 (hs := [.c, .r (.tup [eS_irq_Lines v_r176.1, (eI .i64) v_r176.2.1, (eI .i64) v_r176.2.2]), .c, .t false, .c, .c, .y ((eI .i64) v_y179), .c, .t false]) (ts := []) (s := [0]) (l := [0, 2, 9, 10, 11, 36, 37, 38]) (by kernel_rfl) (by kernel_rfl) (.cons (G_irq_Take_ok n v_b119 _ h169) (.cons (show 0 + 4 ≤ 4 by decide) (.cons (nf h170) (.cons (show 0 + 4 ≤ 4 by decide) (.cons (getI_ob (f := (eI .i64)) h171) (.cons (df h173) .nil)))))) q
        · rw [if_neg h170] at h
          cases h
          exact pkk_sound TTok mix hF 9 (hs := [.c, .r (.tup [eS_irq_Lines v_r176.1, (eI .i64) v_r176.2.1, (eI .i64) v_r176.2.2]), .c, .t true]) (ts := []) (s := [0]) (l := [0, 2, 9, 10, 11, 36, 37, 38]) (by kernel_rfl) (by kernel_rfl) (.cons (G_irq_Take_ok n v_b119 _ h169) (.cons (show 0 + 4 ≤ 4 by decide) (.cons (nt h170) .nil))) q
inductive G_irq_Serve_L8_R where
  | x0 (v_t190 : Int) (v_t191 : Int) (v_t192 : Int)
  | x1 (v_t198 : Int) (v_t199 : Int)
def G_irq_Serve_L8_ex : G_irq_Serve_L8_R → Ex
  | .x0 _ _ _ => .ret
  | .x1 _ _ => .exit 0
def G_irq_Serve_L8_st (v_t4 : (List Int)) (v_t6 : (List Bool)) (v_t5 : (List Int)) : G_irq_Serve_L8_R → PS
  | .x0 v_t190 v_t191 v_t192 => ⟨[dd, dd, dd, dd, dd, dd, .d (.v (.int .i64 v_t190)), .d (.v (.int .i64 v_t191)), .d (.v (.int .i64 v_t192)), dd, dd, dd, dd, dd, dd, dd, dd, dd, dd, dd, dd, dd, dd, dd, dd, dd, dd, dd, dd, dd, dd, dd, dd, dd, dd, dd, dd, dd, dd, dd, dd, dd, dd, dd, dd, dd, dd, dd, dd, dd, dd, dd, dd, dd, dd, dd, dd, dd, dd, dd, dd, dd, dd, dd, dd, dd, dd, dd, dd, dd, dd, dd, dd, dd, dd, dd, dd, dd, dd, dd, dd, dd, dd, dd, dd, dd, dd, dd, dd, dd, dd, dd, dd, dd, dd, dd, dd, dd, dd, dd, dd, dd, dd, dd, dd, dd, dd, dd, dd, dd], []⟩
  | .x1 v_t198 v_t199 => ⟨[dd, dd, dd, dd, dd, dd, dd, dd, dd, .d (.v (.int .i64 v_t198)), .d (.v (.int .i64 v_t199)), dd, dd, dd, dd, dd, dd, dd, dd, dd, dd, dd, dd, dd, dd, dd, dd, dd, dd, dd, dd, dd, dd, dd, dd, dd, dd, dd, dd, dd, dd, dd, dd, dd, dd, dd, dd, dd, dd, dd, dd, dd, dd, dd, dd, dd, dd, dd, dd, dd, dd, dd, dd, dd, dd, dd, dd, dd, dd, dd, dd, dd, dd, dd, dd, dd, dd, dd, dd, dd, dd, dd, dd, dd, dd, dd, dd, dd, dd, dd, dd, dd, dd, dd, dd, dd, dd, dd, dd, dd, dd, dd, dd, dd, dd, dd, dd, dd, dd, dd], []⟩
def G_irq_Serve_L8_hd (v_t4 : (List Int)) (v_t6 : (List Bool)) (v_t5 : (List Int)) (v_t116 : Int) (v_t117 : Int) (v_t118 : Int) (v_b119 : S_irq_Lines) : PS := ⟨[.d (.sl (v_t4.map (eI .i64))), dd, .d (.sl (v_t6.map eB)), dd, dd, dd, dd, dd, dd, .d (.v (.int .i64 v_t116)), .d (.v (.int .i64 v_t117)), .ref 0 0, dd, dd, dd, dd, dd, dd, dd, dd, dd, dd, dd, dd, dd, dd, dd, dd, dd, dd, dd, dd, dd, dd, dd, dd, .d (.sl (v_t5.map (eI .i64))), .d (.v (.int .i64 (v_t5.length : Int))), .d (.v (.int .i64 v_t118)), dd, dd, dd, dd, dd, dd, dd, dd, dd, dd, dd, dd, dd, dd, dd, dd, dd, dd, dd, dd, dd, dd, dd, dd, dd, dd, dd, dd, dd, dd, dd, dd, dd, dd, dd, dd, dd, dd, dd, dd, dd, dd, dd, dd, dd, dd, dd, dd, dd, dd, dd, dd, dd, dd, dd, dd, dd, dd, dd, dd, dd, dd, dd, dd, dd, dd, dd, dd, dd, dd, dd], [.box [.d (.v (.int .i64 v_b119.fEdge)), .d (.v (.int .i64 v_b119.fUp)), .d (.v (.int .i64 v_b119.fMasked)), .d (.v (.int .i64 v_b119.fPending))]]⟩
def G_irq_Serve_L8 (n : Nat) (v_t4 : (List Int)) (v_t6 : (List Bool)) (v_t5 : (List Int)) : Nat → Int → Int → Int → S_irq_Lines → Option G_irq_Serve_L8_R
  | 0, _, _, _, _ => none
  | k + 1, v_t116, v_t117, v_t118, v_b119 =>
    if v_t118 < (v_t5.length : Int) then
     (G_irq_Serve_C7 n v_t4 v_t6 v_t116 v_t117 v_t5 v_t118 v_b119).bind fun v_o186 => match v_o186 with
     | .x0 v_z187 v_z188 v_z189 =>
       some (.x0 v_z187 v_z188 v_z189)
     | .x1 v_z193 v_z194 v_z195 =>
       G_irq_Serve_L8 n v_t4 v_t6 v_t5 k v_z193 v_z194 (wi .i64 (v_t118 + 1)) v_z195
     | .x2 v_z196 v_z197 =>
       G_irq_Serve_L8 n v_t4 v_t6 v_t5 k v_z196 v_z197 (wi .i64 (v_t118 + 1)) v_b119
    else
     some (.x1 v_t116 v_t117)
theorem G_irq_Serve_L8_ok {Fi : Ex → PS → Prop} (hF : KC 110 Fi) (ks : List Fr) (n : Nat) (v_t4 : (List Int)) (v_t6 : (List Bool)) (v_t5 : (List Int))  : ∀ (k : Nat) (v_t116 : Int) (v_t117 : Int) (v_t118 : Int) (v_b119 : S_irq_Lines) (o : G_irq_Serve_L8_R), G_irq_Serve_L8 n v_t4 v_t6 v_t5 k v_t116 v_t117 v_t118 v_b119 = some o → RunE Try.prog 110 Fi ks (G_irq_Serve_L8_ex o) (G_irq_Serve_L8_st v_t4 v_t6 v_t5 o) → RunE Try.prog 110 Fi (.l k (cP (cB (cR (cL (cR (cR (cR (cR (bodyOf Try.f84))))))))) :: ks) .normal (G_irq_Serve_L8_hd v_t4 v_t6 v_t5 v_t116 v_t117 v_t118 v_b119)
  | 0, v_t116, v_t117, v_t118, v_b119, o, h, q => by rw [G_irq_Serve_L8] at h; cases h
  | k + 1, v_t116, v_t117, v_t118, v_b119, o, h, q => by
    rw [G_irq_Serve_L8] at h
    by_cases h109 : v_t118 < (v_t5.length : Int)
    · rw [if_pos h109] at h
      obtain ⟨v_o186, h174, h⟩ := bind_some h
      refine pkk_sound TTok mix hF 7 (hs := [.t true]) (ts := []) (s := [0]) (l := [0, 2, 9, 10, 11, 36, 37, 38]) (by kernel_rfl) (by kernel_rfl) (.cons (dt h109) .nil) (G_irq_Serve_C7_ok hF (.s (cR (cR (cR (cP (cB (cR (cL (cR (cR (cR (cR (bodyOf Try.f84)))))))))))) :: .l k (cP (cB (cR (cL (cR (cR (cR (cR (bodyOf Try.f84))))))))) :: ks) n v_t4 v_t6 v_t116 v_t117 v_t5 v_t118 v_b119 _ h174 ?_)
      cases v_o186 with
      | x0 v_z187 v_z188 v_z189 =>
        dsimp only at h
        cases h
        exact pkk_sound TTok mix hF 2 (hs := []) (ts := []) (s := []) (l := [6, 7, 8]) (by kernel_rfl) (by kernel_rfl) .nil q
      | x1 v_z193 v_z194 v_z195 =>
        dsimp only at h
        exact pkk_sound TTok mix hF 1 (hs := []) (ts := []) (s := [0]) (l := [0, 2, 9, 10, 11, 36, 37, 38]) (by kernel_rfl) (by kernel_rfl) .nil (G_irq_Serve_L8_ok hF ks n v_t4 v_t6 v_t5 k v_z193 v_z194 (wi .i64 (v_t118 + 1)) v_z195 _ h q)
      | x2 v_z196 v_z197 =>
        dsimp only at h
        exact pkk_sound TTok mix hF 1 (hs := []) (ts := []) (s := [0]) (l := [0, 2, 9, 10, 11, 36, 37, 38]) (by kernel_rfl) (by kernel_rfl) .nil (G_irq_Serve_L8_ok hF ks n v_t4 v_t6 v_t5 k v_z196 v_z197 (wi .i64 (v_t118 + 1)) v_b119 _ h q)
    · rw [if_neg h109] at h
      cases h
      exact pkk_sound TTok mix hF 8 (hs := [.t false]) (ts := []) (s := []) (l := [9, 10]) (by kernel_rfl) (by kernel_rfl) (.cons (df h109) .nil) q
/- ringhall/irq.Serve -/
def G_irq_Serve (n : Nat) (v_t4 : (List Int)) (v_t5 : (List Int)) (v_t6 : (List Bool)) : Option (Int × Int × Int) :=
  (G_irq_Serve_C1 n v_t4 v_t5 v_t6).bind fun v_o10 => match v_o10 with
  | .x0 v_z11 =>
    if v_z11 = true then
     some (0, 0, 3)
    else
     (G_irq_Serve_L8 n v_t4 v_t6 v_t5 n 0 0 0 (S_irq_Lines.mk 1 0 0 0)).bind fun v_o200 => match v_o200 with
     | .x0 v_z201 v_z202 v_z203 =>
       some (v_z201, v_z202, v_z203)
     | .x1 v_z204 v_z205 =>
       some (v_z205, v_z204, 0)
theorem G_irq_Serve_ok (n : Nat) (v_t4 : (List Int)) (v_t5 : (List Int)) (v_t6 : (List Bool)) (r : Int × Int × Int) (h : G_irq_Serve n v_t4 v_t5 v_t6 = some r) : Ret Try.prog 84 [(eL (eI .i64)) v_t4, (eL (eI .i64)) v_t5, (eL eB) v_t6] (.tup [(eI .i64) r.1, (eI .i64) r.2.1, (eI .i64) r.2.2]) := by
  refine ret_run (n := 110) (fn := Try.f84) (c := bodyOf Try.f84) (by kernel_rfl) (by kernel_rfl) (by kernel_rfl) (by kernel_rfl) ?_
  have hF : KC 110 (FinR Try.prog Try.f84 (.tup [(eI .i64) r.1, (eI .i64) r.2.1, (eI .i64) r.2.2])) := FinR.kc' (by kernel_rfl)
  unfold G_irq_Serve at h
  obtain ⟨v_o10, h5, h⟩ := bind_some h
  refine pkk_sound TTok mix hF 4 (hs := []) (ts := []) (s := []) (l := [0, 1, 2]) (by kernel_rfl) (by kernel_rfl) .nil (G_irq_Serve_C1_ok hF (.s (cR (cL (cR (bodyOf Try.f84)))) :: .s (cR (cR (bodyOf Try.f84))) :: []) n v_t4 v_t5 v_t6 _ h5 ?_)
  cases v_o10 with
  | x0 v_z11 =>
    dsimp only at h
    by_cases h7 : v_z11 = true
    · rw [if_pos h7] at h
      obtain rfl := Option.some.inj h
      exact pend_sound TTok mix 5 (hs := [.t true]) (by kernel_rfl) (by kernel_rfl) (by kernel_rfl) (.cons h7 .nil)
    · rw [if_neg h7] at h
      obtain ⟨v_o200, h175, h⟩ := bind_some h
      refine pkk_sound TTok mix hF 11 (hs := [.t false, .c, .u (.d (.v (.int .i64 (v_t5.length : Int)))), .n n]) (ts := []) (s := [9]) (l := [0, 2, 9, 10, 11, 36, 37, 38]) (by kernel_rfl) (by kernel_rfl) (.cons (vf h7) (.cons (show 0 + 4 ≤ 4 by decide) (.cons (len_ob (f := (eI .i64)) (l := v_t5)) .nil))) (G_irq_Serve_L8_ok hF (.b 0 :: .s (cR (cR (cR (cR (cR (bodyOf Try.f84)))))) :: []) n v_t4 v_t6 v_t5 n 0 0 0 (S_irq_Lines.mk 1 0 0 0) _ h175 ?_)
      cases v_o200 with
      | x0 v_z201 v_z202 v_z203 =>
        dsimp only at h
        obtain rfl := Option.some.inj h
        exact pend_sound TTok mix 2 (hs := []) (by kernel_rfl) (by kernel_rfl) (by kernel_rfl) .nil
      | x1 v_z204 v_z205 =>
        dsimp only at h
        obtain rfl := Option.some.inj h
        exact pend_sound TTok mix 4 (hs := []) (by kernel_rfl) (by kernel_rfl) (by kernel_rfl) .nil
inductive G_ringlaw5_serves_C1_R where
  | x0 (v_x207 : Bool)
def G_ringlaw5_serves_C1_ex : G_ringlaw5_serves_C1_R → Ex
  | .x0 _ => .normal
def G_ringlaw5_serves_C1_st (v_r206 : (Int × Int × Int)) : G_ringlaw5_serves_C1_R → PS
  | .x0 v_x207 => ⟨[.d (.v (.bool v_x207)), dd, dd, dd, dd, dd, dd, dd, dd, dd, dd, dd, dd, dd, dd, dd, dd, dd, dd, dd, dd, dd], []⟩
def G_ringlaw5_serves_C1_hd (v_r206 : (Int × Int × Int))  : PS := ⟨[dd, .d (.v (.int .i64 v_r206.1)), .d (.v (.int .i64 v_r206.2.1)), .d (.v (.int .i64 v_r206.2.2)), dd, dd, dd, dd, dd, dd, dd, dd, dd, dd, dd, dd, dd, dd, dd, dd, dd, dd], []⟩
def G_ringlaw5_serves_C1 (n : Nat) (v_r206 : (Int × Int × Int)) : Option G_ringlaw5_serves_C1_R :=
  if v_r206.2.2 = 0 then
   if v_r206.1 = 3 then
    some (.x0 (v_r206.2.1 == 0))
   else
    some (.x0 false)
  else
   some (.x0 false)
theorem G_ringlaw5_serves_C1_ok {Fi : Ex → PS → Prop} (hF : KC 22 Fi) (ks : List Fr) (n : Nat) (v_r206 : (Int × Int × Int))  (o : G_ringlaw5_serves_C1_R) (h : G_ringlaw5_serves_C1 n v_r206 = some o) (q : RunE Try.prog 22 Fi ks (G_ringlaw5_serves_C1_ex o) (G_ringlaw5_serves_C1_st v_r206 o)) : RunE Try.prog 22 Fi (.s (cL (cR (cR (bodyOf Try.f83)))) :: ks) .normal (G_ringlaw5_serves_C1_hd v_r206) := by
  unfold G_ringlaw5_serves_C1 at h
  by_cases h179 : v_r206.2.2 = 0
  · rw [if_pos h179] at h
    by_cases h180 : v_r206.1 = 3
    · rw [if_pos h180] at h
      cases h
      exact pkk_sound TTok mix hF 1 (hs := [.t true, .c, .t true, .c]) (ts := []) (s := []) (l := [0]) (by kernel_rfl) (by kernel_rfl) (.cons (bt h179) (.cons (bt h180) .nil)) q
    · rw [if_neg h180] at h
      cases h
      exact pkk_sound TTok mix hF 1 (hs := [.t true, .c, .t false, .c]) (ts := []) (s := []) (l := [0]) (by kernel_rfl) (by kernel_rfl) (.cons (bt h179) (.cons (bf h180) .nil)) q
  · rw [if_neg h179] at h
    cases h
    exact pkk_sound TTok mix hF 1 (hs := [.t false, .c, .c, .c]) (ts := []) (s := []) (l := [0]) (by kernel_rfl) (by kernel_rfl) (.cons (bf h179) .nil) q
/- ringhall/ringlaw5.serves -/
def G_ringlaw5_serves (n : Nat)  : Option (Bool) :=
  (G_irq_Serve n ([0, 5]) ([3, 0]) ([true, false])).bind fun (v_r206 : (Int × Int × Int)) =>
  (G_ringlaw5_serves_C1 n v_r206).bind fun v_o210 => match v_o210 with
  | .x0 v_z211 =>
    some v_z211
theorem G_ringlaw5_serves_ok (n : Nat)  (r : Bool) (h : G_ringlaw5_serves n  = some r) : Ret Try.prog 83 [] (eB r) := by
  refine ret_run (n := 22) (fn := Try.f83) (c := bodyOf Try.f83) (by kernel_rfl) (by kernel_rfl) (by kernel_rfl) (by kernel_rfl) ?_
  have hF : KC 22 (FinR Try.prog Try.f83 (eB r)) := FinR.kc' (by kernel_rfl)
  unfold G_ringlaw5_serves at h
  obtain ⟨v_r206, h176, h⟩ := bind_some h
  obtain ⟨v_o210, h181, h⟩ := bind_some h
  refine pkk_sound TTok mix hF 5 (hs := [.q true, .q true, .q true, .r (.tup [(eI .i64) v_r206.1, (eI .i64) v_r206.2.1, (eI .i64) v_r206.2.2])]) (ts := []) (s := []) (l := [1, 2, 3]) (by kernel_rfl) (by kernel_rfl) (.cons (G_irq_Serve_ok n ([0, 5]) ([3, 0]) ([true, false]) _ h176) .nil) (G_ringlaw5_serves_C1_ok hF (.s (cR (cR (cR (bodyOf Try.f83)))) :: []) n v_r206 _ h181 ?_)
  cases v_o210 with
  | x0 v_z211 =>
    dsimp only at h
    obtain rfl := Option.some.inj h
    exact pend_sound TTok mix 1 (hs := []) (by kernel_rfl) (by kernel_rfl) (by kernel_rfl) .nil
/- slices.Grow[[]int,int] -/
def G_slices_Grow_int_int_h (n : Nat) (v_n227 : Int) : Option ((List Int)) :=
  if v_n227 < 0 then
   none
  else
   if (wi .i64 (v_n227 - (wi .i64 (0 - 0)))) > 0 then
    (appZ 8 0 (wi .i64 (v_n227 - (wi .i64 (0 - 0))))).bind fun (v_a230 : (List Int)) =>
    (sub v_a230 0 0).bind fun (v_s231 : (List Int)) =>
    some v_s231
   else
    some ([] : List Int)
theorem G_slices_Grow_int_int_h_ok (n : Nat) (v_n227 : Int) (r : (List Int)) (h : G_slices_Grow_int_int_h n v_n227 = some r) : RetH Try.prog 127 [.d vnil, .d ((eI .i64) v_n227)] [] (.srf 0) [.row 3 1 (r.map (eI .i64))] := by
  refine retH_run (n := 27) (fn := Try.f127) (c := bodyOf Try.f127) (by kernel_rfl) (by kernel_rfl) (by kernel_rfl) (by kernel_rfl) ?_
  have hF : KC 27 (FinH Try.prog Try.f127 [] (.srf 0) [.row 3 1 (r.map (eI .i64))]) := FinH.kc' (by kernel_rfl)
  unfold G_slices_Grow_int_int_h at h
  by_cases h197 : v_n227 < 0
  · rw [if_pos h197] at h
    cases h
  · rw [if_neg h197] at h
    by_cases h201 : (wi .i64 (v_n227 - (wi .i64 (0 - 0)))) > 0
    · rw [if_pos h201] at h
      obtain ⟨v_a230, h202, h⟩ := bind_some h
      obtain ⟨v_s231, h203, h⟩ := bind_some h
      obtain rfl := Option.some.inj h
      exact pendH_sound TTok mix 17 (hs := [.t false, .u (.d (.v (.int .i64 0))), .t true, .c, .w (v_a230.map (eI .i64)), .u (.d (.v (.int .i64 0))), .w (v_s231.map (eI .i64))]) [63] (by kernel_rfl) (by kernel_rfl) (by kernel_rfl) (.cons (df h197) (.cons (Eq.refl (FV.d (.v (.int .i64 0)))) (.cons (dt h201) (.cons (Eq.refl (0 : Int)) (.cons (Eq.refl (0 : Int)) (.cons (appZ_ob (f := (eI .i64)) (p := .v (.int .i64 0)) h202 rfl).1 (.cons (appZ_ob (f := (eI .i64)) (p := .v (.int .i64 0)) h202 rfl).2.1 (.cons (appZ_ob (f := (eI .i64)) (p := .v (.int .i64 0)) h202 rfl).2.2.1 (.cons (appZ_ob (f := (eI .i64)) (p := .v (.int .i64 0)) h202 rfl).2.2.2 (.cons (Eq.refl (FV.d (.v (.int .i64 0)))) (.cons (Eq.refl (0 : Int)) (.cons (subR_ob (f := (eI .i64)) h203).1 (.cons (subR_ob (f := (eI .i64)) h203).2.1 (.cons (subR_ob (f := (eI .i64)) h203).2.2 .nil))))))))))))))
    · rw [if_neg h201] at h
      obtain rfl := Option.some.inj h
      exact pendH_sound TTok mix 18 (hs := [.t false, .u (.d (.v (.int .i64 0))), .t false, .dl 4, .th 4 3 1]) [45] (by kernel_rfl) (by kernel_rfl) (by kernel_rfl) (.cons (df h197) (.cons (Eq.refl (FV.d (.v (.int .i64 0)))) (.cons (df h201) .nil)))
inductive G_slices_Concat_int_int_h_L1_R where
  | x0 (v_size224 : Int)
def G_slices_Concat_int_int_h_L1_ex : G_slices_Concat_int_int_h_L1_R → Ex
  | .x0 _ => .exit 0
def G_slices_Concat_int_int_h_L1_st (v_slices219 : (List (List Int))) : G_slices_Concat_int_int_h_L1_R → PS
  | .x0 v_size224 => ⟨[.d (.sl (v_slices219.map (eL (eI .i64)))), dd, dd, .d (.v (.int .i64 v_size224)), dd, dd, dd, dd, dd, dd, dd, dd, dd, dd, dd, dd, dd, dd, dd, dd, dd, dd, dd, dd, dd, dd, dd, dd, dd, dd, dd, dd, dd, dd, dd, dd], []⟩
def G_slices_Concat_int_int_h_L1_hd (v_slices219 : (List (List Int))) (v_size220 : Int) (v_x221 : Int) : PS := ⟨[.d (.sl (v_slices219.map (eL (eI .i64)))), dd, dd, .d (.v (.int .i64 v_size220)), dd, dd, dd, dd, dd, .d (.sl (v_slices219.map (eL (eI .i64)))), .d (.v (.int .i64 (v_slices219.length : Int))), .d (.v (.int .i64 v_x221)), dd, dd, dd, dd, dd, dd, dd, dd, dd, dd, dd, dd, dd, dd, dd, dd, dd, dd, dd, dd, dd, dd, dd, dd], []⟩
def G_slices_Concat_int_int_h_L1 (n : Nat) (v_slices219 : (List (List Int))) : Nat → Int → Int → Option G_slices_Concat_int_int_h_L1_R
  | 0, _, _ => none
  | k + 1, v_size220, v_x221 =>
    if v_x221 < (v_slices219.length : Int) then
     (getI v_slices219 v_x221).bind fun (v_y223 : (List Int)) =>
     if (wi .i64 (v_size220 + (v_y223.length : Int))) < 0 then
      none
     else
      G_slices_Concat_int_int_h_L1 n v_slices219 k (wi .i64 (v_size220 + (v_y223.length : Int))) (wi .i64 (v_x221 + 1))
    else
     some (.x0 v_size220)
theorem G_slices_Concat_int_int_h_L1_ok {Fi : Ex → PS → Prop} (hF : KC 36 Fi) (ks : List Fr) (n : Nat) (v_slices219 : (List (List Int)))  : ∀ (k : Nat) (v_size220 : Int) (v_x221 : Int) (o : G_slices_Concat_int_int_h_L1_R), G_slices_Concat_int_int_h_L1 n v_slices219 k v_size220 v_x221 = some o → RunE Try.prog 36 Fi ks (G_slices_Concat_int_int_h_L1_ex o) (G_slices_Concat_int_int_h_L1_st v_slices219 o) → RunE Try.prog 36 Fi (.l k (cP (cB (cR (cL (cR (cR (bodyOf Try.f85))))))) :: ks) .normal (G_slices_Concat_int_int_h_L1_hd v_slices219 v_size220 v_x221)
  | 0, v_size220, v_x221, o, h, q => by rw [G_slices_Concat_int_int_h_L1] at h; cases h
  | k + 1, v_size220, v_x221, o, h, q => by
    rw [G_slices_Concat_int_int_h_L1] at h
    by_cases h191 : v_x221 < (v_slices219.length : Int)
    · rw [if_pos h191] at h
      obtain ⟨v_y223, h194, h⟩ := bind_some h
      by_cases h195 : (wi .i64 (v_size220 + (v_y223.length : Int))) < 0
      · rw [if_pos h195] at h
        cases h
      · rw [if_neg h195] at h
        exact pkk_sound TTok mix hF 18 (hs := [.t true, .y ((eL (eI .i64)) v_y223), .c, .u (.d (.v (.int .i64 (v_y223.length : Int)))), .t false]) (ts := []) (s := []) (l := [0, 3, 9, 10, 11]) (by kernel_rfl) (by kernel_rfl) (.cons (dt h191) (.cons (getI_ob (f := (eL (eI .i64))) h194) (.cons (len_ob (f := (eI .i64)) (l := v_y223)) (.cons (df h195) .nil)))) (G_slices_Concat_int_int_h_L1_ok hF ks n v_slices219 k (wi .i64 (v_size220 + (v_y223.length : Int))) (wi .i64 (v_x221 + 1)) _ h q)
    · rw [if_neg h191] at h
      cases h
      exact pkk_sound TTok mix hF 8 (hs := [.t false]) (ts := []) (s := []) (l := [0, 3]) (by kernel_rfl) (by kernel_rfl) (.cons (df h191) .nil) q
inductive G_slices_Concat_int_int_h_L2_R where
  | x0 (v_w239 : (List Int))
def G_slices_Concat_int_int_h_L2_ex : G_slices_Concat_int_int_h_L2_R → Ex
  | .x0 _ => .exit 2
def G_slices_Concat_int_int_h_L2_st (v_slices219 : (List (List Int))) : G_slices_Concat_int_int_h_L2_R → PS
  | .x0 v_w239 => ⟨[dd, dd, dd, dd, dd, dd, .srf 0, dd, dd, dd, dd, dd, dd, dd, dd, dd, dd, dd, dd, dd, dd, dd, dd, dd, dd, dd, dd, dd, dd, dd, dd, dd, dd, dd, dd, dd], [.row 3 1 (v_w239.map (eI .i64))]⟩
def G_slices_Concat_int_int_h_L2_hd (v_slices219 : (List (List Int))) (v_x233 : Int) (v_w234 : (List Int)) : PS := ⟨[dd, dd, dd, dd, dd, dd, .srf 0, dd, dd, dd, dd, dd, dd, dd, dd, dd, dd, dd, dd, dd, dd, dd, dd, dd, dd, .d (.sl (v_slices219.map (eL (eI .i64)))), .d (.v (.int .i64 (v_slices219.length : Int))), .d (.v (.int .i64 v_x233)), dd, dd, dd, dd, dd, dd, dd, dd], [.row 3 1 (v_w234.map (eI .i64))]⟩
def G_slices_Concat_int_int_h_L2 (n : Nat) (v_slices219 : (List (List Int))) : Nat → Int → (List Int) → Option G_slices_Concat_int_int_h_L2_R
  | 0, _, _ => none
  | k + 1, v_x233, v_w234 =>
    if v_x233 < (v_slices219.length : Int) then
     (getI v_slices219 v_x233).bind fun (v_y237 : (List Int)) =>
     (app 8 v_w234 v_y237).bind fun (v_a238 : (List Int)) =>
     G_slices_Concat_int_int_h_L2 n v_slices219 k (wi .i64 (v_x233 + 1)) v_a238
    else
     some (.x0 v_w234)
theorem G_slices_Concat_int_int_h_L2_ok {Fi : Ex → PS → Prop} (hF : KC 36 Fi) (ks : List Fr) (n : Nat) (v_slices219 : (List (List Int)))  : ∀ (k : Nat) (v_x233 : Int) (v_w234 : (List Int)) (o : G_slices_Concat_int_int_h_L2_R), G_slices_Concat_int_int_h_L2 n v_slices219 k v_x233 v_w234 = some o → RunE Try.prog 36 Fi ks (G_slices_Concat_int_int_h_L2_ex o) (G_slices_Concat_int_int_h_L2_st v_slices219 o) → RunE Try.prog 36 Fi (.l k (cP (cB (cR (cL (cR (cR (cR (cR (bodyOf Try.f85))))))))) :: ks) .normal (G_slices_Concat_int_int_h_L2_hd v_slices219 v_x233 v_w234)
  | 0, v_x233, v_w234, o, h, q => by rw [G_slices_Concat_int_int_h_L2] at h; cases h
  | k + 1, v_x233, v_w234, o, h, q => by
    rw [G_slices_Concat_int_int_h_L2] at h
    by_cases h205 : v_x233 < (v_slices219.length : Int)
    · rw [if_pos h205] at h
      obtain ⟨v_y237, h208, h⟩ := bind_some h
      obtain ⟨v_a238, h209, h⟩ := bind_some h
      exact pkk_sound TTok mix hF 13 (hs := [.t true, .y ((eL (eI .i64)) v_y237), .c, .w (v_a238.map (eI .i64))]) (ts := []) (s := [19]) (l := [6, 25, 26, 27]) (by kernel_rfl) (by kernel_rfl) (.cons (dt h205) (.cons (getI_ob (f := (eL (eI .i64))) h208) (.cons (app_ob (f := (eI .i64)) (s := 1) h209 (fun _ => rfl)).1 (.cons (app_ob (f := (eI .i64)) (s := 1) h209 (fun _ => rfl)).2.1 (.cons (app_ob (f := (eI .i64)) (s := 1) h209 (fun _ => rfl)).2.2.1 (.cons (app_ob (f := (eI .i64)) (s := 1) h209 (fun _ => rfl)).2.2.2 .nil)))))) (G_slices_Concat_int_int_h_L2_ok hF ks n v_slices219 k (wi .i64 (v_x233 + 1)) v_a238 _ h q)
    · rw [if_neg h205] at h
      cases h
      exact pkk_sound TTok mix hF 8 (hs := [.t false]) (ts := []) (s := [0]) (l := [6]) (by kernel_rfl) (by kernel_rfl) (.cons (df h205) .nil) q
/- slices.Concat[[]int,int] -/
def G_slices_Concat_int_int_h (n : Nat) (v_slices219 : (List (List Int))) : Option ((List Int)) :=
  (G_slices_Concat_int_int_h_L1 n v_slices219 n 0 0).bind fun v_o225 => match v_o225 with
  | .x0 v_z226 =>
    (G_slices_Grow_int_int_h n v_z226).bind fun (v_r232 : ((List Int))) =>
    (G_slices_Concat_int_int_h_L2 n v_slices219 n 0 v_r232).bind fun v_o240 => match v_o240 with
    | .x0 v_z241 =>
      some v_z241
theorem G_slices_Concat_int_int_h_ok (n : Nat) (v_slices219 : (List (List Int))) (r : (List Int)) (h : G_slices_Concat_int_int_h n v_slices219 = some r) : RetH Try.prog 85 [.d ((eL (eL (eI .i64))) v_slices219)] [] (.srf 0) [.row 3 1 (r.map (eI .i64))] := by
  refine retH_run (n := 36) (fn := Try.f85) (c := bodyOf Try.f85) (by kernel_rfl) (by kernel_rfl) (by kernel_rfl) (by kernel_rfl) ?_
  have hF : KC 36 (FinH Try.prog Try.f85 [] (.srf 0) [.row 3 1 (r.map (eI .i64))]) := FinH.kc' (by kernel_rfl)
  unfold G_slices_Concat_int_int_h at h
  obtain ⟨v_o225, h196, h⟩ := bind_some h
  refine pkk_sound TTok mix hF 9 (hs := [.u (.d (.v (.int .i64 (v_slices219.length : Int)))), .n n]) (ts := []) (s := []) (l := [0, 3, 9, 10, 11]) (by kernel_rfl) (by kernel_rfl) (.cons (len_ob (f := (eL (eI .i64))) (l := v_slices219)) .nil) (G_slices_Concat_int_int_h_L1_ok hF (.b 0 :: .s (cR (cR (cR (bodyOf Try.f85)))) :: []) n v_slices219 n 0 0 _ h196 ?_)
  cases v_o225 with
  | x0 v_z226 =>
    dsimp only at h
    obtain ⟨v_r232, h204, h⟩ := bind_some h
    obtain ⟨v_o240, h210, h⟩ := bind_some h
    refine pkk_sound TTok mix hF 8 (hs := [.h [] [false] [.row 3 1 (v_r232.map (eI .i64))] (.srf 0), .u (.d (.v (.int .i64 (v_slices219.length : Int)))), .n n]) (ts := []) (s := [3]) (l := [6, 25, 26, 27]) (by kernel_rfl) (by kernel_rfl) (.cons (G_slices_Grow_int_int_h_ok n v_z226 _ h204) (.cons (len_ob (f := (eL (eI .i64))) (l := v_slices219)) .nil)) (G_slices_Concat_int_int_h_L2_ok hF (.b 2 :: .s (cR (cR (cR (cR (cR (bodyOf Try.f85)))))) :: []) n v_slices219 n 0 v_r232 _ h210 ?_)
    cases v_o240 with
    | x0 v_z241 =>
      dsimp only at h
      obtain rfl := Option.some.inj h
      exact pendH_sound TTok mix 4 (hs := []) [0] (by kernel_rfl) (by kernel_rfl) (by kernel_rfl) .nil
inductive G_slices_IndexFunc_int_int_L1_R where
  | x0 (v_x252 : Int)
  | x1 
def G_slices_IndexFunc_int_int_L1_ex : G_slices_IndexFunc_int_int_L1_R → Ex
  | .x0 _ => .ret
  | .x1  => .exit 0
def G_slices_IndexFunc_int_int_L1_st (v_s245 : (List Int)) (v_f246 : (Int → Option (Bool))) (v_f246_g : FuncId) (v_f246_c : (List PV)) : G_slices_IndexFunc_int_int_L1_R → PS
  | .x0 v_x252 => ⟨[dd, dd, dd, dd, .d (.v (.int .i64 v_x252)), dd, dd, dd, dd, dd, dd, dd, dd, dd, dd, dd, dd, dd, dd], []⟩
  | .x1  => ⟨[dd, dd, dd, dd, dd, dd, dd, dd, dd, dd, dd, dd, dd, dd, dd, dd, dd, dd, dd], []⟩
def G_slices_IndexFunc_int_int_L1_hd (v_s245 : (List Int)) (v_f246 : (Int → Option (Bool))) (v_f246_g : FuncId) (v_f246_c : (List PV)) (v_x247 : Int) : PS := ⟨[.d (.sl (v_s245.map (eI .i64))), .d (.clo v_f246_g v_f246_c), dd, dd, dd, dd, dd, .d (.v (.int .i64 (v_s245.length : Int))), .d (.v (.int .i64 v_x247)), dd, dd, dd, dd, dd, dd, dd, dd, dd, dd], []⟩
def G_slices_IndexFunc_int_int_L1 (n : Nat) (v_s245 : (List Int)) (v_f246 : (Int → Option (Bool))) : Nat → Int → Option G_slices_IndexFunc_int_int_L1_R
  | 0, _ => none
  | k + 1, v_x247 =>
    if v_x247 < (v_s245.length : Int) then
     (getI v_s245 v_x247).bind fun (v_y250 : Int) =>
     (v_f246 v_y250).bind fun (v_r251 : (Bool)) =>
     if v_r251 = true then
      some (.x0 v_x247)
     else
      G_slices_IndexFunc_int_int_L1 n v_s245 v_f246 k (wi .i64 (v_x247 + 1))
    else
     some (.x1 )
theorem G_slices_IndexFunc_int_int_L1_ok {Fi : Ex → PS → Prop} (hF : KC 19 Fi) (ks : List Fr) (n : Nat) (v_s245 : (List Int)) (v_f246 : (Int → Option (Bool))) (v_f246_g : FuncId) (v_f246_c : (List PV)) (v_f246_h : ∀ (x0 : Int) (r : Bool), v_f246 x0 = some r → Ret Try.prog v_f246_g ([(eI .i64) x0] ++ v_f246_c) (eB r)) : ∀ (k : Nat) (v_x247 : Int) (o : G_slices_IndexFunc_int_int_L1_R), G_slices_IndexFunc_int_int_L1 n v_s245 v_f246 k v_x247 = some o → RunE Try.prog 19 Fi ks (G_slices_IndexFunc_int_int_L1_ex o) (G_slices_IndexFunc_int_int_L1_st v_s245 v_f246 v_f246_g v_f246_c o) → RunE Try.prog 19 Fi (.l k (cP (cB (cR (cL (cR (bodyOf Try.f115)))))) :: ks) .normal (G_slices_IndexFunc_int_int_L1_hd v_s245 v_f246 v_f246_g v_f246_c v_x247)
  | 0, v_x247, o, h, q => by rw [G_slices_IndexFunc_int_int_L1] at h; cases h
  | k + 1, v_x247, o, h, q => by
    rw [G_slices_IndexFunc_int_int_L1] at h
    by_cases h212 : v_x247 < (v_s245.length : Int)
    · rw [if_pos h212] at h
      obtain ⟨v_y250, h216, h⟩ := bind_some h
      obtain ⟨v_r251, h217, h⟩ := bind_some h
      by_cases h218 : v_r251 = true
      · rw [if_pos h218] at h
        cases h
        exact pkk_sound TTok mix hF 19 (hs := [.t true, .y ((eI .i64) v_y250), .c, .r (eB v_r251), .t true]) (ts := []) (s := []) (l := [4]) (by kernel_rfl) (by kernel_rfl) (.cons (dt h212) (.cons (getI_ob (f := (eI .i64)) h216) (.cons (v_f246_h v_y250 _ h217) (.cons h218 .nil)))) q
      · rw [if_neg h218] at h
        exact pkk_sound TTok mix hF 16 (hs := [.t true, .y ((eI .i64) v_y250), .c, .r (eB v_r251), .t false]) (ts := []) (s := []) (l := [0, 1, 7, 8]) (by kernel_rfl) (by kernel_rfl) (.cons (dt h212) (.cons (getI_ob (f := (eI .i64)) h216) (.cons (v_f246_h v_y250 _ h217) (.cons (vf h218) .nil)))) (G_slices_IndexFunc_int_int_L1_ok hF ks n v_s245 v_f246 v_f246_g v_f246_c v_f246_h k (wi .i64 (v_x247 + 1)) _ h q)
    · rw [if_neg h212] at h
      cases h
      exact pkk_sound TTok mix hF 8 (hs := [.t false]) (ts := []) (s := []) (l := []) (by kernel_rfl) (by kernel_rfl) (.cons (df h212) .nil) q
/- slices.IndexFunc[[]int,int] -/
def G_slices_IndexFunc_int_int (n : Nat) (v_s245 : (List Int)) (v_f246 : (Int → Option (Bool))) : Option (Int) :=
  (G_slices_IndexFunc_int_int_L1 n v_s245 v_f246 n 0).bind fun v_o253 => match v_o253 with
  | .x0 v_z254 =>
    some v_z254
  | .x1  =>
    some (-1)
theorem G_slices_IndexFunc_int_int_ok (n : Nat) (v_s245 : (List Int)) (v_f246 : (Int → Option (Bool))) (v_f246_g : FuncId) (v_f246_c : List PV) (v_f246_h : ∀ (x0 : Int) (r : Bool), v_f246 x0 = some r → Ret Try.prog v_f246_g ([(eI .i64) x0] ++ v_f246_c) (eB r)) (r : Int) (h : G_slices_IndexFunc_int_int n v_s245 v_f246 = some r) : Ret Try.prog 115 [(eL (eI .i64)) v_s245, (.clo v_f246_g v_f246_c)] ((eI .i64) r) := by
  refine ret_run (n := 19) (fn := Try.f115) (c := bodyOf Try.f115) (by kernel_rfl) (by kernel_rfl) (by kernel_rfl) (by kernel_rfl) ?_
  have hF : KC 19 (FinR Try.prog Try.f115 ((eI .i64) r)) := FinR.kc' (by kernel_rfl)
  unfold G_slices_IndexFunc_int_int at h
  obtain ⟨v_o253, h219, h⟩ := bind_some h
  refine pkk_sound TTok mix hF 7 (hs := [.u (.d (.v (.int .i64 (v_s245.length : Int)))), .n n]) (ts := []) (s := []) (l := [0, 1, 7, 8]) (by kernel_rfl) (by kernel_rfl) (.cons (len_ob (f := (eI .i64)) (l := v_s245)) .nil) (G_slices_IndexFunc_int_int_L1_ok hF (.b 0 :: .s (cR (cR (bodyOf Try.f115))) :: []) n v_s245 v_f246 v_f246_g v_f246_c v_f246_h n 0 _ h219 ?_)
  cases v_o253 with
  | x0 v_z254 =>
    dsimp only at h
    obtain rfl := Option.some.inj h
    exact pend_sound TTok mix 2 (hs := []) (by kernel_rfl) (by kernel_rfl) (by kernel_rfl) .nil
  | x1  =>
    dsimp only at h
    obtain rfl := Option.some.inj h
    exact pend_sound TTok mix 4 (hs := []) (by kernel_rfl) (by kernel_rfl) (by kernel_rfl) .nil
/- slices.ContainsFunc[[]int,int] -/
def G_slices_ContainsFunc_int_int (n : Nat) (v_s243 : (List Int)) (v_f244 : (Int → Option (Bool))) : Option (Bool) :=
  (G_slices_IndexFunc_int_int n v_s243 v_f244).bind fun (v_r255 : (Int)) =>
  some (decide (v_r255 ≥ 0))
theorem G_slices_ContainsFunc_int_int_ok (n : Nat) (v_s243 : (List Int)) (v_f244 : (Int → Option (Bool))) (v_f244_g : FuncId) (v_f244_c : List PV) (v_f244_h : ∀ (x0 : Int) (r : Bool), v_f244 x0 = some r → Ret Try.prog v_f244_g ([(eI .i64) x0] ++ v_f244_c) (eB r)) (r : Bool) (h : G_slices_ContainsFunc_int_int n v_s243 v_f244 = some r) : Ret Try.prog 61 [(eL (eI .i64)) v_s243, (.clo v_f244_g v_f244_c)] (eB r) := by
  refine ret_run (n := 9) (fn := Try.f61) (c := bodyOf Try.f61) (by kernel_rfl) (by kernel_rfl) (by kernel_rfl) (by kernel_rfl) ?_
  have hF : KC 9 (FinR Try.prog Try.f61 (eB r)) := FinR.kc' (by kernel_rfl)
  unfold G_slices_ContainsFunc_int_int at h
  obtain ⟨v_r255, h220, h⟩ := bind_some h
  obtain rfl := Option.some.inj h
  exact pend_sound TTok mix 5 (hs := [.r ((eI .i64) v_r255)]) (by kernel_rfl) (by kernel_rfl) (by kernel_rfl) (.cons (G_slices_IndexFunc_int_int_ok n v_s243 v_f244 v_f244_g v_f244_c v_f244_h _ h220) .nil)
/- ringhall/ringlaw5.IrqServes$1 -/
def G_ringlaw5_IrqServes_1 (n : Nat) (v_n256 : Int) : Option (Bool) :=
  if v_n256 < 0 then
   some true
  else
   some (decide (v_n256 > 100))
theorem G_ringlaw5_IrqServes_1_ok (n : Nat) (v_n256 : Int) (r : Bool) (h : G_ringlaw5_IrqServes_1 n v_n256 = some r) : Ret Try.prog 86 [(eI .i64) v_n256] (eB r) := by
  refine ret_run (n := 9) (fn := Try.f86) (c := bodyOf Try.f86) (by kernel_rfl) (by kernel_rfl) (by kernel_rfl) (by kernel_rfl) ?_
  have hF : KC 9 (FinR Try.prog Try.f86 (eB r)) := FinR.kc' (by kernel_rfl)
  unfold G_ringlaw5_IrqServes_1 at h
  by_cases h221 : v_n256 < 0
  · rw [if_pos h221] at h
    obtain rfl := Option.some.inj h
    exact pend_sound TTok mix 5 (hs := [.t true, .c]) (by kernel_rfl) (by kernel_rfl) (by kernel_rfl) (.cons (dt h221) .nil)
  · rw [if_neg h221] at h
    obtain rfl := Option.some.inj h
    exact pend_sound TTok mix 5 (hs := [.t false, .c]) (by kernel_rfl) (by kernel_rfl) (by kernel_rfl) (.cons (df h221) .nil)
inductive G_ringref5_ServeOf_C1_R where
  | x0 (v_calls294 : Bool)
def G_ringref5_ServeOf_C1_ex : G_ringref5_ServeOf_C1_R → Ex
  | .x0 _ => .normal
def G_ringref5_ServeOf_C1_st (v_had275 : (List Int)) (v_news276 : (List Int)) (v_rings277 : (List Bool)) (v_queued278 : Int) (v_y292 : Int) (v_done279 : Int) (v_calls280 : Bool) (v_x281 : Int) : G_ringref5_ServeOf_C1_R → PS
  | .x0 v_calls294 => ⟨[.d (.sl (v_had275.map (eI .i64))), .d (.sl (v_news276.map (eI .i64))), .d (.sl (v_rings277.map eB)), dd, dd, dd, dd, dd, .d (.v (.int .i64 (wi .i64 (v_queued278 + v_y292)))), .d (.v (.int .i64 v_done279)), .d (.v (.bool v_calls294)), .d (.v (.int .i64 v_x281)), dd, dd, .d (.v (.int .i64 (v_news276.length : Int))), .d (.v (.int .i64 v_x281)), dd, dd, dd, dd, dd, dd, dd, dd, dd, dd, dd, dd, dd, dd, dd, dd, dd, dd, dd, dd, dd, dd, dd, dd, dd, dd, dd, dd, dd, dd, dd, dd, dd, dd, dd, dd, dd, dd, dd], []⟩
def G_ringref5_ServeOf_C1_hd (v_had275 : (List Int)) (v_news276 : (List Int)) (v_rings277 : (List Bool)) (v_queued278 : Int) (v_y292 : Int) (v_done279 : Int) (v_calls280 : Bool) (v_x281 : Int)  : PS := ⟨[.d (.sl (v_had275.map (eI .i64))), .d (.sl (v_news276.map (eI .i64))), .d (.sl (v_rings277.map eB)), dd, dd, dd, dd, dd, .d (.v (.int .i64 (wi .i64 (v_queued278 + v_y292)))), .d (.v (.int .i64 v_done279)), .d (.v (.bool v_calls280)), .d (.v (.int .i64 v_x281)), dd, dd, .d (.v (.int .i64 (v_news276.length : Int))), .d (.v (.int .i64 v_x281)), dd, dd, dd, dd, dd, dd, dd, dd, dd, dd, dd, dd, dd, dd, dd, dd, dd, dd, dd, dd, dd, dd, dd, dd, dd, dd, dd, dd, dd, dd, dd, dd, dd, dd, dd, dd, dd, dd, dd], []⟩
def G_ringref5_ServeOf_C1 (n : Nat) (v_had275 : (List Int)) (v_news276 : (List Int)) (v_rings277 : (List Bool)) (v_queued278 : Int) (v_y292 : Int) (v_done279 : Int) (v_calls280 : Bool) (v_x281 : Int) : Option G_ringref5_ServeOf_C1_R :=
  if v_calls280 = true then
   some (.x0 true)
  else
   (getI v_rings277 v_x281).bind fun (v_y295 : Bool) =>
   some (.x0 v_y295)
theorem G_ringref5_ServeOf_C1_ok {Fi : Ex → PS → Prop} (hF : KC 55 Fi) (ks : List Fr) (n : Nat) (v_had275 : (List Int)) (v_news276 : (List Int)) (v_rings277 : (List Bool)) (v_queued278 : Int) (v_y292 : Int) (v_done279 : Int) (v_calls280 : Bool) (v_x281 : Int)  (o : G_ringref5_ServeOf_C1_R) (h : G_ringref5_ServeOf_C1 n v_had275 v_news276 v_rings277 v_queued278 v_y292 v_done279 v_calls280 v_x281 = some o) (q : RunE Try.prog 55 Fi ks (G_ringref5_ServeOf_C1_ex o) (G_ringref5_ServeOf_C1_st v_had275 v_news276 v_rings277 v_queued278 v_y292 v_done279 v_calls280 v_x281 o)) : RunE Try.prog 55 Fi (.s (cL (cL (cR (cR (cB (cL (cR (cR (cP (cB (cR (cL (cR (cR (cR (bodyOf Try.f87)))))))))))))))) :: ks) .normal (G_ringref5_ServeOf_C1_hd v_had275 v_news276 v_rings277 v_queued278 v_y292 v_done279 v_calls280 v_x281) := by
  unfold G_ringref5_ServeOf_C1 at h
  by_cases h257 : v_calls280 = true
  · rw [if_pos h257] at h
    cases h
    exact pkk_sound TTok mix hF 1 (hs := [.t true, .c, .c, .c]) (ts := []) (s := []) (l := [0, 1, 2, 8, 9, 10, 11, 14, 15]) (by kernel_rfl) (by kernel_rfl) (.cons h257 .nil) q
  · rw [if_neg h257] at h
    obtain ⟨v_y295, h258, h⟩ := bind_some h
    cases h
    exact pkk_sound TTok mix hF 1 (hs := [.t false, .c, .c, .y (eB v_y295), .c, .c]) (ts := []) (s := []) (l := [0, 1, 2, 8, 9, 10, 11, 14, 15]) (by kernel_rfl) (by kernel_rfl) (.cons (vf h257) (.cons (getI_ob (f := eB) h258) .nil)) q
inductive G_ringref5_ServeOf_C2_R where
  | x0 (v_queued299 : Int) (v_done300 : Int) (v_calls301 : Bool)
def G_ringref5_ServeOf_C2_ex : G_ringref5_ServeOf_C2_R → Ex
  | .x0 _ _ _ => .normal
def G_ringref5_ServeOf_C2_st (v_had275 : (List Int)) (v_news276 : (List Int)) (v_rings277 : (List Bool)) (v_queued278 : Int) (v_done279 : Int) (v_calls280 : Bool) (v_x281 : Int) : G_ringref5_ServeOf_C2_R → PS
  | .x0 v_queued299 v_done300 v_calls301 => ⟨[.d (.sl (v_had275.map (eI .i64))), .d (.sl (v_news276.map (eI .i64))), .d (.sl (v_rings277.map eB)), dd, dd, dd, dd, dd, .d (.v (.int .i64 v_queued299)), .d (.v (.int .i64 v_done300)), .d (.v (.bool v_calls301)), dd, dd, dd, .d (.v (.int .i64 (v_news276.length : Int))), .d (.v (.int .i64 v_x281)), dd, dd, dd, dd, dd, dd, dd, dd, dd, dd, dd, dd, dd, dd, dd, dd, dd, dd, dd, dd, dd, dd, dd, dd, dd, dd, dd, dd, dd, dd, dd, dd, dd, dd, dd, dd, dd, dd, dd], []⟩
def G_ringref5_ServeOf_C2_hd (v_had275 : (List Int)) (v_news276 : (List Int)) (v_rings277 : (List Bool)) (v_queued278 : Int) (v_done279 : Int) (v_calls280 : Bool) (v_x281 : Int)  : PS := ⟨[.d (.sl (v_had275.map (eI .i64))), .d (.sl (v_news276.map (eI .i64))), .d (.sl (v_rings277.map eB)), dd, dd, dd, dd, dd, .d (.v (.int .i64 v_queued278)), .d (.v (.int .i64 v_done279)), .d (.v (.bool v_calls280)), dd, dd, dd, .d (.v (.int .i64 (v_news276.length : Int))), .d (.v (.int .i64 v_x281)), dd, dd, dd, dd, dd, dd, dd, dd, dd, dd, dd, dd, dd, dd, dd, dd, dd, dd, dd, dd, dd, dd, dd, dd, dd, dd, dd, dd, dd, dd, dd, dd, dd, dd, dd, dd, dd, dd, dd], []⟩
def G_ringref5_ServeOf_C2 (n : Nat) (v_had275 : (List Int)) (v_news276 : (List Int)) (v_rings277 : (List Bool)) (v_queued278 : Int) (v_done279 : Int) (v_calls280 : Bool) (v_x281 : Int) : Option G_ringref5_ServeOf_C2_R :=
  (getI v_news276 v_x281).bind fun (v_y292 : Int) =>
  (G_ringref5_ServeOf_C1 n v_had275 v_news276 v_rings277 v_queued278 v_y292 v_done279 v_calls280 v_x281).bind fun v_o297 => match v_o297 with
  | .x0 v_z298 =>
    if v_z298 = true then
     (getI v_had275 v_x281).bind fun (v_y302 : Int) =>
     if v_y302 < (wi .i64 (v_queued278 + v_y292)) then
      (getI v_had275 v_x281).bind fun (v_y304 : Int) =>
      some (.x0 (wi .i64 ((wi .i64 (v_queued278 + v_y292)) - v_y304)) (wi .i64 (v_done279 + v_y304)) (decide ((wi .i64 ((wi .i64 (v_queued278 + v_y292)) - v_y304)) > 0)))
     else
      some (.x0 (wi .i64 ((wi .i64 (v_queued278 + v_y292)) - (wi .i64 (v_queued278 + v_y292)))) (wi .i64 (v_done279 + (wi .i64 (v_queued278 + v_y292)))) (decide ((wi .i64 ((wi .i64 (v_queued278 + v_y292)) - (wi .i64 (v_queued278 + v_y292)))) > 0)))
    else
     some (.x0 (wi .i64 (v_queued278 + v_y292)) v_done279 v_z298)
theorem G_ringref5_ServeOf_C2_ok {Fi : Ex → PS → Prop} (hF : KC 55 Fi) (ks : List Fr) (n : Nat) (v_had275 : (List Int)) (v_news276 : (List Int)) (v_rings277 : (List Bool)) (v_queued278 : Int) (v_done279 : Int) (v_calls280 : Bool) (v_x281 : Int)  (o : G_ringref5_ServeOf_C2_R) (h : G_ringref5_ServeOf_C2 n v_had275 v_news276 v_rings277 v_queued278 v_done279 v_calls280 v_x281 = some o) (q : RunE Try.prog 55 Fi ks (G_ringref5_ServeOf_C2_ex o) (G_ringref5_ServeOf_C2_st v_had275 v_news276 v_rings277 v_queued278 v_done279 v_calls280 v_x281 o)) : RunE Try.prog 55 Fi (.s (cL (cR (cR (cP (cB (cR (cL (cR (cR (cR (bodyOf Try.f87))))))))))) :: ks) .normal (G_ringref5_ServeOf_C2_hd v_had275 v_news276 v_rings277 v_queued278 v_done279 v_calls280 v_x281) := by
  unfold G_ringref5_ServeOf_C2 at h
  obtain ⟨v_y292, h254, h⟩ := bind_some h
  obtain ⟨v_o297, h259, h⟩ := bind_some h
  refine pkk_sound TTok mix hF 7 (hs := [.y ((eI .i64) v_y292), .c]) (ts := []) (s := []) (l := [0, 1, 2, 8, 9, 10, 11, 14, 15]) (by kernel_rfl) (by kernel_rfl) (.cons (getI_ob (f := (eI .i64)) h254) .nil) (G_ringref5_ServeOf_C1_ok hF (.s (cR (cL (cR (cR (cB (cL (cR (cR (cP (cB (cR (cL (cR (cR (cR (bodyOf Try.f87)))))))))))))))) :: .s (cR (cR (cR (cB (cL (cR (cR (cP (cB (cR (cL (cR (cR (cR (bodyOf Try.f87))))))))))))))) :: .b 1 :: ks) n v_had275 v_news276 v_rings277 v_queued278 v_y292 v_done279 v_calls280 v_x281 _ h259 ?_)
  cases v_o297 with
  | x0 v_z298 =>
    dsimp only at h
    by_cases h260 : v_z298 = true
    · rw [if_pos h260] at h
      obtain ⟨v_y302, h261, h⟩ := bind_some h
      by_cases h264 : v_y302 < (wi .i64 (v_queued278 + v_y292))
      · rw [if_pos h264] at h
        obtain ⟨v_y304, h265, h⟩ := bind_some h
        cases h
        exact pkk_sound TTok mix hF 15 (hs := [.t false, .y ((eI .i64) v_y302), .c, .t true, .y ((eI .i64) v_y304), .c]) (ts := []) (s := []) (l := [0, 1, 2, 8, 9, 10, 14, 15]) (by kernel_rfl) (by kernel_rfl) (.cons (bnf h260) (.cons (getI_ob (f := (eI .i64)) h261) (.cons (dt h264) (.cons (getI_ob (f := (eI .i64)) h265) .nil)))) q
      · rw [if_neg h264] at h
        cases h
        exact pkk_sound TTok mix hF 15 (hs := [.t false, .y ((eI .i64) v_y302), .c, .t false]) (ts := []) (s := []) (l := [0, 1, 2, 8, 9, 10, 14, 15]) (by kernel_rfl) (by kernel_rfl) (.cons (bnf h260) (.cons (getI_ob (f := (eI .i64)) h261) (.cons (df h264) .nil))) q
    · rw [if_neg h260] at h
      cases h
      exact pkk_sound TTok mix hF 6 (hs := [.t true]) (ts := []) (s := []) (l := [0, 1, 2, 8, 9, 10, 14, 15]) (by kernel_rfl) (by kernel_rfl) (.cons (bnt (vf h260)) .nil) q
inductive G_ringref5_ServeOf_L3_R where
  | x0 (v_queued315 : Int) (v_done316 : Int)
def G_ringref5_ServeOf_L3_ex : G_ringref5_ServeOf_L3_R → Ex
  | .x0 _ _ => .exit 0
def G_ringref5_ServeOf_L3_st (v_had275 : (List Int)) (v_news276 : (List Int)) (v_rings277 : (List Bool)) : G_ringref5_ServeOf_L3_R → PS
  | .x0 v_queued315 v_done316 => ⟨[dd, dd, dd, dd, dd, dd, dd, dd, .d (.v (.int .i64 v_queued315)), .d (.v (.int .i64 v_done316)), dd, dd, dd, dd, dd, dd, dd, dd, dd, dd, dd, dd, dd, dd, dd, dd, dd, dd, dd, dd, dd, dd, dd, dd, dd, dd, dd, dd, dd, dd, dd, dd, dd, dd, dd, dd, dd, dd, dd, dd, dd, dd, dd, dd, dd], []⟩
def G_ringref5_ServeOf_L3_hd (v_had275 : (List Int)) (v_news276 : (List Int)) (v_rings277 : (List Bool)) (v_queued278 : Int) (v_done279 : Int) (v_calls280 : Bool) (v_x281 : Int) : PS := ⟨[.d (.sl (v_had275.map (eI .i64))), .d (.sl (v_news276.map (eI .i64))), .d (.sl (v_rings277.map eB)), dd, dd, dd, dd, dd, .d (.v (.int .i64 v_queued278)), .d (.v (.int .i64 v_done279)), .d (.v (.bool v_calls280)), dd, dd, dd, .d (.v (.int .i64 (v_news276.length : Int))), .d (.v (.int .i64 v_x281)), dd, dd, dd, dd, dd, dd, dd, dd, dd, dd, dd, dd, dd, dd, dd, dd, dd, dd, dd, dd, dd, dd, dd, dd, dd, dd, dd, dd, dd, dd, dd, dd, dd, dd, dd, dd, dd, dd, dd], []⟩
def G_ringref5_ServeOf_L3 (n : Nat) (v_had275 : (List Int)) (v_news276 : (List Int)) (v_rings277 : (List Bool)) : Nat → Int → Int → Bool → Int → Option G_ringref5_ServeOf_L3_R
  | 0, _, _, _, _ => none
  | k + 1, v_queued278, v_done279, v_calls280, v_x281 =>
    if v_x281 < (v_news276.length : Int) then
     (G_ringref5_ServeOf_C2 n v_had275 v_news276 v_rings277 v_queued278 v_done279 v_calls280 v_x281).bind fun v_o311 => match v_o311 with
     | .x0 v_z312 v_z313 v_z314 =>
       G_ringref5_ServeOf_L3 n v_had275 v_news276 v_rings277 k v_z312 v_z313 v_z314 (wi .i64 (v_x281 + 1))
    else
     some (.x0 v_queued278 v_done279)
theorem G_ringref5_ServeOf_L3_ok {Fi : Ex → PS → Prop} (hF : KC 55 Fi) (ks : List Fr) (n : Nat) (v_had275 : (List Int)) (v_news276 : (List Int)) (v_rings277 : (List Bool))  : ∀ (k : Nat) (v_queued278 : Int) (v_done279 : Int) (v_calls280 : Bool) (v_x281 : Int) (o : G_ringref5_ServeOf_L3_R), G_ringref5_ServeOf_L3 n v_had275 v_news276 v_rings277 k v_queued278 v_done279 v_calls280 v_x281 = some o → RunE Try.prog 55 Fi ks (G_ringref5_ServeOf_L3_ex o) (G_ringref5_ServeOf_L3_st v_had275 v_news276 v_rings277 o) → RunE Try.prog 55 Fi (.l k (cP (cB (cR (cL (cR (cR (cR (bodyOf Try.f87)))))))) :: ks) .normal (G_ringref5_ServeOf_L3_hd v_had275 v_news276 v_rings277 v_queued278 v_done279 v_calls280 v_x281)
  | 0, v_queued278, v_done279, v_calls280, v_x281, o, h, q => by rw [G_ringref5_ServeOf_L3] at h; cases h
  | k + 1, v_queued278, v_done279, v_calls280, v_x281, o, h, q => by
    rw [G_ringref5_ServeOf_L3] at h
    by_cases h241 : v_x281 < (v_news276.length : Int)
    · rw [if_pos h241] at h
      obtain ⟨v_o311, h266, h⟩ := bind_some h
      refine pkk_sound TTok mix hF 7 (hs := [.t true]) (ts := []) (s := []) (l := [0, 1, 2, 8, 9, 10, 14, 15]) (by kernel_rfl) (by kernel_rfl) (.cons (dt h241) .nil) (G_ringref5_ServeOf_C2_ok hF (.s (cR (cR (cR (cP (cB (cR (cL (cR (cR (cR (bodyOf Try.f87))))))))))) :: .l k (cP (cB (cR (cL (cR (cR (cR (bodyOf Try.f87)))))))) :: ks) n v_had275 v_news276 v_rings277 v_queued278 v_done279 v_calls280 v_x281 _ h266 ?_)
      cases v_o311 with
      | x0 v_z312 v_z313 v_z314 =>
        dsimp only at h
        exact pkk_sound TTok mix hF 1 (hs := []) (ts := []) (s := []) (l := [0, 1, 2, 8, 9, 10, 14, 15]) (by kernel_rfl) (by kernel_rfl) .nil (G_ringref5_ServeOf_L3_ok hF ks n v_had275 v_news276 v_rings277 k v_z312 v_z313 v_z314 (wi .i64 (v_x281 + 1)) _ h q)
    · rw [if_neg h241] at h
      cases h
      exact pkk_sound TTok mix hF 8 (hs := [.t false]) (ts := []) (s := []) (l := [8, 9]) (by kernel_rfl) (by kernel_rfl) (.cons (df h241) .nil) q
/- ringhall/ringref5.ServeOf -/
def G_ringref5_ServeOf (n : Nat) (v_had275 : (List Int)) (v_news276 : (List Int)) (v_rings277 : (List Bool)) : Option (Int × Int) :=
  (G_ringref5_ServeOf_L3 n v_had275 v_news276 v_rings277 n 0 0 false 0).bind fun v_o317 => match v_o317 with
  | .x0 v_z318 v_z319 =>
    some (v_z319, v_z318)
theorem G_ringref5_ServeOf_ok (n : Nat) (v_had275 : (List Int)) (v_news276 : (List Int)) (v_rings277 : (List Bool)) (r : Int × Int) (h : G_ringref5_ServeOf n v_had275 v_news276 v_rings277 = some r) : Ret Try.prog 87 [(eL (eI .i64)) v_had275, (eL (eI .i64)) v_news276, (eL eB) v_rings277] (.tup [(eI .i64) r.1, (eI .i64) r.2]) := by
  refine ret_run (n := 55) (fn := Try.f87) (c := bodyOf Try.f87) (by kernel_rfl) (by kernel_rfl) (by kernel_rfl) (by kernel_rfl) ?_
  have hF : KC 55 (FinR Try.prog Try.f87 (.tup [(eI .i64) r.1, (eI .i64) r.2])) := FinR.kc' (by kernel_rfl)
  unfold G_ringref5_ServeOf at h
  obtain ⟨v_o317, h267, h⟩ := bind_some h
  refine pkk_sound TTok mix hF 11 (hs := [.u (.d (.v (.int .i64 (v_news276.length : Int)))), .n n]) (ts := []) (s := []) (l := [0, 1, 2, 8, 9, 10, 14, 15]) (by kernel_rfl) (by kernel_rfl) (.cons (len_ob (f := (eI .i64)) (l := v_news276)) .nil) (G_ringref5_ServeOf_L3_ok hF (.b 0 :: .s (cR (cR (cR (cR (bodyOf Try.f87))))) :: []) n v_had275 v_news276 v_rings277 n 0 0 false 0 _ h267 ?_)
  cases v_o317 with
  | x0 v_z318 v_z319 =>
    dsimp only at h
    obtain rfl := Option.some.inj h
    exact pend_sound TTok mix 4 (hs := []) (by kernel_rfl) (by kernel_rfl) (by kernel_rfl) .nil
inductive G_ringlaw5_IrqServes_C1_R where
  | x0 (v_t214 : Bool)
def G_ringlaw5_IrqServes_C1_ex : G_ringlaw5_IrqServes_C1_R → Ex
  | .x0 _ => .normal
def G_ringlaw5_IrqServes_C1_st (v_t1 : (List Int)) (v_t2 : (List Int)) (v_t3 : (List Bool)) (v_r213 : (Int × Int × Int)) : G_ringlaw5_IrqServes_C1_R → PS
  | .x0 v_t214 => ⟨[.d (.sl (v_t1.map (eI .i64))), .d (.sl (v_t2.map (eI .i64))), .d (.sl (v_t3.map eB)), dd, dd, dd, dd, .d (.v (.int .i64 v_r213.1)), .d (.v (.int .i64 v_r213.2.1)), .d (.v (.int .i64 v_r213.2.2)), .d (.v (.int .i64 0)), dd, dd, dd, dd, dd, dd, dd, dd, dd, dd, dd, dd, dd, dd, dd, dd, dd, dd, dd, dd, dd, dd, dd, dd, dd, dd, dd, dd, .d (.v (.bool v_t214)), dd, dd, dd, dd, dd, dd, dd, dd, dd, dd, dd, dd, dd, dd, dd, dd, dd, dd, dd, dd, dd, dd, dd, dd, dd, dd, dd, dd, dd, dd, dd, dd, dd, dd, dd, dd, dd], []⟩
def G_ringlaw5_IrqServes_C1_hd (v_t1 : (List Int)) (v_t2 : (List Int)) (v_t3 : (List Bool)) (v_r213 : (Int × Int × Int))  : PS := ⟨[.d (.sl (v_t1.map (eI .i64))), .d (.sl (v_t2.map (eI .i64))), .d (.sl (v_t3.map eB)), dd, dd, dd, dd, .d (.v (.int .i64 v_r213.1)), .d (.v (.int .i64 v_r213.2.1)), .d (.v (.int .i64 v_r213.2.2)), .d (.v (.int .i64 0)), dd, dd, dd, dd, dd, dd, dd, dd, dd, dd, dd, dd, dd, dd, dd, dd, dd, dd, dd, dd, dd, dd, dd, dd, dd, dd, dd, dd, dd, dd, dd, dd, dd, dd, dd, dd, dd, dd, dd, dd, dd, dd, dd, dd, dd, dd, dd, dd, dd, dd, dd, dd, dd, dd, dd, dd, dd, dd, dd, dd, dd, dd, dd, dd, dd, dd], []⟩
def G_ringlaw5_IrqServes_C1 (n : Nat) (v_t1 : (List Int)) (v_t2 : (List Int)) (v_t3 : (List Bool)) (v_r213 : (Int × Int × Int)) : Option G_ringlaw5_IrqServes_C1_R :=
  if (v_t1.length : Int) = (v_t2.length : Int) then
   if (v_t3.length : Int) = (v_t2.length : Int) then
    some (.x0 (decide ((v_t2.length : Int) > 64)))
   else
    some (.x0 true)
  else
   some (.x0 true)
theorem G_ringlaw5_IrqServes_C1_ok {Fi : Ex → PS → Prop} (hF : KC 77 Fi) (ks : List Fr) (n : Nat) (v_t1 : (List Int)) (v_t2 : (List Int)) (v_t3 : (List Bool)) (v_r213 : (Int × Int × Int))  (o : G_ringlaw5_IrqServes_C1_R) (h : G_ringlaw5_IrqServes_C1 n v_t1 v_t2 v_t3 v_r213 = some o) (q : RunE Try.prog 77 Fi ks (G_ringlaw5_IrqServes_C1_ex o) (G_ringlaw5_IrqServes_C1_st v_t1 v_t2 v_t3 v_r213 o)) : RunE Try.prog 77 Fi (.s (cL (cL (cR (cR (cR (cR (bodyOf Try.f12))))))) :: ks) .normal (G_ringlaw5_IrqServes_C1_hd v_t1 v_t2 v_t3 v_r213) := by
  unfold G_ringlaw5_IrqServes_C1 at h
  by_cases h187 : (v_t1.length : Int) = (v_t2.length : Int)
  · rw [if_pos h187] at h
    by_cases h188 : (v_t3.length : Int) = (v_t2.length : Int)
    · rw [if_pos h188] at h
      cases h
      exact pkk_sound TTok mix hF 1 (hs := [.u (.d (.v (.int .i64 (v_t1.length : Int)))), .u (.d (.v (.int .i64 (v_t2.length : Int)))), .t false, .c, .u (.d (.v (.int .i64 (v_t3.length : Int)))), .c, .c, .u (.d (.v (.int .i64 (v_t2.length : Int)))), .c, .t false, .c, .u (.d (.v (.int .i64 (v_t2.length : Int)))), .c]) (ts := []) (s := []) (l := [0, 1, 2, 7, 8, 9, 10, 39]) (by kernel_rfl) (by kernel_rfl) (.cons (len_ob (f := (eI .i64)) (l := v_t1)) (.cons (len_ob (f := (eI .i64)) (l := v_t2)) (.cons (nf h187) (.cons (len_ob (f := eB) (l := v_t3)) (.cons (len_ob (f := (eI .i64)) (l := v_t2)) (.cons (nf h188) (.cons (len_ob (f := (eI .i64)) (l := v_t2)) .nil))))))) q
    · rw [if_neg h188] at h
      cases h
      exact pkk_sound TTok mix hF 1 (hs := [.u (.d (.v (.int .i64 (v_t1.length : Int)))), .u (.d (.v (.int .i64 (v_t2.length : Int)))), .t false, .c, .u (.d (.v (.int .i64 (v_t3.length : Int)))), .c, .c, .u (.d (.v (.int .i64 (v_t2.length : Int)))), .c, .t true, .c, .c]) (ts := []) (s := []) (l := [0, 1, 2, 7, 8, 9, 10, 39]) (by kernel_rfl) (by kernel_rfl) (.cons (len_ob (f := (eI .i64)) (l := v_t1)) (.cons (len_ob (f := (eI .i64)) (l := v_t2)) (.cons (nf h187) (.cons (len_ob (f := eB) (l := v_t3)) (.cons (len_ob (f := (eI .i64)) (l := v_t2)) (.cons (nt h188) .nil)))))) q
  · rw [if_neg h187] at h
    cases h
    exact pkk_sound TTok mix hF 1 (hs := [.u (.d (.v (.int .i64 (v_t1.length : Int)))), .u (.d (.v (.int .i64 (v_t2.length : Int)))), .t true, .c, .c, .c, .c, .c, .c, .c]) (ts := []) (s := []) (l := [0, 1, 2, 7, 8, 9, 10, 39]) (by kernel_rfl) (by kernel_rfl) (.cons (len_ob (f := (eI .i64)) (l := v_t1)) (.cons (len_ob (f := (eI .i64)) (l := v_t2)) (.cons (nt h187) .nil))) q
inductive G_ringlaw5_IrqServes_C2_R where
  | x0 (v_t258 : Int)
def G_ringlaw5_IrqServes_C2_ex : G_ringlaw5_IrqServes_C2_R → Ex
  | .x0 _ => .normal
def G_ringlaw5_IrqServes_C2_st (v_t1 : (List Int)) (v_t2 : (List Int)) (v_t3 : (List Bool)) (v_r213 : (Int × Int × Int)) (v_z218 : Bool) : G_ringlaw5_IrqServes_C2_R → PS
  | .x0 v_t258 => ⟨[.d (.sl (v_t1.map (eI .i64))), .d (.sl (v_t2.map (eI .i64))), .d (.sl (v_t3.map eB)), dd, dd, dd, dd, .d (.v (.int .i64 v_r213.1)), .d (.v (.int .i64 v_r213.2.1)), .d (.v (.int .i64 v_r213.2.2)), .d (.v (.int .i64 v_t258)), dd, dd, dd, dd, dd, dd, dd, dd, dd, dd, dd, dd, dd, dd, dd, dd, dd, dd, dd, dd, dd, dd, dd, dd, dd, dd, dd, dd, dd, dd, dd, dd, dd, dd, dd, dd, dd, dd, dd, dd, dd, dd, dd, dd, dd, dd, dd, dd, dd, dd, dd, dd, dd, dd, dd, dd, dd, dd, dd, dd, dd, dd, dd, dd, dd, dd], []⟩
def G_ringlaw5_IrqServes_C2_hd (v_t1 : (List Int)) (v_t2 : (List Int)) (v_t3 : (List Bool)) (v_r213 : (Int × Int × Int)) (v_z218 : Bool)  : PS := ⟨[.d (.sl (v_t1.map (eI .i64))), .d (.sl (v_t2.map (eI .i64))), .d (.sl (v_t3.map eB)), dd, dd, dd, dd, .d (.v (.int .i64 v_r213.1)), .d (.v (.int .i64 v_r213.2.1)), .d (.v (.int .i64 v_r213.2.2)), .d (.v (.int .i64 0)), dd, dd, dd, dd, dd, dd, dd, dd, dd, dd, dd, dd, dd, dd, dd, dd, dd, dd, dd, dd, dd, dd, dd, dd, dd, dd, dd, dd, .d (.v (.bool v_z218)), dd, dd, dd, dd, dd, dd, dd, dd, dd, dd, dd, dd, dd, dd, dd, dd, dd, dd, dd, dd, dd, dd, dd, dd, dd, dd, dd, dd, dd, dd, dd, dd, dd, dd, dd, dd, dd], []⟩
def G_ringlaw5_IrqServes_C2 (n : Nat) (v_t1 : (List Int)) (v_t2 : (List Int)) (v_t3 : (List Bool)) (v_r213 : (Int × Int × Int)) (v_z218 : Bool) : Option G_ringlaw5_IrqServes_C2_R :=
  if v_z218 = true then
   some (.x0 3)
  else
   (G_slices_Concat_int_int_h n ([v_t1, v_t2])).bind fun (v_r259 : ((List Int))) =>
   (G_slices_ContainsFunc_int_int n v_r259 (fun (y0 : Int) => G_ringlaw5_IrqServes_1 n y0)).bind fun (v_r260 : (Bool)) =>
   if v_r260 = true then
    some (.x0 1)
   else
    some (.x0 0)
theorem G_ringlaw5_IrqServes_C2_ok {Fi : Ex → PS → Prop} (hF : KC 77 Fi) (ks : List Fr) (n : Nat) (v_t1 : (List Int)) (v_t2 : (List Int)) (v_t3 : (List Bool)) (v_r213 : (Int × Int × Int)) (v_z218 : Bool)  (o : G_ringlaw5_IrqServes_C2_R) (h : G_ringlaw5_IrqServes_C2 n v_t1 v_t2 v_t3 v_r213 v_z218 = some o) (q : RunE Try.prog 77 Fi ks (G_ringlaw5_IrqServes_C2_ex o) (G_ringlaw5_IrqServes_C2_st v_t1 v_t2 v_t3 v_r213 v_z218 o)) : RunE Try.prog 77 Fi (.s (cR (cL (cR (cR (cR (cR (bodyOf Try.f12))))))) :: ks) .normal (G_ringlaw5_IrqServes_C2_hd v_t1 v_t2 v_t3 v_r213 v_z218) := by
  unfold G_ringlaw5_IrqServes_C2 at h
  by_cases h224 : v_z218 = true
  · rw [if_pos h224] at h
    cases h
    exact pkk_sound TTok mix hF 2 (hs := [.t true]) (ts := []) (s := []) (l := [0, 1, 2, 7, 8, 9, 10]) (by kernel_rfl) (by kernel_rfl) (.cons h224 .nil) q
  · rw [if_neg h224] at h
    obtain ⟨v_r259, h225, h⟩ := bind_some h
    obtain ⟨v_r260, h226, h⟩ := bind_some h
    by_cases h227 : v_r260 = true
    · rw [if_pos h227] at h
      cases h
      exact pkk_sound TTok mix hF 5 (hs := [.t false, .q true, .h [] [] [.row 3 1 (v_r259.map (eI .i64))] (.srf 0), .c, .r (eB v_r260), .t true]) (ts := []) (s := []) (l := [0, 1, 2, 7, 8, 9, 10]) (by kernel_rfl) (by kernel_rfl) (.cons (vf h224) (.cons (G_slices_Concat_int_int_h_ok n ([v_t1, v_t2]) _ h225) (.cons (G_slices_ContainsFunc_int_int_ok n v_r259 (fun (y0 : Int) => G_ringlaw5_IrqServes_1 n y0) 86 [] (fun y0 r h => G_ringlaw5_IrqServes_1_ok n y0 r h) _ h226) (.cons h227 .nil)))) q
    · rw [if_neg h227] at h
      cases h
      exact pkk_sound TTok mix hF 5 (hs := [.t false, .q true, .h [] [] [.row 3 1 (v_r259.map (eI .i64))] (.srf 0), .c, .r (eB v_r260), .t false]) (ts := []) (s := []) (l := [0, 1, 2, 7, 8, 9, 10]) (by kernel_rfl) (by kernel_rfl) (.cons (vf h224) (.cons (G_slices_Concat_int_int_h_ok n ([v_t1, v_t2]) _ h225) (.cons (G_slices_ContainsFunc_int_int_ok n v_r259 (fun (y0 : Int) => G_ringlaw5_IrqServes_1 n y0) 86 [] (fun y0 r h => G_ringlaw5_IrqServes_1_ok n y0 r h) _ h226) (.cons (vf h227) .nil)))) q
inductive G_ringlaw5_IrqServes_C3_R where
  | x0 (v_t270 : Bool)
def G_ringlaw5_IrqServes_C3_ex : G_ringlaw5_IrqServes_C3_R → Ex
  | .x0 _ => .normal
def G_ringlaw5_IrqServes_C3_st (v_r213 : (Int × Int × Int)) (v_z264 : Int) : G_ringlaw5_IrqServes_C3_R → PS
  | .x0 v_t270 => ⟨[dd, dd, dd, dd, dd, dd, .d (.v (.bool v_t270)), dd, dd, dd, dd, dd, dd, dd, dd, dd, dd, dd, dd, dd, dd, dd, dd, dd, dd, dd, dd, dd, dd, dd, dd, dd, dd, dd, dd, dd, dd, dd, dd, dd, dd, dd, dd, dd, dd, dd, dd, dd, dd, dd, dd, dd, dd, dd, dd, dd, dd, dd, dd, dd, dd, dd, dd, dd, dd, dd, dd, dd, dd, dd, dd, dd, dd, dd, dd, dd, dd], []⟩
def G_ringlaw5_IrqServes_C3_hd (v_r213 : (Int × Int × Int)) (v_z264 : Int)  : PS := ⟨[dd, dd, dd, dd, dd, dd, dd, .d (.v (.int .i64 v_r213.1)), .d (.v (.int .i64 v_r213.2.1)), .d (.v (.int .i64 v_r213.2.2)), .d (.v (.int .i64 v_z264)), dd, dd, dd, dd, dd, dd, dd, dd, dd, dd, dd, dd, dd, dd, dd, dd, dd, dd, dd, dd, dd, dd, dd, dd, dd, dd, dd, dd, dd, dd, dd, dd, dd, dd, dd, dd, dd, dd, dd, dd, dd, dd, dd, dd, dd, dd, dd, dd, dd, dd, dd, dd, dd, dd, dd, dd, dd, dd, dd, dd, dd, dd, dd, dd, dd, dd], []⟩
def G_ringlaw5_IrqServes_C3 (n : Nat) (v_r213 : (Int × Int × Int)) (v_z264 : Int) : Option G_ringlaw5_IrqServes_C3_R :=
  if v_r213.2.2 = v_z264 then
   if v_r213.1 = 0 then
    some (.x0 (v_r213.2.1 == 0))
   else
    some (.x0 false)
  else
   some (.x0 false)
theorem G_ringlaw5_IrqServes_C3_ok {Fi : Ex → PS → Prop} (hF : KC 77 Fi) (ks : List Fr) (n : Nat) (v_r213 : (Int × Int × Int)) (v_z264 : Int)  (o : G_ringlaw5_IrqServes_C3_R) (h : G_ringlaw5_IrqServes_C3 n v_r213 v_z264 = some o) (q : RunE Try.prog 77 Fi ks (G_ringlaw5_IrqServes_C3_ex o) (G_ringlaw5_IrqServes_C3_st v_r213 v_z264 o)) : RunE Try.prog 77 Fi (.s (cL (cT (cR (cL (cR (cR (cR (cR (cR (bodyOf Try.f12)))))))))) :: ks) .normal (G_ringlaw5_IrqServes_C3_hd v_r213 v_z264) := by
  unfold G_ringlaw5_IrqServes_C3 at h
  by_cases h238 : v_r213.2.2 = v_z264
  · rw [if_pos h238] at h
    by_cases h239 : v_r213.1 = 0
    · rw [if_pos h239] at h
      cases h
      exact pkk_sound TTok mix hF 1 (hs := [.t true, .c, .t true, .c]) (ts := []) (s := []) (l := [6]) (by kernel_rfl) (by kernel_rfl) (.cons (bt h238) (.cons (bt h239) .nil)) q
    · rw [if_neg h239] at h
      cases h
      exact pkk_sound TTok mix hF 1 (hs := [.t true, .c, .t false, .c]) (ts := []) (s := []) (l := [6]) (by kernel_rfl) (by kernel_rfl) (.cons (bt h238) (.cons (bf h239) .nil)) q
  · rw [if_neg h238] at h
    cases h
    exact pkk_sound TTok mix hF 1 (hs := [.t false, .c, .c, .c]) (ts := []) (s := []) (l := [6]) (by kernel_rfl) (by kernel_rfl) (.cons (bf h238) .nil) q
inductive G_ringlaw5_IrqServes_C4_R where
  | x0 (v_t321 : Bool)
def G_ringlaw5_IrqServes_C4_ex : G_ringlaw5_IrqServes_C4_R → Ex
  | .x0 _ => .normal
def G_ringlaw5_IrqServes_C4_st (v_r213 : (Int × Int × Int)) (v_r320 : (Int × Int)) : G_ringlaw5_IrqServes_C4_R → PS
  | .x0 v_t321 => ⟨[dd, dd, dd, dd, dd, dd, .d (.v (.bool v_t321)), dd, dd, dd, dd, dd, dd, dd, dd, dd, dd, dd, dd, dd, dd, dd, dd, dd, dd, dd, dd, dd, dd, dd, dd, dd, dd, dd, dd, dd, dd, dd, dd, dd, dd, dd, dd, dd, dd, dd, dd, dd, dd, dd, dd, dd, dd, dd, dd, dd, dd, dd, dd, dd, dd, dd, dd, dd, dd, dd, dd, dd, dd, dd, dd, dd, dd, dd, dd, dd, dd], []⟩
def G_ringlaw5_IrqServes_C4_hd (v_r213 : (Int × Int × Int)) (v_r320 : (Int × Int))  : PS := ⟨[dd, dd, dd, dd, dd, dd, dd, .d (.v (.int .i64 v_r213.1)), .d (.v (.int .i64 v_r213.2.1)), .d (.v (.int .i64 v_r213.2.2)), dd, .d (.v (.int .i64 v_r320.1)), .d (.v (.int .i64 v_r320.2)), dd, dd, dd, dd, dd, dd, dd, dd, dd, dd, dd, dd, dd, dd, dd, dd, dd, dd, dd, dd, dd, dd, dd, dd, dd, dd, dd, dd, dd, dd, dd, dd, dd, dd, dd, dd, dd, dd, dd, dd, dd, dd, dd, dd, dd, dd, dd, dd, dd, dd, dd, dd, dd, dd, dd, dd, dd, dd, dd, dd, dd, dd, dd, dd], []⟩
def G_ringlaw5_IrqServes_C4 (n : Nat) (v_r213 : (Int × Int × Int)) (v_r320 : (Int × Int)) : Option G_ringlaw5_IrqServes_C4_R :=
  if v_r213.2.2 = 0 then
   if v_r213.1 = v_r320.1 then
    some (.x0 (v_r213.2.1 == v_r320.2))
   else
    some (.x0 false)
  else
   some (.x0 false)
theorem G_ringlaw5_IrqServes_C4_ok {Fi : Ex → PS → Prop} (hF : KC 77 Fi) (ks : List Fr) (n : Nat) (v_r213 : (Int × Int × Int)) (v_r320 : (Int × Int))  (o : G_ringlaw5_IrqServes_C4_R) (h : G_ringlaw5_IrqServes_C4 n v_r213 v_r320 = some o) (q : RunE Try.prog 77 Fi ks (G_ringlaw5_IrqServes_C4_ex o) (G_ringlaw5_IrqServes_C4_st v_r213 v_r320 o)) : RunE Try.prog 77 Fi (.s (cL (cR (cR (cR (cR (cR (cR (cR (bodyOf Try.f12))))))))) :: ks) .normal (G_ringlaw5_IrqServes_C4_hd v_r213 v_r320) := by
  unfold G_ringlaw5_IrqServes_C4 at h
  by_cases h271 : v_r213.2.2 = 0
  · rw [if_pos h271] at h
    by_cases h272 : v_r213.1 = v_r320.1
    · rw [if_pos h272] at h
      cases h
      exact pkk_sound TTok mix hF 1 (hs := [.t true, .c, .c, .t true, .c, .c]) (ts := []) (s := []) (l := [6]) (by kernel_rfl) (by kernel_rfl) (.cons (bt h271) (.cons (bt h272) .nil)) q
    · rw [if_neg h272] at h
      cases h
      exact pkk_sound TTok mix hF 1 (hs := [.t true, .c, .c, .t false, .c, .c]) (ts := []) (s := []) (l := [6]) (by kernel_rfl) (by kernel_rfl) (.cons (bt h271) (.cons (bf h272) .nil)) q
  · rw [if_neg h271] at h
    cases h
    exact pkk_sound TTok mix hF 1 (hs := [.t false, .c, .c, .c, .c, .c]) (ts := []) (s := []) (l := [6]) (by kernel_rfl) (by kernel_rfl) (.cons (bf h271) .nil) q
/- ringhall/ringlaw5.IrqServes -/
def G_ringlaw5_IrqServes (n : Nat) (v_t1 : (List Int)) (v_t2 : (List Int)) (v_t3 : (List Bool)) : Option (Bool) :=
  (G_ringlaw5_serves n ).bind fun (v_r212 : (Bool)) =>
  if v_r212 = true then
   (G_irq_Serve n v_t1 v_t2 v_t3).bind fun (v_r213 : (Int × Int × Int)) =>
   (G_ringlaw5_IrqServes_C1 n v_t1 v_t2 v_t3 v_r213).bind fun v_o217 => match v_o217 with
   | .x0 v_z218 =>
     (G_ringlaw5_IrqServes_C2 n v_t1 v_t2 v_t3 v_r213 v_z218).bind fun v_o263 => match v_o263 with
     | .x0 v_z264 =>
       if v_z264 = 0 then
        (G_ringref5_ServeOf n v_t1 v_t2 v_t3).bind fun (v_r320 : (Int × Int)) =>
        (G_ringlaw5_IrqServes_C4 n v_r213 v_r320).bind fun v_o324 => match v_o324 with
        | .x0 v_z325 =>
          some v_z325
       else
        (G_ringlaw5_IrqServes_C3 n v_r213 v_z264).bind fun v_o273 => match v_o273 with
        | .x0 v_z274 =>
          some v_z274
  else
   some false
theorem G_ringlaw5_IrqServes_ok (n : Nat) (v_t1 : (List Int)) (v_t2 : (List Int)) (v_t3 : (List Bool)) (r : Bool) (h : G_ringlaw5_IrqServes n v_t1 v_t2 v_t3 = some r) : Ret Try.prog 12 [(eL (eI .i64)) v_t1, (eL (eI .i64)) v_t2, (eL eB) v_t3] (eB r) := by
  refine ret_run (n := 77) (fn := Try.f12) (c := bodyOf Try.f12) (by kernel_rfl) (by kernel_rfl) (by kernel_rfl) (by kernel_rfl) ?_
  have hF : KC 77 (FinR Try.prog Try.f12 (eB r)) := FinR.kc' (by kernel_rfl)
  unfold G_ringlaw5_IrqServes at h
  obtain ⟨v_r212, h182, h⟩ := bind_some h
  by_cases h183 : v_r212 = true
  · rw [if_pos h183] at h
    obtain ⟨v_r213, h184, h⟩ := bind_some h
    obtain ⟨v_o217, h189, h⟩ := bind_some h
    refine pkk_sound TTok mix hF 13 (hs := [.r (eB v_r212), .t false, .r (.tup [(eI .i64) v_r213.1, (eI .i64) v_r213.2.1, (eI .i64) v_r213.2.2])]) (ts := []) (s := []) (l := [0, 1, 2, 7, 8, 9, 10]) (by kernel_rfl) (by kernel_rfl) (.cons (G_ringlaw5_serves_ok n  _ h182) (.cons (bnf h183) (.cons (G_irq_Serve_ok n v_t1 v_t2 v_t3 _ h184) .nil))) (G_ringlaw5_IrqServes_C1_ok hF (.s (cR (cL (cR (cR (cR (cR (bodyOf Try.f12))))))) :: .s (cR (cR (cR (cR (cR (bodyOf Try.f12)))))) :: []) n v_t1 v_t2 v_t3 v_r213 _ h189 ?_)
    cases v_o217 with
    | x0 v_z218 =>
      dsimp only at h
      obtain ⟨v_o263, h228, h⟩ := bind_some h
      refine pkk_sound TTok mix hF 0 (hs := []) (ts := []) (s := []) (l := [0, 1, 2, 7, 8, 9, 10, 39]) (by kernel_rfl) (by kernel_rfl) .nil (G_ringlaw5_IrqServes_C2_ok hF (.s (cR (cR (cR (cR (cR (bodyOf Try.f12)))))) :: []) n v_t1 v_t2 v_t3 v_r213 v_z218 _ h228 ?_)
      cases v_o263 with
      | x0 v_z264 =>
        dsimp only at h
        by_cases h235 : v_z264 = 0
        · rw [if_pos h235] at h
          obtain ⟨v_r320, h268, h⟩ := bind_some h
          obtain ⟨v_o324, h273, h⟩ := bind_some h
          refine pkk_sound TTok mix hF 8 (hs := [.t false, .r (.tup [(eI .i64) v_r320.1, (eI .i64) v_r320.2])]) (ts := []) (s := []) (l := [7, 8, 9, 11, 12]) (by kernel_rfl) (by kernel_rfl) (.cons (nf h235) (.cons (G_ringref5_ServeOf_ok n v_t1 v_t2 v_t3 _ h268) .nil)) (G_ringlaw5_IrqServes_C4_ok hF (.s (cR (cR (cR (cR (cR (cR (cR (cR (bodyOf Try.f12))))))))) :: []) n v_r213 v_r320 _ h273 ?_)
          cases v_o324 with
          | x0 v_z325 =>
            dsimp only at h
            obtain rfl := Option.some.inj h
            exact pend_sound TTok mix 1 (hs := []) (by kernel_rfl) (by kernel_rfl) (by kernel_rfl) .nil
        · rw [if_neg h235] at h
          obtain ⟨v_o273, h240, h⟩ := bind_some h
          refine pkk_sound TTok mix hF 5 (hs := [.t true]) (ts := []) (s := []) (l := [7, 8, 9, 10]) (by kernel_rfl) (by kernel_rfl) (.cons (nt h235) .nil) (G_ringlaw5_IrqServes_C3_ok hF (.s (cR (cT (cR (cL (cR (cR (cR (cR (cR (bodyOf Try.f12)))))))))) :: .s (cR (cR (cR (cR (cR (cR (bodyOf Try.f12))))))) :: []) n v_r213 v_z264 _ h240 ?_)
          cases v_o273 with
          | x0 v_z274 =>
            dsimp only at h
            obtain rfl := Option.some.inj h
            exact pend_sound TTok mix 2 (hs := []) (by kernel_rfl) (by kernel_rfl) (by kernel_rfl) .nil
  · rw [if_neg h183] at h
    obtain rfl := Option.some.inj h
    exact pend_sound TTok mix 10 (hs := [.r (eB v_r212), .t true]) (by kernel_rfl) (by kernel_rfl) (by kernel_rfl) (.cons (G_ringlaw5_serves_ok n  _ h182) (.cons (bnt (vf h183)) .nil))
theorem IrqServes_walk (H : ∀ (a0 : (List Int)) (a1 : (List Int)) (a2 : (List Bool)), (okL 8 (fun a => (Lit.int .i64 a).wf = true)) a0 → (okL 8 (fun a => (Lit.int .i64 a).wf = true)) a1 → (okL 1 (fun _ => True)) a2 → ∃ n, G_ringlaw5_IrqServes n a0 a1 a2 = some true) (w : World) (v0 : Value) (v1 : Value) (v2 : Value) (h0 : rep.Arg w (.slice 8 (.int .i64)) v0) (h1 : rep.Arg w (.slice 8 (.int .i64)) v1) (h2 : rep.Arg w (.slice 1 .bool) v2) : Calls Try.prog 12 #[v0, v1, v2] w (help.Ret (.bool true) w) := by
  obtain ⟨a0, o0, r0⟩ := arg_one (br_slice (f := (eI .i64)) (ok := (fun a => (Lit.int .i64 a).wf = true)) (br_int .i64) (fun _ => rfl) (by decide)) (by rfl) h0
  obtain ⟨a1, o1, r1⟩ := arg_one (br_slice (f := (eI .i64)) (ok := (fun a => (Lit.int .i64 a).wf = true)) (br_int .i64) (fun _ => rfl) (by decide)) (by rfl) h1
  obtain ⟨a2, o2, r2⟩ := arg_one (br_slice (f := eB) (ok := (fun _ => True)) br_bool (fun _ => rfl) (by decide)) (by rfl) h2
  obtain ⟨n, hn⟩ := H a0 a1 a2 o0 o1 o2
  exact walk_of (G_ringlaw5_IrqServes_ok n a0 a1 a2 true hn) (RT_cons r0 (RT_cons r1 (RT_cons r2 RT_nil)))
/- FRAME IrqServes; ringhall/ringlaw5.IrqServes; (.slice 8 (.int .i64)) | (.slice 8 (.int .i64)) | (.slice 1 .bool); .slice none 0 0 | .slice none 0 0 | .slice none 0 0 -/
end Go.Proofs.YtccmjndnjpjohaaR.pv
