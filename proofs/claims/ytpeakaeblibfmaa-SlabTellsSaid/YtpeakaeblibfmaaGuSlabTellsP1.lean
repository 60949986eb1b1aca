/- What the functions compute, as functions over plain data, with their contracts: written by gen.py. -/
import Derived.Test.YtpeakaeblibfmaaProg
import Derived.Test.YtpeakaeblibfmaaQr
import Derived.Test.YtpeakaeblibfmaaSh
import Derived.Test.YtpeakaeblibfmaaSr
set_option maxRecDepth 100000
set_option linter.all false
namespace Go.Proofs.Ytpeakaeblibfmaa.pv
open Go.RowKit
def TT : List TI := [
⟨1, 0, .oth, []⟩,
⟨1, 8, .oth, [.nf]⟩,
⟨1, 8, .int .i64, [.i .i64]⟩,
⟨1, 8, .int .i64, [.i .i64]⟩,
⟨1, 1, .bool, [.b]⟩,
⟨1, 1, .int .u8, [.i .u8]⟩,
⟨1, 1, .int .u8, [.i .u8]⟩,
⟨4, 24, .st [(0, 2), (1, 3), (2, 4), (3, 6)], [.i .i64, .i .i64, .b, .i .u8]⟩,
⟨4, 24, .st [(0, 2), (1, 3), (2, 4), (3, 6)], [.i .i64, .i .i64, .b, .i .u8]⟩,
⟨1, 16, .str, [.s]⟩,
⟨1, 16, .str, [.s]⟩,
⟨1, 16, .str, [.s]⟩,
⟨1, 8, .int .u64, [.i .u64]⟩,
⟨2, 24, .st [(0, 9), (1, 12)], [.s, .i .u64]⟩,
⟨2, 24, .st [(0, 9), (1, 12)], [.s, .i .u64]⟩,
⟨1, 8, .ptr 176, [.np]⟩,
⟨1, 8, .ptr 179, [.np]⟩,
⟨1, 8, .ptr 188, [.np]⟩,
⟨1, 8, .st [(0, 17)], [.np]⟩,
⟨1, 8, .st [(0, 17)], [.np]⟩,
⟨1, 16, .oth, [.ni]⟩,
⟨1, 4, .int .i32, [.i .i32]⟩,
⟨1, 24, .sl 5, [.sl]⟩,
⟨1, 24, .sl 39, [.sl]⟩,
⟨2, 48, .st [(0, 22), (1, 23)], [.sl, .sl]⟩,
⟨2, 48, .st [(0, 22), (1, 23)], [.sl, .sl]⟩,
⟨1, 8, .int .i64, [.i .i64]⟩,
⟨1, 0, .oth, []⟩,
⟨1, 8, .oth, [.nf]⟩,
⟨1, 0, .oth, []⟩,
⟨1, 8, .oth, [.nf]⟩,
⟨1, 8, .oth, [.nf]⟩,
⟨1, 0, .oth, []⟩,
⟨1, 8, .oth, [.nf]⟩,
⟨1, 0, .oth, []⟩,
⟨1, 8, .oth, [.nf]⟩,
⟨1, 8, .oth, [.nf]⟩,
⟨1, 8, .oth, [.nf]⟩,
⟨1, 8, .oth, [.nf]⟩,
⟨1, 24, .sl 3, [.sl]⟩,
⟨1, 0, .oth, []⟩,
⟨1, 8, .oth, [.nf]⟩,
⟨1, 8, .oth, [.nf]⟩,
⟨1, 8, .oth, [.nf]⟩,
⟨1, 8, .oth, [.nf]⟩,
⟨1, 8, .oth, [.nf]⟩,
⟨1, 8, .oth, [.nf]⟩,
⟨1, 24, .sl 66, [.sl]⟩,
⟨1, 4, .int .u32, [.i .u32]⟩,
⟨2, 16, .st [(0, 3), (1, 3)], [.i .i64, .i .i64]⟩,
⟨2, 16, .st [(0, 3), (1, 3)], [.i .i64, .i .i64]⟩,
⟨1, 0, .oth, []⟩,
⟨1, 8, .oth, [.nf]⟩,
⟨1, 8, .oth, [.nf]⟩,
⟨1, 0, .oth, []⟩,
⟨1, 8, .oth, [.nf]⟩,
⟨1, 8, .oth, [.nf]⟩,
⟨1, 0, .oth, []⟩,
⟨1, 8, .oth, [.nf]⟩,
⟨1, 0, .oth, []⟩,
⟨1, 8, .oth, [.nf]⟩,
⟨1, 8, .oth, [.nf]⟩,
⟨1, 8, .oth, [.nf]⟩,
⟨1, 24, .sl 69, [.sl]⟩,
⟨1, 24, .sl 50, [.sl]⟩,
⟨2, 48, .st [(0, 63), (1, 64)], [.sl, .sl]⟩,
⟨2, 48, .st [(0, 63), (1, 64)], [.sl, .sl]⟩,
⟨1, 8, .oth, [.nf]⟩,
⟨3, 24, .st [(0, 3), (1, 3), (2, 48)], [.i .i64, .i .i64, .i .u32]⟩,
⟨3, 24, .st [(0, 3), (1, 3), (2, 48)], [.i .i64, .i .i64, .i .u32]⟩,
⟨1, 8, .oth, [.nf]⟩,
⟨1, 8, .oth, [.nf]⟩,
⟨1, 8, .oth, [.nf]⟩,
⟨1, 8, .oth, [.nf]⟩,
⟨1, 8, .oth, [.nf]⟩,
⟨1, 8, .oth, [.nf]⟩,
⟨1, 24, .sl 136, [.sl]⟩,
⟨2, 32, .st [(0, 3), (1, 76)], [.i .i64, .sl]⟩,
⟨2, 32, .st [(0, 3), (1, 76)], [.i .i64, .sl]⟩,
⟨2, 16, .st [(0, 3), (1, 3)], [.i .i64, .i .i64]⟩,
⟨2, 16, .st [(0, 3), (1, 3)], [.i .i64, .i .i64]⟩,
⟨1, 0, .oth, []⟩,
⟨1, 8, .oth, [.nf]⟩,
⟨1, 0, .oth, []⟩,
⟨1, 8, .oth, [.nf]⟩,
⟨1, 0, .oth, []⟩,
⟨1, 8, .oth, [.nf]⟩,
⟨1, 0, .oth, []⟩,
⟨1, 8, .oth, [.nf]⟩,
⟨1, 8, .oth, [.nf]⟩,
⟨1, 8, .oth, [.nf]⟩,
⟨16, 16, .arr 16 4, List.replicate 16 (.b)⟩,
⟨1024, 1024, .arr 64 91, List.replicate 1024 (.b)⟩,
⟨1, 8, .oth, [.nf]⟩,
⟨1, 8, .oth, [.nf]⟩,
⟨1, 24, .sl 4, [.sl]⟩,
⟨1, 8, .oth, [.nf]⟩,
⟨1, 8, .oth, [.nf]⟩,
⟨1, 0, .oth, []⟩,
⟨1, 8, .oth, [.nf]⟩,
⟨1, 8, .oth, [.nf]⟩,
⟨1, 24, .sl 112, [.sl]⟩,
⟨2, 32, .st [(0, 3), (1, 101)], [.i .i64, .sl]⟩,
⟨2, 32, .st [(0, 3), (1, 101)], [.i .i64, .sl]⟩,
⟨1, 0, .oth, []⟩,
⟨1, 8, .oth, [.nf]⟩,
⟨1, 0, .oth, []⟩,
⟨1, 8, .oth, [.nf]⟩,
⟨1, 8, .oth, [.nf]⟩,
⟨1, 8, .oth, [.nf]⟩,
⟨1, 8, .oth, [.nf]⟩,
⟨2, 16, .st [(0, 3), (1, 3)], [.i .i64, .i .i64]⟩,
⟨2, 16, .st [(0, 3), (1, 3)], [.i .i64, .i .i64]⟩,
⟨1, 8, .oth, [.nf]⟩,
⟨64, 64, .arr 64 4, List.replicate 64 (.b)⟩,
⟨1, 8, .oth, [.nf]⟩,
⟨1, 8, .oth, [.nf]⟩,
⟨1, 8, .oth, [.nf]⟩,
⟨1, 8, .oth, [.nf]⟩,
⟨1, 0, .oth, []⟩,
⟨1, 8, .oth, [.nf]⟩,
⟨1, 8, .oth, [.nf]⟩,
⟨1, 8, .oth, [.nf]⟩,
⟨1, 8, .oth, [.nf]⟩,
⟨1, 8, .oth, [.nf]⟩,
⟨1, 8, .oth, [.nf]⟩,
⟨1, 8, .oth, [.nf]⟩,
⟨1, 8, .oth, [.nf]⟩,
⟨1, 8, .oth, [.nf]⟩,
⟨1, 8, .ptr 66, [.np]⟩,
⟨1, 8, .oth, [.nf]⟩,
⟨1, 8, .oth, [.nf]⟩,
⟨1, 8, .oth, [.nf]⟩,
⟨1, 8, .oth, [.nf]⟩,
⟨1, 8, .oth, [.nf]⟩,
⟨2, 32, .st [(0, 3), (1, 39)], [.i .i64, .sl]⟩,
⟨2, 32, .st [(0, 3), (1, 39)], [.i .i64, .sl]⟩,
⟨1, 8, .oth, [.nf]⟩,
⟨1, 8, .oth, [.nf]⟩,
⟨1, 8, .oth, [.nf]⟩,
⟨1, 8, .oth, [.nf]⟩,
⟨1, 8, .oth, [.nf]⟩,
⟨1, 8, .oth, [.nf]⟩,
⟨1, 8, .oth, [.nf]⟩,
⟨1, 8, .oth, [.nf]⟩,
⟨1, 8, .oth, [.nf]⟩,
⟨1, 8, .oth, [.nf]⟩,
⟨1, 8, .oth, [.nf]⟩,
⟨1, 8, .oth, [.nf]⟩,
⟨1, 8, .oth, [.nf]⟩,
⟨1, 8, .oth, [.nf]⟩,
⟨1, 8, .oth, [.nf]⟩,
⟨1, 8, .oth, [.nf]⟩,
⟨1, 8, .oth, [.nf]⟩,
⟨1, 8, .oth, [.nf]⟩,
⟨1, 8, .oth, [.nf]⟩,
⟨1, 8, .oth, [.nf]⟩,
⟨1, 8, .oth, [.nf]⟩,
⟨1, 8, .oth, [.nf]⟩,
⟨1, 8, .oth, [.nf]⟩,
⟨1, 8, .oth, [.nf]⟩,
⟨1, 8, .oth, [.nf]⟩,
⟨1, 8, .oth, [.nf]⟩,
⟨1, 8, .oth, [.nf]⟩,
⟨1, 8, .oth, [.nf]⟩,
⟨1, 8, .oth, [.nf]⟩,
⟨1, 8, .oth, [.nf]⟩,
⟨1, 8, .oth, [.nf]⟩,
⟨1, 8, .oth, [.nf]⟩,
⟨1, 8, .oth, [.nf]⟩,
⟨1, 8, .ptr 112, [.np]⟩,
⟨1, 8, .oth, [.nf]⟩,
⟨1, 8, .oth, [.nf]⟩,
⟨1, 8, .oth, [.nf]⟩,
⟨1, 8, .oth, [.nf]⟩,
⟨4, 40, .st [(0, 17), (1, 17), (2, 17), (3, 9)], [.np, .np, .np, .s]⟩,
⟨4, 40, .st [(0, 17), (1, 17), (2, 17), (3, 9)], [.np, .np, .np, .s]⟩,
⟨0, 0, .arr 0 16, []⟩,
⟨0, 0, .st [(0, 177)], []⟩,
⟨0, 0, .st [(0, 177)], []⟩,
⟨1, 8, .oth, [.nf]⟩,
⟨1, 1, .int .u8, [.i .u8]⟩,
⟨1, 1, .int .u8, [.i .u8]⟩,
⟨1, 8, .oth, [.nf]⟩,
⟨1, 8, .ptr 5, [.np]⟩,
⟨1, 4, .int .i32, [.i .i32]⟩,
⟨1, 4, .int .i32, [.i .i32]⟩,
⟨11, 48, .st [(0, 12), (1, 12), (2, 48), (3, 181), (4, 5), (5, 5), (6, 182), (7, 183), (8, 184), (9, 185), (10, 186)], [.i .u64, .i .u64, .i .u32, .i .u8, .i .u8, .i .u8, .i .u8, .nf, .np, .i .i32, .i .i32]⟩,
⟨11, 48, .st [(0, 12), (1, 12), (2, 48), (3, 181), (4, 5), (5, 5), (6, 182), (7, 183), (8, 184), (9, 185), (10, 186)], [.i .u64, .i .u64, .i .u32, .i .u8, .i .u8, .i .u8, .i .u8, .nf, .np, .i .i32, .i .i32]⟩,
⟨1, 8, .oth, [.np]⟩]
theorem TTok : TOk Try.prog TT := by unfold TOk; kernel_rfl
theorem mix : Try.prog.follows .mixedOrders = true := by kernel_rfl
structure S_slab_Box where
  fFrame : Int
  fUsed : (List Int)
def eS_slab_Box (x : S_slab_Box) : PV := .agg [.v (.int .i64 x.fFrame), .sl (x.fUsed.map (eI .i64))]
structure S_slab_Slab where
  fSize : Int
  fBoxes : (List S_slab_Box)
def eS_slab_Slab (x : S_slab_Slab) : PV := .agg [.v (.int .i64 x.fSize), .sl (x.fBoxes.map eS_slab_Box)]
structure S_slab_Place where
  fFrame : Int
  fAt : Int
def eS_slab_Place (x : S_slab_Place) : PV := .agg [.v (.int .i64 x.fFrame), .v (.int .i64 x.fAt)]
def cA_t92 (x : (Fin 64 → (Fin 16 → Bool))) : List PV := (List.ofFn x).flatMap fun a => [.v (.bool (a 0)), .v (.bool (a 1)), .v (.bool (a 2)), .v (.bool (a 3)), .v (.bool (a 4)), .v (.bool (a 5)), .v (.bool (a 6)), .v (.bool (a 7)), .v (.bool (a 8)), .v (.bool (a 9)), .v (.bool (a 10)), .v (.bool (a 11)), .v (.bool (a 12)), .v (.bool (a 13)), .v (.bool (a 14)), .v (.bool (a 15))]
def cA_t91 (x : (Fin 16 → Bool)) : List PV := (List.ofFn x).flatMap fun a => [.v (.bool a)]
def nq_S_slab_Box (k : Nat) : Bool := decide (k % 2 = 1)
def nct_S_slab_Box (_ : Nat) : Nat × Nat := (3, 1)
def eqS_slab_Place (x y : S_slab_Place) : Bool := ((x.fFrame == y.fFrame) && ((x.fAt == y.fAt) && true))
theorem eqS_slab_Place_ok (x y : S_slab_Place) : EqA Try.prog 80 [((.int .i64 x.fFrame)), ((.int .i64 x.fAt))] [((.int .i64 y.fFrame)), ((.int .i64 y.fAt))] (eqS_slab_Place x y) := eqA_of TTok (by kernel_rfl) (by kernel_rfl) (by kernel_rfl)
/- ringhall/slab.New -/
def G_slab_New (n : Nat) (v_size9 : Int) : Option (S_slab_Slab × Int) :=
  if v_size9 < 1 then
   some ((S_slab_Slab.mk 0 ([] : (List S_slab_Box))), 1)
  else
   if v_size9 > 16 then
    some ((S_slab_Slab.mk 0 ([] : (List S_slab_Box))), 1)
   else
    some ((S_slab_Slab.mk v_size9 ([] : (List S_slab_Box))), 0)
theorem G_slab_New_ok (n : Nat) (v_size9 : Int) (r : S_slab_Slab × Int) (h : G_slab_New n v_size9 = some r) : Ret Try.prog 36 [(eI .i64) v_size9] (.tup [eS_slab_Slab r.1, (eI .i64) r.2]) := by
  refine ret_run (n := 13) (fn := Try.f36) (c := bodyOf Try.f36) (by kernel_rfl) (by kernel_rfl) (by kernel_rfl) (by kernel_rfl) ?_
  have hF : KC 13 (FinR Try.prog Try.f36 (.tup [eS_slab_Slab r.1, (eI .i64) r.2])) := FinR.kc' (by kernel_rfl)
  unfold G_slab_New at h
  by_cases h1 : v_size9 < 1
  · rw [if_pos h1] at h
    obtain rfl := Option.some.inj h
    exact pend_sound TTok mix 10 (hs := [.t true, .c, .c, .c]) (by kernel_rfl) (by kernel_rfl) (by kernel_rfl) (.cons (dt h1) (.cons (show 0 + 2 ≤ 2 by decide) .nil))
  · rw [if_neg h1] at h
    by_cases h3 : v_size9 > 16
    · rw [if_pos h3] at h
      obtain rfl := Option.some.inj h
      exact pend_sound TTok mix 10 (hs := [.t false, .c, .t true, .c]) (by kernel_rfl) (by kernel_rfl) (by kernel_rfl) (.cons (df h1) (.cons (dt h3) (.cons (show 0 + 2 ≤ 2 by decide) .nil)))
    · rw [if_neg h3] at h
      obtain rfl := Option.some.inj h
      exact pend_sound TTok mix 10 (hs := [.t false, .c, .t false, .c]) (by kernel_rfl) (by kernel_rfl) (by kernel_rfl) (.cons (df h1) (.cons (df h3) (.cons (show 0 + 2 ≤ 2 by decide) .nil)))
/- ringhall/slab.per -/
def G_slab_per (n : Nat) (v_s82 : S_slab_Slab) : Option (Int) :=
  if v_s82.fSize ≠ 0 then
   some (quoI .i64 16 v_s82.fSize)
  else none
theorem G_slab_per_ok (n : Nat) (v_s82 : S_slab_Slab) (r : Int) (h : G_slab_per n v_s82 = some r) : Ret Try.prog 76 [eS_slab_Slab v_s82] ((eI .i64) r) := by
  refine ret_run (n := 6) (fn := Try.f76) (c := bodyOf Try.f76) (by kernel_rfl) (by kernel_rfl) (by kernel_rfl) (by kernel_rfl) ?_
  have hF : KC 6 (FinR Try.prog Try.f76 ((eI .i64) r)) := FinR.kc' (by kernel_rfl)
  unfold G_slab_per at h
  by_cases h28 : v_s82.fSize ≠ 0
  · rw [if_pos h28] at h
    obtain rfl := Option.some.inj h
    exact pend_sound TTok mix 5 (hs := [.c]) (by kernel_rfl) (by kernel_rfl) (by kernel_rfl) (.cons h28 .nil)
  · rw [if_neg h28] at h; cases h
inductive G_slab_Check_C1_R where
  | x0 (v_x70 : Bool)
def G_slab_Check_C1_ex : G_slab_Check_C1_R → Ex
  | .x0 _ => .normal
def G_slab_Check_C1_st (v_x65 : Int) (v_s36 : S_slab_Slab) (v_y67 : S_slab_Box) : G_slab_Check_C1_R → PS
  | .x0 v_x70 => ⟨[dd, .ref 0 0, dd, dd, dd, dd, .ref 1 0, dd, dd, dd, dd, dd, dd, dd, dd, dd, dd, dd, dd, dd, dd, dd, dd, .d (.sl (v_s36.fBoxes.map eS_slab_Box)), .d (.v (.int .i64 (v_s36.fBoxes.length : Int))), .d (.v (.int .i64 v_x65)), dd, dd, dd, dd, dd, dd, dd, dd, dd, dd, dd, dd, dd, dd, dd, dd, dd, dd, dd, dd, dd, dd, dd, dd, dd, dd, dd, dd, dd, dd, dd, dd, dd, .d (.v (.bool v_x70)), dd, dd, dd, dd, dd, dd, dd, dd, dd, dd, dd, dd, dd, dd, dd, dd, dd, dd, dd, dd, dd, dd, dd, dd, dd, dd, dd, dd, dd, dd, dd, dd, dd, dd, dd, dd, dd, dd, dd, dd, dd, dd], [.box [.d (.v (.int .i64 v_s36.fSize)), .d (.sl (v_s36.fBoxes.map eS_slab_Box))], .box [.d (.v (.int .i64 v_y67.fFrame)), .d (.sl (v_y67.fUsed.map (eI .i64)))]]⟩
def G_slab_Check_C1_hd (v_x65 : Int) (v_s36 : S_slab_Slab) (v_y67 : S_slab_Box)  : PS := ⟨[dd, .ref 0 0, dd, dd, dd, .d (.v (.int .i64 v_x65)), .ref 1 0, dd, dd, dd, dd, dd, dd, dd, dd, dd, dd, dd, dd, dd, dd, dd, dd, .d (.sl (v_s36.fBoxes.map eS_slab_Box)), .d (.v (.int .i64 (v_s36.fBoxes.length : Int))), .d (.v (.int .i64 v_x65)), dd, dd, dd, dd, dd, dd, dd, dd, dd, dd, dd, dd, dd, dd, dd, dd, dd, dd, dd, dd, dd, dd, dd, dd, dd, dd, dd, dd, dd, dd, dd, dd, dd, dd, dd, dd, dd, dd, dd, dd, dd, dd, dd, dd, dd, dd, dd, dd, dd, dd, dd, dd, dd, dd, dd, dd, dd, dd, dd, dd, dd, dd, dd, dd, dd, dd, dd, dd, dd, dd, dd, dd, dd, dd, dd, dd], [.box [.d (.v (.int .i64 v_s36.fSize)), .d (.sl (v_s36.fBoxes.map eS_slab_Box))], .box [.d (.v (.int .i64 v_y67.fFrame)), .d (.sl (v_y67.fUsed.map (eI .i64)))]]⟩
def G_slab_Check_C1 (n : Nat) (v_x65 : Int) (v_s36 : S_slab_Slab) (v_y67 : S_slab_Box) : Option G_slab_Check_C1_R :=
  if v_y67.fFrame < 0 then
   some (.x0 true)
  else
   if v_y67.fFrame ≥ 64 then
    some (.x0 true)
   else
    if v_x65 > 0 then
     (getI v_s36.fBoxes (wi .i64 (v_x65 - 1))).bind fun (v_y72 : S_slab_Box) =>
     if v_y72.fFrame ≥ v_y67.fFrame then
      some (.x0 true)
     else
      some (.x0 ((v_y67.fUsed.length : Int) == 0))
    else
     some (.x0 ((v_y67.fUsed.length : Int) == 0))
theorem G_slab_Check_C1_ok {Fi : Ex → PS → Prop} (hF : KC 102 Fi) (ks : List Fr) (n : Nat) (v_x65 : Int) (v_s36 : S_slab_Slab) (v_y67 : S_slab_Box)  (o : G_slab_Check_C1_R) (h : G_slab_Check_C1 n v_x65 v_s36 v_y67 = some o) (q : RunE Try.prog 102 Fi ks (G_slab_Check_C1_ex o) (G_slab_Check_C1_st v_x65 v_s36 v_y67 o)) : RunE Try.prog 102 Fi (.s (cL (cL (cR (cB (cL (cR (cR (cP (cB (cR (cL (cR (cR (cR (bodyOf Try.f42))))))))))))))) :: ks) .normal (G_slab_Check_C1_hd v_x65 v_s36 v_y67) := by
  unfold G_slab_Check_C1 at h
  by_cases h15 : v_y67.fFrame < 0
  · rw [if_pos h15] at h
    cases h
    exact pkk_sound TTok mix hF 1 (hs := [.c, .t true, .c, .c, .c, .c, .c, .c, .c, .c, .c, .c]) (ts := []) (s := [0, 1]) (l := [1, 6, 23, 24, 25, 59]) (by kernel_rfl) (by kernel_rfl) (.cons (dt h15) .nil) q
  · rw [if_neg h15] at h
    by_cases h16 : v_y67.fFrame ≥ 64
    · rw [if_pos h16] at h
      cases h
      exact pkk_sound TTok mix hF 1 (hs := [.c, .t false, .c, .c, .c, .t true, .c, .c, .c, .c, .c, .c, .c]) (ts := []) (s := [0, 1]) (l := [1, 6, 23, 24, 25, 59]) (by kernel_rfl) (by kernel_rfl) (.cons (df h15) (.cons (dt h16) .nil)) q
    · rw [if_neg h16] at h
      by_cases h17 : v_x65 > 0
      · rw [if_pos h17] at h
        obtain ⟨v_y72, h18, h⟩ := bind_some h
        by_cases h19 : v_y72.fFrame ≥ v_y67.fFrame
        · rw [if_pos h19] at h
          cases h
          exact pkk_sound TTok mix hF 1 (hs := [.c, .t false, .c, .c, .c, .t false, .c, .c, .t true, .c, .c, .c, .c, .c, .y (eS_slab_Box v_y72), .c, .c, .c, .c, .c, .c, .c, .c, .t true, .c, .c, .c]) (ts := []) (s := [0, 1]) (l := [1, 6, 23, 24, 25, 59]) (by kernel_rfl) (by kernel_rfl) (.cons (df h15) (.cons (df h16) (.cons (dt h17) (.cons (getI_ob (f := eS_slab_Box) h18) (.cons (dt h19) .nil))))) q
        · rw [if_neg h19] at h
          cases h
          exact pkk_sound TTok mix hF 1 (hs := [.c, .t false, .c, .c, .c, .t false, .c, .c, .t true, .c, .c, .c, .c, .c, .y (eS_slab_Box v_y72), .c, .c, .c, .c, .c, .c, .c, .c, .t false, .c, .c, .c, .u (.d (.v (.int .i64 (v_y67.fUsed.length : Int)))), .c]) (ts := []) (s := [0, 1]) (l := [1, 6, 23, 24, 25, 59]) (by kernel_rfl) (by kernel_rfl) (.cons (df h15) (.cons (df h16) (.cons (dt h17) (.cons (getI_ob (f := eS_slab_Box) h18) (.cons (df h19) (.cons (len_ob (f := (eI .i64)) (l := v_y67.fUsed)) .nil)))))) q
      · rw [if_neg h17] at h
        cases h
        exact pkk_sound TTok mix hF 1 (hs := [.c, .t false, .c, .c, .c, .t false, .c, .c, .t false, .c, .c, .c, .c, .c, .c, .c, .c, .c, .c, .c, .c, .c, .c, .u (.d (.v (.int .i64 (v_y67.fUsed.length : Int)))), .c]) (ts := []) (s := [0, 1]) (l := [1, 6, 23, 24, 25, 59]) (by kernel_rfl) (by kernel_rfl) (.cons (df h15) (.cons (df h16) (.cons (df h17) (.cons (len_ob (f := (eI .i64)) (l := v_y67.fUsed)) .nil)))) q
inductive G_slab_Check_C2_R where
  | x0 (v_x99 : Bool)
def G_slab_Check_C2_ex : G_slab_Check_C2_R → Ex
  | .x0 _ => .normal
def G_slab_Check_C2_st (v_x79 : Int) (v_y95 : Int) (v_s36 : S_slab_Slab) (v_x65 : Int) (v_y67 : S_slab_Box) : G_slab_Check_C2_R → PS
  | .x0 v_x99 => ⟨[dd, .ref 0 0, dd, dd, dd, dd, .ref 1 0, dd, dd, dd, dd, dd, dd, dd, dd, dd, dd, dd, dd, dd, dd, dd, dd, .d (.sl (v_s36.fBoxes.map eS_slab_Box)), .d (.v (.int .i64 (v_s36.fBoxes.length : Int))), .d (.v (.int .i64 v_x65)), dd, dd, dd, dd, dd, dd, dd, dd, dd, dd, dd, dd, dd, dd, dd, dd, dd, dd, dd, dd, dd, dd, dd, dd, dd, dd, dd, dd, dd, dd, dd, dd, dd, dd, dd, .d (.sl (v_y67.fUsed.map (eI .i64))), .d (.v (.int .i64 (v_y67.fUsed.length : Int))), .d (.v (.int .i64 v_x79)), dd, dd, dd, dd, dd, dd, dd, dd, dd, dd, dd, dd, dd, dd, dd, dd, dd, dd, dd, dd, dd, dd, dd, dd, dd, dd, dd, dd, dd, dd, dd, dd, dd, dd, dd, .d (.v (.bool v_x99)), dd, dd], [.box [.d (.v (.int .i64 v_s36.fSize)), .d (.sl (v_s36.fBoxes.map eS_slab_Box))], .box [.d (.v (.int .i64 v_y67.fFrame)), .d (.sl (v_y67.fUsed.map (eI .i64)))]]⟩
def G_slab_Check_C2_hd (v_x79 : Int) (v_y95 : Int) (v_s36 : S_slab_Slab) (v_x65 : Int) (v_y67 : S_slab_Box)  : PS := ⟨[dd, .ref 0 0, dd, dd, dd, dd, .ref 1 0, .d (.v (.int .i64 v_x79)), .d (.v (.int .i64 v_y95)), dd, dd, dd, dd, dd, dd, dd, dd, dd, dd, dd, dd, dd, dd, .d (.sl (v_s36.fBoxes.map eS_slab_Box)), .d (.v (.int .i64 (v_s36.fBoxes.length : Int))), .d (.v (.int .i64 v_x65)), dd, dd, dd, dd, dd, dd, dd, dd, dd, dd, dd, dd, dd, dd, dd, dd, dd, dd, dd, dd, dd, dd, dd, dd, dd, dd, dd, dd, dd, dd, dd, dd, dd, dd, dd, .d (.sl (v_y67.fUsed.map (eI .i64))), .d (.v (.int .i64 (v_y67.fUsed.length : Int))), .d (.v (.int .i64 v_x79)), dd, dd, dd, dd, dd, dd, dd, dd, dd, dd, dd, dd, dd, dd, dd, dd, dd, dd, dd, dd, dd, dd, dd, dd, dd, dd, dd, dd, dd, dd, dd, dd, dd, dd, dd, dd, dd, dd], [.box [.d (.v (.int .i64 v_s36.fSize)), .d (.sl (v_s36.fBoxes.map eS_slab_Box))], .box [.d (.v (.int .i64 v_y67.fFrame)), .d (.sl (v_y67.fUsed.map (eI .i64)))]]⟩
def G_slab_Check_C2 (n : Nat) (v_x79 : Int) (v_y95 : Int) (v_s36 : S_slab_Slab) (v_x65 : Int) (v_y67 : S_slab_Box) : Option G_slab_Check_C2_R :=
  if v_y95 < 0 then
   some (.x0 true)
  else
   if v_s36.fSize ≠ 0 then
    if (remI v_y95 v_s36.fSize) = 0 then
     if v_s36.fSize ≠ 0 then
      (G_slab_per n v_s36).bind fun (v_r101 : (Int)) =>
      if (quoI .i64 v_y95 v_s36.fSize) ≥ v_r101 then
       some (.x0 true)
      else
       if v_x79 > 0 then
        (getI v_y67.fUsed (wi .i64 (v_x79 - 1))).bind fun (v_y103 : Int) =>
        some (.x0 (decide (v_y103 ≥ v_y95)))
       else
        some (.x0 false)
     else none
    else
     some (.x0 true)
   else none
theorem G_slab_Check_C2_ok {Fi : Ex → PS → Prop} (hF : KC 102 Fi) (ks : List Fr) (n : Nat) (v_x79 : Int) (v_y95 : Int) (v_s36 : S_slab_Slab) (v_x65 : Int) (v_y67 : S_slab_Box)  (o : G_slab_Check_C2_R) (h : G_slab_Check_C2 n v_x79 v_y95 v_s36 v_x65 v_y67 = some o) (q : RunE Try.prog 102 Fi ks (G_slab_Check_C2_ex o) (G_slab_Check_C2_st v_x79 v_y95 v_s36 v_x65 v_y67 o)) : RunE Try.prog 102 Fi (.s (cL (cR (cB (cL (cR (cR (cP (cB (cR (cR (cR (cB (cL (cR (cR (cP (cB (cR (cL (cR (cR (cR (bodyOf Try.f42))))))))))))))))))))))) :: ks) .normal (G_slab_Check_C2_hd v_x79 v_y95 v_s36 v_x65 v_y67) := by
  unfold G_slab_Check_C2 at h
  by_cases h52 : v_y95 < 0
  · rw [if_pos h52] at h
    cases h
    exact pkk_sound TTok mix hF 1 (hs := [.t true, .c, .c, .c, .c, .c, .c, .c, .c, .c, .c, .c, .c, .c, .c, .c]) (ts := []) (s := [0, 1]) (l := [1, 6, 23, 24, 25, 61, 62, 63, 99]) (by kernel_rfl) (by kernel_rfl) (.cons (dt h52) .nil) q
  · rw [if_neg h52] at h
    by_cases h53 : v_s36.fSize ≠ 0
    · rw [if_pos h53] at h
      by_cases h54 : (remI v_y95 v_s36.fSize) = 0
      · rw [if_pos h54] at h
        by_cases h55 : v_s36.fSize ≠ 0
        · rw [if_pos h55] at h
          obtain ⟨v_r101, h56, h⟩ := bind_some h
          by_cases h57 : (quoI .i64 v_y95 v_s36.fSize) ≥ v_r101
          · rw [if_pos h57] at h
            cases h
            exact pkk_sound TTok mix hF 1 (hs := [.t false, .c, .c, .c, .c, .c, .t false, .c, .c, .c, .c, .c, .c, .c, .r ((eI .i64) v_r101), .c, .t true, .c, .c, .c]) (ts := []) (s := [0, 1]) (l := [1, 6, 23, 24, 25, 61, 62, 63, 99]) (by kernel_rfl) (by kernel_rfl) (.cons (df h52) (.cons h53 (.cons (nf h54) (.cons h55 (.cons (G_slab_per_ok n v_s36 _ h56) (.cons (dt h57) .nil)))))) q
          · rw [if_neg h57] at h
            by_cases h58 : v_x79 > 0
            · rw [if_pos h58] at h
              obtain ⟨v_y103, h59, h⟩ := bind_some h
              cases h
              exact pkk_sound TTok mix hF 1 (hs := [.t false, .c, .c, .c, .c, .c, .t false, .c, .c, .c, .c, .c, .c, .c, .r ((eI .i64) v_r101), .c, .t false, .c, .c, .t true, .c, .c, .c, .c, .c, .y ((eI .i64) v_y103), .c, .c, .c, .c, .c]) (ts := []) (s := [0, 1]) (l := [1, 6, 23, 24, 25, 61, 62, 63, 99]) (by kernel_rfl) (by kernel_rfl) (.cons (df h52) (.cons h53 (.cons (nf h54) (.cons h55 (.cons (G_slab_per_ok n v_s36 _ h56) (.cons (df h57) (.cons (dt h58) (.cons (getI_ob (f := (eI .i64)) h59) .nil)))))))) q
            · rw [if_neg h58] at h
              cases h
              exact pkk_sound TTok mix hF 1 (hs := [.t false, .c, .c, .c, .c, .c, .t false, .c, .c, .c, .c, .c, .c, .c, .r ((eI .i64) v_r101), .c, .t false, .c, .c, .t false, .c, .c, .c, .c, .c, .c, .c, .c]) (ts := []) (s := [0, 1]) (l := [1, 6, 23, 24, 25, 61, 62, 63, 99]) (by kernel_rfl) (by kernel_rfl) (.cons (df h52) (.cons h53 (.cons (nf h54) (.cons h55 (.cons (G_slab_per_ok n v_s36 _ h56) (.cons (df h57) (.cons (df h58) .nil))))))) q
        · rw [if_neg h55] at h; cases h
      · rw [if_neg h54] at h
        cases h
        exact pkk_sound TTok mix hF 1 (hs := [.t false, .c, .c, .c, .c, .c, .t true, .c, .c, .c, .c, .c, .c, .c, .c, .c, .c]) (ts := []) (s := [0, 1]) (l := [1, 6, 23, 24, 25, 61, 62, 63, 99]) (by kernel_rfl) (by kernel_rfl) (.cons (df h52) (.cons h53 (.cons (nt h54) .nil))) q
    · rw [if_neg h53] at h; cases h
inductive G_slab_Check_L3_R where
  | x0 (v_x108 : Int)
  | x1 
def G_slab_Check_L3_ex : G_slab_Check_L3_R → Ex
  | .x0 _ => .ret
  | .x1  => .exit 2
def G_slab_Check_L3_st (v_s36 : S_slab_Slab) (v_x65 : Int) (v_y67 : S_slab_Box) : G_slab_Check_L3_R → PS
  | .x0 v_x108 => ⟨[dd, dd, .d (.v (.int .i64 v_x108)), dd, dd, dd, dd, dd, dd, dd, dd, dd, dd, dd, dd, dd, dd, dd, dd, dd, dd, dd, dd, dd, dd, dd, dd, dd, dd, dd, dd, dd, dd, dd, dd, dd, dd, dd, dd, dd, dd, dd, dd, dd, dd, dd, dd, dd, dd, dd, dd, dd, dd, dd, dd, dd, dd, dd, dd, dd, dd, dd, dd, dd, dd, dd, dd, dd, dd, dd, dd, dd, dd, dd, dd, dd, dd, dd, dd, dd, dd, dd, dd, dd, dd, dd, dd, dd, dd, dd, dd, dd, dd, dd, dd, dd, dd, dd, dd, dd, dd, dd], []⟩
  | .x1  => ⟨[dd, .ref 0 0, dd, dd, dd, dd, dd, dd, dd, dd, dd, dd, dd, dd, dd, dd, dd, dd, dd, dd, dd, dd, dd, .d (.sl (v_s36.fBoxes.map eS_slab_Box)), .d (.v (.int .i64 (v_s36.fBoxes.length : Int))), .d (.v (.int .i64 v_x65)), dd, dd, dd, dd, dd, dd, dd, dd, dd, dd, dd, dd, dd, dd, dd, dd, dd, dd, dd, dd, dd, dd, dd, dd, dd, dd, dd, dd, dd, dd, dd, dd, dd, dd, dd, dd, dd, dd, dd, dd, dd, dd, dd, dd, dd, dd, dd, dd, dd, dd, dd, dd, dd, dd, dd, dd, dd, dd, dd, dd, dd, dd, dd, dd, dd, dd, dd, dd, dd, dd, dd, dd, dd, dd, dd, dd], [.box [.d (.v (.int .i64 v_s36.fSize)), .d (.sl (v_s36.fBoxes.map eS_slab_Box))]]⟩
def G_slab_Check_L3_hd (v_s36 : S_slab_Slab) (v_x65 : Int) (v_y67 : S_slab_Box) (v_x79 : Int) : PS := ⟨[dd, .ref 0 0, dd, dd, dd, dd, .ref 1 0, dd, dd, dd, dd, dd, dd, dd, dd, dd, dd, dd, dd, dd, dd, dd, dd, .d (.sl (v_s36.fBoxes.map eS_slab_Box)), .d (.v (.int .i64 (v_s36.fBoxes.length : Int))), .d (.v (.int .i64 v_x65)), dd, dd, dd, dd, dd, dd, dd, dd, dd, dd, dd, dd, dd, dd, dd, dd, dd, dd, dd, dd, dd, dd, dd, dd, dd, dd, dd, dd, dd, dd, dd, dd, dd, dd, dd, .d (.sl (v_y67.fUsed.map (eI .i64))), .d (.v (.int .i64 (v_y67.fUsed.length : Int))), .d (.v (.int .i64 v_x79)), dd, dd, dd, dd, dd, dd, dd, dd, dd, dd, dd, dd, dd, dd, dd, dd, dd, dd, dd, dd, dd, dd, dd, dd, dd, dd, dd, dd, dd, dd, dd, dd, dd, dd, dd, dd, dd, dd], [.box [.d (.v (.int .i64 v_s36.fSize)), .d (.sl (v_s36.fBoxes.map eS_slab_Box))], .box [.d (.v (.int .i64 v_y67.fFrame)), .d (.sl (v_y67.fUsed.map (eI .i64)))]]⟩
def G_slab_Check_L3 (n : Nat) (v_s36 : S_slab_Slab) (v_x65 : Int) (v_y67 : S_slab_Box) : Nat → Int → Option G_slab_Check_L3_R
  | 0, _ => none
  | k + 1, v_x79 =>
    if v_x79 < (v_y67.fUsed.length : Int) then
     (getI v_y67.fUsed v_x79).bind fun (v_y95 : Int) =>
     (G_slab_Check_C2 n v_x79 v_y95 v_s36 v_x65 v_y67).bind fun v_o106 => match v_o106 with
     | .x0 v_z107 =>
       if v_z107 = true then
        some (.x0 3)
       else
        G_slab_Check_L3 n v_s36 v_x65 v_y67 k (wi .i64 (v_x79 + 1))
    else
     some (.x1 )
theorem G_slab_Check_L3_ok {Fi : Ex → PS → Prop} (hF : KC 102 Fi) (ks : List Fr) (n : Nat) (v_s36 : S_slab_Slab) (v_x65 : Int) (v_y67 : S_slab_Box)  : ∀ (k : Nat) (v_x79 : Int) (o : G_slab_Check_L3_R), G_slab_Check_L3 n v_s36 v_x65 v_y67 k v_x79 = some o → RunE Try.prog 102 Fi ks (G_slab_Check_L3_ex o) (G_slab_Check_L3_st v_s36 v_x65 v_y67 o) → RunE Try.prog 102 Fi (.l k (cP (cB (cR (cR (cR (cB (cL (cR (cR (cP (cB (cR (cL (cR (cR (cR (bodyOf Try.f42))))))))))))))))) :: ks) .normal (G_slab_Check_L3_hd v_s36 v_x65 v_y67 v_x79)
  | 0, v_x79, o, h, q => by rw [G_slab_Check_L3] at h; cases h
  | k + 1, v_x79, o, h, q => by
    rw [G_slab_Check_L3] at h
    by_cases h22 : v_x79 < (v_y67.fUsed.length : Int)
    · rw [if_pos h22] at h
      obtain ⟨v_y95, h43, h⟩ := bind_some h
      obtain ⟨v_o106, h60, h⟩ := bind_some h
      refine pkk_sound TTok mix hF 11 (hs := [.t true, .y ((eI .i64) v_y95), .c]) (ts := []) (s := [0, 1]) (l := [1, 6, 7, 8, 23, 24, 25, 61, 62, 63]) (by kernel_rfl) (by kernel_rfl) (.cons (dt h22) (.cons (getI_ob (f := (eI .i64)) h43) .nil)) (G_slab_Check_C2_ok hF (.s (cR (cR (cB (cL (cR (cR (cP (cB (cR (cR (cR (cB (cL (cR (cR (cP (cB (cR (cL (cR (cR (cR (bodyOf Try.f42))))))))))))))))))))))) :: .b 3 :: .s (cR (cR (cR (cP (cB (cR (cR (cR (cB (cL (cR (cR (cP (cB (cR (cL (cR (cR (cR (bodyOf Try.f42)))))))))))))))))))) :: .l k (cP (cB (cR (cR (cR (cB (cL (cR (cR (cP (cB (cR (cL (cR (cR (cR (bodyOf Try.f42))))))))))))))))) :: ks) n v_x79 v_y95 v_s36 v_x65 v_y67 _ h60 ?_)
      cases v_o106 with
      | x0 v_z107 =>
        try dsimp only at h
        by_cases h61 : v_z107 = true
        · rw [if_pos h61] at h
          cases h
          exact pkk_sound TTok mix hF 7 (hs := [.t true]) (ts := []) (s := []) (l := [2]) (by kernel_rfl) (by kernel_rfl) (.cons h61 .nil) q
        · rw [if_neg h61] at h
          exact pkk_sound TTok mix hF 4 (hs := [.t false]) (ts := []) (s := [0, 1]) (l := [1, 6, 23, 24, 25, 61, 62, 63]) (by kernel_rfl) (by kernel_rfl) (.cons (vf h61) .nil) (G_slab_Check_L3_ok hF ks n v_s36 v_x65 v_y67 k (wi .i64 (v_x79 + 1)) _ h q)
    · rw [if_neg h22] at h
      cases h
      exact pkk_sound TTok mix hF 8 (hs := [.t false]) (ts := []) (s := [0]) (l := [1, 23, 24, 25]) (by kernel_rfl) (by kernel_rfl) (.cons (df h22) .nil) q
inductive G_slab_Check_L4_R where
  | x0 (v_x78 : Int)
  | x1 
def G_slab_Check_L4_ex : G_slab_Check_L4_R → Ex
  | .x0 _ => .ret
  | .x1  => .exit 0
def G_slab_Check_L4_st (v_s36 : S_slab_Slab) : G_slab_Check_L4_R → PS
  | .x0 v_x78 => ⟨[dd, dd, .d (.v (.int .i64 v_x78)), dd, dd, dd, dd, dd, dd, dd, dd, dd, dd, dd, dd, dd, dd, dd, dd, dd, dd, dd, dd, dd, dd, dd, dd, dd, dd, dd, dd, dd, dd, dd, dd, dd, dd, dd, dd, dd, dd, dd, dd, dd, dd, dd, dd, dd, dd, dd, dd, dd, dd, dd, dd, dd, dd, dd, dd, dd, dd, dd, dd, dd, dd, dd, dd, dd, dd, dd, dd, dd, dd, dd, dd, dd, dd, dd, dd, dd, dd, dd, dd, dd, dd, dd, dd, dd, dd, dd, dd, dd, dd, dd, dd, dd, dd, dd, dd, dd, dd, dd], []⟩
  | .x1  => ⟨[dd, dd, dd, dd, dd, dd, dd, dd, dd, dd, dd, dd, dd, dd, dd, dd, dd, dd, dd, dd, dd, dd, dd, dd, dd, dd, dd, dd, dd, dd, dd, dd, dd, dd, dd, dd, dd, dd, dd, dd, dd, dd, dd, dd, dd, dd, dd, dd, dd, dd, dd, dd, dd, dd, dd, dd, dd, dd, dd, dd, dd, dd, dd, dd, dd, dd, dd, dd, dd, dd, dd, dd, dd, dd, dd, dd, dd, dd, dd, dd, dd, dd, dd, dd, dd, dd, dd, dd, dd, dd, dd, dd, dd, dd, dd, dd, dd, dd, dd, dd, dd, dd], []⟩
def G_slab_Check_L4_hd (v_s36 : S_slab_Slab) (v_x65 : Int) : PS := ⟨[dd, .ref 0 0, dd, dd, dd, dd, dd, dd, dd, dd, dd, dd, dd, dd, dd, dd, dd, dd, dd, dd, dd, dd, dd, .d (.sl (v_s36.fBoxes.map eS_slab_Box)), .d (.v (.int .i64 (v_s36.fBoxes.length : Int))), .d (.v (.int .i64 v_x65)), dd, dd, dd, dd, dd, dd, dd, dd, dd, dd, dd, dd, dd, dd, dd, dd, dd, dd, dd, dd, dd, dd, dd, dd, dd, dd, dd, dd, dd, dd, dd, dd, dd, dd, dd, dd, dd, dd, dd, dd, dd, dd, dd, dd, dd, dd, dd, dd, dd, dd, dd, dd, dd, dd, dd, dd, dd, dd, dd, dd, dd, dd, dd, dd, dd, dd, dd, dd, dd, dd, dd, dd, dd, dd, dd, dd], [.box [.d (.v (.int .i64 v_s36.fSize)), .d (.sl (v_s36.fBoxes.map eS_slab_Box))]]⟩
def G_slab_Check_L4 (n : Nat) (v_s36 : S_slab_Slab) : Nat → Int → Option G_slab_Check_L4_R
  | 0, _ => none
  | k + 1, v_x65 =>
    if v_x65 < (v_s36.fBoxes.length : Int) then
     (getI v_s36.fBoxes v_x65).bind fun (v_y67 : S_slab_Box) =>
     (G_slab_Check_C1 n v_x65 v_s36 v_y67).bind fun v_o76 => match v_o76 with
     | .x0 v_z77 =>
       if v_z77 = true then
        some (.x0 3)
       else
        (G_slab_Check_L3 n v_s36 v_x65 v_y67 n 0).bind fun v_o109 => match v_o109 with
        | .x0 v_z110 =>
          some (.x0 v_z110)
        | .x1  =>
          G_slab_Check_L4 n v_s36 k (wi .i64 (v_x65 + 1))
    else
     some (.x1 )
theorem G_slab_Check_L4_ok {Fi : Ex → PS → Prop} (hF : KC 102 Fi) (ks : List Fr) (n : Nat) (v_s36 : S_slab_Slab)  : ∀ (k : Nat) (v_x65 : Int) (o : G_slab_Check_L4_R), G_slab_Check_L4 n v_s36 k v_x65 = some o → RunE Try.prog 102 Fi ks (G_slab_Check_L4_ex o) (G_slab_Check_L4_st v_s36 o) → RunE Try.prog 102 Fi (.l k (cP (cB (cR (cL (cR (cR (cR (bodyOf Try.f42)))))))) :: ks) .normal (G_slab_Check_L4_hd v_s36 v_x65)
  | 0, v_x65, o, h, q => by rw [G_slab_Check_L4] at h; cases h
  | k + 1, v_x65, o, h, q => by
    rw [G_slab_Check_L4] at h
    by_cases h8 : v_x65 < (v_s36.fBoxes.length : Int)
    · rw [if_pos h8] at h
      obtain ⟨v_y67, h9, h⟩ := bind_some h
      obtain ⟨v_o76, h20, h⟩ := bind_some h
      refine pkk_sound TTok mix hF 12 (hs := [.t true, .y (eS_slab_Box v_y67), .c]) (ts := []) (s := [0, 21]) (l := [1, 5, 6, 23, 24, 25]) (by kernel_rfl) (by kernel_rfl) (.cons (dt h8) (.cons (getI_ob (f := eS_slab_Box) h9) (.cons (show 0 + 2 ≤ 2 by decide) .nil))) (G_slab_Check_C1_ok hF (.s (cR (cL (cR (cB (cL (cR (cR (cP (cB (cR (cL (cR (cR (cR (bodyOf Try.f42))))))))))))))) :: .s (cR (cR (cB (cL (cR (cR (cP (cB (cR (cL (cR (cR (cR (bodyOf Try.f42)))))))))))))) :: .b 1 :: .s (cR (cR (cR (cP (cB (cR (cL (cR (cR (cR (bodyOf Try.f42))))))))))) :: .l k (cP (cB (cR (cL (cR (cR (cR (bodyOf Try.f42)))))))) :: ks) n v_x65 v_s36 v_y67 _ h20 ?_)
      cases v_o76 with
      | x0 v_z77 =>
        try dsimp only at h
        by_cases h21 : v_z77 = true
        · rw [if_pos h21] at h
          cases h
          exact pkk_sound TTok mix hF 8 (hs := [.t true]) (ts := []) (s := []) (l := [2]) (by kernel_rfl) (by kernel_rfl) (.cons h21 .nil) q
        · rw [if_neg h21] at h
          obtain ⟨v_o109, h62, h⟩ := bind_some h
          refine pkk_sound TTok mix hF 6 (hs := [.t false, .c, .u (.d (.v (.int .i64 (v_y67.fUsed.length : Int)))), .n n]) (ts := []) (s := [0, 1]) (l := [1, 6, 23, 24, 25, 61, 62, 63]) (by kernel_rfl) (by kernel_rfl) (.cons (vf h21) (.cons (len_ob (f := (eI .i64)) (l := v_y67.fUsed)) .nil)) (G_slab_Check_L3_ok hF (.b 2 :: .b 1 :: .s (cR (cR (cR (cP (cB (cR (cL (cR (cR (cR (bodyOf Try.f42))))))))))) :: .l k (cP (cB (cR (cL (cR (cR (cR (bodyOf Try.f42)))))))) :: ks) n v_s36 v_x65 v_y67 n 0 _ h62 ?_)
          cases v_o109 with
          | x0 v_z110 =>
            try dsimp only at h
            cases h
            exact pkk_sound TTok mix hF 4 (hs := []) (ts := []) (s := []) (l := [2]) (by kernel_rfl) (by kernel_rfl) .nil q
          | x1  =>
            try dsimp only at h
            exact pkk_sound TTok mix hF 3 (hs := []) (ts := []) (s := [0]) (l := [1, 23, 24, 25]) (by kernel_rfl) (by kernel_rfl) .nil (G_slab_Check_L4_ok hF ks n v_s36 k (wi .i64 (v_x65 + 1)) _ h q)
    · rw [if_neg h8] at h
      cases h
      exact pkk_sound TTok mix hF 8 (hs := [.t false]) (ts := []) (s := []) (l := []) (by kernel_rfl) (by kernel_rfl) (.cons (df h8) .nil) q
/- ringhall/slab.Check -/
def G_slab_Check (n : Nat) (v_s36 : S_slab_Slab) : Option (Int) :=
  (G_slab_New n v_s36.fSize).bind fun (v_r40 : (S_slab_Slab × Int)) =>
  if v_r40.2 = 0 then
   if (v_s36.fBoxes.length : Int) > 64 then
    some 2
   else
    (G_slab_Check_L4 n v_s36 n 0).bind fun v_o112 => match v_o112 with
    | .x0 v_z113 =>
      some v_z113
    | .x1  =>
      some 0
  else
   some v_r40.2
theorem G_slab_Check_ok (n : Nat) (v_s36 : S_slab_Slab) (r : Int) (h : G_slab_Check n v_s36 = some r) : Ret Try.prog 42 [eS_slab_Slab v_s36] ((eI .i64) r) := by
  refine ret_run (n := 102) (fn := Try.f42) (c := bodyOf Try.f42) (by kernel_rfl) (by kernel_rfl) (by kernel_rfl) (by kernel_rfl) ?_
  have hF : KC 102 (FinR Try.prog Try.f42 ((eI .i64) r)) := FinR.kc' (by kernel_rfl)
  unfold G_slab_Check at h
  obtain ⟨v_r40, h5, h⟩ := bind_some h
  by_cases h6 : v_r40.2 = 0
  · rw [if_pos h6] at h
    by_cases h7 : (v_s36.fBoxes.length : Int) > 64
    · rw [if_pos h7] at h
      obtain rfl := Option.some.inj h
      exact pend_sound TTok mix 17 (hs := [.c, .r (.tup [eS_slab_Slab v_r40.1, (eI .i64) v_r40.2]), .c, .t false, .c, .u (.d (.v (.int .i64 (v_s36.fBoxes.length : Int)))), .t true]) (by kernel_rfl) (by kernel_rfl) (by kernel_rfl) (.cons (G_slab_New_ok n v_s36.fSize _ h5) (.cons (show 0 + 2 ≤ 2 by decide) (.cons (nf h6) (.cons (len_ob (f := eS_slab_Box) (l := v_s36.fBoxes)) (.cons (dt h7) .nil)))))
    · rw [if_neg h7] at h
      obtain ⟨v_o112, h63, h⟩ := bind_some h
      refine pkk_sound TTok mix hF 19 (hs := [.c, .r (.tup [eS_slab_Slab v_r40.1, (eI .i64) v_r40.2]), .c, .t false, .c, .u (.d (.v (.int .i64 (v_s36.fBoxes.length : Int)))), .t false, .c, .u (.d (.v (.int .i64 (v_s36.fBoxes.length : Int)))), .n n]) (ts := []) (s := [0]) (l := [1, 23, 24, 25]) (by kernel_rfl) (by kernel_rfl) (.cons (G_slab_New_ok n v_s36.fSize _ h5) (.cons (show 0 + 2 ≤ 2 by decide) (.cons (nf h6) (.cons (len_ob (f := eS_slab_Box) (l := v_s36.fBoxes)) (.cons (df h7) (.cons (len_ob (f := eS_slab_Box) (l := v_s36.fBoxes)) .nil)))))) (G_slab_Check_L4_ok hF (.b 0 :: .s (cR (cR (cR (cR (bodyOf Try.f42))))) :: []) n v_s36 n 0 _ h63 ?_)
      cases v_o112 with
      | x0 v_z113 =>
        try dsimp only at h
        obtain rfl := Option.some.inj h
        exact pend_sound TTok mix 2 (hs := []) (by kernel_rfl) (by kernel_rfl) (by kernel_rfl) .nil
      | x1  =>
        try dsimp only at h
        obtain rfl := Option.some.inj h
        exact pend_sound TTok mix 4 (hs := []) (by kernel_rfl) (by kernel_rfl) (by kernel_rfl) .nil
  · rw [if_neg h6] at h
    obtain rfl := Option.some.inj h
    exact pend_sound TTok mix 12 (hs := [.c, .r (.tup [eS_slab_Slab v_r40.1, (eI .i64) v_r40.2]), .c, .t true]) (by kernel_rfl) (by kernel_rfl) (by kernel_rfl) (.cons (G_slab_New_ok n v_s36.fSize _ h5) (.cons (show 0 + 2 ≤ 2 by decide) (.cons (nt h6) .nil)))
/- slices.Clone[[]ringhall/slab.Box,ringhall/slab.Box] -/
def G_slices_Clone_slab_Box_slab_Box_A (n : Nat) (v_c154 : Nat) : Option ((List S_slab_Box)) :=
  some ([] : List S_slab_Box)
theorem G_slices_Clone_slab_Box_slab_Box_A_ok (n : Nat) (v_c154 : Nat) (r : (List S_slab_Box)) (h : G_slices_Clone_slab_Box_slab_Box_A n v_c154 = some r) : RetH Try.prog 102 [.d (.v (.slice none 0 v_c154))] [] (.srf 0) [.row 136 2 (r.map eS_slab_Box)] := by
  refine retH_run (n := 8) (fn := Try.f102) (c := bodyOf Try.f102) (by kernel_rfl) (by kernel_rfl) (by kernel_rfl) (by kernel_rfl) ?_
  have hF : KC 8 (FinH Try.prog Try.f102 [] (.srf 0) [.row 136 2 (r.map eS_slab_Box)]) := FinH.kc' (by kernel_rfl)
  unfold G_slices_Clone_slab_Box_slab_Box_A at h
  obtain rfl := Option.some.inj h
  exact pendH_sound TTok mix 11 (hs := [.c, .dl 4, .th 2 136 2]) [20] (by kernel_rfl) (by kernel_rfl) (by kernel_rfl) .nil
/- slices.Clone[[]ringhall/slab.Box,ringhall/slab.Box] -/
def G_slices_Clone_slab_Box_slab_Box_B (n : Nat) (v_a155 : Addr) (v_c156 : Nat) : Option ((List S_slab_Box)) :=
  (app 32 ([] : List S_slab_Box) ([] : (List S_slab_Box))).bind fun (v_a157 : (List S_slab_Box)) =>
  some v_a157
theorem G_slices_Clone_slab_Box_slab_Box_B_ok (n : Nat) (v_a155 : Addr) (v_c156 : Nat) (r : (List S_slab_Box)) (h : G_slices_Clone_slab_Box_slab_Box_B n v_a155 v_c156 = some r) : RetH Try.prog 102 [.d (.v (.slice (some v_a155) 0 v_c156))] [] (.srf 0) [.row 136 2 (r.map eS_slab_Box)] := by
  refine retH_run (n := 8) (fn := Try.f102) (c := bodyOf Try.f102) (by kernel_rfl) (by kernel_rfl) (by kernel_rfl) (by kernel_rfl) ?_
  have hF : KC 8 (FinH Try.prog Try.f102 [] (.srf 0) [.row 136 2 (r.map eS_slab_Box)]) := FinH.kc' (by kernel_rfl)
  unfold G_slices_Clone_slab_Box_slab_Box_B at h
  obtain ⟨v_a157, h67, h⟩ := bind_some h
  obtain rfl := Option.some.inj h
  exact pendH_sound TTok mix 10 (hs := [.c, .w (([] : List S_slab_Box).map eS_slab_Box), .w (v_a157.map eS_slab_Box)]) [25] (by kernel_rfl) (by kernel_rfl) (by kernel_rfl) (.cons (Eq.refl (([] : List S_slab_Box).map eS_slab_Box)) (.cons (app_ob (f := eS_slab_Box) (s := 2) h67 (fun _ => rfl)).1 (.cons (app_ob (f := eS_slab_Box) (s := 2) h67 (fun _ => rfl)).2.1 (.cons (app_ob (f := eS_slab_Box) (s := 2) h67 (fun _ => rfl)).2.2.1 (.cons (app_ob (f := eS_slab_Box) (s := 2) h67 (fun _ => rfl)).2.2.2 .nil)))))
/- slices.Clone[[]ringhall/slab.Box,ringhall/slab.Box] -/
def G_slices_Clone_slab_Box_slab_Box_C (n : Nat) (v_y158 : S_slab_Box) (v_ys159 : (List S_slab_Box)) : Option ((List S_slab_Box)) :=
  (app 32 ([] : List S_slab_Box) (v_y158 :: v_ys159)).bind fun (v_a160 : (List S_slab_Box)) =>
  some v_a160
theorem G_slices_Clone_slab_Box_slab_Box_C_ok (n : Nat) (v_y158 : S_slab_Box) (v_ys159 : (List S_slab_Box)) (r : (List S_slab_Box)) (h : G_slices_Clone_slab_Box_slab_Box_C n v_y158 v_ys159 = some r) : RetH Try.prog 102 [.d (.sl (eS_slab_Box v_y158 :: v_ys159.map eS_slab_Box))] [] (.srf 0) [.row 136 2 (r.map eS_slab_Box)] := by
  refine retH_run (n := 8) (fn := Try.f102) (c := bodyOf Try.f102) (by kernel_rfl) (by kernel_rfl) (by kernel_rfl) (by kernel_rfl) ?_
  have hF : KC 8 (FinH Try.prog Try.f102 [] (.srf 0) [.row 136 2 (r.map eS_slab_Box)]) := FinH.kc' (by kernel_rfl)
  unfold G_slices_Clone_slab_Box_slab_Box_C at h
  obtain ⟨v_a160, h68, h⟩ := bind_some h
  obtain rfl := Option.some.inj h
  exact pendH_sound TTok mix 10 (hs := [.c, .w (([] : List S_slab_Box).map eS_slab_Box), .w (v_a160.map eS_slab_Box)]) [25] (by kernel_rfl) (by kernel_rfl) (by kernel_rfl) (.cons (Eq.refl (([] : List S_slab_Box).map eS_slab_Box)) (.cons (app_ob (f := eS_slab_Box) (s := 2) h68 (fun _ => rfl)).1 (.cons (app_ob (f := eS_slab_Box) (s := 2) h68 (fun _ => rfl)).2.1 (.cons (app_ob (f := eS_slab_Box) (s := 2) h68 (fun _ => rfl)).2.2.1 (.cons (app_ob (f := eS_slab_Box) (s := 2) h68 (fun _ => rfl)).2.2.2 .nil)))))
def G_slices_Clone_slab_Box_slab_Box (n : Nat) (xs : (List S_slab_Box)) : Option (List S_slab_Box) := app 32 [] xs
theorem G_slices_Clone_slab_Box_slab_Box_ok (n : Nat) (xs : (List S_slab_Box)) (r : (List S_slab_Box)) (h : G_slices_Clone_slab_Box_slab_Box n xs = some r) : RetH Try.prog 102 [.d (.sl (xs.map eS_slab_Box))] [] (.srf 0) [.row 136 2 (r.map eS_slab_Box)] := by
  unfold G_slices_Clone_slab_Box_slab_Box at h
  have e : app 32 ([] : (List S_slab_Box)) [] = some [] := by simp [app]
  cases xs with
  | nil =>
    rw [e] at h; obtain rfl := Option.some.inj h
    exact clone_nil (fun c => G_slices_Clone_slab_Box_slab_Box_A_ok n c _ (by unfold G_slices_Clone_slab_Box_slab_Box_A; rfl)) (fun a c => G_slices_Clone_slab_Box_slab_Box_B_ok n a c _ (by unfold G_slices_Clone_slab_Box_slab_Box_B; rw [e]; rfl))
  | cons y ys => exact G_slices_Clone_slab_Box_slab_Box_C_ok n y ys _ (by unfold G_slices_Clone_slab_Box_slab_Box_C; rw [h]; rfl)
/- slices.Clone[[]int,int] -/
def G_slices_Clone_int_int_A (n : Nat) (v_c165 : Nat) : Option ((List Int)) :=
  some ([] : List Int)
theorem G_slices_Clone_int_int_A_ok (n : Nat) (v_c165 : Nat) (r : (List Int)) (h : G_slices_Clone_int_int_A n v_c165 = some r) : RetH Try.prog 19 [.d (.v (.slice none 0 v_c165))] [] (.srf 0) [.row 3 1 (r.map (eI .i64))] := by
  refine retH_run (n := 8) (fn := Try.f19) (c := bodyOf Try.f19) (by kernel_rfl) (by kernel_rfl) (by kernel_rfl) (by kernel_rfl) ?_
  have hF : KC 8 (FinH Try.prog Try.f19 [] (.srf 0) [.row 3 1 (r.map (eI .i64))]) := FinH.kc' (by kernel_rfl)
  unfold G_slices_Clone_int_int_A at h
  obtain rfl := Option.some.inj h
  exact pendH_sound TTok mix 11 (hs := [.c, .dl 4, .th 2 3 1]) [20] (by kernel_rfl) (by kernel_rfl) (by kernel_rfl) .nil
/- slices.Clone[[]int,int] -/
def G_slices_Clone_int_int_B (n : Nat) (v_a166 : Addr) (v_c167 : Nat) : Option ((List Int)) :=
  (app 8 ([] : List Int) ([] : (List Int))).bind fun (v_a168 : (List Int)) =>
  some v_a168
theorem G_slices_Clone_int_int_B_ok (n : Nat) (v_a166 : Addr) (v_c167 : Nat) (r : (List Int)) (h : G_slices_Clone_int_int_B n v_a166 v_c167 = some r) : RetH Try.prog 19 [.d (.v (.slice (some v_a166) 0 v_c167))] [] (.srf 0) [.row 3 1 (r.map (eI .i64))] := by
  refine retH_run (n := 8) (fn := Try.f19) (c := bodyOf Try.f19) (by kernel_rfl) (by kernel_rfl) (by kernel_rfl) (by kernel_rfl) ?_
  have hF : KC 8 (FinH Try.prog Try.f19 [] (.srf 0) [.row 3 1 (r.map (eI .i64))]) := FinH.kc' (by kernel_rfl)
  unfold G_slices_Clone_int_int_B at h
  obtain ⟨v_a168, h73, h⟩ := bind_some h
  obtain rfl := Option.some.inj h
  exact pendH_sound TTok mix 10 (hs := [.c, .w (([] : List Int).map (eI .i64)), .w (v_a168.map (eI .i64))]) [25] (by kernel_rfl) (by kernel_rfl) (by kernel_rfl) (.cons (Eq.refl (([] : List Int).map (eI .i64))) (.cons (app_ob (f := (eI .i64)) (s := 1) h73 (fun _ => rfl)).1 (.cons (app_ob (f := (eI .i64)) (s := 1) h73 (fun _ => rfl)).2.1 (.cons (app_ob (f := (eI .i64)) (s := 1) h73 (fun _ => rfl)).2.2.1 (.cons (app_ob (f := (eI .i64)) (s := 1) h73 (fun _ => rfl)).2.2.2 .nil)))))
/- slices.Clone[[]int,int] -/
def G_slices_Clone_int_int_C (n : Nat) (v_y169 : Int) (v_ys170 : (List Int)) : Option ((List Int)) :=
  (app 8 ([] : List Int) (v_y169 :: v_ys170)).bind fun (v_a171 : (List Int)) =>
  some v_a171
theorem G_slices_Clone_int_int_C_ok (n : Nat) (v_y169 : Int) (v_ys170 : (List Int)) (r : (List Int)) (h : G_slices_Clone_int_int_C n v_y169 v_ys170 = some r) : RetH Try.prog 19 [.d (.sl ((eI .i64) v_y169 :: v_ys170.map (eI .i64)))] [] (.srf 0) [.row 3 1 (r.map (eI .i64))] := by
  refine retH_run (n := 8) (fn := Try.f19) (c := bodyOf Try.f19) (by kernel_rfl) (by kernel_rfl) (by kernel_rfl) (by kernel_rfl) ?_
  have hF : KC 8 (FinH Try.prog Try.f19 [] (.srf 0) [.row 3 1 (r.map (eI .i64))]) := FinH.kc' (by kernel_rfl)
  unfold G_slices_Clone_int_int_C at h
  obtain ⟨v_a171, h74, h⟩ := bind_some h
  obtain rfl := Option.some.inj h
  exact pendH_sound TTok mix 10 (hs := [.c, .w (([] : List Int).map (eI .i64)), .w (v_a171.map (eI .i64))]) [25] (by kernel_rfl) (by kernel_rfl) (by kernel_rfl) (.cons (Eq.refl (([] : List Int).map (eI .i64))) (.cons (app_ob (f := (eI .i64)) (s := 1) h74 (fun _ => rfl)).1 (.cons (app_ob (f := (eI .i64)) (s := 1) h74 (fun _ => rfl)).2.1 (.cons (app_ob (f := (eI .i64)) (s := 1) h74 (fun _ => rfl)).2.2.1 (.cons (app_ob (f := (eI .i64)) (s := 1) h74 (fun _ => rfl)).2.2.2 .nil)))))
def G_slices_Clone_int_int (n : Nat) (xs : (List Int)) : Option (List Int) := app 8 [] xs
theorem G_slices_Clone_int_int_ok (n : Nat) (xs : (List Int)) (r : (List Int)) (h : G_slices_Clone_int_int n xs = some r) : RetH Try.prog 19 [.d (.sl (xs.map (eI .i64)))] [] (.srf 0) [.row 3 1 (r.map (eI .i64))] := by
  unfold G_slices_Clone_int_int at h
  have e : app 8 ([] : (List Int)) [] = some [] := by simp [app]
  cases xs with
  | nil =>
    rw [e] at h; obtain rfl := Option.some.inj h
    exact clone_nil (fun c => G_slices_Clone_int_int_A_ok n c _ (by unfold G_slices_Clone_int_int_A; rfl)) (fun a c => G_slices_Clone_int_int_B_ok n a c _ (by unfold G_slices_Clone_int_int_B; rw [e]; rfl))
  | cons y ys => exact G_slices_Clone_int_int_C_ok n y ys _ (by unfold G_slices_Clone_int_int_C; rw [h]; rfl)
inductive G_slab_copied_h_L1_R where
  | x0 (v_w180 : (List S_slab_Box))
def G_slab_copied_h_L1_ex : G_slab_copied_h_L1_R → Ex
  | .x0 _ => .exit 0
def G_slab_copied_h_L1_st (v_r161 : ((List S_slab_Box))) (v_s153 : S_slab_Slab) : G_slab_copied_h_L1_R → PS
  | .x0 v_w180 => ⟨[dd, .ref 0 0, .ref 3 0, dd, dd, dd, dd, dd, dd, dd, dd, dd, dd, dd, dd, dd, dd, dd, dd, dd, dd, dd, dd, dd, dd, dd, dd, dd], [.box [.d (.v (.int .i64 v_s153.fSize)), .srf 1], .cu (outC 136 2 nq_S_slab_Box [none, none] (v_w180.map eS_slab_Box)) [.srf 2, .d (.v noB), .d (.v noB)], .cu (bagC nct_S_slab_Box nq_S_slab_Box (v_w180.map eS_slab_Box)) [], .box [.d (.v (.int .i64 0)), .d (vnil)]]⟩
def G_slab_copied_h_L1_hd (v_r161 : ((List S_slab_Box))) (v_s153 : S_slab_Slab) (v_x174 : Int) (v_w175 : (List S_slab_Box)) : PS := ⟨[dd, .ref 0 0, .ref 3 0, dd, dd, dd, dd, dd, dd, dd, .d (.v (.int .i64 (v_r161.length : Int))), .d (.v (.int .i64 v_x174)), dd, dd, dd, dd, dd, dd, dd, dd, dd, dd, dd, dd, dd, dd, dd, dd], [.box [.d (.v (.int .i64 v_s153.fSize)), .srf 1], .cu (outC 136 2 (qpre nq_S_slab_Box (((v_x174).toNat) * 2)) [none, none] (v_w175.map eS_slab_Box)) [.srf 2, .d (.v noB), .d (.v noB)], .cu (bagC nct_S_slab_Box (qpre nq_S_slab_Box (((v_x174).toNat) * 2)) (v_w175.map eS_slab_Box)) [], .box [.d (.v (.int .i64 0)), .d (vnil)]]⟩
def G_slab_copied_h_L1 (n : Nat) (v_r161 : ((List S_slab_Box))) (v_s153 : S_slab_Slab) : Nat → Int → (List S_slab_Box) → Option G_slab_copied_h_L1_R
  | 0, _, _ => none
  | k + 1, v_x174, v_w175 =>
    if v_x174 < (v_r161.length : Int) then
     if 0 ≤ v_x174 ∧ (v_x174).toNat < v_w175.length then
      (v_w175[(v_x174).toNat]?).bind fun (v_y177 : S_slab_Box) =>
      (G_slices_Clone_int_int n v_y177.fUsed).bind fun (v_r178 : ((List Int))) =>
      if 0 ≤ v_x174 ∧ (v_x174).toNat < v_w175.length then
       if (v_x174).toNat < v_w175.length then
        (v_w175[(v_x174).toNat]?).bind fun (v_y179 : S_slab_Box) =>
        if ((wi .i64 (v_x174 + 1))).toNat = (v_x174).toNat + 1 then
         G_slab_copied_h_L1 n v_r161 v_s153 k (wi .i64 (v_x174 + 1)) (v_w175.set ((v_x174).toNat) (S_slab_Box.mk v_y179.fFrame v_r178))
        else none
       else none
      else none
     else none
    else
     if v_w175.length ≤ (v_x174).toNat then
      some (.x0 v_w175)
     else none
theorem G_slab_copied_h_L1_ok {Fi : Ex → PS → Prop} (hF : KC 28 Fi) (ks : List Fr) (n : Nat) (v_r161 : ((List S_slab_Box))) (v_s153 : S_slab_Slab)  : ∀ (k : Nat) (v_x174 : Int) (v_w175 : (List S_slab_Box)) (o : G_slab_copied_h_L1_R), G_slab_copied_h_L1 n v_r161 v_s153 k v_x174 v_w175 = some o → RunE Try.prog 28 Fi ks (G_slab_copied_h_L1_ex o) (G_slab_copied_h_L1_st v_r161 v_s153 o) → RunE Try.prog 28 Fi (.l k (cP (cB (cR (cL (cR (cR (bodyOf Try.f75))))))) :: ks) .normal (G_slab_copied_h_L1_hd v_r161 v_s153 v_x174 v_w175)
  | 0, v_x174, v_w175, o, h, q => by rw [G_slab_copied_h_L1] at h; cases h
  | k + 1, v_x174, v_w175, o, h, q => by
    rw [G_slab_copied_h_L1] at h
    by_cases h80 : v_x174 < (v_r161.length : Int)
    · rw [if_pos h80] at h
      by_cases h81 : 0 ≤ v_x174 ∧ (v_x174).toNat < v_w175.length
      · rw [if_pos h81] at h
        obtain ⟨v_y177, h82, h⟩ := bind_some h
        obtain ⟨v_r178, h83, h⟩ := bind_some h
        by_cases h84 : 0 ≤ v_x174 ∧ (v_x174).toNat < v_w175.length
        · rw [if_pos h84] at h
          by_cases h85 : (v_x174).toNat < v_w175.length
          · rw [if_pos h85] at h
            obtain ⟨v_y179, h86, h⟩ := bind_some h
            by_cases h87 : ((wi .i64 (v_x174 + 1))).toNat = (v_x174).toNat + 1
            · rw [if_pos h87] at h
              exact pkk_sound TTok mix hF 15 (hs := [.t true, .c, .c, .e 49 [1] (.ept 1 2 ((v_x174).toNat) 0) [], .e 59 [1] (.d (.sl (v_y177.fUsed.map (eI .i64)))) [], .h [] [] [.row 3 1 (v_r178.map (eI .i64))] (.srf 0), .e 69 [1] (.ept 1 2 ((v_x174).toNat) 0) [], .e 79 [1] (dd) [(1, .cu (outC 136 2 (qpre nq_S_slab_Box (((v_x174).toNat) * 2)) [some (((v_x174).toNat) * 2 + 1), none] (v_w175.map eS_slab_Box)) [.srf 2, .srf 64, .d (.v noB)])], .dl 2, .sx [1, 2, 64] (nClose 1 2 64 136 2 nct_S_slab_Box (plus (qpre nq_S_slab_Box (((v_x174).toNat) * 2)) (((v_x174).toNat) * 2 + 1)) [none, none] ((v_w175.set ((v_x174).toNat) (S_slab_Box.mk v_y179.fFrame v_r178)).map eS_slab_Box) [.srf 2, .srf 64, .d (.v noB)] 0), .sx [1, 94] (nSame 1 94 136 2 nct_S_slab_Box (qpre nq_S_slab_Box ((((wi .i64 (v_x174 + 1))).toNat) * 2)) [none, none] ((v_w175.set ((v_x174).toNat) (S_slab_Box.mk v_y179.fFrame v_r178)).map eS_slab_Box) [.srf 94, .d (.v noB), .d (.v noB)])]) (ts := []) (s := [0, 1, 94, 3]) (l := [1, 2, 10, 11]) (by kernel_rfl) (by kernel_rfl) (.cons (dt h80) (.cons (nidx (P := Try.prog) (T := TT) (t := 76) (l := 1) (ty := 136) (sz := 2) (q := (qpre nq_S_slab_Box (((v_x174).toNat) * 2))) (hs := [none, none]) (xs := (v_w175.map eS_slab_Box)) (fs := [.srf 2, .d (.v noB), .d (.v noB)]) (x := (.tmp 18)) (i := (.tmp 19)) (ik := .i64) (j := v_x174) (by kernel_rfl) h81.1 (by rw [List.length_map]; exact h81.2)) (.cons (nload (P := Try.prog) (T := TT) (t := 39) (l := 1) (ty := 136) (sz := 2) (i := (v_x174).toNat) (off := 1) (q := (qpre nq_S_slab_Box (((v_x174).toNat) * 2))) (hs := [none, none]) (xs := (v_w175.map eS_slab_Box)) (fs := [.srf 2, .d (.v noB), .d (.v noB)]) (x := (.tmp 21)) (y := (eS_slab_Box v_y177)) (p := (.sl (v_y177.fUsed.map (eI .i64)))) (by kernel_rfl) (all_fits (fun _ => rfl)) (get_ob (f := eS_slab_Box) h82) rfl (by rw [Bool.eq_false_iff, ne_eq]; simp only [nq_S_slab_Box, minus, plus, qpre, Bool.and_eq_true, Bool.or_eq_true, Bool.not_eq_true', decide_eq_true_eq, decide_eq_false_iff_not, and_true, and_false, true_and, false_and, or_true, or_false, true_or, false_or, not_true_eq_false, not_false_eq_true] <;> omega) (by intro j h; rcases j with _ | _ | j <;> simp at h <;> omega)) (.cons (G_slices_Clone_int_int_ok n v_y177.fUsed _ h83) (.cons (nidx (P := Try.prog) (T := TT) (t := 76) (l := 1) (ty := 136) (sz := 2) (q := (qpre nq_S_slab_Box (((v_x174).toNat) * 2))) (hs := [none, none]) (xs := (v_w175.map eS_slab_Box)) (fs := [.srf 2, .d (.v noB), .d (.v noB)]) (x := (.tmp 15)) (i := (.tmp 16)) (ik := .i64) (j := v_x174) (by kernel_rfl) h84.1 (by rw [List.length_map]; exact h84.2)) (.cons (nput (P := Try.prog) (T := TT) (t := 39) (l := 1) (L := 64) (ty := 136) (sz := 2) (i := (v_x174).toNat) (off := 1) (j := 0) (q := (qpre nq_S_slab_Box (((v_x174).toNat) * 2))) (hs := [none, none]) (xs := (v_w175.map eS_slab_Box)) (fs := [.srf 2, .d (.v noB), .d (.v noB)]) (x := (.tmp 25)) (z := (.tmp 23)) (by kernel_rfl) (by rw [List.length_map]; exact h85) (by decide) (all_fits (fun _ => rfl)) (by rw [Bool.eq_false_iff, ne_eq]; simp only [nq_S_slab_Box, minus, plus, qpre, Bool.and_eq_true, Bool.or_eq_true, Bool.not_eq_true', decide_eq_true_eq, decide_eq_false_iff_not, and_true, and_false, true_and, false_and, or_true, or_false, true_or, false_or, not_true_eq_false, not_false_eq_true] <;> omega) (.inl rfl) (by intro j' hj' h; rcases j' with _ | _ | j' <;> simp at h hj' <;> omega) ⟨_, rfl⟩ (by decide)) (.cons (nclose' (l := 1) (B := 2) (L := 64) (ty := 136) (sz := 2) (i := (v_x174).toNat) (off := 1) (j := 0) (e := 3) (s := 1) (ct := nct_S_slab_Box) (q := (qpre nq_S_slab_Box (((v_x174).toNat) * 2))) (q' := (plus (qpre nq_S_slab_Box (((v_x174).toNat) * 2)) (((v_x174).toNat) * 2 + 1))) (hs := [some (((v_x174).toNat) * 2 + 1), none]) (xs := (v_w175.map eS_slab_Box)) (ys := (v_r178.map (eI .i64))) (fs := [.srf 2, .srf 64, .d (.v noB)]) (y := (eS_slab_Box v_y179)) (y' := (.agg [.v (.int .i64 v_y179.fFrame), .sl (v_r178.map (eI .i64))])) (set_ob (f := eS_slab_Box) (l := v_w175) (k := (v_x174).toNat) (z := (S_slab_Box.mk v_y179.fFrame v_r178)) (p := .agg [.v (.int .i64 v_y179.fFrame), .sl (v_r178.map (eI .i64))]) rfl) (by decide) (by decide) (by decide) (all_fits (fun _ => rfl)) (get_ob (f := eS_slab_Box) h86) (by decide) rfl rfl (by rw [Bool.eq_false_iff, ne_eq]; simp only [nq_S_slab_Box, minus, plus, qpre, Bool.and_eq_true, Bool.or_eq_true, Bool.not_eq_true', decide_eq_true_eq, decide_eq_false_iff_not, and_true, and_false, true_and, false_and, or_true, or_false, true_or, false_or, not_true_eq_false, not_false_eq_true] <;> omega) rfl (by intro j' hj' h; rcases j' with _ | _ | j' <;> simp at h hj' <;> omega) rfl rfl rfl (by intro k hk; rw [Bool.eq_iff_iff]; simp only [nq_S_slab_Box, minus, plus, qpre, Bool.and_eq_true, Bool.or_eq_true, Bool.not_eq_true', decide_eq_true_eq, decide_eq_false_iff_not, and_true, and_false, true_and, false_and, or_true, or_false, true_or, false_or, not_true_eq_false, not_false_eq_true] <;> omega)) (.cons (nsame (l := 1) (B := 94) (ty := 136) (sz := 2) (ct := nct_S_slab_Box) (q := (plus (qpre nq_S_slab_Box (((v_x174).toNat) * 2)) (((v_x174).toNat) * 2 + 1))) (q' := (qpre nq_S_slab_Box ((((wi .i64 (v_x174 + 1))).toNat) * 2))) (hs := [none, none]) (xs := ((v_w175.set ((v_x174).toNat) (S_slab_Box.mk v_y179.fFrame v_r178)).map eS_slab_Box)) (fs := [.srf 94, .d (.v noB), .d (.v noB)]) (by decide) (all_fits (fun _ => rfl)) (by intro k hk; have hg := h87; rw [Bool.eq_iff_iff]; simp only [nq_S_slab_Box, minus, plus, qpre, Bool.and_eq_true, Bool.or_eq_true, Bool.not_eq_true', decide_eq_true_eq, decide_eq_false_iff_not, and_true, and_false, true_and, false_and, or_true, or_false, true_or, false_or, not_true_eq_false, not_false_eq_true] <;> omega)) .nil)))))))) (G_slab_copied_h_L1_ok hF ks n v_r161 v_s153 k (wi .i64 (v_x174 + 1)) (v_w175.set ((v_x174).toNat) (S_slab_Box.mk v_y179.fFrame v_r178)) _ h q)
            · rw [if_neg h87] at h; cases h
          · rw [if_neg h85] at h; cases h
        · rw [if_neg h84] at h; cases h
      · rw [if_neg h81] at h; cases h
    · rw [if_neg h80] at h
      by_cases h88 : v_w175.length ≤ (v_x174).toNat
      · rw [if_pos h88] at h
        cases h
        exact pkk_sound TTok mix hF 9 (hs := [.t false, .dl 3, .sx [1, 2] (nSame 1 2 136 2 nct_S_slab_Box nq_S_slab_Box [none, none] (v_w175.map eS_slab_Box) [.srf 2, .d (.v noB), .d (.v noB)])]) (ts := []) (s := [0, 1, 2, 3]) (l := [1, 2]) (by kernel_rfl) (by kernel_rfl) (.cons (df h80) (.cons (nsame (l := 1) (B := 2) (ty := 136) (sz := 2) (ct := nct_S_slab_Box) (q := (qpre nq_S_slab_Box (((v_x174).toNat) * 2))) (q' := nq_S_slab_Box) (hs := [none, none]) (xs := (v_w175.map eS_slab_Box)) (fs := [.srf 2, .d (.v noB), .d (.v noB)]) (by decide) (all_fits (fun _ => rfl)) (by intro k hk; rw [List.length_map] at hk; have hg := h88; rw [Bool.eq_iff_iff]; simp only [nq_S_slab_Box, minus, plus, qpre, Bool.and_eq_true, Bool.or_eq_true, Bool.not_eq_true', decide_eq_true_eq, decide_eq_false_iff_not, and_true, and_false, true_and, false_and, or_true, or_false, true_or, false_or, not_true_eq_false, not_false_eq_true] <;> omega)) .nil)) q
      · rw [if_neg h88] at h; cases h
/- ringhall/slab.copied -/
def G_slab_copied_h (n : Nat) (v_s153 : S_slab_Slab) : Option (S_slab_Slab) :=
  (G_slices_Clone_slab_Box_slab_Box n v_s153.fBoxes).bind fun (v_r161 : ((List S_slab_Box))) =>
  (G_slab_copied_h_L1 n v_r161 v_s153 n 0 v_r161).bind fun v_o181 => match v_o181 with
  | .x0 v_z182 =>
    some (S_slab_Slab.mk v_s153.fSize v_z182)
theorem G_slab_copied_h_ok (n : Nat) (v_s153 : S_slab_Slab) (r : S_slab_Slab) (h : G_slab_copied_h n v_s153 = some r) : RetH Try.prog 75 [.d (eS_slab_Slab v_s153)] [] (.agg [.d (.v (.int .i64 r.fSize)), .srf 0]) [.cu (outC 136 2 nq_S_slab_Box [none, none] (r.fBoxes.map eS_slab_Box)) [.srf 1, .d (.v noB), .d (.v noB)], .cu (bagC nct_S_slab_Box nq_S_slab_Box (r.fBoxes.map eS_slab_Box)) []] := by
  refine retH_run (n := 28) (fn := Try.f75) (c := bodyOf Try.f75) (by kernel_rfl) (by kernel_rfl) (by kernel_rfl) (by kernel_rfl) ?_
  have hF : KC 28 (FinH Try.prog Try.f75 [] (.agg [.d (.v (.int .i64 r.fSize)), .srf 0]) [.cu (outC 136 2 nq_S_slab_Box [none, none] (r.fBoxes.map eS_slab_Box)) [.srf 1, .d (.v noB), .d (.v noB)], .cu (bagC nct_S_slab_Box nq_S_slab_Box (r.fBoxes.map eS_slab_Box)) []]) := FinH.kc' (by kernel_rfl)
  unfold G_slab_copied_h at h
  obtain ⟨v_r161, h69, h⟩ := bind_some h
  obtain ⟨v_o181, h89, h⟩ := bind_some h
  refine pkk_sound TTok mix hF 10 (hs := [.c, .h [] [] [.row 136 2 (v_r161.map eS_slab_Box)] (.srf 0), .c, .c, .u (.d (.v (.int .i64 (v_r161.length : Int)))), .dl 1, .sx [20] (nThaw 20 136 2 nct_S_slab_Box (qpre nq_S_slab_Box (0 * 2)) [none, none] (v_r161.map eS_slab_Box)), .n n]) (ts := []) (s := [0, 20, 55, 5]) (l := [1, 2, 10, 11]) (by kernel_rfl) (by kernel_rfl) (.cons (G_slices_Clone_slab_Box_slab_Box_ok n v_s153.fBoxes _ h69) (.cons (show 1 + 1 ≤ 2 by decide) (.cons (len_ob (f := eS_slab_Box) (l := v_r161)) (.cons (nthaw (l := 20) (ty := 136) (sz := 2) (ct := nct_S_slab_Box) (q := (qpre nq_S_slab_Box (0 * 2))) (hs := [none, none]) (xs := (v_r161.map eS_slab_Box)) (all_fits (fun _ => rfl)) (by intro j k h; rcases j with _ | _ | j <;> simp at h) (by intro k hk; rw [Bool.eq_false_iff, ne_eq]; simp only [nq_S_slab_Box, minus, plus, qpre, Bool.and_eq_true, Bool.or_eq_true, Bool.not_eq_true', decide_eq_true_eq, decide_eq_false_iff_not, and_true, and_false, true_and, false_and, or_true, or_false, true_or, false_or, not_true_eq_false, not_false_eq_true] <;> omega)) .nil)))) (G_slab_copied_h_L1_ok hF (.b 0 :: .s (cR (cR (cR (bodyOf Try.f75)))) :: []) n v_r161 v_s153 n 0 v_r161 _ h89 ?_)
  cases v_o181 with
  | x0 v_z182 =>
    try dsimp only at h
    obtain rfl := Option.some.inj h
    exact pendH_sound TTok mix 4 (hs := [.c, .c]) [1, 2] (by kernel_rfl) (by kernel_rfl) (by kernel_rfl) (.cons (show 0 + 2 ≤ 2 by decide) .nil)
inductive G_slices_Index_int_int_L1_R where
  | x0 (v_x205 : Int)
  | x1 
def G_slices_Index_int_int_L1_ex : G_slices_Index_int_int_L1_R → Ex
  | .x0 _ => .ret
  | .x1  => .exit 0
def G_slices_Index_int_int_L1_st (v_s197 : (List Int)) (v_v198 : Int) : G_slices_Index_int_int_L1_R → PS
  | .x0 v_x205 => ⟨[dd, dd, dd, dd, .d (.v (.int .i64 v_x205)), dd, dd, dd, dd, dd, dd, dd, dd, dd, dd, dd, dd, dd, dd], []⟩
  | .x1  => ⟨[dd, dd, dd, dd, dd, dd, dd, dd, dd, dd, dd, dd, dd, dd, dd, dd, dd, dd, dd], []⟩
def G_slices_Index_int_int_L1_hd (v_s197 : (List Int)) (v_v198 : Int) (v_x201 : Int) : PS := ⟨[.d (.sl (v_s197.map (eI .i64))), .d (.v (.int .i64 v_v198)), dd, dd, dd, dd, dd, .d (.v (.int .i64 (v_s197.length : Int))), .d (.v (.int .i64 v_x201)), dd, dd, dd, dd, dd, dd, dd, dd, dd, dd], []⟩
def G_slices_Index_int_int_L1 (n : Nat) (v_s197 : (List Int)) (v_v198 : Int) : Nat → Int → Option G_slices_Index_int_int_L1_R
  | 0, _ => none
  | k + 1, v_x201 =>
    if v_x201 < (v_s197.length : Int) then
     (getI v_s197 v_x201).bind fun (v_y204 : Int) =>
     if v_v198 = v_y204 then
      some (.x0 v_x201)
     else
      G_slices_Index_int_int_L1 n v_s197 v_v198 k (wi .i64 (v_x201 + 1))
    else
     some (.x1 )
theorem G_slices_Index_int_int_L1_ok {Fi : Ex → PS → Prop} (hF : KC 19 Fi) (ks : List Fr) (n : Nat) (v_s197 : (List Int)) (v_v198 : Int)  : ∀ (k : Nat) (v_x201 : Int) (o : G_slices_Index_int_int_L1_R), G_slices_Index_int_int_L1 n v_s197 v_v198 k v_x201 = some o → RunE Try.prog 19 Fi ks (G_slices_Index_int_int_L1_ex o) (G_slices_Index_int_int_L1_st v_s197 v_v198 o) → RunE Try.prog 19 Fi (.l k (cP (cB (cR (cL (cR (bodyOf Try.f82)))))) :: ks) .normal (G_slices_Index_int_int_L1_hd v_s197 v_v198 v_x201)
  | 0, v_x201, o, h, q => by rw [G_slices_Index_int_int_L1] at h; cases h
  | k + 1, v_x201, o, h, q => by
    rw [G_slices_Index_int_int_L1] at h
    by_cases h96 : v_x201 < (v_s197.length : Int)
    · rw [if_pos h96] at h
      obtain ⟨v_y204, h99, h⟩ := bind_some h
      by_cases h100 : v_v198 = v_y204
      · rw [if_pos h100] at h
        cases h
        exact pkk_sound TTok mix hF 19 (hs := [.t true, .y ((eI .i64) v_y204), .c, .t true]) (ts := []) (s := []) (l := [4]) (by kernel_rfl) (by kernel_rfl) (.cons (dt h96) (.cons (getI_ob (f := (eI .i64)) h99) (.cons (bt h100) .nil))) q
      · rw [if_neg h100] at h
        exact pkk_sound TTok mix hF 16 (hs := [.t true, .y ((eI .i64) v_y204), .c, .t false]) (ts := []) (s := []) (l := [0, 1, 7, 8]) (by kernel_rfl) (by kernel_rfl) (.cons (dt h96) (.cons (getI_ob (f := (eI .i64)) h99) (.cons (bf h100) .nil))) (G_slices_Index_int_int_L1_ok hF ks n v_s197 v_v198 k (wi .i64 (v_x201 + 1)) _ h q)
    · rw [if_neg h96] at h
      cases h
      exact pkk_sound TTok mix hF 8 (hs := [.t false]) (ts := []) (s := []) (l := []) (by kernel_rfl) (by kernel_rfl) (.cons (df h96) .nil) q
/- slices.Index[[]int,int] -/
def G_slices_Index_int_int (n : Nat) (v_s197 : (List Int)) (v_v198 : Int) : Option (Int) :=
  (G_slices_Index_int_int_L1 n v_s197 v_v198 n 0).bind fun v_o206 => match v_o206 with
  | .x0 v_z207 =>
    some v_z207
  | .x1  =>
    some (-1)
theorem G_slices_Index_int_int_ok (n : Nat) (v_s197 : (List Int)) (v_v198 : Int) (r : Int) (h : G_slices_Index_int_int n v_s197 v_v198 = some r) : Ret Try.prog 82 [(eL (eI .i64)) v_s197, (eI .i64) v_v198] ((eI .i64) r) := by
  refine ret_run (n := 19) (fn := Try.f82) (c := bodyOf Try.f82) (by kernel_rfl) (by kernel_rfl) (by kernel_rfl) (by kernel_rfl) ?_
  have hF : KC 19 (FinR Try.prog Try.f82 ((eI .i64) r)) := FinR.kc' (by kernel_rfl)
  unfold G_slices_Index_int_int at h
  obtain ⟨v_o206, h101, h⟩ := bind_some h
  refine pkk_sound TTok mix hF 7 (hs := [.u (.d (.v (.int .i64 (v_s197.length : Int)))), .n n]) (ts := []) (s := []) (l := [0, 1, 7, 8]) (by kernel_rfl) (by kernel_rfl) (.cons (len_ob (f := (eI .i64)) (l := v_s197)) .nil) (G_slices_Index_int_int_L1_ok hF (.b 0 :: .s (cR (cR (bodyOf Try.f82))) :: []) n v_s197 v_v198 n 0 _ h101 ?_)
  cases v_o206 with
  | x0 v_z207 =>
    try dsimp only at h
    obtain rfl := Option.some.inj h
    exact pend_sound TTok mix 2 (hs := []) (by kernel_rfl) (by kernel_rfl) (by kernel_rfl) .nil
  | x1  =>
    try dsimp only at h
    obtain rfl := Option.some.inj h
    exact pend_sound TTok mix 4 (hs := []) (by kernel_rfl) (by kernel_rfl) (by kernel_rfl) .nil
/- slices.Contains[[]int,int] -/
def G_slices_Contains_int_int (n : Nat) (v_s195 : (List Int)) (v_v196 : Int) : Option (Bool) :=
  (G_slices_Index_int_int n v_s195 v_v196).bind fun (v_r208 : (Int)) =>
  some (decide (v_r208 ≥ 0))
theorem G_slices_Contains_int_int_ok (n : Nat) (v_s195 : (List Int)) (v_v196 : Int) (r : Bool) (h : G_slices_Contains_int_int n v_s195 v_v196 = some r) : Ret Try.prog 77 [(eL (eI .i64)) v_s195, (eI .i64) v_v196] (eB r) := by
  refine ret_run (n := 9) (fn := Try.f77) (c := bodyOf Try.f77) (by kernel_rfl) (by kernel_rfl) (by kernel_rfl) (by kernel_rfl) ?_
  have hF : KC 9 (FinR Try.prog Try.f77 (eB r)) := FinR.kc' (by kernel_rfl)
  unfold G_slices_Contains_int_int at h
  obtain ⟨v_r208, h102, h⟩ := bind_some h
  obtain rfl := Option.some.inj h
  exact pend_sound TTok mix 5 (hs := [.r ((eI .i64) v_r208)]) (by kernel_rfl) (by kernel_rfl) (by kernel_rfl) (.cons (G_slices_Index_int_int_ok n v_s195 v_v196 _ h102) .nil)
/- slices.Insert[[]int,int] -/
def G_slices_Insert_int_int_hC (n : Nat) (v_C211 : Nat) (v_s210 : (List Int)) (v_i212 : Int) (v_v213 : (List Int)) : Option ((List Int)) :=
  if (0 ≤ v_i212 ∧ v_i212 ≤ (v_s210.length : Int)) ∧ v_s210.length ≤ v_C211 then
   if (v_v213.length : Int) = 0 then
    some v_s210
   else
    if v_i212 = (v_s210.length : Int) then
     (app 8 v_s210 v_v213).bind fun (v_a215 : (List Int)) =>
     some v_a215
    else
     if (wi .i64 ((v_s210.length : Int) + (v_v213.length : Int))) > (v_C211 : Int) then
      if (0 ≤ v_i212 ∧ v_i212 ≤ (v_s210.length : Int)) ∧ v_s210.length ≤ v_C211 then
       if (wi .i64 ((wi .i64 ((v_s210.length : Int) + (v_v213.length : Int))) - v_i212)) = (((v_s210.length + v_v213.length - v_i212.toNat) : Nat) : Int) ∧ v_i212.toNat ≤ v_s210.length ∧ 0 < (v_s210.length + v_v213.length - v_i212.toNat) ∧ v_C211 < v_i212.toNat + (v_s210.length + v_v213.length - v_i212.toNat) ∧ v_i212.toNat + (v_s210.length + v_v213.length - v_i212.toNat) ≤ maxLen ∧ (v_i212.toNat + (v_s210.length + v_v213.length - v_i212.toNat)) * 8 ≤ 140737488355328 then
        if ((0 : Int) ≤ v_i212 ∧ v_i212 ≤ ((v_s210.take v_i212.toNat ++ List.replicate (v_s210.length + v_v213.length - v_i212.toNat) 0).length : Int)) then
         if (v_s210.take v_i212.toNat ++ List.replicate (v_s210.length + v_v213.length - v_i212.toNat) 0).length ≤ (v_s210.take v_i212.toNat ++ List.replicate (v_s210.length + v_v213.length - v_i212.toNat) 0).length then
          if ((0 : Int) ≤ (wi .i64 (v_i212 + (v_v213.length : Int))) ∧ (wi .i64 (v_i212 + (v_v213.length : Int))) ≤ ((cpyR (v_s210.take v_i212.toNat ++ List.replicate (v_s210.length + v_v213.length - v_i212.toNat) 0) v_i212.toNat ((v_s210.take v_i212.toNat ++ List.replicate (v_s210.length + v_v213.length - v_i212.toNat) 0).length) v_v213).length : Int)) then
           if (0 ≤ v_i212 ∧ v_i212 ≤ (v_s210.length : Int)) ∧ v_s210.length ≤ v_C211 then
            if (cpyR (v_s210.take v_i212.toNat ++ List.replicate (v_s210.length + v_v213.length - v_i212.toNat) 0) v_i212.toNat ((v_s210.take v_i212.toNat ++ List.replicate (v_s210.length + v_v213.length - v_i212.toNat) 0).length) v_v213).length ≤ (cpyR (v_s210.take v_i212.toNat ++ List.replicate (v_s210.length + v_v213.length - v_i212.toNat) 0) v_i212.toNat ((v_s210.take v_i212.toNat ++ List.replicate (v_s210.length + v_v213.length - v_i212.toNat) 0).length) v_v213).length ∧ v_s210.length ≤ v_s210.length then
             some (cpyR (cpyR (v_s210.take v_i212.toNat ++ List.replicate (v_s210.length + v_v213.length - v_i212.toNat) 0) v_i212.toNat ((v_s210.take v_i212.toNat ++ List.replicate (v_s210.length + v_v213.length - v_i212.toNat) 0).length) v_v213) ((wi .i64 (v_i212 + (v_v213.length : Int))).toNat) ((cpyR (v_s210.take v_i212.toNat ++ List.replicate (v_s210.length + v_v213.length - v_i212.toNat) 0) v_i212.toNat ((v_s210.take v_i212.toNat ++ List.replicate (v_s210.length + v_v213.length - v_i212.toNat) 0).length) v_v213).length) ((v_s210.take v_s210.length).drop v_i212.toNat))
            else none
           else none
          else none
         else none
        else none
       else none
      else none
     else
      if 0 < v_v213.length ∧ (v_s210.length + v_v213.length) ≤ v_C211 ∧ (wi .i64 ((v_s210.length : Int) + (v_v213.length : Int))) = (((v_s210.length + v_v213.length) : Nat) : Int) then
       if (wi .i64 (v_i212 + (v_v213.length : Int))) = (((v_i212.toNat + v_v213.length) : Nat) : Int) ∧ (v_i212.toNat + v_v213.length) ≤ (v_s210.length + v_v213.length) then
        if (wi .i64 (v_i212 + (v_v213.length : Int))) = (((v_i212.toNat + v_v213.length) : Nat) : Int) ∧ (v_i212.toNat + v_v213.length) ≤ (v_s210.length + v_v213.length) then
         if 0 ≤ v_i212 ∧ v_i212 ≤ (((v_s210.length + v_v213.length) : Nat) : Int) then
          if 0 ≤ v_i212 ∧ v_i212 ≤ (((v_s210.length + v_v213.length) : Nat) : Int) then
           some ((v_s210.take v_i212.toNat) ++ v_v213 ++ (v_s210.drop v_i212.toNat))
          else none
         else none
        else none
       else none
      else none
  else none
theorem G_slices_Insert_int_int_hC_ok (n : Nat) (v_C211 : Nat) (v_s210 : (List Int)) (v_i212 : Int) (v_v213 : (List Int)) (r : (List Int)) (h : G_slices_Insert_int_int_hC n v_C211 v_s210 v_i212 v_v213 = some r) : RetH Try.prog 78 [.srf 0, .d ((eI .i64) v_i212), .d ((eL (eI .i64)) v_v213)] [.cu (rowC 3 1 v_C211 (v_s210.map (eI .i64))) []] (.srf 1) [.none, .row 3 1 (r.map (eI .i64))] := by
  refine retH_run (n := 95) (fn := Try.f78) (c := bodyOf Try.f78) (by kernel_rfl) (by kernel_rfl) (by kernel_rfl) (by kernel_rfl) ?_
  have hF : KC 95 (FinH Try.prog Try.f78 [.cu (rowC 3 1 v_C211 (v_s210.map (eI .i64))) []] (.srf 1) [.none, .row 3 1 (r.map (eI .i64))]) := FinH.kc' (by kernel_rfl)
  unfold G_slices_Insert_int_int_hC at h
  by_cases h105 : (0 ≤ v_i212 ∧ v_i212 ≤ (v_s210.length : Int)) ∧ v_s210.length ≤ v_C211
  · rw [if_pos h105] at h
    by_cases h106 : (v_v213.length : Int) = 0
    · rw [if_pos h106] at h
      obtain rfl := Option.some.inj h
      exact pendH_sound TTok mix 14 (hs := [.e 17 [0] (.ssl 0 v_i212.toNat v_s210.length 1) [], .u (.d (.v (.int .i64 (v_v213.length : Int)))), .t true, .e 47 [0, 47] (.srf 47) [(0, .none), (47, .row 3 1 (v_s210.map (eI .i64)))]]) [0, 47] (by kernel_rfl) (by kernel_rfl) (by kernel_rfl) (.cons (ext_same (yc10 (P := Try.prog) (T := TT) (f := (eI .i64)) (t := 39) (e := 3) (s := 1) (l := 0) (L := v_s210) (x := (.tmp 10)) (C := v_C211) (lo := (.tmp 11)) (A := v_i212) (ka := .i64) (by kernel_rfl) h105.1 h105.2)) (.cons (len_ob (f := (eI .i64)) (l := v_v213)) (.cons (bt h106) (.cons (ymv (L := v_s210) (C := v_C211) (P := Try.prog) (T := TT) (f := (eI .i64)) (e := 3) (s := 1) (l := 0) (nl := 47) (x := (.tmp 0)) (by decide)) .nil))))
    · rw [if_neg h106] at h
      by_cases h109 : v_i212 = (v_s210.length : Int)
      · rw [if_pos h109] at h
        obtain ⟨v_a215, h110, h⟩ := bind_some h
        obtain rfl := Option.some.inj h
        exact pendH_sound TTok mix 21 (hs := [.e 17 [0] (.ssl 0 v_i212.toNat v_s210.length 1) [], .u (.d (.v (.int .i64 (v_v213.length : Int)))), .t false, .e 52 [0] (.d (.v (.int .i64 (v_s210.length : Int)))) [], .t true, .e 87 [0, 87] (.srf 87) [(0, .none), (87, .row 3 1 (v_a215.map (eI .i64)))]]) [0, 87] (by kernel_rfl) (by kernel_rfl) (by kernel_rfl) (.cons (ext_same (yc10 (P := Try.prog) (T := TT) (f := (eI .i64)) (t := 39) (e := 3) (s := 1) (l := 0) (L := v_s210) (x := (.tmp 10)) (C := v_C211) (lo := (.tmp 11)) (A := v_i212) (ka := .i64) (by kernel_rfl) h105.1 h105.2)) (.cons (len_ob (f := (eI .i64)) (l := v_v213)) (.cons (bf h106) (.cons (ylen (P := Try.prog) (T := TT) (f := (eI .i64)) (t := 39) (e := 3) (s := 1) (l := 0) (L := v_s210) (C := v_C211) (x := (.tmp 18)) (by kernel_rfl)) (.cons (bt h109) (.cons (yapp (P := Try.prog) (T := TT) (f := (eI .i64)) (t := 39) (e := 3) (s := 1) (l := 0) (nl := 87) (C := v_C211) (x := (.tmp 23)) (y := (.tmp 24)) (ti := ⟨1, 8, .int .i64, [.i .i64]⟩) (by kernel_rfl) h110 (by kernel_rfl) (by kernel_rfl) (by decide) (fun _ => rfl) (by decide)) .nil))))))
      · rw [if_neg h109] at h
        by_cases h119 : (wi .i64 ((v_s210.length : Int) + (v_v213.length : Int))) > (v_C211 : Int)
        · rw [if_pos h119] at h
          by_cases h120 : (0 ≤ v_i212 ∧ v_i212 ≤ (v_s210.length : Int)) ∧ v_s210.length ≤ v_C211
          · rw [if_pos h120] at h
            by_cases h121 : (wi .i64 ((wi .i64 ((v_s210.length : Int) + (v_v213.length : Int))) - v_i212)) = (((v_s210.length + v_v213.length - v_i212.toNat) : Nat) : Int) ∧ v_i212.toNat ≤ v_s210.length ∧ 0 < (v_s210.length + v_v213.length - v_i212.toNat) ∧ v_C211 < v_i212.toNat + (v_s210.length + v_v213.length - v_i212.toNat) ∧ v_i212.toNat + (v_s210.length + v_v213.length - v_i212.toNat) ≤ maxLen ∧ (v_i212.toNat + (v_s210.length + v_v213.length - v_i212.toNat)) * 8 ≤ 140737488355328
            · rw [if_pos h121] at h
              by_cases h122 : ((0 : Int) ≤ v_i212 ∧ v_i212 ≤ ((v_s210.take v_i212.toNat ++ List.replicate (v_s210.length + v_v213.length - v_i212.toNat) 0).length : Int))
              · rw [if_pos h122] at h
                by_cases h123 : (v_s210.take v_i212.toNat ++ List.replicate (v_s210.length + v_v213.length - v_i212.toNat) 0).length ≤ (v_s210.take v_i212.toNat ++ List.replicate (v_s210.length + v_v213.length - v_i212.toNat) 0).length
                · rw [if_pos h123] at h
                  by_cases h124 : ((0 : Int) ≤ (wi .i64 (v_i212 + (v_v213.length : Int))) ∧ (wi .i64 (v_i212 + (v_v213.length : Int))) ≤ ((cpyR (v_s210.take v_i212.toNat ++ List.replicate (v_s210.length + v_v213.length - v_i212.toNat) 0) v_i212.toNat ((v_s210.take v_i212.toNat ++ List.replicate (v_s210.length + v_v213.length - v_i212.toNat) 0).length) v_v213).length : Int))
                  · rw [if_pos h124] at h
                    by_cases h125 : (0 ≤ v_i212 ∧ v_i212 ≤ (v_s210.length : Int)) ∧ v_s210.length ≤ v_C211
                    · rw [if_pos h125] at h
                      by_cases h126 : (cpyR (v_s210.take v_i212.toNat ++ List.replicate (v_s210.length + v_v213.length - v_i212.toNat) 0) v_i212.toNat ((v_s210.take v_i212.toNat ++ List.replicate (v_s210.length + v_v213.length - v_i212.toNat) 0).length) v_v213).length ≤ (cpyR (v_s210.take v_i212.toNat ++ List.replicate (v_s210.length + v_v213.length - v_i212.toNat) 0) v_i212.toNat ((v_s210.take v_i212.toNat ++ List.replicate (v_s210.length + v_v213.length - v_i212.toNat) 0).length) v_v213).length ∧ v_s210.length ≤ v_s210.length
                      · rw [if_pos h126] at h
                        obtain rfl := Option.some.inj h
                        exact pendH_sound TTok mix 32 (hs := [.e 17 [0] (.ssl 0 v_i212.toNat v_s210.length 1) [], .u (.d (.v (.int .i64 (v_v213.length : Int)))), .t false, .e 52 [0] (.d (.v (.int .i64 (v_s210.length : Int)))) [], .t false, .e 97 [0] (.d (.v (.int .i64 (v_C211 : Int)))) [], .t true, .e 117 [0] (.ssl 0 0 v_i212.toNat 1) [], .e 147 [0, 147] (.srf 147) [(147, .row 3 1 ((v_s210.take v_i212.toNat ++ List.replicate (v_s210.length + v_v213.length - v_i212.toNat) 0).map (eI .i64)))], .e 167 [147] (.ssl 147 v_i212.toNat ((v_s210.take v_i212.toNat ++ List.replicate (v_s210.length + v_v213.length - v_i212.toNat) 0).length) 1) [], .e 177 [147] (.d (.v (.int .i64 ((Nat.min v_v213.length ((v_s210.take v_i212.toNat ++ List.replicate (v_s210.length + v_v213.length - v_i212.toNat) 0).length - v_i212.toNat) : Nat) : Int)))) [(147, .row 3 1 ((cpyR (v_s210.take v_i212.toNat ++ List.replicate (v_s210.length + v_v213.length - v_i212.toNat) 0) v_i212.toNat ((v_s210.take v_i212.toNat ++ List.replicate (v_s210.length + v_v213.length - v_i212.toNat) 0).length) v_v213).map (eI .i64)))], .e 202 [147] (.ssl 147 ((wi .i64 (v_i212 + (v_v213.length : Int))).toNat) ((cpyR (v_s210.take v_i212.toNat ++ List.replicate (v_s210.length + v_v213.length - v_i212.toNat) 0) v_i212.toNat ((v_s210.take v_i212.toNat ++ List.replicate (v_s210.length + v_v213.length - v_i212.toNat) 0).length) v_v213).length) 1) [], .e 217 [0] (.ssl 0 v_i212.toNat v_s210.length 1) [], .e 222 [147, 0] (.d (.v (.int .i64 ((Nat.min ((v_s210.take v_s210.length).drop v_i212.toNat).length ((cpyR (v_s210.take v_i212.toNat ++ List.replicate (v_s210.length + v_v213.length - v_i212.toNat) 0) v_i212.toNat ((v_s210.take v_i212.toNat ++ List.replicate (v_s210.length + v_v213.length - v_i212.toNat) 0).length) v_v213).length - (wi .i64 (v_i212 + (v_v213.length : Int))).toNat) : Nat) : Int)))) [(147, .row 3 1 ((cpyR (cpyR (v_s210.take v_i212.toNat ++ List.replicate (v_s210.length + v_v213.length - v_i212.toNat) 0) v_i212.toNat ((v_s210.take v_i212.toNat ++ List.replicate (v_s210.length + v_v213.length - v_i212.toNat) 0).length) v_v213) ((wi .i64 (v_i212 + (v_v213.length : Int))).toNat) ((cpyR (v_s210.take v_i212.toNat ++ List.replicate (v_s210.length + v_v213.length - v_i212.toNat) 0) v_i212.toNat ((v_s210.take v_i212.toNat ++ List.replicate (v_s210.length + v_v213.length - v_i212.toNat) 0).length) v_v213).length) ((v_s210.take v_s210.length).drop v_i212.toNat)).map (eI .i64))), (0, .none)]]) [0, 147] (by kernel_rfl) (by kernel_rfl) (by kernel_rfl) (.cons (ext_same (yc10 (P := Try.prog) (T := TT) (f := (eI .i64)) (t := 39) (e := 3) (s := 1) (l := 0) (L := v_s210) (x := (.tmp 10)) (C := v_C211) (lo := (.tmp 11)) (A := v_i212) (ka := .i64) (by kernel_rfl) h105.1 h105.2)) (.cons (len_ob (f := (eI .i64)) (l := v_v213)) (.cons (bf h106) (.cons (ylen (P := Try.prog) (T := TT) (f := (eI .i64)) (t := 39) (e := 3) (s := 1) (l := 0) (L := v_s210) (C := v_C211) (x := (.tmp 18)) (by kernel_rfl)) (.cons (bf h109) (.cons (ycap (P := Try.prog) (T := TT) (f := (eI .i64)) (t := 39) (e := 3) (s := 1) (l := 0) (L := v_s210) (C := v_C211) (x := (.tmp 29)) (by kernel_rfl)) (.cons (dt h119) (.cons (ext_same (yc01 (P := Try.prog) (T := TT) (f := (eI .i64)) (t := 39) (e := 3) (s := 1) (l := 0) (L := v_s210) (x := (.tmp 32)) (C := v_C211) (hi := (.tmp 33)) (B := v_i212) (kb := .i64) (by kernel_rfl) h120.1 h120.2)) (.cons (yapZ (P := Try.prog) (T := TT) (f := (eI .i64)) (t := 39) (e := 3) (s := 1) (l := 0) (nl := 147) (C := v_C211) (i := v_i212.toNat) (k := (v_s210.length + v_v213.length - v_i212.toNat)) (L := v_s210) (x := (.tmp 34)) (y := (.tmp 39)) (ti := ⟨1, 8, .int .i64, [.i .i64]⟩) (tn := 3) (kn := .i64) (kq := .i64) (z := 0) (p := .v (.int .i64 0)) (B := (wi .i64 ((wi .i64 ((v_s210.length : Int) + (v_v213.length : Int))) - v_i212))) (by kernel_rfl) (by kernel_rfl) (by kernel_rfl) (by kernel_rfl) (by kernel_rfl) (by decide) rfl h121.1 h121.2.1 h121.2.2.1 h121.2.2.2.1 h121.2.2.2.2.1 h121.2.2.2.2.2 (by decide)) (.cons (xs10 (P := Try.prog) (T := TT) (f := (eI .i64)) (t := 39) (e := 3) (s := 1) (l := 147) (L := (v_s210.take v_i212.toNat ++ List.replicate (v_s210.length + v_v213.length - v_i212.toNat) 0)) (x := (.tmp 41)) (lo := (.tmp 42)) (a := v_i212) (ka := .i64) (by kernel_rfl) h122) (.cons (xcpD (P := Try.prog) (T := TT) (f := (eI .i64)) (t := 39) (t' := 39) (e := 3) (s := 1) (l := 147) (x := (.tmp 43)) (y := (.tmp 44)) (ti := ⟨1, 8, .int .i64, [.i .i64]⟩) (L := (v_s210.take v_i212.toNat ++ List.replicate (v_s210.length + v_v213.length - v_i212.toNat) 0)) (Y := v_v213) (i := v_i212.toNat) (j := (v_s210.take v_i212.toNat ++ List.replicate (v_s210.length + v_v213.length - v_i212.toNat) 0).length) (by kernel_rfl) (by kernel_rfl) h123 (fun _ => rfl)) (.cons (xs10 (P := Try.prog) (T := TT) (f := (eI .i64)) (t := 39) (e := 3) (s := 1) (l := 147) (L := (cpyR (v_s210.take v_i212.toNat ++ List.replicate (v_s210.length + v_v213.length - v_i212.toNat) 0) v_i212.toNat ((v_s210.take v_i212.toNat ++ List.replicate (v_s210.length + v_v213.length - v_i212.toNat) 0).length) v_v213)) (x := (.tmp 46)) (lo := (.tmp 49)) (a := (wi .i64 (v_i212 + (v_v213.length : Int)))) (ka := .i64) (by kernel_rfl) h124) (.cons (ext_same (yc10 (P := Try.prog) (T := TT) (f := (eI .i64)) (t := 39) (e := 3) (s := 1) (l := 0) (L := v_s210) (x := (.tmp 51)) (C := v_C211) (lo := (.tmp 52)) (A := v_i212) (ka := .i64) (by kernel_rfl) h125.1 h125.2)) (.cons (ext_kill (l := 0) (ycpC (P := Try.prog) (T := TT) (f := (eI .i64)) (t := 39) (t' := 39) (e := 3) (s := 1) (l := 147) (x := (.tmp 50)) (y := (.tmp 53)) (ti := ⟨1, 8, .int .i64, [.i .i64]⟩) (L := (cpyR (v_s210.take v_i212.toNat ++ List.replicate (v_s210.length + v_v213.length - v_i212.toNat) 0) v_i212.toNat ((v_s210.take v_i212.toNat ++ List.replicate (v_s210.length + v_v213.length - v_i212.toNat) 0).length) v_v213)) (i := (wi .i64 (v_i212 + (v_v213.length : Int))).toNat) (j := (cpyR (v_s210.take v_i212.toNat ++ List.replicate (v_s210.length + v_v213.length - v_i212.toNat) 0) v_i212.toNat ((v_s210.take v_i212.toNat ++ List.replicate (v_s210.length + v_v213.length - v_i212.toNat) 0).length) v_v213).length) (p := v_i212.toNat) (q := v_s210.length) (Y := v_s210) (l' := 0) (C := v_C211) (by kernel_rfl) (by kernel_rfl) h126.1 h126.2)) .nil))))))))))))))
                      · rw [if_neg h126] at h; cases h
                    · rw [if_neg h125] at h; cases h
                  · rw [if_neg h124] at h; cases h
                · rw [if_neg h123] at h; cases h
              · rw [if_neg h122] at h; cases h
            · rw [if_neg h121] at h; cases h
          · rw [if_neg h120] at h; cases h
        · rw [if_neg h119] at h
          by_cases h127 : 0 < v_v213.length ∧ (v_s210.length + v_v213.length) ≤ v_C211 ∧ (wi .i64 ((v_s210.length : Int) + (v_v213.length : Int))) = (((v_s210.length + v_v213.length) : Nat) : Int)
          · rw [if_pos h127] at h
            by_cases h128 : (wi .i64 (v_i212 + (v_v213.length : Int))) = (((v_i212.toNat + v_v213.length) : Nat) : Int) ∧ (v_i212.toNat + v_v213.length) ≤ (v_s210.length + v_v213.length)
            · rw [if_pos h128] at h
              by_cases h132 : (wi .i64 (v_i212 + (v_v213.length : Int))) = (((v_i212.toNat + v_v213.length) : Nat) : Int) ∧ (v_i212.toNat + v_v213.length) ≤ (v_s210.length + v_v213.length)
              · rw [if_pos h132] at h
                by_cases h133 : 0 ≤ v_i212 ∧ v_i212 ≤ (((v_s210.length + v_v213.length) : Nat) : Int)
                · rw [if_pos h133] at h
                  by_cases h134 : 0 ≤ v_i212 ∧ v_i212 ≤ (((v_s210.length + v_v213.length) : Nat) : Int)
                  · rw [if_pos h134] at h
                    obtain rfl := Option.some.inj h
                    exact pendH_sound TTok mix 37 (hs := [.e 17 [0] (.ssl 0 v_i212.toNat v_s210.length 1) [], .u (.d (.v (.int .i64 (v_v213.length : Int)))), .t false, .e 52 [0] (.d (.v (.int .i64 (v_s210.length : Int)))) [], .t false, .e 97 [0] (.d (.v (.int .i64 (v_C211 : Int)))) [], .t false, .e 127 [0] (.ssl 0 0 (v_s210.length + v_v213.length) 1) [(0, .cu (rowH 3 1 v_C211 (v_s210.map (eI .i64)) v_v213.length (([] : List Int).map (eI .i64))) [])], .e 162 [0] (.ssl 0 (v_i212.toNat + v_v213.length) (v_s210.length + v_v213.length) 1) [], .e 167 [0] (.d (.v (.bool false))) [], .c, .e 197 [0] (.ssl 0 (v_i212.toNat + v_v213.length) (v_s210.length + v_v213.length) 1) [], .e 212 [0] (.ssl 0 v_i212.toNat (v_s210.length + v_v213.length) 1) [], .e 217 [0] (.d (.v (.int .i64 ((v_s210.length - v_i212.toNat : Nat) : Int)))) [(0, .cu (rowH 3 1 v_C211 ((v_s210.take v_i212.toNat).map (eI .i64)) v_v213.length ((v_s210.drop v_i212.toNat).map (eI .i64))) [])], .e 232 [0] (.ssl 0 v_i212.toNat (v_s210.length + v_v213.length) 1) [], .e 242 [0] (.d (.v (.int .i64 (v_v213.length : Int)))) [(0, .cu (rowH 3 1 v_C211 (((v_s210.take v_i212.toNat) ++ v_v213 ++ (v_s210.drop v_i212.toNat)).map (eI .i64)) 0 (([] : List Int).map (eI .i64))) [])], .e 247 [0, 247] (.srf 247) [(0, .none), (247, .row 3 1 (((v_s210.take v_i212.toNat) ++ v_v213 ++ (v_s210.drop v_i212.toNat)).map (eI .i64)))]]) [0, 247] (by kernel_rfl) (by kernel_rfl) (by kernel_rfl) (.cons (ext_same (yc10 (P := Try.prog) (T := TT) (f := (eI .i64)) (t := 39) (e := 3) (s := 1) (l := 0) (L := v_s210) (x := (.tmp 10)) (C := v_C211) (lo := (.tmp 11)) (A := v_i212) (ka := .i64) (by kernel_rfl) h105.1 h105.2)) (.cons (len_ob (f := (eI .i64)) (l := v_v213)) (.cons (bf h106) (.cons (ylen (P := Try.prog) (T := TT) (f := (eI .i64)) (t := 39) (e := 3) (s := 1) (l := 0) (L := v_s210) (C := v_C211) (x := (.tmp 18)) (by kernel_rfl)) (.cons (bf h109) (.cons (ycap (P := Try.prog) (T := TT) (f := (eI .i64)) (t := 39) (e := 3) (s := 1) (l := 0) (L := v_s210) (C := v_C211) (x := (.tmp 29)) (by kernel_rfl)) (.cons (df h119) (.cons (ycup (P := Try.prog) (T := TT) (f := (eI .i64)) (t := 39) (e := 3) (s := 1) (l := 0) (L := v_s210) (x := (.tmp 56)) (C := v_C211) (m := v_v213.length) (hi := (.tmp 59)) (B := (wi .i64 ((v_s210.length : Int) + (v_v213.length : Int)))) (kb := .i64) (by kernel_rfl) h127.1 h127.2.1 h127.2.2) (.cons (ext_same (yh10q (P := Try.prog) (T := TT) (f := (eI .i64)) (t := 39) (e := 3) (s := 1) (l := 0) (L := v_s210) (x := (.tmp 62)) (C := v_C211) (m := v_v213.length) (k := (v_s210.length + v_v213.length)) (Z := ([] : List Int)) (q := (v_i212.toNat + v_v213.length)) (lo := (.tmp 65)) (A := (wi .i64 (v_i212 + (v_v213.length : Int)))) (ka := .i64) (by kernel_rfl) (by simp only [List.length_take, List.length_drop, List.length_nil]; omega) h128.1 h128.2)) (.cons (yov (P := Try.prog) (T := TT) (f := (eI .i64)) (t := 39) (e := 3) (s := 1) (l := 0) (L := v_s210) (Y := v_v213) (Z := ([] : List Int)) (m := v_v213.length) (C := v_C211) (i := (v_i212.toNat + v_v213.length)) (j := (v_s210.length + v_v213.length)) (x := (.tmp 61)) (y := (.tmp 66)) (g := 103) (fn := Try.f103) (tR := 4) (tys := #[39, 39]) (by kernel_rfl) (by kernel_rfl) (by kernel_rfl) (by kernel_rfl) (by kernel_rfl) (by kernel_rfl) (by decide) (fun _ => rfl)) (.cons (ext_same (yh10q (P := Try.prog) (T := TT) (f := (eI .i64)) (t := 39) (e := 3) (s := 1) (l := 0) (L := v_s210) (x := (.tmp 69)) (C := v_C211) (m := v_v213.length) (k := (v_s210.length + v_v213.length)) (Z := ([] : List Int)) (q := (v_i212.toNat + v_v213.length)) (lo := (.tmp 72)) (A := (wi .i64 (v_i212 + (v_v213.length : Int)))) (ka := .i64) (by kernel_rfl) (by simp only [List.length_take, List.length_drop, List.length_nil]; omega) h132.1 h132.2)) (.cons (ext_same (yh10 (P := Try.prog) (T := TT) (f := (eI .i64)) (t := 39) (e := 3) (s := 1) (l := 0) (L := v_s210) (x := (.tmp 74)) (C := v_C211) (m := v_v213.length) (k := (v_s210.length + v_v213.length)) (Y := ([] : List Int)) (lo := (.tmp 75)) (A := v_i212) (ka := .i64) (by kernel_rfl) (by simp only [List.length_take, List.length_drop, List.length_nil]; omega) h133)) (.cons (ycpS (P := Try.prog) (T := TT) (f := (eI .i64)) (t := 39) (t' := 39) (e := 3) (s := 1) (l := 0) (x := (.tmp 73)) (y := (.tmp 76)) (ti := ⟨1, 8, .int .i64, [.i .i64]⟩) (L := v_s210) (i := v_i212.toNat) (m := v_v213.length) (C := v_C211) (by kernel_rfl) (by kernel_rfl) (by omega)) (.cons (ext_same (yh10 (P := Try.prog) (T := TT) (f := (eI .i64)) (t := 39) (e := 3) (s := 1) (l := 0) (L := (v_s210.take v_i212.toNat)) (x := (.tmp 78)) (C := v_C211) (m := v_v213.length) (k := (v_s210.length + v_v213.length)) (Y := (v_s210.drop v_i212.toNat)) (lo := (.tmp 79)) (A := v_i212) (ka := .i64) (by kernel_rfl) (by simp only [List.length_take, List.length_drop, List.length_nil]; omega) h134)) (.cons (ycpD (P := Try.prog) (T := TT) (f := (eI .i64)) (t := 39) (t' := 39) (e := 3) (s := 1) (l := 0) (x := (.tmp 80)) (y := (.tmp 81)) (ti := ⟨1, 8, .int .i64, [.i .i64]⟩) (L := (v_s210.take v_i212.toNat)) (Y := v_v213) (Z := (v_s210.drop v_i212.toNat)) (i := v_i212.toNat) (k := (v_s210.length + v_v213.length)) (m := v_v213.length) (C := v_C211) (by kernel_rfl) (by kernel_rfl) (by simp only [List.length_take, List.length_drop, List.length_nil]; omega) (by simp only [List.length_take, List.length_drop, List.length_nil]; omega) rfl (by omega) (fun _ => rfl)) (.cons (ymvH (L := ((v_s210.take v_i212.toNat) ++ v_v213 ++ (v_s210.drop v_i212.toNat))) (C := v_C211) (k := (v_s210.length + v_v213.length)) (P := Try.prog) (T := TT) (f := (eI .i64)) (e := 3) (s := 1) (l := 0) (nl := 247) (x := (.tmp 0)) (by simp only [List.length_append, List.length_take, List.length_drop]; omega)) .nil))))))))))))))))
                  · rw [if_neg h134] at h; cases h
                · rw [if_neg h133] at h; cases h
              · rw [if_neg h132] at h; cases h
            · rw [if_neg h128] at h; cases h
          · rw [if_neg h127] at h; cases h
  · rw [if_neg h105] at h; cases h
def G_slices_Insert_int_int_h (n : Nat) (s : (List Int)) (i : Int) (v : (List Int)) : Option (List Int) := insI 8 s i v
theorem G_slices_Insert_int_int_h_all (C n : Nat) (s : (List Int)) (i : Int) (v r : (List Int)) (h1 : s.length ≤ C) (h2 : C ≤ maxLen) (h : G_slices_Insert_int_int_h n s i v = some r) : G_slices_Insert_int_int_hC n C s i v = some r := by
  unfold G_slices_Insert_int_int_h insI at h
  split at h
  · rename_i c
    obtain ⟨c1, c2, c3, c4⟩ := c
    obtain rfl := Option.some.inj h
    obtain ⟨i, rfl⟩ := Int.eq_ofNat_of_zero_le c1
    simp only [Int.toNat_natCast]
    have hi : i ≤ s.length := by omega
    have w1 : wi .i64 ((s.length : Int) + (v.length : Int)) = ((s.length + v.length : Nat) : Int) := by rw [wi, IntKind.wrap_i64]; omega
    have w2 : wi .i64 ((i : Int) + (v.length : Int)) = ((i + v.length : Nat) : Int) := by rw [wi, IntKind.wrap_i64]; omega
    have w3 : wi .i64 (((s.length + v.length : Nat) : Int) - (i : Int)) = ((s.length + v.length - i : Nat) : Int) := by rw [wi, IntKind.wrap_i64]; omega
    unfold G_slices_Insert_int_int_hC
    rw [if_pos ⟨⟨by omega, by omega⟩, h1⟩]
    by_cases hm : (v.length : Int) = 0
    · rw [if_pos hm]
      have : v = [] := List.eq_nil_of_length_eq_zero (by omega)
      subst this; simp
    · rw [if_neg hm]
      by_cases he : (i : Int) = (s.length : Int)
      · rw [if_pos he]
        have e : i = s.length := by omega
        subst e
        unfold app
        rw [if_pos ⟨by unfold maxLen; omega, c4⟩]
        simp
      · rw [if_neg he, w1]
        by_cases hg : ((s.length + v.length : Nat) : Int) > (C : Int)
        · rw [if_pos hg, w3]
          simp only [Int.toNat_natCast]
          have hl : (s.take i ++ List.replicate (s.length + v.length - i) 0).length = s.length + v.length := by simp; omega
          rw [if_pos ⟨⟨by omega, by omega⟩, h1⟩, if_pos ⟨trivial, hi, by omega, by omega, by unfold maxLen; omega, by rw [show i + (s.length + v.length - i) = s.length + v.length by omega]; exact c4⟩, w2]
          simp only [Int.toNat_natCast]
          rw [if_pos ⟨by omega, by rw [hl]; omega⟩, if_pos (Nat.le_refl _)]
          have hl2 : (cpyR (s.take i ++ List.replicate (s.length + v.length - i) 0) i (s.take i ++ List.replicate (s.length + v.length - i) 0).length v).length = s.length + v.length := by
            unfold cpyR
            rw [hl]
            rcases Nat.le_total v.length (s.length + v.length - i) with h' | h'
            · rw [show Nat.min v.length (s.length + v.length - i) = v.length from Nat.min_eq_left h']; simp; omega
            · rw [show Nat.min v.length (s.length + v.length - i) = s.length + v.length - i from Nat.min_eq_right h']; simp; omega
          rw [if_pos ⟨by omega, by rw [hl2]; omega⟩, if_pos ⟨⟨by omega, by omega⟩, h1⟩, if_pos ⟨Nat.le_refl _, Nat.le_refl _⟩]
          rw [ins_grow hi rfl]
        · rw [if_neg hg, w2]
          simp only [Int.toNat_natCast]
          rw [if_pos ⟨by omega, by omega, trivial⟩, if_pos ⟨trivial, by omega⟩, if_pos ⟨trivial, by omega⟩, if_pos ⟨by omega, by omega⟩, if_pos ⟨by omega, by omega⟩]
  · cases h
theorem G_slices_Insert_int_int_h_ok (n : Nat) (s : (List Int)) (i : Int) (v r : (List Int)) (h : G_slices_Insert_int_int_h n s i v = some r) : RetH Try.prog 78 [.srf 0, .d (.v (.int .i64 i)), .d ((eL (eI .i64)) v)] [.row 3 1 (s.map (eI .i64))] (.srf 1) [.none, .row 3 1 (r.map (eI .i64))] :=
  retH_cap ⟨Try.f78, by kernel_rfl, by kernel_rfl, by kernel_rfl⟩ (fun C h1 h2 => G_slices_Insert_int_int_hC_ok n C s i v r (G_slices_Insert_int_int_h_all C n s i v r (by simpa using h1) h2 h))
inductive G_slices_IndexFunc_slab_Box_slab_Box_L1_R where
  | x0 (v_x308 : Int)
  | x1 
def G_slices_IndexFunc_slab_Box_slab_Box_L1_ex : G_slices_IndexFunc_slab_Box_slab_Box_L1_R → Ex
  | .x0 _ => .ret
  | .x1  => .exit 0
def G_slices_IndexFunc_slab_Box_slab_Box_L1_st (v_s298 : (List S_slab_Box)) (v_f299 : (S_slab_Box → Option (Bool))) (v_f299_g : FuncId) (v_f299_c : (List PV)) : G_slices_IndexFunc_slab_Box_slab_Box_L1_R → PS
  | .x0 v_x308 => ⟨[dd, dd, dd, dd, .d (.v (.int .i64 v_x308)), dd, dd, dd, dd, dd, dd, dd, dd, dd, dd, dd, dd, dd, dd], []⟩
  | .x1  => ⟨[dd, dd, dd, dd, dd, dd, dd, dd, dd, dd, dd, dd, dd, dd, dd, dd, dd, dd, dd], []⟩
def G_slices_IndexFunc_slab_Box_slab_Box_L1_hd (v_s298 : (List S_slab_Box)) (v_f299 : (S_slab_Box → Option (Bool))) (v_f299_g : FuncId) (v_f299_c : (List PV)) (v_x302 : Int) : PS := ⟨[.d (.sl (v_s298.map eS_slab_Box)), .d (.clo v_f299_g v_f299_c), dd, dd, dd, dd, dd, .d (.v (.int .i64 (v_s298.length : Int))), .d (.v (.int .i64 v_x302)), dd, dd, dd, dd, dd, dd, dd, dd, dd, dd], []⟩
def G_slices_IndexFunc_slab_Box_slab_Box_L1 (n : Nat) (v_s298 : (List S_slab_Box)) (v_f299 : (S_slab_Box → Option (Bool))) : Nat → Int → Option G_slices_IndexFunc_slab_Box_slab_Box_L1_R
  | 0, _ => none
  | k + 1, v_x302 =>
    if v_x302 < (v_s298.length : Int) then
     (getI v_s298 v_x302).bind fun (v_y306 : S_slab_Box) =>
     (v_f299 v_y306).bind fun (v_r307 : (Bool)) =>
     if v_r307 = true then
      some (.x0 v_x302)
     else
      G_slices_IndexFunc_slab_Box_slab_Box_L1 n v_s298 v_f299 k (wi .i64 (v_x302 + 1))
    else
     some (.x1 )
theorem G_slices_IndexFunc_slab_Box_slab_Box_L1_ok {Fi : Ex → PS → Prop} (hF : KC 19 Fi) (ks : List Fr) (n : Nat) (v_s298 : (List S_slab_Box)) (v_f299 : (S_slab_Box → Option (Bool))) (v_f299_g : FuncId) (v_f299_c : (List PV)) (v_f299_h : ∀ (x0 : S_slab_Box) (r : Bool), v_f299 x0 = some r → Ret Try.prog v_f299_g ([eS_slab_Box x0] ++ v_f299_c) (eB r)) : ∀ (k : Nat) (v_x302 : Int) (o : G_slices_IndexFunc_slab_Box_slab_Box_L1_R), G_slices_IndexFunc_slab_Box_slab_Box_L1 n v_s298 v_f299 k v_x302 = some o → RunE Try.prog 19 Fi ks (G_slices_IndexFunc_slab_Box_slab_Box_L1_ex o) (G_slices_IndexFunc_slab_Box_slab_Box_L1_st v_s298 v_f299 v_f299_g v_f299_c o) → RunE Try.prog 19 Fi (.l k (cP (cB (cR (cL (cR (bodyOf Try.f105)))))) :: ks) .normal (G_slices_IndexFunc_slab_Box_slab_Box_L1_hd v_s298 v_f299 v_f299_g v_f299_c v_x302)
  | 0, v_x302, o, h, q => by rw [G_slices_IndexFunc_slab_Box_slab_Box_L1] at h; cases h
  | k + 1, v_x302, o, h, q => by
    rw [G_slices_IndexFunc_slab_Box_slab_Box_L1] at h
    by_cases h157 : v_x302 < (v_s298.length : Int)
    · rw [if_pos h157] at h
      obtain ⟨v_y306, h161, h⟩ := bind_some h
      obtain ⟨v_r307, h162, h⟩ := bind_some h
      by_cases h163 : v_r307 = true
      · rw [if_pos h163] at h
        cases h
        exact pkk_sound TTok mix hF 19 (hs := [.t true, .y (eS_slab_Box v_y306), .r (eB v_r307), .t true]) (ts := []) (s := []) (l := [4]) (by kernel_rfl) (by kernel_rfl) (.cons (dt h157) (.cons (getI_ob (f := eS_slab_Box) h161) (.cons (v_f299_h v_y306 _ h162) (.cons h163 .nil)))) q
      · rw [if_neg h163] at h
        exact pkk_sound TTok mix hF 16 (hs := [.t true, .y (eS_slab_Box v_y306), .r (eB v_r307), .t false]) (ts := []) (s := []) (l := [0, 1, 7, 8]) (by kernel_rfl) (by kernel_rfl) (.cons (dt h157) (.cons (getI_ob (f := eS_slab_Box) h161) (.cons (v_f299_h v_y306 _ h162) (.cons (vf h163) .nil)))) (G_slices_IndexFunc_slab_Box_slab_Box_L1_ok hF ks n v_s298 v_f299 v_f299_g v_f299_c v_f299_h k (wi .i64 (v_x302 + 1)) _ h q)
    · rw [if_neg h157] at h
      cases h
      exact pkk_sound TTok mix hF 8 (hs := [.t false]) (ts := []) (s := []) (l := []) (by kernel_rfl) (by kernel_rfl) (.cons (df h157) .nil) q
/- slices.IndexFunc[[]ringhall/slab.Box,ringhall/slab.Box] -/
def G_slices_IndexFunc_slab_Box_slab_Box (n : Nat) (v_s298 : (List S_slab_Box)) (v_f299 : (S_slab_Box → Option (Bool))) : Option (Int) :=
  (G_slices_IndexFunc_slab_Box_slab_Box_L1 n v_s298 v_f299 n 0).bind fun v_o309 => match v_o309 with
  | .x0 v_z310 =>
    some v_z310
  | .x1  =>
    some (-1)
theorem G_slices_IndexFunc_slab_Box_slab_Box_ok (n : Nat) (v_s298 : (List S_slab_Box)) (v_f299 : (S_slab_Box → Option (Bool))) (v_f299_g : FuncId) (v_f299_c : List PV) (v_f299_h : ∀ (x0 : S_slab_Box) (r : Bool), v_f299 x0 = some r → Ret Try.prog v_f299_g ([eS_slab_Box x0] ++ v_f299_c) (eB r)) (r : Int) (h : G_slices_IndexFunc_slab_Box_slab_Box n v_s298 v_f299 = some r) : Ret Try.prog 105 [(eL eS_slab_Box) v_s298, (.clo v_f299_g v_f299_c)] ((eI .i64) r) := by
  refine ret_run (n := 19) (fn := Try.f105) (c := bodyOf Try.f105) (by kernel_rfl) (by kernel_rfl) (by kernel_rfl) (by kernel_rfl) ?_
  have hF : KC 19 (FinR Try.prog Try.f105 ((eI .i64) r)) := FinR.kc' (by kernel_rfl)
  unfold G_slices_IndexFunc_slab_Box_slab_Box at h
  obtain ⟨v_o309, h164, h⟩ := bind_some h
  refine pkk_sound TTok mix hF 7 (hs := [.u (.d (.v (.int .i64 (v_s298.length : Int)))), .n n]) (ts := []) (s := []) (l := [0, 1, 7, 8]) (by kernel_rfl) (by kernel_rfl) (.cons (len_ob (f := eS_slab_Box) (l := v_s298)) .nil) (G_slices_IndexFunc_slab_Box_slab_Box_L1_ok hF (.b 0 :: .s (cR (cR (bodyOf Try.f105))) :: []) n v_s298 v_f299 v_f299_g v_f299_c v_f299_h n 0 _ h164 ?_)
  cases v_o309 with
  | x0 v_z310 =>
    try dsimp only at h
    obtain rfl := Option.some.inj h
    exact pend_sound TTok mix 2 (hs := []) (by kernel_rfl) (by kernel_rfl) (by kernel_rfl) .nil
  | x1  =>
    try dsimp only at h
    obtain rfl := Option.some.inj h
    exact pend_sound TTok mix 4 (hs := []) (by kernel_rfl) (by kernel_rfl) (by kernel_rfl) .nil
/- slices.ContainsFunc[[]ringhall/slab.Box,ringhall/slab.Box] -/
def G_slices_ContainsFunc_slab_Box_slab_Box (n : Nat) (v_s296 : (List S_slab_Box)) (v_f297 : (S_slab_Box → Option (Bool))) : Option (Bool) :=
  (G_slices_IndexFunc_slab_Box_slab_Box n v_s296 v_f297).bind fun (v_r311 : (Int)) =>
  some (decide (v_r311 ≥ 0))
theorem G_slices_ContainsFunc_slab_Box_slab_Box_ok (n : Nat) (v_s296 : (List S_slab_Box)) (v_f297 : (S_slab_Box → Option (Bool))) (v_f297_g : FuncId) (v_f297_c : List PV) (v_f297_h : ∀ (x0 : S_slab_Box) (r : Bool), v_f297 x0 = some r → Ret Try.prog v_f297_g ([eS_slab_Box x0] ++ v_f297_c) (eB r)) (r : Bool) (h : G_slices_ContainsFunc_slab_Box_slab_Box n v_s296 v_f297 = some r) : Ret Try.prog 79 [(eL eS_slab_Box) v_s296, (.clo v_f297_g v_f297_c)] (eB r) := by
  refine ret_run (n := 9) (fn := Try.f79) (c := bodyOf Try.f79) (by kernel_rfl) (by kernel_rfl) (by kernel_rfl) (by kernel_rfl) ?_
  have hF : KC 9 (FinR Try.prog Try.f79 (eB r)) := FinR.kc' (by kernel_rfl)
  unfold G_slices_ContainsFunc_slab_Box_slab_Box at h
  obtain ⟨v_r311, h165, h⟩ := bind_some h
  obtain rfl := Option.some.inj h
  exact pend_sound TTok mix 5 (hs := [.r ((eI .i64) v_r311)]) (by kernel_rfl) (by kernel_rfl) (by kernel_rfl) (.cons (G_slices_IndexFunc_slab_Box_slab_Box_ok n v_s296 v_f297 v_f297_g v_f297_c v_f297_h _ h165) .nil)
/- ringhall/slab.Take$1 -/
def G_slab_Take_1 (n : Nat) (v_b312 : S_slab_Box) (v_c313 : Int) : Option (Bool) :=
  some (v_b312.fFrame == v_c313)
theorem G_slab_Take_1_ok (n : Nat) (v_b312 : S_slab_Box) (v_c313 : Int) (r : Bool) (h : G_slab_Take_1 n v_b312 v_c313 = some r) : Ret Try.prog 80 [eS_slab_Box v_b312, .iptr [.v (.int .i64 v_c313)] 0] (eB r) := by
  refine ret_run (n := 8) (fn := Try.f80) (c := bodyOf Try.f80) (by kernel_rfl) (by kernel_rfl) (by kernel_rfl) (by kernel_rfl) ?_
  have hF : KC 8 (FinR Try.prog Try.f80 (eB r)) := FinR.kc' (by kernel_rfl)
  unfold G_slab_Take_1 at h
  obtain rfl := Option.some.inj h
  exact pend_sound TTok mix 5 (hs := [.c, .c]) (by kernel_rfl) (by kernel_rfl) (by kernel_rfl) .nil
/- slices.Insert[[]ringhall/slab.Box,ringhall/slab.Box] -/
def G_slices_Insert_slab_Box_slab_Box_hC (n : Nat) (v_C387 : Nat) (v_s386 : (List S_slab_Box)) (v_i388 : Int) (v_v389 : (List S_slab_Box)) : Option ((List S_slab_Box)) :=
  if (0 ≤ v_i388 ∧ v_i388 ≤ (v_s386.length : Int)) ∧ v_s386.length ≤ v_C387 then
   if (v_v389.length : Int) = 0 then
    some v_s386
   else
    if v_i388 = (v_s386.length : Int) then
     (app 32 v_s386 v_v389).bind fun (v_a391 : (List S_slab_Box)) =>
     some v_a391
    else
     if (wi .i64 ((v_s386.length : Int) + (v_v389.length : Int))) > (v_C387 : Int) then
      if (0 ≤ v_i388 ∧ v_i388 ≤ (v_s386.length : Int)) ∧ v_s386.length ≤ v_C387 then
       if (wi .i64 ((wi .i64 ((v_s386.length : Int) + (v_v389.length : Int))) - v_i388)) = (((v_s386.length + v_v389.length - v_i388.toNat) : Nat) : Int) ∧ v_i388.toNat ≤ v_s386.length ∧ 0 < (v_s386.length + v_v389.length - v_i388.toNat) ∧ v_C387 < v_i388.toNat + (v_s386.length + v_v389.length - v_i388.toNat) ∧ v_i388.toNat + (v_s386.length + v_v389.length - v_i388.toNat) ≤ maxLen ∧ (v_i388.toNat + (v_s386.length + v_v389.length - v_i388.toNat)) * 32 ≤ 140737488355328 then
        if ((0 : Int) ≤ v_i388 ∧ v_i388 ≤ ((v_s386.take v_i388.toNat ++ List.replicate (v_s386.length + v_v389.length - v_i388.toNat) (S_slab_Box.mk 0 [])).length : Int)) then
         if (v_s386.take v_i388.toNat ++ List.replicate (v_s386.length + v_v389.length - v_i388.toNat) (S_slab_Box.mk 0 [])).length ≤ (v_s386.take v_i388.toNat ++ List.replicate (v_s386.length + v_v389.length - v_i388.toNat) (S_slab_Box.mk 0 [])).length then
          if ((0 : Int) ≤ (wi .i64 (v_i388 + (v_v389.length : Int))) ∧ (wi .i64 (v_i388 + (v_v389.length : Int))) ≤ ((cpyR (v_s386.take v_i388.toNat ++ List.replicate (v_s386.length + v_v389.length - v_i388.toNat) (S_slab_Box.mk 0 [])) v_i388.toNat ((v_s386.take v_i388.toNat ++ List.replicate (v_s386.length + v_v389.length - v_i388.toNat) (S_slab_Box.mk 0 [])).length) v_v389).length : Int)) then
           if (0 ≤ v_i388 ∧ v_i388 ≤ (v_s386.length : Int)) ∧ v_s386.length ≤ v_C387 then
            if (cpyR (v_s386.take v_i388.toNat ++ List.replicate (v_s386.length + v_v389.length - v_i388.toNat) (S_slab_Box.mk 0 [])) v_i388.toNat ((v_s386.take v_i388.toNat ++ List.replicate (v_s386.length + v_v389.length - v_i388.toNat) (S_slab_Box.mk 0 [])).length) v_v389).length ≤ (cpyR (v_s386.take v_i388.toNat ++ List.replicate (v_s386.length + v_v389.length - v_i388.toNat) (S_slab_Box.mk 0 [])) v_i388.toNat ((v_s386.take v_i388.toNat ++ List.replicate (v_s386.length + v_v389.length - v_i388.toNat) (S_slab_Box.mk 0 [])).length) v_v389).length ∧ v_s386.length ≤ v_s386.length then
             some (cpyR (cpyR (v_s386.take v_i388.toNat ++ List.replicate (v_s386.length + v_v389.length - v_i388.toNat) (S_slab_Box.mk 0 [])) v_i388.toNat ((v_s386.take v_i388.toNat ++ List.replicate (v_s386.length + v_v389.length - v_i388.toNat) (S_slab_Box.mk 0 [])).length) v_v389) ((wi .i64 (v_i388 + (v_v389.length : Int))).toNat) ((cpyR (v_s386.take v_i388.toNat ++ List.replicate (v_s386.length + v_v389.length - v_i388.toNat) (S_slab_Box.mk 0 [])) v_i388.toNat ((v_s386.take v_i388.toNat ++ List.replicate (v_s386.length + v_v389.length - v_i388.toNat) (S_slab_Box.mk 0 [])).length) v_v389).length) ((v_s386.take v_s386.length).drop v_i388.toNat))
            else none
           else none
          else none
         else none
        else none
       else none
      else none
     else
      if 0 < v_v389.length ∧ (v_s386.length + v_v389.length) ≤ v_C387 ∧ (wi .i64 ((v_s386.length : Int) + (v_v389.length : Int))) = (((v_s386.length + v_v389.length) : Nat) : Int) then
       if (wi .i64 (v_i388 + (v_v389.length : Int))) = (((v_i388.toNat + v_v389.length) : Nat) : Int) ∧ (v_i388.toNat + v_v389.length) ≤ (v_s386.length + v_v389.length) then
        if (wi .i64 (v_i388 + (v_v389.length : Int))) = (((v_i388.toNat + v_v389.length) : Nat) : Int) ∧ (v_i388.toNat + v_v389.length) ≤ (v_s386.length + v_v389.length) then
         if 0 ≤ v_i388 ∧ v_i388 ≤ (((v_s386.length + v_v389.length) : Nat) : Int) then
          if 0 ≤ v_i388 ∧ v_i388 ≤ (((v_s386.length + v_v389.length) : Nat) : Int) then
           some ((v_s386.take v_i388.toNat) ++ v_v389 ++ (v_s386.drop v_i388.toNat))
          else none
         else none
        else none
       else none
      else none
  else none
theorem G_slices_Insert_slab_Box_slab_Box_hC_ok (n : Nat) (v_C387 : Nat) (v_s386 : (List S_slab_Box)) (v_i388 : Int) (v_v389 : (List S_slab_Box)) (r : (List S_slab_Box)) (h : G_slices_Insert_slab_Box_slab_Box_hC n v_C387 v_s386 v_i388 v_v389 = some r) : RetH Try.prog 81 [.srf 0, .d ((eI .i64) v_i388), .d ((eL eS_slab_Box) v_v389)] [.cu (rowC 136 2 v_C387 (v_s386.map eS_slab_Box)) []] (.srf 1) [.none, .row 136 2 (r.map eS_slab_Box)] := by
  refine retH_run (n := 95) (fn := Try.f81) (c := bodyOf Try.f81) (by kernel_rfl) (by kernel_rfl) (by kernel_rfl) (by kernel_rfl) ?_
  have hF : KC 95 (FinH Try.prog Try.f81 [.cu (rowC 136 2 v_C387 (v_s386.map eS_slab_Box)) []] (.srf 1) [.none, .row 136 2 (r.map eS_slab_Box)]) := FinH.kc' (by kernel_rfl)
  unfold G_slices_Insert_slab_Box_slab_Box_hC at h
  by_cases h177 : (0 ≤ v_i388 ∧ v_i388 ≤ (v_s386.length : Int)) ∧ v_s386.length ≤ v_C387
  · rw [if_pos h177] at h
    by_cases h178 : (v_v389.length : Int) = 0
    · rw [if_pos h178] at h
      obtain rfl := Option.some.inj h
      exact pendH_sound TTok mix 14 (hs := [.e 17 [0] (.ssl 0 v_i388.toNat v_s386.length 2) [], .u (.d (.v (.int .i64 (v_v389.length : Int)))), .t true, .e 47 [0, 47] (.srf 47) [(0, .none), (47, .row 136 2 (v_s386.map eS_slab_Box))]]) [0, 47] (by kernel_rfl) (by kernel_rfl) (by kernel_rfl) (.cons (ext_same (yc10 (P := Try.prog) (T := TT) (f := eS_slab_Box) (t := 76) (e := 136) (s := 2) (l := 0) (L := v_s386) (x := (.tmp 10)) (C := v_C387) (lo := (.tmp 11)) (A := v_i388) (ka := .i64) (by kernel_rfl) h177.1 h177.2)) (.cons (len_ob (f := eS_slab_Box) (l := v_v389)) (.cons (bt h178) (.cons (ymv (L := v_s386) (C := v_C387) (P := Try.prog) (T := TT) (f := eS_slab_Box) (e := 136) (s := 2) (l := 0) (nl := 47) (x := (.tmp 0)) (by decide)) .nil))))
    · rw [if_neg h178] at h
      by_cases h181 : v_i388 = (v_s386.length : Int)
      · rw [if_pos h181] at h
        obtain ⟨v_a391, h182, h⟩ := bind_some h
        obtain rfl := Option.some.inj h
        exact pendH_sound TTok mix 21 (hs := [.e 17 [0] (.ssl 0 v_i388.toNat v_s386.length 2) [], .u (.d (.v (.int .i64 (v_v389.length : Int)))), .t false, .e 52 [0] (.d (.v (.int .i64 (v_s386.length : Int)))) [], .t true, .e 87 [0, 87] (.srf 87) [(0, .none), (87, .row 136 2 (v_a391.map eS_slab_Box))]]) [0, 87] (by kernel_rfl) (by kernel_rfl) (by kernel_rfl) (.cons (ext_same (yc10 (P := Try.prog) (T := TT) (f := eS_slab_Box) (t := 76) (e := 136) (s := 2) (l := 0) (L := v_s386) (x := (.tmp 10)) (C := v_C387) (lo := (.tmp 11)) (A := v_i388) (ka := .i64) (by kernel_rfl) h177.1 h177.2)) (.cons (len_ob (f := eS_slab_Box) (l := v_v389)) (.cons (bf h178) (.cons (ylen (P := Try.prog) (T := TT) (f := eS_slab_Box) (t := 76) (e := 136) (s := 2) (l := 0) (L := v_s386) (C := v_C387) (x := (.tmp 18)) (by kernel_rfl)) (.cons (bt h181) (.cons (yapp (P := Try.prog) (T := TT) (f := eS_slab_Box) (t := 76) (e := 136) (s := 2) (l := 0) (nl := 87) (C := v_C387) (x := (.tmp 23)) (y := (.tmp 24)) (ti := ⟨2, 32, .st [(0, 3), (1, 39)], [.i .i64, .sl]⟩) (by kernel_rfl) h182 (by kernel_rfl) (by kernel_rfl) (by decide) (fun _ => rfl) (by decide)) .nil))))))
      · rw [if_neg h181] at h
        by_cases h191 : (wi .i64 ((v_s386.length : Int) + (v_v389.length : Int))) > (v_C387 : Int)
        · rw [if_pos h191] at h
          by_cases h192 : (0 ≤ v_i388 ∧ v_i388 ≤ (v_s386.length : Int)) ∧ v_s386.length ≤ v_C387
          · rw [if_pos h192] at h
            by_cases h193 : (wi .i64 ((wi .i64 ((v_s386.length : Int) + (v_v389.length : Int))) - v_i388)) = (((v_s386.length + v_v389.length - v_i388.toNat) : Nat) : Int) ∧ v_i388.toNat ≤ v_s386.length ∧ 0 < (v_s386.length + v_v389.length - v_i388.toNat) ∧ v_C387 < v_i388.toNat + (v_s386.length + v_v389.length - v_i388.toNat) ∧ v_i388.toNat + (v_s386.length + v_v389.length - v_i388.toNat) ≤ maxLen ∧ (v_i388.toNat + (v_s386.length + v_v389.length - v_i388.toNat)) * 32 ≤ 140737488355328
            · rw [if_pos h193] at h
              by_cases h194 : ((0 : Int) ≤ v_i388 ∧ v_i388 ≤ ((v_s386.take v_i388.toNat ++ List.replicate (v_s386.length + v_v389.length - v_i388.toNat) (S_slab_Box.mk 0 [])).length : Int))
              · rw [if_pos h194] at h
                by_cases h195 : (v_s386.take v_i388.toNat ++ List.replicate (v_s386.length + v_v389.length - v_i388.toNat) (S_slab_Box.mk 0 [])).length ≤ (v_s386.take v_i388.toNat ++ List.replicate (v_s386.length + v_v389.length - v_i388.toNat) (S_slab_Box.mk 0 [])).length
                · rw [if_pos h195] at h
                  by_cases h196 : ((0 : Int) ≤ (wi .i64 (v_i388 + (v_v389.length : Int))) ∧ (wi .i64 (v_i388 + (v_v389.length : Int))) ≤ ((cpyR (v_s386.take v_i388.toNat ++ List.replicate (v_s386.length + v_v389.length - v_i388.toNat) (S_slab_Box.mk 0 [])) v_i388.toNat ((v_s386.take v_i388.toNat ++ List.replicate (v_s386.length + v_v389.length - v_i388.toNat) (S_slab_Box.mk 0 [])).length) v_v389).length : Int))
                  · rw [if_pos h196] at h
                    by_cases h197 : (0 ≤ v_i388 ∧ v_i388 ≤ (v_s386.length : Int)) ∧ v_s386.length ≤ v_C387
                    · rw [if_pos h197] at h
                      by_cases h198 : (cpyR (v_s386.take v_i388.toNat ++ List.replicate (v_s386.length + v_v389.length - v_i388.toNat) (S_slab_Box.mk 0 [])) v_i388.toNat ((v_s386.take v_i388.toNat ++ List.replicate (v_s386.length + v_v389.length - v_i388.toNat) (S_slab_Box.mk 0 [])).length) v_v389).length ≤ (cpyR (v_s386.take v_i388.toNat ++ List.replicate (v_s386.length + v_v389.length - v_i388.toNat) (S_slab_Box.mk 0 [])) v_i388.toNat ((v_s386.take v_i388.toNat ++ List.replicate (v_s386.length + v_v389.length - v_i388.toNat) (S_slab_Box.mk 0 [])).length) v_v389).length ∧ v_s386.length ≤ v_s386.length
                      · rw [if_pos h198] at h
                        obtain rfl := Option.some.inj h
                        exact pendH_sound TTok mix 32 (hs := [.e 17 [0] (.ssl 0 v_i388.toNat v_s386.length 2) [], .u (.d (.v (.int .i64 (v_v389.length : Int)))), .t false, .e 52 [0] (.d (.v (.int .i64 (v_s386.length : Int)))) [], .t false, .e 97 [0] (.d (.v (.int .i64 (v_C387 : Int)))) [], .t true, .e 117 [0] (.ssl 0 0 v_i388.toNat 2) [], .e 147 [0, 147] (.srf 147) [(147, .row 136 2 ((v_s386.take v_i388.toNat ++ List.replicate (v_s386.length + v_v389.length - v_i388.toNat) (S_slab_Box.mk 0 [])).map eS_slab_Box))], .e 167 [147] (.ssl 147 v_i388.toNat ((v_s386.take v_i388.toNat ++ List.replicate (v_s386.length + v_v389.length - v_i388.toNat) (S_slab_Box.mk 0 [])).length) 2) [], .e 177 [147] (.d (.v (.int .i64 ((Nat.min v_v389.length ((v_s386.take v_i388.toNat ++ List.replicate (v_s386.length + v_v389.length - v_i388.toNat) (S_slab_Box.mk 0 [])).length - v_i388.toNat) : Nat) : Int)))) [(147, .row 136 2 ((cpyR (v_s386.take v_i388.toNat ++ List.replicate (v_s386.length + v_v389.length - v_i388.toNat) (S_slab_Box.mk 0 [])) v_i388.toNat ((v_s386.take v_i388.toNat ++ List.replicate (v_s386.length + v_v389.length - v_i388.toNat) (S_slab_Box.mk 0 [])).length) v_v389).map eS_slab_Box))], .e 202 [147] (.ssl 147 ((wi .i64 (v_i388 + (v_v389.length : Int))).toNat) ((cpyR (v_s386.take v_i388.toNat ++ List.replicate (v_s386.length + v_v389.length - v_i388.toNat) (S_slab_Box.mk 0 [])) v_i388.toNat ((v_s386.take v_i388.toNat ++ List.replicate (v_s386.length + v_v389.length - v_i388.toNat) (S_slab_Box.mk 0 [])).length) v_v389).length) 2) [], .e 217 [0] (.ssl 0 v_i388.toNat v_s386.length 2) [], .e 222 [147, 0] (.d (.v (.int .i64 ((Nat.min ((v_s386.take v_s386.length).drop v_i388.toNat).length ((cpyR (v_s386.take v_i388.toNat ++ List.replicate (v_s386.length + v_v389.length - v_i388.toNat) (S_slab_Box.mk 0 [])) v_i388.toNat ((v_s386.take v_i388.toNat ++ List.replicate (v_s386.length + v_v389.length - v_i388.toNat) (S_slab_Box.mk 0 [])).length) v_v389).length - (wi .i64 (v_i388 + (v_v389.length : Int))).toNat) : Nat) : Int)))) [(147, .row 136 2 ((cpyR (cpyR (v_s386.take v_i388.toNat ++ List.replicate (v_s386.length + v_v389.length - v_i388.toNat) (S_slab_Box.mk 0 [])) v_i388.toNat ((v_s386.take v_i388.toNat ++ List.replicate (v_s386.length + v_v389.length - v_i388.toNat) (S_slab_Box.mk 0 [])).length) v_v389) ((wi .i64 (v_i388 + (v_v389.length : Int))).toNat) ((cpyR (v_s386.take v_i388.toNat ++ List.replicate (v_s386.length + v_v389.length - v_i388.toNat) (S_slab_Box.mk 0 [])) v_i388.toNat ((v_s386.take v_i388.toNat ++ List.replicate (v_s386.length + v_v389.length - v_i388.toNat) (S_slab_Box.mk 0 [])).length) v_v389).length) ((v_s386.take v_s386.length).drop v_i388.toNat)).map eS_slab_Box)), (0, .none)]]) [0, 147] (by kernel_rfl) (by kernel_rfl) (by kernel_rfl) (.cons (ext_same (yc10 (P := Try.prog) (T := TT) (f := eS_slab_Box) (t := 76) (e := 136) (s := 2) (l := 0) (L := v_s386) (x := (.tmp 10)) (C := v_C387) (lo := (.tmp 11)) (A := v_i388) (ka := .i64) (by kernel_rfl) h177.1 h177.2)) (.cons (len_ob (f := eS_slab_Box) (l := v_v389)) (.cons (bf h178) (.cons (ylen (P := Try.prog) (T := TT) (f := eS_slab_Box) (t := 76) (e := 136) (s := 2) (l := 0) (L := v_s386) (C := v_C387) (x := (.tmp 18)) (by kernel_rfl)) (.cons (bf h181) (.cons (ycap (P := Try.prog) (T := TT) (f := eS_slab_Box) (t := 76) (e := 136) (s := 2) (l := 0) (L := v_s386) (C := v_C387) (x := (.tmp 29)) (by kernel_rfl)) (.cons (dt h191) (.cons (ext_same (yc01 (P := Try.prog) (T := TT) (f := eS_slab_Box) (t := 76) (e := 136) (s := 2) (l := 0) (L := v_s386) (x := (.tmp 32)) (C := v_C387) (hi := (.tmp 33)) (B := v_i388) (kb := .i64) (by kernel_rfl) h192.1 h192.2)) (.cons (yapZ (P := Try.prog) (T := TT) (f := eS_slab_Box) (t := 76) (e := 136) (s := 2) (l := 0) (nl := 147) (C := v_C387) (i := v_i388.toNat) (k := (v_s386.length + v_v389.length - v_i388.toNat)) (L := v_s386) (x := (.tmp 34)) (y := (.tmp 39)) (ti := ⟨2, 32, .st [(0, 3), (1, 39)], [.i .i64, .sl]⟩) (tn := 3) (kn := .i64) (kq := .i64) (z := (S_slab_Box.mk 0 [])) (p := .agg [.v (.int .i64 0), .sl []]) (B := (wi .i64 ((wi .i64 ((v_s386.length : Int) + (v_v389.length : Int))) - v_i388))) (by kernel_rfl) (by kernel_rfl) (by kernel_rfl) (by kernel_rfl) (by kernel_rfl) (by decide) rfl h193.1 h193.2.1 h193.2.2.1 h193.2.2.2.1 h193.2.2.2.2.1 h193.2.2.2.2.2 (by decide)) (.cons (xs10 (P := Try.prog) (T := TT) (f := eS_slab_Box) (t := 76) (e := 136) (s := 2) (l := 147) (L := (v_s386.take v_i388.toNat ++ List.replicate (v_s386.length + v_v389.length - v_i388.toNat) (S_slab_Box.mk 0 []))) (x := (.tmp 41)) (lo := (.tmp 42)) (a := v_i388) (ka := .i64) (by kernel_rfl) h194) (.cons (xcpD (P := Try.prog) (T := TT) (f := eS_slab_Box) (t := 76) (t' := 76) (e := 136) (s := 2) (l := 147) (x := (.tmp 43)) (y := (.tmp 44)) (ti := ⟨2, 32, .st [(0, 3), (1, 39)], [.i .i64, .sl]⟩) (L := (v_s386.take v_i388.toNat ++ List.replicate (v_s386.length + v_v389.length - v_i388.toNat) (S_slab_Box.mk 0 []))) (Y := v_v389) (i := v_i388.toNat) (j := (v_s386.take v_i388.toNat ++ List.replicate (v_s386.length + v_v389.length - v_i388.toNat) (S_slab_Box.mk 0 [])).length) (by kernel_rfl) (by kernel_rfl) h195 (fun _ => rfl)) (.cons (xs10 (P := Try.prog) (T := TT) (f := eS_slab_Box) (t := 76) (e := 136) (s := 2) (l := 147) (L := (cpyR (v_s386.take v_i388.toNat ++ List.replicate (v_s386.length + v_v389.length - v_i388.toNat) (S_slab_Box.mk 0 [])) v_i388.toNat ((v_s386.take v_i388.toNat ++ List.replicate (v_s386.length + v_v389.length - v_i388.toNat) (S_slab_Box.mk 0 [])).length) v_v389)) (x := (.tmp 46)) (lo := (.tmp 49)) (a := (wi .i64 (v_i388 + (v_v389.length : Int)))) (ka := .i64) (by kernel_rfl) h196) (.cons (ext_same (yc10 (P := Try.prog) (T := TT) (f := eS_slab_Box) (t := 76) (e := 136) (s := 2) (l := 0) (L := v_s386) (x := (.tmp 51)) (C := v_C387) (lo := (.tmp 52)) (A := v_i388) (ka := .i64) (by kernel_rfl) h197.1 h197.2)) (.cons (ext_kill (l := 0) (ycpC (P := Try.prog) (T := TT) (f := eS_slab_Box) (t := 76) (t' := 76) (e := 136) (s := 2) (l := 147) (x := (.tmp 50)) (y := (.tmp 53)) (ti := ⟨2, 32, .st [(0, 3), (1, 39)], [.i .i64, .sl]⟩) (L := (cpyR (v_s386.take v_i388.toNat ++ List.replicate (v_s386.length + v_v389.length - v_i388.toNat) (S_slab_Box.mk 0 [])) v_i388.toNat ((v_s386.take v_i388.toNat ++ List.replicate (v_s386.length + v_v389.length - v_i388.toNat) (S_slab_Box.mk 0 [])).length) v_v389)) (i := (wi .i64 (v_i388 + (v_v389.length : Int))).toNat) (j := (cpyR (v_s386.take v_i388.toNat ++ List.replicate (v_s386.length + v_v389.length - v_i388.toNat) (S_slab_Box.mk 0 [])) v_i388.toNat ((v_s386.take v_i388.toNat ++ List.replicate (v_s386.length + v_v389.length - v_i388.toNat) (S_slab_Box.mk 0 [])).length) v_v389).length) (p := v_i388.toNat) (q := v_s386.length) (Y := v_s386) (l' := 0) (C := v_C387) (by kernel_rfl) (by kernel_rfl) h198.1 h198.2)) .nil))))))))))))))
                      · rw [if_neg h198] at h; cases h
                    · rw [if_neg h197] at h; cases h
                  · rw [if_neg h196] at h; cases h
                · rw [if_neg h195] at h; cases h
              · rw [if_neg h194] at h; cases h
            · rw [if_neg h193] at h; cases h
          · rw [if_neg h192] at h; cases h
        · rw [if_neg h191] at h
          by_cases h199 : 0 < v_v389.length ∧ (v_s386.length + v_v389.length) ≤ v_C387 ∧ (wi .i64 ((v_s386.length : Int) + (v_v389.length : Int))) = (((v_s386.length + v_v389.length) : Nat) : Int)
          · rw [if_pos h199] at h
            by_cases h200 : (wi .i64 (v_i388 + (v_v389.length : Int))) = (((v_i388.toNat + v_v389.length) : Nat) : Int) ∧ (v_i388.toNat + v_v389.length) ≤ (v_s386.length + v_v389.length)
            · rw [if_pos h200] at h
              by_cases h204 : (wi .i64 (v_i388 + (v_v389.length : Int))) = (((v_i388.toNat + v_v389.length) : Nat) : Int) ∧ (v_i388.toNat + v_v389.length) ≤ (v_s386.length + v_v389.length)
              · rw [if_pos h204] at h
                by_cases h205 : 0 ≤ v_i388 ∧ v_i388 ≤ (((v_s386.length + v_v389.length) : Nat) : Int)
                · rw [if_pos h205] at h
                  by_cases h206 : 0 ≤ v_i388 ∧ v_i388 ≤ (((v_s386.length + v_v389.length) : Nat) : Int)
                  · rw [if_pos h206] at h
                    obtain rfl := Option.some.inj h
                    exact pendH_sound TTok mix 37 (hs := [.e 17 [0] (.ssl 0 v_i388.toNat v_s386.length 2) [], .u (.d (.v (.int .i64 (v_v389.length : Int)))), .t false, .e 52 [0] (.d (.v (.int .i64 (v_s386.length : Int)))) [], .t false, .e 97 [0] (.d (.v (.int .i64 (v_C387 : Int)))) [], .t false, .e 127 [0] (.ssl 0 0 (v_s386.length + v_v389.length) 2) [(0, .cu (rowH 136 2 v_C387 (v_s386.map eS_slab_Box) v_v389.length (([] : List S_slab_Box).map eS_slab_Box)) [])], .e 162 [0] (.ssl 0 (v_i388.toNat + v_v389.length) (v_s386.length + v_v389.length) 2) [], .e 167 [0] (.d (.v (.bool false))) [], .c, .e 197 [0] (.ssl 0 (v_i388.toNat + v_v389.length) (v_s386.length + v_v389.length) 2) [], .e 212 [0] (.ssl 0 v_i388.toNat (v_s386.length + v_v389.length) 2) [], .e 217 [0] (.d (.v (.int .i64 ((v_s386.length - v_i388.toNat : Nat) : Int)))) [(0, .cu (rowH 136 2 v_C387 ((v_s386.take v_i388.toNat).map eS_slab_Box) v_v389.length ((v_s386.drop v_i388.toNat).map eS_slab_Box)) [])], .e 232 [0] (.ssl 0 v_i388.toNat (v_s386.length + v_v389.length) 2) [], .e 242 [0] (.d (.v (.int .i64 (v_v389.length : Int)))) [(0, .cu (rowH 136 2 v_C387 (((v_s386.take v_i388.toNat) ++ v_v389 ++ (v_s386.drop v_i388.toNat)).map eS_slab_Box) 0 (([] : List S_slab_Box).map eS_slab_Box)) [])], .e 247 [0, 247] (.srf 247) [(0, .none), (247, .row 136 2 (((v_s386.take v_i388.toNat) ++ v_v389 ++ (v_s386.drop v_i388.toNat)).map eS_slab_Box))]]) [0, 247] (by kernel_rfl) (by kernel_rfl) (by kernel_rfl) (.cons (ext_same (yc10 (P := Try.prog) (T := TT) (f := eS_slab_Box) (t := 76) (e := 136) (s := 2) (l := 0) (L := v_s386) (x := (.tmp 10)) (C := v_C387) (lo := (.tmp 11)) (A := v_i388) (ka := .i64) (by kernel_rfl) h177.1 h177.2)) (.cons (len_ob (f := eS_slab_Box) (l := v_v389)) (.cons (bf h178) (.cons (ylen (P := Try.prog) (T := TT) (f := eS_slab_Box) (t := 76) (e := 136) (s := 2) (l := 0) (L := v_s386) (C := v_C387) (x := (.tmp 18)) (by kernel_rfl)) (.cons (bf h181) (.cons (ycap (P := Try.prog) (T := TT) (f := eS_slab_Box) (t := 76) (e := 136) (s := 2) (l := 0) (L := v_s386) (C := v_C387) (x := (.tmp 29)) (by kernel_rfl)) (.cons (df h191) (.cons (ycup (P := Try.prog) (T := TT) (f := eS_slab_Box) (t := 76) (e := 136) (s := 2) (l := 0) (L := v_s386) (x := (.tmp 56)) (C := v_C387) (m := v_v389.length) (hi := (.tmp 59)) (B := (wi .i64 ((v_s386.length : Int) + (v_v389.length : Int)))) (kb := .i64) (by kernel_rfl) h199.1 h199.2.1 h199.2.2) (.cons (ext_same (yh10q (P := Try.prog) (T := TT) (f := eS_slab_Box) (t := 76) (e := 136) (s := 2) (l := 0) (L := v_s386) (x := (.tmp 62)) (C := v_C387) (m := v_v389.length) (k := (v_s386.length + v_v389.length)) (Z := ([] : List S_slab_Box)) (q := (v_i388.toNat + v_v389.length)) (lo := (.tmp 65)) (A := (wi .i64 (v_i388 + (v_v389.length : Int)))) (ka := .i64) (by kernel_rfl) (by simp only [List.length_take, List.length_drop, List.length_nil]; omega) h200.1 h200.2)) (.cons (yov (P := Try.prog) (T := TT) (f := eS_slab_Box) (t := 76) (e := 136) (s := 2) (l := 0) (L := v_s386) (Y := v_v389) (Z := ([] : List S_slab_Box)) (m := v_v389.length) (C := v_C387) (i := (v_i388.toNat + v_v389.length)) (j := (v_s386.length + v_v389.length)) (x := (.tmp 61)) (y := (.tmp 66)) (g := 106) (fn := Try.f106) (tR := 4) (tys := #[76, 76]) (by kernel_rfl) (by kernel_rfl) (by kernel_rfl) (by kernel_rfl) (by kernel_rfl) (by kernel_rfl) (by decide) (fun _ => rfl)) (.cons (ext_same (yh10q (P := Try.prog) (T := TT) (f := eS_slab_Box) (t := 76) (e := 136) (s := 2) (l := 0) (L := v_s386) (x := (.tmp 69)) (C := v_C387) (m := v_v389.length) (k := (v_s386.length + v_v389.length)) (Z := ([] : List S_slab_Box)) (q := (v_i388.toNat + v_v389.length)) (lo := (.tmp 72)) (A := (wi .i64 (v_i388 + (v_v389.length : Int)))) (ka := .i64) (by kernel_rfl) (by simp only [List.length_take, List.length_drop, List.length_nil]; omega) h204.1 h204.2)) (.cons (ext_same (yh10 (P := Try.prog) (T := TT) (f := eS_slab_Box) (t := 76) (e := 136) (s := 2) (l := 0) (L := v_s386) (x := (.tmp 74)) (C := v_C387) (m := v_v389.length) (k := (v_s386.length + v_v389.length)) (Y := ([] : List S_slab_Box)) (lo := (.tmp 75)) (A := v_i388) (ka := .i64) (by kernel_rfl) (by simp only [List.length_take, List.length_drop, List.length_nil]; omega) h205)) (.cons (ycpS (P := Try.prog) (T := TT) (f := eS_slab_Box) (t := 76) (t' := 76) (e := 136) (s := 2) (l := 0) (x := (.tmp 73)) (y := (.tmp 76)) (ti := ⟨2, 32, .st [(0, 3), (1, 39)], [.i .i64, .sl]⟩) (L := v_s386) (i := v_i388.toNat) (m := v_v389.length) (C := v_C387) (by kernel_rfl) (by kernel_rfl) (by omega)) (.cons (ext_same (yh10 (P := Try.prog) (T := TT) (f := eS_slab_Box) (t := 76) (e := 136) (s := 2) (l := 0) (L := (v_s386.take v_i388.toNat)) (x := (.tmp 78)) (C := v_C387) (m := v_v389.length) (k := (v_s386.length + v_v389.length)) (Y := (v_s386.drop v_i388.toNat)) (lo := (.tmp 79)) (A := v_i388) (ka := .i64) (by kernel_rfl) (by simp only [List.length_take, List.length_drop, List.length_nil]; omega) h206)) (.cons (ycpD (P := Try.prog) (T := TT) (f := eS_slab_Box) (t := 76) (t' := 76) (e := 136) (s := 2) (l := 0) (x := (.tmp 80)) (y := (.tmp 81)) (ti := ⟨2, 32, .st [(0, 3), (1, 39)], [.i .i64, .sl]⟩) (L := (v_s386.take v_i388.toNat)) (Y := v_v389) (Z := (v_s386.drop v_i388.toNat)) (i := v_i388.toNat) (k := (v_s386.length + v_v389.length)) (m := v_v389.length) (C := v_C387) (by kernel_rfl) (by kernel_rfl) (by simp only [List.length_take, List.length_drop, List.length_nil]; omega) (by simp only [List.length_take, List.length_drop, List.length_nil]; omega) rfl (by omega) (fun _ => rfl)) (.cons (ymvH (L := ((v_s386.take v_i388.toNat) ++ v_v389 ++ (v_s386.drop v_i388.toNat))) (C := v_C387) (k := (v_s386.length + v_v389.length)) (P := Try.prog) (T := TT) (f := eS_slab_Box) (e := 136) (s := 2) (l := 0) (nl := 247) (x := (.tmp 0)) (by simp only [List.length_append, List.length_take, List.length_drop]; omega)) .nil))))))))))))))))
                  · rw [if_neg h206] at h; cases h
                · rw [if_neg h205] at h; cases h
              · rw [if_neg h204] at h; cases h
            · rw [if_neg h200] at h; cases h
          · rw [if_neg h199] at h; cases h
  · rw [if_neg h177] at h; cases h
def G_slices_Insert_slab_Box_slab_Box_h (n : Nat) (s : (List S_slab_Box)) (i : Int) (v : (List S_slab_Box)) : Option (List S_slab_Box) := insI 32 s i v
theorem G_slices_Insert_slab_Box_slab_Box_h_all (C n : Nat) (s : (List S_slab_Box)) (i : Int) (v r : (List S_slab_Box)) (h1 : s.length ≤ C) (h2 : C ≤ maxLen) (h : G_slices_Insert_slab_Box_slab_Box_h n s i v = some r) : G_slices_Insert_slab_Box_slab_Box_hC n C s i v = some r := by
  unfold G_slices_Insert_slab_Box_slab_Box_h insI at h
  split at h
  · rename_i c
    obtain ⟨c1, c2, c3, c4⟩ := c
    obtain rfl := Option.some.inj h
    obtain ⟨i, rfl⟩ := Int.eq_ofNat_of_zero_le c1
    simp only [Int.toNat_natCast]
    have hi : i ≤ s.length := by omega
    have w1 : wi .i64 ((s.length : Int) + (v.length : Int)) = ((s.length + v.length : Nat) : Int) := by rw [wi, IntKind.wrap_i64]; omega
    have w2 : wi .i64 ((i : Int) + (v.length : Int)) = ((i + v.length : Nat) : Int) := by rw [wi, IntKind.wrap_i64]; omega
    have w3 : wi .i64 (((s.length + v.length : Nat) : Int) - (i : Int)) = ((s.length + v.length - i : Nat) : Int) := by rw [wi, IntKind.wrap_i64]; omega
    unfold G_slices_Insert_slab_Box_slab_Box_hC
    rw [if_pos ⟨⟨by omega, by omega⟩, h1⟩]
    by_cases hm : (v.length : Int) = 0
    · rw [if_pos hm]
      have : v = [] := List.eq_nil_of_length_eq_zero (by omega)
      subst this; simp
    · rw [if_neg hm]
      by_cases he : (i : Int) = (s.length : Int)
      · rw [if_pos he]
        have e : i = s.length := by omega
        subst e
        unfold app
        rw [if_pos ⟨by unfold maxLen; omega, c4⟩]
        simp
      · rw [if_neg he, w1]
        by_cases hg : ((s.length + v.length : Nat) : Int) > (C : Int)
        · rw [if_pos hg, w3]
          simp only [Int.toNat_natCast]
          have hl : (s.take i ++ List.replicate (s.length + v.length - i) (S_slab_Box.mk 0 [])).length = s.length + v.length := by simp; omega
          rw [if_pos ⟨⟨by omega, by omega⟩, h1⟩, if_pos ⟨trivial, hi, by omega, by omega, by unfold maxLen; omega, by rw [show i + (s.length + v.length - i) = s.length + v.length by omega]; exact c4⟩, w2]
          simp only [Int.toNat_natCast]
          rw [if_pos ⟨by omega, by rw [hl]; omega⟩, if_pos (Nat.le_refl _)]
          have hl2 : (cpyR (s.take i ++ List.replicate (s.length + v.length - i) (S_slab_Box.mk 0 [])) i (s.take i ++ List.replicate (s.length + v.length - i) (S_slab_Box.mk 0 [])).length v).length = s.length + v.length := by
            unfold cpyR
            rw [hl]
            rcases Nat.le_total v.length (s.length + v.length - i) with h' | h'
            · rw [show Nat.min v.length (s.length + v.length - i) = v.length from Nat.min_eq_left h']; simp; omega
            · rw [show Nat.min v.length (s.length + v.length - i) = s.length + v.length - i from Nat.min_eq_right h']; simp; omega
          rw [if_pos ⟨by omega, by rw [hl2]; omega⟩, if_pos ⟨⟨by omega, by omega⟩, h1⟩, if_pos ⟨Nat.le_refl _, Nat.le_refl _⟩]
          rw [ins_grow hi rfl]
        · rw [if_neg hg, w2]
          simp only [Int.toNat_natCast]
          rw [if_pos ⟨by omega, by omega, trivial⟩, if_pos ⟨trivial, by omega⟩, if_pos ⟨trivial, by omega⟩, if_pos ⟨by omega, by omega⟩, if_pos ⟨by omega, by omega⟩]
  · cases h
theorem G_slices_Insert_slab_Box_slab_Box_h_ok (n : Nat) (s : (List S_slab_Box)) (i : Int) (v r : (List S_slab_Box)) (h : G_slices_Insert_slab_Box_slab_Box_h n s i v = some r) : RetH Try.prog 81 [.srf 0, .d (.v (.int .i64 i)), .d ((eL eS_slab_Box) v)] [.row 136 2 (s.map eS_slab_Box)] (.srf 1) [.none, .row 136 2 (r.map eS_slab_Box)] :=
  retH_cap ⟨Try.f81, by kernel_rfl, by kernel_rfl, by kernel_rfl⟩ (fun C h1 h2 => G_slices_Insert_slab_Box_slab_Box_hC_ok n C s i v r (G_slices_Insert_slab_Box_slab_Box_h_all C n s i v r (by simpa using h1) h2 h))
inductive G_slab_Take_L2_R where
  | x0 (v_x706 : Bool) (v_x707 : Int) (v_w708 : (List S_slab_Box)) (v_b709 : S_slab_Place)
  | x1 (v_w711 : (List S_slab_Box))
def G_slab_Take_L2_ex : G_slab_Take_L2_R → Ex
  | .x0 _ _ _ _ => .ret
  | .x1 _ => .exit 2
def G_slab_Take_L2_st (v_x696 : Int) (v_r665 : (S_slab_Slab)) (v_r700 : (Int)) (v_w697 : (List S_slab_Box)) (v_y699 : S_slab_Box) (v_frame23 : Int) : G_slab_Take_L2_R → PS
  | .x0 v_x706 v_x707 v_w708 v_b709 => ⟨[dd, dd, dd, dd, .ref 0 0, .ref 3 0, .d (.v (.bool v_x706)), .d (.v (.int .i64 v_x707)), dd, dd, dd, dd, dd, dd, dd, dd, dd, dd, dd, dd, dd, dd, dd, dd, dd, dd, dd, dd, dd, dd, dd, dd, dd, dd, dd, dd, dd, dd, dd, dd, dd, dd, dd, dd, dd, dd, dd, dd, dd, dd, dd, dd, dd, dd, dd, dd, dd, dd, dd, dd, dd, dd, dd, dd, dd, dd, dd, dd, dd, dd, dd, dd, dd, dd, dd, dd, dd, dd, dd, dd, dd, dd, dd, dd, dd, dd, dd, dd, dd, dd, dd, dd, dd, dd, dd, dd, dd, dd, dd, dd, dd, dd, dd, dd, dd, dd, dd, dd], [.box [.d (.v (.int .i64 v_r665.fSize)), .srf 1], .cu (outC 136 2 nq_S_slab_Box [none, none] (v_w708.map eS_slab_Box)) [.srf 2, .d (.v noB), .d (.v noB)], .cu (bagC nct_S_slab_Box nq_S_slab_Box (v_w708.map eS_slab_Box)) [], .box [.d (.v (.int .i64 v_b709.fFrame)), .d (.v (.int .i64 v_b709.fAt))]]⟩
  | .x1 v_w711 => ⟨[dd, dd, .ref 0 0, .ref 3 0, .ref 4 0, .ref 5 0, dd, dd, dd, dd, dd, dd, dd, dd, dd, dd, dd, dd, dd, dd, dd, dd, dd, dd, .srf 1, .d (.v (.int .i64 (v_r665.fBoxes.length : Int))), .d (.v (.int .i64 v_x696)), dd, dd, dd, dd, dd, dd, dd, dd, dd, dd, dd, dd, dd, dd, dd, dd, dd, dd, dd, dd, dd, dd, dd, dd, dd, dd, dd, dd, dd, dd, dd, dd, dd, dd, dd, dd, dd, dd, dd, dd, dd, dd, dd, dd, dd, dd, dd, dd, dd, dd, dd, dd, dd, dd, dd, dd, dd, dd, dd, dd, dd, dd, dd, dd, dd, dd, dd, dd, dd, dd, dd, dd, dd, dd, dd, dd, dd, dd, dd, dd, dd], [.box [.d (.v (.int .i64 v_r665.fSize)), .srf 1], .cu (outC 136 2 nq_S_slab_Box [none, none] (v_w711.map eS_slab_Box)) [.srf 2, .d (.v noB), .d (.v noB)], .cu (bagC nct_S_slab_Box nq_S_slab_Box (v_w711.map eS_slab_Box)) [], .box [.d (.v (.int .i64 v_frame23))], .box [.d (.v (.int .i64 0)), .d (vnil)], .box [.d (.v (.int .i64 0)), .d (.v (.int .i64 0))]]⟩
def G_slab_Take_L2_hd (v_x696 : Int) (v_r665 : (S_slab_Slab)) (v_r700 : (Int)) (v_w697 : (List S_slab_Box)) (v_y699 : S_slab_Box) (v_frame23 : Int) (v_x701 : Int) : PS := ⟨[dd, dd, .ref 0 0, .ref 4 0, .ref 5 0, .ref 6 0, dd, dd, dd, .d (.v (.int .i64 v_x696)), .ref 7 0, dd, dd, dd, dd, dd, dd, dd, dd, dd, dd, dd, dd, dd, .srf 1, .d (.v (.int .i64 (v_r665.fBoxes.length : Int))), .d (.v (.int .i64 v_x696)), dd, dd, dd, dd, dd, .d (.v (.int .i64 v_r700)), .d (.v (.int .i64 v_x701)), dd, dd, dd, dd, dd, dd, dd, dd, dd, dd, dd, dd, dd, dd, dd, dd, dd, dd, dd, dd, dd, dd, dd, dd, dd, dd, dd, dd, dd, dd, dd, dd, dd, dd, dd, dd, dd, dd, dd, dd, dd, dd, dd, dd, dd, dd, dd, dd, dd, dd, dd, dd, dd, dd, dd, dd, dd, dd, dd, dd, dd, dd, dd, dd, dd, dd, dd, dd, dd, dd, dd, dd, dd, dd], [.box [.d (.v (.int .i64 v_r665.fSize)), .srf 1], .cu (outC 136 2 (minus nq_S_slab_Box (((v_x696).toNat) * 2 + 1)) [some (((v_x696).toNat) * 2 + 1), none] (v_w697.map eS_slab_Box)) [.srf 2, .srf 3, .d (.v noB)], .cu (bagC nct_S_slab_Box (minus nq_S_slab_Box (((v_x696).toNat) * 2 + 1)) (v_w697.map eS_slab_Box)) [], .row 3 1 (v_y699.fUsed.map (eI .i64)), .box [.d (.v (.int .i64 v_frame23))], .box [.d (.v (.int .i64 0)), .d (vnil)], .box [.d (.v (.int .i64 0)), .d (.v (.int .i64 0))], .box [.d (.v (.int .i64 v_y699.fFrame)), .srf 3]]⟩
def G_slab_Take_L2 (n : Nat) (v_x696 : Int) (v_r665 : (S_slab_Slab)) (v_r700 : (Int)) (v_w697 : (List S_slab_Box)) (v_y699 : S_slab_Box) (v_frame23 : Int) : Nat → Int → Option G_slab_Take_L2_R
  | 0, _ => none
  | k + 1, v_x701 =>
    if v_x701 < v_r700 then
     (G_slices_Contains_int_int n v_y699.fUsed (wi .i64 (v_x701 * v_r665.fSize))).bind fun (v_r703 : (Bool)) =>
     if v_r703 = true then
      G_slab_Take_L2 n v_x696 v_r665 v_r700 v_w697 v_y699 v_frame23 k (wi .i64 (v_x701 + 1))
     else
      (G_slices_Insert_int_int_h n v_y699.fUsed v_x701 ([(wi .i64 (v_x701 * v_r665.fSize))])).bind fun (v_r704 : ((List Int))) =>
      if 0 ≤ v_x696 ∧ (v_x696).toNat < v_w697.length then
       if (v_x696).toNat < v_w697.length then
        (v_w697[(v_x696).toNat]?).bind fun (v_y705 : S_slab_Box) =>
        some (.x0 false 0 (v_w697.set ((v_x696).toNat) (S_slab_Box.mk v_y705.fFrame v_r704)) (S_slab_Place.mk v_y699.fFrame (wi .i64 (v_x701 * v_r665.fSize))))
       else none
      else none
    else
     (v_w697[(v_x696).toNat]?).bind fun (v_y710 : S_slab_Box) =>
     some (.x1 (v_w697.set ((v_x696).toNat) (S_slab_Box.mk v_y710.fFrame v_y699.fUsed)))
theorem G_slab_Take_L2_ok {Fi : Ex → PS → Prop} (hF : KC 108 Fi) (ks : List Fr) (n : Nat) (v_x696 : Int) (v_r665 : (S_slab_Slab)) (v_r700 : (Int)) (v_w697 : (List S_slab_Box)) (v_y699 : S_slab_Box) (v_frame23 : Int)  : ∀ (k : Nat) (v_x701 : Int) (o : G_slab_Take_L2_R), G_slab_Take_L2 n v_x696 v_r665 v_r700 v_w697 v_y699 v_frame23 k v_x701 = some o → RunE Try.prog 108 Fi ks (G_slab_Take_L2_ex o) (G_slab_Take_L2_st v_x696 v_r665 v_r700 v_w697 v_y699 v_frame23 o) → RunE Try.prog 108 Fi (.l k (cP (cB (cR (cR (cB (cL (cR (cR (cP (cB (cR (cL (cR (cR (cR (bodyOf Try.f37)))))))))))))))) :: ks) .normal (G_slab_Take_L2_hd v_x696 v_r665 v_r700 v_w697 v_y699 v_frame23 v_x701)
  | 0, v_x701, o, h, q => by rw [G_slab_Take_L2] at h; cases h
  | k + 1, v_x701, o, h, q => by
    rw [G_slab_Take_L2] at h
    by_cases h274 : v_x701 < v_r700
    · rw [if_pos h274] at h
      obtain ⟨v_r703, h275, h⟩ := bind_some h
      by_cases h276 : v_r703 = true
      · rw [if_pos h276] at h
        exact pkk_sound TTok mix hF 18 (hs := [.t true, .c, .c, .c, .r (eB v_r703), .t false]) (ts := []) (s := [0, 1, 2, 3, 4, 5, 6, 7]) (l := [2, 3, 4, 5, 9, 10, 24, 25, 26, 32, 33]) (by kernel_rfl) (by kernel_rfl) (.cons (dt h274) (.cons (G_slices_Contains_int_int_ok n v_y699.fUsed (wi .i64 (v_x701 * v_r665.fSize)) _ h275) (.cons (bnf h276) .nil))) (G_slab_Take_L2_ok hF ks n v_x696 v_r665 v_r700 v_w697 v_y699 v_frame23 k (wi .i64 (v_x701 + 1)) _ h q)
      · rw [if_neg h276] at h
        obtain ⟨v_r704, h277, h⟩ := bind_some h
        by_cases h278 : 0 ≤ v_x696 ∧ (v_x696).toNat < v_w697.length
        · rw [if_pos h278] at h
          by_cases h279 : (v_x696).toNat < v_w697.length
          · rw [if_pos h279] at h
            obtain ⟨v_y705, h280, h⟩ := bind_some h
            cases h
            exact pkk_sound TTok mix hF 24 (hs := [.t true, .c, .c, .c, .r (eB v_r703), .t true, .c, .e 93 [7, 3] (.srf 3) [(7, .box [.d (.v (.int .i64 v_y699.fFrame)), .ssl 3 0 v_y699.fUsed.length 1])], .bd, .h [3] [] [.none, .row 3 1 (v_r704.map (eI .i64))] (.srf 1), .e 118 [1] (.ept 1 2 ((v_x696).toNat) 0) [], .e 128 [1] (dd) [(1, .cu (outC 136 2 (minus nq_S_slab_Box (((v_x696).toNat) * 2 + 1)) [some (((v_x696).toNat) * 2 + 1), none] (v_w697.map eS_slab_Box)) [.srf 2, .srf 113, .d (.v noB)])], .c, .c, .c, .c, .dl 4, .sx [1, 2, 113] (nClose 1 2 113 136 2 nct_S_slab_Box nq_S_slab_Box [none, none] ((v_w697.set ((v_x696).toNat) (S_slab_Box.mk v_y705.fFrame v_r704)).map eS_slab_Box) [.srf 2, .srf 113, .d (.v noB)] 0)]) (ts := []) (s := [5, 1, 178, 6]) (l := [4, 5, 6, 7]) (by kernel_rfl) (by kernel_rfl) (.cons (dt h274) (.cons (G_slices_Contains_int_int_ok n v_y699.fUsed (wi .i64 (v_x701 * v_r665.fSize)) _ h275) (.cons (bnt (vf h276)) (.cons (nalias (P := Try.prog) (T := TT) (t := 39) (b := 7) (off := 1) (L := 3) (e := 3) (s := 1) (N := v_y699.fUsed.length) (cs := [.d (.v (.int .i64 v_y699.fFrame)), .srf 3]) (ys := (v_y699.fUsed.map (eI .i64))) (x := (.tmp 48)) (by simp) (by kernel_rfl) rfl (by decide)) (.cons (G_slices_Insert_int_int_h_ok n v_y699.fUsed v_x701 ([(wi .i64 (v_x701 * v_r665.fSize))]) _ h277) (.cons (nidx (P := Try.prog) (T := TT) (t := 76) (l := 1) (ty := 136) (sz := 2) (q := (minus nq_S_slab_Box (((v_x696).toNat) * 2 + 1))) (hs := [some (((v_x696).toNat) * 2 + 1), none]) (xs := (v_w697.map eS_slab_Box)) (fs := [.srf 2, .srf 3, .d (.v noB)]) (x := (.tmp 46)) (i := (.tmp 47)) (ik := .i64) (j := v_x696) (by kernel_rfl) h278.1 (by rw [List.length_map]; exact h278.2)) (.cons (nput (P := Try.prog) (T := TT) (t := 39) (l := 1) (L := 113) (ty := 136) (sz := 2) (i := (v_x696).toNat) (off := 1) (j := 0) (q := (minus nq_S_slab_Box (((v_x696).toNat) * 2 + 1))) (hs := [some (((v_x696).toNat) * 2 + 1), none]) (xs := (v_w697.map eS_slab_Box)) (fs := [.srf 2, .srf 3, .d (.v noB)]) (x := (.tmp 55)) (z := (.tmp 53)) (by kernel_rfl) (by rw [List.length_map]; exact h279) (by decide) (all_fits (fun _ => rfl)) (by rw [Bool.eq_false_iff, ne_eq]; simp only [nq_S_slab_Box, minus, plus, qpre, Bool.and_eq_true, Bool.or_eq_true, Bool.not_eq_true', decide_eq_true_eq, decide_eq_false_iff_not, and_true, and_false, true_and, false_and, or_true, or_false, true_or, false_or, not_true_eq_false, not_false_eq_true] <;> omega) (.inr rfl) (by intro j' hj' h; rcases j' with _ | _ | j' <;> simp at h hj' <;> omega) ⟨_, rfl⟩ (by decide)) (.cons (show 0 + 2 ≤ 2 by decide) (.cons (show 0 + 2 ≤ 2 by decide) (.cons (nclose' (l := 1) (B := 2) (L := 113) (ty := 136) (sz := 2) (i := (v_x696).toNat) (off := 1) (j := 0) (e := 3) (s := 1) (ct := nct_S_slab_Box) (q := (minus nq_S_slab_Box (((v_x696).toNat) * 2 + 1))) (q' := nq_S_slab_Box) (hs := [some (((v_x696).toNat) * 2 + 1), none]) (xs := (v_w697.map eS_slab_Box)) (ys := (v_r704.map (eI .i64))) (fs := [.srf 2, .srf 113, .d (.v noB)]) (y := (eS_slab_Box v_y705)) (y' := (.agg [.v (.int .i64 v_y705.fFrame), .sl (v_r704.map (eI .i64))])) (set_ob (f := eS_slab_Box) (l := v_w697) (k := (v_x696).toNat) (z := (S_slab_Box.mk v_y705.fFrame v_r704)) (p := .agg [.v (.int .i64 v_y705.fFrame), .sl (v_r704.map (eI .i64))]) rfl) (by decide) (by decide) (by decide) (all_fits (fun _ => rfl)) (get_ob (f := eS_slab_Box) h280) (by decide) rfl rfl (by rw [Bool.eq_false_iff, ne_eq]; simp only [nq_S_slab_Box, minus, plus, qpre, Bool.and_eq_true, Bool.or_eq_true, Bool.not_eq_true', decide_eq_true_eq, decide_eq_false_iff_not, and_true, and_false, true_and, false_and, or_true, or_false, true_or, false_or, not_true_eq_false, not_false_eq_true] <;> omega) rfl (by intro j' hj' h; rcases j' with _ | _ | j' <;> simp at h hj' <;> omega) rfl rfl rfl (by intro k hk; rw [Bool.eq_iff_iff]; simp only [nq_S_slab_Box, minus, plus, qpre, Bool.and_eq_true, Bool.or_eq_true, Bool.not_eq_true', decide_eq_true_eq, decide_eq_false_iff_not, and_true, and_false, true_and, false_and, or_true, or_false, true_or, false_or, not_true_eq_false, not_false_eq_true] <;> omega)) .nil)))))))))) q
          · rw [if_neg h279] at h; cases h
        · rw [if_neg h278] at h; cases h
    · rw [if_neg h274] at h
      obtain ⟨v_y710, h281, h⟩ := bind_some h
      cases h
      exact pkk_sound TTok mix hF 9 (hs := [.t false, .dl 3, .sx [1, 2, 3] (nClose 1 2 3 136 2 nct_S_slab_Box nq_S_slab_Box [none, none] ((v_w697.set ((v_x696).toNat) (S_slab_Box.mk v_y710.fFrame v_y699.fUsed)).map eS_slab_Box) [.srf 2, .srf 3, .d (.v noB)] 0)]) (ts := []) (s := [0, 1, 13, 4, 5, 6]) (l := [2, 3, 4, 5, 24, 25, 26]) (by kernel_rfl) (by kernel_rfl) (.cons (df h274) (.cons (nclose' (l := 1) (B := 2) (L := 3) (ty := 136) (sz := 2) (i := (v_x696).toNat) (off := 1) (j := 0) (e := 3) (s := 1) (ct := nct_S_slab_Box) (q := (minus nq_S_slab_Box (((v_x696).toNat) * 2 + 1))) (q' := nq_S_slab_Box) (hs := [some (((v_x696).toNat) * 2 + 1), none]) (xs := (v_w697.map eS_slab_Box)) (ys := (v_y699.fUsed.map (eI .i64))) (fs := [.srf 2, .srf 3, .d (.v noB)]) (y := (eS_slab_Box v_y710)) (y' := (.agg [.v (.int .i64 v_y710.fFrame), .sl (v_y699.fUsed.map (eI .i64))])) (set_ob (f := eS_slab_Box) (l := v_w697) (k := (v_x696).toNat) (z := (S_slab_Box.mk v_y710.fFrame v_y699.fUsed)) (p := .agg [.v (.int .i64 v_y710.fFrame), .sl (v_y699.fUsed.map (eI .i64))]) rfl) (by decide) (by decide) (by decide) (all_fits (fun _ => rfl)) (get_ob (f := eS_slab_Box) h281) (by decide) rfl rfl (by rw [Bool.eq_false_iff, ne_eq]; simp only [nq_S_slab_Box, minus, plus, qpre, Bool.and_eq_true, Bool.or_eq_true, Bool.not_eq_true', decide_eq_true_eq, decide_eq_false_iff_not, and_true, and_false, true_and, false_and, or_true, or_false, true_or, false_or, not_true_eq_false, not_false_eq_true] <;> omega) rfl (by intro j' hj' h; rcases j' with _ | _ | j' <;> simp at h hj' <;> omega) rfl rfl rfl (by intro k hk; rw [Bool.eq_iff_iff]; simp only [nq_S_slab_Box, minus, plus, qpre, Bool.and_eq_true, Bool.or_eq_true, Bool.not_eq_true', decide_eq_true_eq, decide_eq_false_iff_not, and_true, and_false, true_and, false_and, or_true, or_false, true_or, false_or, not_true_eq_false, not_false_eq_true] <;> omega)) .nil)) q
inductive G_slab_Take_L3_R where
  | x0 (v_x717 : Bool) (v_x718 : Int) (v_w719 : (List S_slab_Box)) (v_b720 : S_slab_Place)
  | x1 (v_w722 : (List S_slab_Box))
def G_slab_Take_L3_ex : G_slab_Take_L3_R → Ex
  | .x0 _ _ _ _ => .ret
  | .x1 _ => .exit 0
def G_slab_Take_L3_st (v_r665 : (S_slab_Slab)) (v_frame23 : Int) : G_slab_Take_L3_R → PS
  | .x0 v_x717 v_x718 v_w719 v_b720 => ⟨[dd, dd, dd, dd, .ref 0 0, .ref 3 0, .d (.v (.bool v_x717)), .d (.v (.int .i64 v_x718)), dd, dd, dd, dd, dd, dd, dd, dd, dd, dd, dd, dd, dd, dd, dd, dd, dd, dd, dd, dd, dd, dd, dd, dd, dd, dd, dd, dd, dd, dd, dd, dd, dd, dd, dd, dd, dd, dd, dd, dd, dd, dd, dd, dd, dd, dd, dd, dd, dd, dd, dd, dd, dd, dd, dd, dd, dd, dd, dd, dd, dd, dd, dd, dd, dd, dd, dd, dd, dd, dd, dd, dd, dd, dd, dd, dd, dd, dd, dd, dd, dd, dd, dd, dd, dd, dd, dd, dd, dd, dd, dd, dd, dd, dd, dd, dd, dd, dd, dd, dd], [.box [.d (.v (.int .i64 v_r665.fSize)), .srf 1], .cu (outC 136 2 nq_S_slab_Box [none, none] (v_w719.map eS_slab_Box)) [.srf 2, .d (.v noB), .d (.v noB)], .cu (bagC nct_S_slab_Box nq_S_slab_Box (v_w719.map eS_slab_Box)) [], .box [.d (.v (.int .i64 v_b720.fFrame)), .d (.v (.int .i64 v_b720.fAt))]]⟩
  | .x1 v_w722 => ⟨[dd, dd, .ref 0 0, .ref 3 0, .ref 4 0, .ref 5 0, dd, dd, dd, dd, dd, dd, dd, dd, dd, dd, dd, dd, dd, dd, dd, dd, dd, dd, dd, dd, dd, dd, dd, dd, dd, dd, dd, dd, dd, dd, dd, dd, dd, dd, dd, dd, dd, dd, dd, dd, dd, dd, dd, dd, dd, dd, dd, dd, dd, dd, dd, dd, dd, dd, dd, dd, dd, dd, dd, dd, dd, dd, dd, dd, dd, dd, dd, dd, dd, dd, dd, dd, dd, dd, dd, dd, dd, dd, dd, dd, dd, dd, dd, dd, dd, dd, dd, dd, dd, dd, dd, dd, dd, dd, dd, dd, dd, dd, dd, dd, dd, dd], [.box [.d (.v (.int .i64 v_r665.fSize)), .srf 1], .cu (outC 136 2 nq_S_slab_Box [none, none] (v_w722.map eS_slab_Box)) [.srf 2, .d (.v noB), .d (.v noB)], .cu (bagC nct_S_slab_Box nq_S_slab_Box (v_w722.map eS_slab_Box)) [], .box [.d (.v (.int .i64 v_frame23))], .box [.d (.v (.int .i64 0)), .d (vnil)], .box [.d (.v (.int .i64 0)), .d (.v (.int .i64 0))]]⟩
def G_slab_Take_L3_hd (v_r665 : (S_slab_Slab)) (v_frame23 : Int) (v_x696 : Int) (v_w697 : (List S_slab_Box)) : PS := ⟨[dd, dd, .ref 0 0, .ref 3 0, .ref 4 0, .ref 5 0, dd, dd, dd, dd, dd, dd, dd, dd, dd, dd, dd, dd, dd, dd, dd, dd, dd, dd, .srf 1, .d (.v (.int .i64 (v_r665.fBoxes.length : Int))), .d (.v (.int .i64 v_x696)), dd, dd, dd, dd, dd, dd, dd, dd, dd, dd, dd, dd, dd, dd, dd, dd, dd, dd, dd, dd, dd, dd, dd, dd, dd, dd, dd, dd, dd, dd, dd, dd, dd, dd, dd, dd, dd, dd, dd, dd, dd, dd, dd, dd, dd, dd, dd, dd, dd, dd, dd, dd, dd, dd, dd, dd, dd, dd, dd, dd, dd, dd, dd, dd, dd, dd, dd, dd, dd, dd, dd, dd, dd, dd, dd, dd, dd, dd, dd, dd, dd], [.box [.d (.v (.int .i64 v_r665.fSize)), .srf 1], .cu (outC 136 2 nq_S_slab_Box [none, none] (v_w697.map eS_slab_Box)) [.srf 2, .d (.v noB), .d (.v noB)], .cu (bagC nct_S_slab_Box nq_S_slab_Box (v_w697.map eS_slab_Box)) [], .box [.d (.v (.int .i64 v_frame23))], .box [.d (.v (.int .i64 0)), .d (vnil)], .box [.d (.v (.int .i64 0)), .d (.v (.int .i64 0))]]⟩
def G_slab_Take_L3 (n : Nat) (v_r665 : (S_slab_Slab)) (v_frame23 : Int) : Nat → Int → (List S_slab_Box) → Option G_slab_Take_L3_R
  | 0, _, _ => none
  | k + 1, v_x696, v_w697 =>
    if v_x696 < (v_r665.fBoxes.length : Int) then
     if 0 ≤ v_x696 ∧ (v_x696).toNat < v_w697.length then
      (v_w697[(v_x696).toNat]?).bind fun (v_y699 : S_slab_Box) =>
      (G_slab_per n (S_slab_Slab.mk v_r665.fSize v_w697)).bind fun (v_r700 : (Int)) =>
      (G_slab_Take_L2 n v_x696 v_r665 v_r700 v_w697 v_y699 v_frame23 n 0).bind fun v_o712 => match v_o712 with
      | .x0 v_z713 v_z714 v_z715 v_z716 =>
        some (.x0 v_z713 v_z714 v_z715 v_z716)
      | .x1 v_z721 =>
        G_slab_Take_L3 n v_r665 v_frame23 k (wi .i64 (v_x696 + 1)) v_z721
     else none
    else
     some (.x1 v_w697)
theorem G_slab_Take_L3_ok {Fi : Ex → PS → Prop} (hF : KC 108 Fi) (ks : List Fr) (n : Nat) (v_r665 : (S_slab_Slab)) (v_frame23 : Int)  : ∀ (k : Nat) (v_x696 : Int) (v_w697 : (List S_slab_Box)) (o : G_slab_Take_L3_R), G_slab_Take_L3 n v_r665 v_frame23 k v_x696 v_w697 = some o → RunE Try.prog 108 Fi ks (G_slab_Take_L3_ex o) (G_slab_Take_L3_st v_r665 v_frame23 o) → RunE Try.prog 108 Fi (.l k (cP (cB (cR (cL (cR (cR (cR (bodyOf Try.f37)))))))) :: ks) .normal (G_slab_Take_L3_hd v_r665 v_frame23 v_x696 v_w697)
  | 0, v_x696, v_w697, o, h, q => by rw [G_slab_Take_L3] at h; cases h
  | k + 1, v_x696, v_w697, o, h, q => by
    rw [G_slab_Take_L3] at h
    by_cases h270 : v_x696 < (v_r665.fBoxes.length : Int)
    · rw [if_pos h270] at h
      by_cases h271 : 0 ≤ v_x696 ∧ (v_x696).toNat < v_w697.length
      · rw [if_pos h271] at h
        obtain ⟨v_y699, h272, h⟩ := bind_some h
        obtain ⟨v_r700, h273, h⟩ := bind_some h
        obtain ⟨v_o712, h282, h⟩ := bind_some h
        refine pkk_sound TTok mix hF 14 (hs := [.t true, .e 16 [1] (.ept 1 2 ((v_x696).toNat) 0) [], .e 21 [1, 2, 21, 22] (.agg [.d (.v (.int .i64 v_y699.fFrame)), .srf 21]) [(2, .none), (21, .row 3 1 (v_y699.fUsed.map (eI .i64))), (22, .cu (bagC nct_S_slab_Box (minus nq_S_slab_Box (((v_x696).toNat) * 2 + 1)) (v_w697.map eS_slab_Box)) []), (1, .cu (outC 136 2 (minus nq_S_slab_Box (((v_x696).toNat) * 2 + 1)) [some (((v_x696).toNat) * 2 + 1), none] (v_w697.map eS_slab_Box)) [.srf 22, .srf 21, .d (.v noB)])], .c, .c, .e 46 [1, 22, 21] (.d (.v (.int .i64 v_r700))) [], .n n]) (ts := []) (s := [0, 1, 22, 21, 3, 4, 5, 26]) (l := [2, 3, 4, 5, 9, 10, 24, 25, 26, 32, 33]) (by kernel_rfl) (by kernel_rfl) (.cons (dt h270) (.cons (nidx (P := Try.prog) (T := TT) (t := 76) (l := 1) (ty := 136) (sz := 2) (q := nq_S_slab_Box) (hs := [none, none]) (xs := (v_w697.map eS_slab_Box)) (fs := [.srf 2, .d (.v noB), .d (.v noB)]) (x := (.tmp 24)) (i := (.tmp 26)) (ik := .i64) (j := v_x696) (by kernel_rfl) h271.1 (by rw [List.length_map]; exact h271.2)) (.cons (ntakeA (P := Try.prog) (T := TT) (t := 136) (l := 1) (ty := 136) (sz := 2) (i := (v_x696).toNat) (q := nq_S_slab_Box) (hs := [none, none]) (xs := (v_w697.map eS_slab_Box)) (fs := [.srf 2, .d (.v noB), .d (.v noB)]) (x := (.tmp 29)) (B := 2) (nl := 21) (j := 0) (e := 3) (s := 1) (ct := nct_S_slab_Box) (ys := (v_y699.fUsed.map (eI .i64))) (pre := [.v (.int .i64 v_y699.fFrame)]) (post := []) (y := (eS_slab_Box v_y699)) (by kernel_rfl) (by kernel_rfl) (all_fits (fun _ => rfl)) (get_ob (f := eS_slab_Box) h272) rfl (by simp only [List.length_cons, List.length_nil]; simp only [nq_S_slab_Box, minus, plus, qpre, Bool.and_eq_true, Bool.or_eq_true, Bool.not_eq_true', decide_eq_true_eq, decide_eq_false_iff_not, and_true, and_false, true_and, false_and, or_true, or_false, true_or, false_or, not_true_eq_false, not_false_eq_true] <;> omega) (by intro c hc hne; simp only [List.length_cons, List.length_nil] at hne; exact ⟨(by rw [Bool.eq_false_iff, ne_eq]; simp only [nq_S_slab_Box, minus, plus, qpre, Bool.and_eq_true, Bool.or_eq_true, Bool.not_eq_true', decide_eq_true_eq, decide_eq_false_iff_not, and_true, and_false, true_and, false_and, or_true, or_false, true_or, false_or, not_true_eq_false, not_false_eq_true] <;> omega), (by intro j h; rcases j with _ | _ | j <;> simp at h <;> omega)⟩) rfl rfl (by decide) rfl (by decide)) (.cons (show 0 + 2 ≤ 2 by decide) (.cons (ncall (P := Try.prog) (T := TT) (fv := .d (.clo 76 [])) (vs := [.agg [.d (.v (.int .i64 v_r665.fSize)), .srf 1]]) (f := .func 76) (args := #[(.tmp 31)]) (tys := #[78]) (m0 := [(1, .cu (outC 136 2 (minus nq_S_slab_Box (((v_x696).toNat) * 2 + 1)) [some (((v_x696).toNat) * 2 + 1), none] (v_w697.map eS_slab_Box)) [.srf 22, .srf 21, .d (.v noB)]), (22, .cu (bagC nct_S_slab_Box (minus nq_S_slab_Box (((v_x696).toNat) * 2 + 1)) (v_w697.map eS_slab_Box)) []), (21, .row 3 1 (v_y699.fUsed.map (eI .i64)))]) [(1, (.sl (v_w697.map eS_slab_Box)))] (lend_cons (l := 1) (p := (.sl (v_w697.map eS_slab_Box))) (Lend.nst 1 22 136 2 nct_S_slab_Box (minus nq_S_slab_Box (((v_x696).toNat) * 2 + 1)) [some (((v_x696).toNat) * 2 + 1), none] (v_w697.map eS_slab_Box) [.srf 22, .srf 21, .d (.v noB)] (List.mem_cons_self ..) (List.mem_cons_of_mem _ (List.mem_cons_self ..)) rfl (all_fits (fun _ => rfl)) (hole1 ⟨21, 3, 1, (v_y699.fUsed.map (eI .i64)), rfl, (List.mem_cons_of_mem _ (List.mem_cons_of_mem _ (List.mem_cons_self ..))), fl_get (all_fits (fun _ => rfl)) (get_ob (f := eS_slab_Box) h272) rfl⟩)) lend_nil) rfl rfl (G_slab_per_ok n (S_slab_Slab.mk v_r665.fSize v_w697) _ h273) (by rfl)) .nil))))) (G_slab_Take_L2_ok hF (.b 2 :: .b 1 :: .s (cR (cR (cR (cP (cB (cR (cL (cR (cR (cR (bodyOf Try.f37))))))))))) :: .l k (cP (cB (cR (cL (cR (cR (cR (bodyOf Try.f37)))))))) :: ks) n v_x696 v_r665 v_r700 v_w697 v_y699 v_frame23 n 0 _ h282 ?_)
        cases v_o712 with
        | x0 v_z713 v_z714 v_z715 v_z716 =>
          try dsimp only at h
          cases h
          exact pkk_sound TTok mix hF 4 (hs := []) (ts := []) (s := [0, 1, 2, 3]) (l := [4, 5, 6, 7]) (by kernel_rfl) (by kernel_rfl) .nil q
        | x1 v_z721 =>
          try dsimp only at h
          exact pkk_sound TTok mix hF 3 (hs := []) (ts := []) (s := [0, 1, 2, 3, 4, 5]) (l := [2, 3, 4, 5, 24, 25, 26]) (by kernel_rfl) (by kernel_rfl) .nil (G_slab_Take_L3_ok hF ks n v_r665 v_frame23 k (wi .i64 (v_x696 + 1)) v_z721 _ h q)
      · rw [if_neg h271] at h; cases h
    · rw [if_neg h270] at h
      cases h
      exact pkk_sound TTok mix hF 8 (hs := [.t false]) (ts := []) (s := [0, 1, 2, 3, 4, 5]) (l := [2, 3, 4, 5]) (by kernel_rfl) (by kernel_rfl) (.cons (df h270) .nil) q
def G_slab_Take_J1 (n : Nat)  (v_b736 : Int) (v_b737 : S_slab_Place) : Option (S_slab_Slab × S_slab_Place × Bool × Int) :=
  some ((S_slab_Slab.mk 0 ([] : (List S_slab_Box))), (S_slab_Place.mk 0 0), false, 6)
theorem G_slab_Take_J1_ok (n : Nat)   (v_b736 : Int) (v_b737 : S_slab_Place) (r : S_slab_Slab × S_slab_Place × Bool × Int) (h : G_slab_Take_J1 n  v_b736 v_b737 = some r) : RunE Try.prog 108 (FinR Try.prog Try.f37 (.tup [eS_slab_Slab r.1, eS_slab_Place r.2.1, eB r.2.2.1, (eI .i64) r.2.2.2])) (.s (cT (cR (cB (cL (cR (cR (cR (cR (bodyOf Try.f37))))))))) :: .b 4 :: .s (cR (cR (cR (cR (cR (bodyOf Try.f37)))))) :: []) .normal ⟨[dd, dd, dd, dd, .ref 0 0, .ref 1 0, dd, dd, dd, dd, dd, dd, dd, dd, dd, dd, dd, dd, dd, dd, dd, dd, dd, dd, dd, dd, dd, dd, dd, dd, dd, dd, dd, dd, dd, dd, dd, dd, dd, dd, dd, dd, dd, dd, dd, dd, dd, dd, dd, dd, dd, dd, dd, dd, dd, dd, dd, dd, dd, dd, dd, dd, dd, dd, dd, dd, dd, dd, dd, dd, dd, dd, dd, dd, dd, dd, dd, dd, dd, dd, dd, dd, dd, dd, dd, dd, dd, dd, dd, dd, dd, dd, dd, dd, dd, dd, dd, dd, dd, dd, dd, dd, dd, dd, dd, dd, dd, dd], [.box [.d (.v (.int .i64 v_b736)), .d (vnil)], .box [.d (.v (.int .i64 v_b737.fFrame)), .d (.v (.int .i64 v_b737.fAt))]]⟩ := by
  have hF : KC 108 (FinR Try.prog Try.f37 (.tup [eS_slab_Slab r.1, eS_slab_Place r.2.1, eB r.2.2.1, (eI .i64) r.2.2.2])) := FinR.kc' (by kernel_rfl)
  unfold G_slab_Take_J1 at h
  obtain rfl := Option.some.inj h
  exact pend_sound TTok mix 5 (hs := [.c, .c]) (by kernel_rfl) (by kernel_rfl) (by kernel_rfl) (.cons (show 0 + 2 ≤ 2 by decide) (.cons (show 0 + 2 ≤ 2 by decide) .nil))
inductive G_slab_Take_L4_R where
  | x0 (v_i809 : Int) (v_w810 : (List S_slab_Box))
def G_slab_Take_L4_ex : G_slab_Take_L4_R → Ex
  | .x0 _ _ => .exit 5
def G_slab_Take_L4_st (v_r665 : (S_slab_Slab)) (v_frame23 : Int) : G_slab_Take_L4_R → PS
  | .x0 v_i809 v_w810 => ⟨[dd, dd, .ref 0 0, .ref 2 0, .ref 3 0, .ref 4 0, dd, dd, dd, dd, dd, dd, dd, .d (.v (.int .i64 v_i809)), dd, dd, dd, dd, dd, dd, dd, dd, dd, dd, dd, dd, dd, dd, dd, dd, dd, dd, dd, dd, dd, dd, dd, dd, dd, dd, dd, dd, dd, dd, dd, dd, dd, dd, dd, dd, dd, dd, dd, dd, dd, dd, dd, dd, dd, dd, dd, dd, dd, dd, dd, dd, dd, dd, dd, dd, dd, dd, dd, dd, dd, dd, dd, dd, dd, dd, dd, dd, dd, dd, dd, dd, dd, dd, dd, dd, dd, dd, dd, dd, dd, dd, dd, dd, dd, dd, dd, dd, dd, dd, dd, dd, dd, dd], [.box [.d (.v (.int .i64 v_r665.fSize)), .srf 1], .row 136 2 (v_w810.map eS_slab_Box), .box [.d (.v (.int .i64 v_frame23))], .box [.d (.v (.int .i64 0)), .d (vnil)], .box [.d (.v (.int .i64 0)), .d (.v (.int .i64 0))]]⟩
def G_slab_Take_L4_hd (v_r665 : (S_slab_Slab)) (v_frame23 : Int) (v_i804 : Int) (v_w805 : (List S_slab_Box)) : PS := ⟨[dd, dd, .ref 0 0, .ref 2 0, .ref 3 0, .ref 4 0, dd, dd, dd, dd, dd, dd, dd, .d (.v (.int .i64 v_i804)), dd, dd, dd, dd, dd, dd, dd, dd, dd, dd, dd, dd, dd, dd, dd, dd, dd, dd, dd, dd, dd, dd, dd, dd, dd, dd, dd, dd, dd, dd, dd, dd, dd, dd, dd, dd, dd, dd, dd, dd, dd, dd, dd, dd, dd, dd, dd, dd, dd, dd, dd, dd, dd, dd, dd, dd, dd, dd, dd, dd, dd, dd, dd, dd, dd, dd, dd, dd, dd, dd, dd, dd, dd, dd, dd, dd, dd, dd, dd, dd, dd, dd, dd, dd, dd, dd, dd, dd, dd, dd, dd, dd, dd, dd], [.box [.d (.v (.int .i64 v_r665.fSize)), .srf 1], .row 136 2 (v_w805.map eS_slab_Box), .box [.d (.v (.int .i64 v_frame23))], .box [.d (.v (.int .i64 0)), .d (vnil)], .box [.d (.v (.int .i64 0)), .d (.v (.int .i64 0))]]⟩
def G_slab_Take_L4 (n : Nat) (v_r665 : (S_slab_Slab)) (v_frame23 : Int) : Nat → Int → (List S_slab_Box) → Option G_slab_Take_L4_R
  | 0, _, _ => none
  | k + 1, v_i804, v_w805 =>
    if v_i804 < (v_w805.length : Int) then
     if 0 ≤ v_i804 ∧ (v_i804).toNat < v_w805.length then
      (v_w805[(v_i804).toNat]?).bind fun (v_y808 : S_slab_Box) =>
      if v_y808.fFrame < v_frame23 then
       G_slab_Take_L4 n v_r665 v_frame23 k (wi .i64 (v_i804 + 1)) v_w805
      else
       some (.x0 v_i804 v_w805)
     else none
    else
     some (.x0 v_i804 v_w805)
theorem G_slab_Take_L4_ok {Fi : Ex → PS → Prop} (hF : KC 108 Fi) (ks : List Fr) (n : Nat) (v_r665 : (S_slab_Slab)) (v_frame23 : Int)  : ∀ (k : Nat) (v_i804 : Int) (v_w805 : (List S_slab_Box)) (o : G_slab_Take_L4_R), G_slab_Take_L4 n v_r665 v_frame23 k v_i804 v_w805 = some o → RunE Try.prog 108 Fi ks (G_slab_Take_L4_ex o) (G_slab_Take_L4_st v_r665 v_frame23 o) → RunE Try.prog 108 Fi (.l k (cP (cB (cL (cR (cR (cR (cR (cR (cR (bodyOf Try.f37)))))))))) :: ks) .normal (G_slab_Take_L4_hd v_r665 v_frame23 v_i804 v_w805)
  | 0, v_i804, v_w805, o, h, q => by rw [G_slab_Take_L4] at h; cases h
  | k + 1, v_i804, v_w805, o, h, q => by
    rw [G_slab_Take_L4] at h
    by_cases h292 : v_i804 < (v_w805.length : Int)
    · rw [if_pos h292] at h
      by_cases h293 : 0 ≤ v_i804 ∧ (v_i804).toNat < v_w805.length
      · rw [if_pos h293] at h
        obtain ⟨v_y808, h294, h⟩ := bind_some h
        by_cases h295 : v_y808.fFrame < v_frame23
        · rw [if_pos h295] at h
          exact pkk_sound TTok mix hF 9 (hs := [.c, .u (.d (.v (.int .i64 (v_w805.length : Int)))), .t true, .c, .c, .c, .c, .c, .c, .y (eS_slab_Box v_y808), .c, .c, .c, .t true]) (ts := []) (s := [0, 1, 2, 3, 4]) (l := [2, 3, 4, 5, 13]) (by kernel_rfl) (by kernel_rfl) (.cons (len_ob (f := eS_slab_Box) (l := v_w805)) (.cons (dt h292) (.cons (idx_ob (f := eS_slab_Box) h293) (.cons (get_ob (f := eS_slab_Box) h294) (.cons (dt h295) .nil))))) (G_slab_Take_L4_ok hF ks n v_r665 v_frame23 k (wi .i64 (v_i804 + 1)) v_w805 _ h q)
        · rw [if_neg h295] at h
          cases h
          exact pkk_sound TTok mix hF 8 (hs := [.c, .u (.d (.v (.int .i64 (v_w805.length : Int)))), .t true, .c, .c, .c, .c, .c, .c, .y (eS_slab_Box v_y808), .c, .c, .c, .t false]) (ts := []) (s := [0, 1, 2, 3, 4]) (l := [2, 3, 4, 5, 13]) (by kernel_rfl) (by kernel_rfl) (.cons (len_ob (f := eS_slab_Box) (l := v_w805)) (.cons (dt h292) (.cons (idx_ob (f := eS_slab_Box) h293) (.cons (get_ob (f := eS_slab_Box) h294) (.cons (df h295) .nil))))) q
      · rw [if_neg h293] at h; cases h
    · rw [if_neg h292] at h
      cases h
      exact pkk_sound TTok mix hF 8 (hs := [.c, .u (.d (.v (.int .i64 (v_w805.length : Int)))), .t false, .c, .c, .c, .c, .c, .c, .c, .c]) (ts := []) (s := [0, 1, 2, 3, 4]) (l := [2, 3, 4, 5, 13]) (by kernel_rfl) (by kernel_rfl) (.cons (len_ob (f := eS_slab_Box) (l := v_w805)) (.cons (df h292) .nil)) q
/- ringhall/slab.Take -/
def G_slab_Take (n : Nat) (v_s22 : S_slab_Slab) (v_frame23 : Int) : Option (S_slab_Slab × S_slab_Place × Bool × Int) :=
  (G_slab_Check n v_s22).bind fun (v_r626 : (Int)) =>
  if v_r626 = 0 then
   (G_slab_copied_h n v_s22).bind fun (v_r665 : (S_slab_Slab)) =>
   (G_slab_Take_L3 n v_r665 v_frame23 n 0 v_r665.fBoxes).bind fun v_o723 => match v_o723 with
   | .x0 v_z724 v_z725 v_z726 v_z727 =>
     some ((S_slab_Slab.mk v_r665.fSize v_z726), v_z727, v_z724, v_z725)
   | .x1 v_z728 =>
     if v_frame23 < 0 then
      G_slab_Take_J1 n  0 (S_slab_Place.mk 0 0)
     else
      if v_frame23 ≥ 64 then
       G_slab_Take_J1 n  0 (S_slab_Place.mk 0 0)
      else
       (G_slices_ContainsFunc_slab_Box_slab_Box n v_z728 (fun (y0 : S_slab_Box) => G_slab_Take_1 n y0 v_frame23)).bind fun (v_r756 : (Bool)) =>
       if v_r756 = true then
        some ((S_slab_Slab.mk 0 ([] : (List S_slab_Box))), (S_slab_Place.mk 0 0), false, 5)
       else
        (G_slab_Take_L4 n v_r665 v_frame23 n 0 v_z728).bind fun v_o813 => match v_o813 with
        | .x0 v_z814 v_z815 =>
          (G_slices_Insert_slab_Box_slab_Box_h n v_z815 v_z814 ([(S_slab_Box.mk v_frame23 ([0]))])).bind fun (v_r828 : ((List S_slab_Box))) =>
          some ((S_slab_Slab.mk v_r665.fSize v_r828), (S_slab_Place.mk v_frame23 0), true, 0)
  else
   some ((S_slab_Slab.mk 0 ([] : (List S_slab_Box))), (S_slab_Place.mk 0 0), false, v_r626)
theorem G_slab_Take_ok (n : Nat) (v_s22 : S_slab_Slab) (v_frame23 : Int) (r : S_slab_Slab × S_slab_Place × Bool × Int) (h : G_slab_Take n v_s22 v_frame23 = some r) : Ret Try.prog 37 [eS_slab_Slab v_s22, (eI .i64) v_frame23] (.tup [eS_slab_Slab r.1, eS_slab_Place r.2.1, eB r.2.2.1, (eI .i64) r.2.2.2]) := by
  refine ret_run (n := 108) (fn := Try.f37) (c := bodyOf Try.f37) (by kernel_rfl) (by kernel_rfl) (by kernel_rfl) (by kernel_rfl) ?_
  have hF : KC 108 (FinR Try.prog Try.f37 (.tup [eS_slab_Slab r.1, eS_slab_Place r.2.1, eB r.2.2.1, (eI .i64) r.2.2.2])) := FinR.kc' (by kernel_rfl)
  unfold G_slab_Take at h
  obtain ⟨v_r626, h253, h⟩ := bind_some h
  by_cases h255 : v_r626 = 0
  · rw [if_pos h255] at h
    obtain ⟨v_r665, h256, h⟩ := bind_some h
    obtain ⟨v_o723, h283, h⟩ := bind_some h
    refine pkk_sound TTok mix hF 16 (hs := [.c, .r ((eI .i64) v_r626), .t false, .c, .h [] [] [.cu (outC 136 2 nq_S_slab_Box [none, none] (v_r665.fBoxes.map eS_slab_Box)) [.srf 1, .d (.v noB), .d (.v noB)], .cu (bagC nct_S_slab_Box nq_S_slab_Box (v_r665.fBoxes.map eS_slab_Box)) []] (.agg [.d (.v (.int .i64 v_r665.fSize)), .srf 0]), .c, .c, .e 80 [60] (.d (.v (.int .i64 (v_r665.fBoxes.length : Int)))) [], .n n]) (ts := []) (s := [0, 60, 61, 5, 10, 15]) (l := [2, 3, 4, 5, 24, 25, 26]) (by kernel_rfl) (by kernel_rfl) (.cons (G_slab_Check_ok n v_s22 _ h253) (.cons (nf h255) (.cons (G_slab_copied_h_ok n v_s22 _ h256) (.cons (show 0 + 2 ≤ 2 by decide) (.cons (nlen' (P := Try.prog) (T := TT) (t := 76) (l := 60) (ty := 136) (sz := 2) (N := v_r665.fBoxes.length) (q := nq_S_slab_Box) (hs := [none, none]) (xs := (v_r665.fBoxes.map eS_slab_Box)) (fs := [.srf 61, .d (.v noB), .d (.v noB)]) (x := (.tmp 24)) (by simp) (by kernel_rfl)) .nil))))) (G_slab_Take_L3_ok hF (.b 0 :: .s (cR (cR (cR (cR (bodyOf Try.f37))))) :: []) n v_r665 v_frame23 n 0 v_r665.fBoxes _ h283 ?_)
    cases v_o723 with
    | x0 v_z724 v_z725 v_z726 v_z727 =>
      try dsimp only at h
      obtain rfl := Option.some.inj h
      exact pend_sound TTok mix 3 (hs := [.dl 2, .sx [1, 2] (nFrz 1 2 136 2 (v_z726.map eS_slab_Box))]) (by kernel_rfl) (by kernel_rfl) (by kernel_rfl) (.cons (nfrz (l := 1) (B := 2) (ty := 136) (sz := 2) (ct := nct_S_slab_Box) (q := nq_S_slab_Box) (hs := [none, none]) (xs := (v_z726.map eS_slab_Box)) (fs := [.srf 2, .d (.v noB), .d (.v noB)]) (by decide) (all_fits (fun _ => rfl)) (by intro j k h; rcases j with _ | _ | j <;> simp at h) rfl) .nil)
    | x1 v_z728 =>
      try dsimp only at h
      by_cases h284 : v_frame23 < 0
      · rw [if_pos h284] at h
        exact pkk_sound TTok mix hF 6 (hs := [.c, .t true, .c, .c]) (ts := []) (s := [4, 5]) (l := [4, 5]) (by kernel_rfl) (by kernel_rfl) (.cons (dt h284) .nil) (G_slab_Take_J1_ok n  0 (S_slab_Place.mk 0 0) _ h)
      · rw [if_neg h284] at h
        by_cases h285 : v_frame23 ≥ 64
        · rw [if_pos h285] at h
          exact pkk_sound TTok mix hF 6 (hs := [.c, .t false, .c, .c, .t true]) (ts := []) (s := [4, 5]) (l := [4, 5]) (by kernel_rfl) (by kernel_rfl) (.cons (df h284) (.cons (dt h285) .nil)) (G_slab_Take_J1_ok n  0 (S_slab_Place.mk 0 0) _ h)
        · rw [if_neg h285] at h
          obtain ⟨v_r756, h286, h⟩ := bind_some h
          by_cases h288 : v_r756 = true
          · rw [if_pos h288] at h
            obtain rfl := Option.some.inj h
            exact pend_sound TTok mix 15 (hs := [.c, .t false, .c, .c, .t false, .dl 1, .sx [1, 2] (nFrz 1 2 136 2 (v_z728.map eS_slab_Box)), .c, .c, .r (eB v_r756), .t true, .c, .c]) (by kernel_rfl) (by kernel_rfl) (by kernel_rfl) (.cons (df h284) (.cons (df h285) (.cons (nfrz (l := 1) (B := 2) (ty := 136) (sz := 2) (ct := nct_S_slab_Box) (q := nq_S_slab_Box) (hs := [none, none]) (xs := (v_z728.map eS_slab_Box)) (fs := [.srf 2, .d (.v noB), .d (.v noB)]) (by decide) (all_fits (fun _ => rfl)) (by intro j k h; rcases j with _ | _ | j <;> simp at h) rfl) (.cons (G_slices_ContainsFunc_slab_Box_slab_Box_ok n v_z728 (fun (y0 : S_slab_Box) => G_slab_Take_1 n y0 v_frame23) 80 [.iptr [.v (.int .i64 v_frame23)] 0] (fun y0 r h => G_slab_Take_1_ok n y0 v_frame23 r h) _ h286) (.cons h288 (.cons (show 0 + 2 ≤ 2 by decide) (.cons (show 0 + 2 ≤ 2 by decide) .nil)))))))
          · rw [if_neg h288] at h
            obtain ⟨v_o813, h296, h⟩ := bind_some h
            refine pkk_sound TTok mix hF 17 (hs := [.c, .t false, .c, .c, .t false, .dl 1, .sx [1, 2] (nFrz 1 2 136 2 (v_z728.map eS_slab_Box)), .c, .c, .r (eB v_r756), .t false, .n n]) (ts := []) (s := [0, 1, 3, 4, 5]) (l := [2, 3, 4, 5, 13]) (by kernel_rfl) (by kernel_rfl) (.cons (df h284) (.cons (df h285) (.cons (nfrz (l := 1) (B := 2) (ty := 136) (sz := 2) (ct := nct_S_slab_Box) (q := nq_S_slab_Box) (hs := [none, none]) (xs := (v_z728.map eS_slab_Box)) (fs := [.srf 2, .d (.v noB), .d (.v noB)]) (by decide) (all_fits (fun _ => rfl)) (by intro j k h; rcases j with _ | _ | j <;> simp at h) rfl) (.cons (G_slices_ContainsFunc_slab_Box_slab_Box_ok n v_z728 (fun (y0 : S_slab_Box) => G_slab_Take_1 n y0 v_frame23) 80 [.iptr [.v (.int .i64 v_frame23)] 0] (fun y0 r h => G_slab_Take_1_ok n y0 v_frame23 r h) _ h286) (.cons (vf h288) .nil))))) (G_slab_Take_L4_ok hF (.b 5 :: .s (cR (cR (cR (cR (cR (cR (cR (bodyOf Try.f37)))))))) :: []) n v_r665 v_frame23 n 0 v_z728 _ h296 ?_)
            cases v_o813 with
            | x0 v_z814 v_z815 =>
              try dsimp only at h
              obtain ⟨v_r828, h297, h⟩ := bind_some h
              obtain rfl := Option.some.inj h
              exact pend_sound TTok mix 6 (hs := [.c, .c, .bd, .bd, .h [1] [] [.none, .row 136 2 (v_r828.map eS_slab_Box)] (.srf 1), .c, .c, .c, .c, .c]) (by kernel_rfl) (by kernel_rfl) (by kernel_rfl) (.cons (G_slices_Insert_slab_Box_slab_Box_h_ok n v_z815 v_z814 ([(S_slab_Box.mk v_frame23 ([0]))]) _ h297) (.cons (show 1 + 1 ≤ 2 by decide) (.cons (show 0 + 2 ≤ 2 by decide) (.cons (show 0 + 2 ≤ 2 by decide) .nil))))
  · rw [if_neg h255] at h
    obtain rfl := Option.some.inj h
    exact pend_sound TTok mix 12 (hs := [.c, .r ((eI .i64) v_r626), .t true, .c, .c]) (by kernel_rfl) (by kernel_rfl) (by kernel_rfl) (.cons (G_slab_Check_ok n v_s22 _ h253) (.cons (nt h255) (.cons (show 0 + 2 ≤ 2 by decide) (.cons (show 0 + 2 ≤ 2 by decide) .nil))))
/- slices.Delete[[]int,int] -/
def G_slices_Delete_int_int_h (n : Nat) (v_s897 : (List Int)) (v_i898 : Int) (v_j899 : Int) : Option ((List Int)) :=
  if ((0 : Int) ≤ v_i898 ∧ v_i898 ≤ v_j899 ∧ v_j899 ≤ (v_s897.length : Int) ∧ (v_s897.length : Int) ≤ (v_s897.length : Int)) then
   if v_i898 = v_j899 then
    some v_s897
   else
    if ((0 : Int) ≤ v_i898 ∧ v_i898 ≤ (v_s897.length : Int)) then
     if ((0 : Int) ≤ v_j899 ∧ v_j899 ≤ (v_s897.length : Int)) then
      if v_i898.toNat ≤ v_j899.toNat ∧ v_j899.toNat ≤ v_s897.length ∧ v_s897.length ≤ v_s897.length then
       if ((0 : Int) ≤ (((v_i898.toNat + (v_s897.length - v_j899.toNat)) : Nat) : Int) ∧ (((v_i898.toNat + (v_s897.length - v_j899.toNat)) : Nat) : Int) ≤ (v_s897.length : Int) ∧ (v_s897.length : Int) ≤ ((delR v_s897 v_i898.toNat v_j899.toNat v_s897.length).length : Int)) then
        if ((v_i898.toNat + (v_s897.length - v_j899.toNat)) : Nat) ≤ v_s897.length ∧ v_s897.length ≤ (delR v_s897 v_i898.toNat v_j899.toNat v_s897.length).length then
         if (v_i898.toNat + (v_s897.length - v_j899.toNat)) ≤ (clrR (delR v_s897 v_i898.toNat v_j899.toNat v_s897.length) ((v_i898.toNat + (v_s897.length - v_j899.toNat)) : Nat) v_s897.length 0).length then
          some ((clrR (delR v_s897 v_i898.toNat v_j899.toNat v_s897.length) ((v_i898.toNat + (v_s897.length - v_j899.toNat)) : Nat) v_s897.length 0).take (v_i898.toNat + (v_s897.length - v_j899.toNat)))
         else none
        else none
       else none
      else none
     else none
    else none
  else none
theorem G_slices_Delete_int_int_h_ok (n : Nat) (v_s897 : (List Int)) (v_i898 : Int) (v_j899 : Int) (r : (List Int)) (h : G_slices_Delete_int_int_h n v_s897 v_i898 v_j899 = some r) : RetH Try.prog 83 [.srf 0, .d ((eI .i64) v_i898), .d ((eI .i64) v_j899)] [.row 3 1 (v_s897.map (eI .i64))] (.srf 1) [.none, .row 3 1 (r.map (eI .i64))] := by
  refine retH_run (n := 33) (fn := Try.f83) (c := bodyOf Try.f83) (by kernel_rfl) (by kernel_rfl) (by kernel_rfl) (by kernel_rfl) ?_
  have hF : KC 33 (FinH Try.prog Try.f83 [.row 3 1 (v_s897.map (eI .i64))] (.srf 1) [.none, .row 3 1 (r.map (eI .i64))]) := FinH.kc' (by kernel_rfl)
  unfold G_slices_Delete_int_int_h at h
  by_cases h309 : ((0 : Int) ≤ v_i898 ∧ v_i898 ≤ v_j899 ∧ v_j899 ≤ (v_s897.length : Int) ∧ (v_s897.length : Int) ≤ (v_s897.length : Int))
  · rw [if_pos h309] at h
    by_cases h310 : v_i898 = v_j899
    · rw [if_pos h310] at h
      obtain rfl := Option.some.inj h
      exact pendH_sound TTok mix 13 (hs := [.u (.d (.v (.int .i64 (v_s897.length : Int)))), .e 32 [0] (dd) [], .t true, .dl 4, .mv 0]) [0, 62] (by kernel_rfl) (by kernel_rfl) (by kernel_rfl) (.cons (len_ob (f := (eI .i64)) (l := v_s897)) (.cons (xs111 (P := Try.prog) (T := TT) (f := (eI .i64)) (t := 39) (e := 3) (s := 1) (l := 0) (L := v_s897) (x := (.tmp 8)) (lo := (.tmp 9)) (hi := (.tmp 10)) (mx := (.tmp 12)) (a := v_i898) (ka := .i64) (b := v_j899) (kb := .i64) (c := (v_s897.length : Int)) (kc := .i64) (by kernel_rfl) h309) (.cons (bt h310) .nil)))
    · rw [if_neg h310] at h
      by_cases h311 : ((0 : Int) ≤ v_i898 ∧ v_i898 ≤ (v_s897.length : Int))
      · rw [if_pos h311] at h
        by_cases h312 : ((0 : Int) ≤ v_j899 ∧ v_j899 ≤ (v_s897.length : Int))
        · rw [if_pos h312] at h
          by_cases h313 : v_i898.toNat ≤ v_j899.toNat ∧ v_j899.toNat ≤ v_s897.length ∧ v_s897.length ≤ v_s897.length
          · rw [if_pos h313] at h
            by_cases h314 : ((0 : Int) ≤ (((v_i898.toNat + (v_s897.length - v_j899.toNat)) : Nat) : Int) ∧ (((v_i898.toNat + (v_s897.length - v_j899.toNat)) : Nat) : Int) ≤ (v_s897.length : Int) ∧ (v_s897.length : Int) ≤ ((delR v_s897 v_i898.toNat v_j899.toNat v_s897.length).length : Int))
            · rw [if_pos h314] at h
              by_cases h315 : ((v_i898.toNat + (v_s897.length - v_j899.toNat)) : Nat) ≤ v_s897.length ∧ v_s897.length ≤ (delR v_s897 v_i898.toNat v_j899.toNat v_s897.length).length
              · rw [if_pos h315] at h
                by_cases h316 : (v_i898.toNat + (v_s897.length - v_j899.toNat)) ≤ (clrR (delR v_s897 v_i898.toNat v_j899.toNat v_s897.length) ((v_i898.toNat + (v_s897.length - v_j899.toNat)) : Nat) v_s897.length 0).length
                · rw [if_pos h316] at h
                  obtain rfl := Option.some.inj h
                  exact pendH_sound TTok mix 18 (hs := [.u (.d (.v (.int .i64 (v_s897.length : Int)))), .e 32 [0] (dd) [], .t false, .u (.d (.v (.int .i64 (v_s897.length : Int)))), .e 77 [0] (.ssl 0 0 v_i898.toNat 1) [], .e 92 [0] (.ssl 0 v_j899.toNat v_s897.length 1) [], .e 97 [0] (.ssl 0 0 (v_i898.toNat + (v_s897.length - v_j899.toNat)) 1) [(0, .row 3 1 ((delR v_s897 v_i898.toNat v_j899.toNat v_s897.length).map (eI .i64)))], .e 117 [] (.d (.v (.int .i64 (((v_i898.toNat + (v_s897.length - v_j899.toNat)) : Nat) : Int)))) [], .e 127 [0] (.ssl 0 ((v_i898.toNat + (v_s897.length - v_j899.toNat)) : Nat) v_s897.length 1) [], .e 132 [0] (dd) [(0, .row 3 1 ((clrR (delR v_s897 v_i898.toNat v_j899.toNat v_s897.length) ((v_i898.toNat + (v_s897.length - v_j899.toNat)) : Nat) v_s897.length 0).map (eI .i64)))], .e 137 [0, 137] (.srf 137) [(0, .none), (137, .row 3 1 (((clrR (delR v_s897 v_i898.toNat v_j899.toNat v_s897.length) ((v_i898.toNat + (v_s897.length - v_j899.toNat)) : Nat) v_s897.length 0).take (v_i898.toNat + (v_s897.length - v_j899.toNat))).map (eI .i64)))]]) [0, 137] (by kernel_rfl) (by kernel_rfl) (by kernel_rfl) (.cons (len_ob (f := (eI .i64)) (l := v_s897)) (.cons (xs111 (P := Try.prog) (T := TT) (f := (eI .i64)) (t := 39) (e := 3) (s := 1) (l := 0) (L := v_s897) (x := (.tmp 8)) (lo := (.tmp 9)) (hi := (.tmp 10)) (mx := (.tmp 12)) (a := v_i898) (ka := .i64) (b := v_j899) (kb := .i64) (c := (v_s897.length : Int)) (kc := .i64) (by kernel_rfl) h309) (.cons (bf h310) (.cons (len_ob (f := (eI .i64)) (l := v_s897)) (.cons (xs01 (P := Try.prog) (T := TT) (f := (eI .i64)) (t := 39) (e := 3) (s := 1) (l := 0) (L := v_s897) (x := (.tmp 20)) (hi := (.tmp 21)) (b := v_i898) (kb := .i64) (by kernel_rfl) h311) (.cons (xs10 (P := Try.prog) (T := TT) (f := (eI .i64)) (t := 39) (e := 3) (s := 1) (l := 0) (L := v_s897) (x := (.tmp 23)) (lo := (.tmp 24)) (a := v_j899) (ka := .i64) (by kernel_rfl) h312) (.cons (xapp (ti := ⟨1, 8, .int .i64, [.i .i64]⟩) (P := Try.prog) (T := TT) (f := (eI .i64)) (t := 39) (e := 3) (s := 1) (l := 0) (i := v_i898.toNat) (j := v_j899.toNat) (q := v_s897.length) (L := v_s897) (x := (.tmp 22)) (y := (.tmp 25)) (by kernel_rfl) (by kernel_rfl) h313) (.cons (xlen (P := Try.prog) (T := TT) (t := 39) (e := 3) (s := 1) (l := 0) (i := 0) (j := (v_i898.toNat + (v_s897.length - v_j899.toNat))) (x := (.tmp 28)) (by kernel_rfl)) (.cons (xt11 (P := Try.prog) (T := TT) (f := (eI .i64)) (t := 39) (e := 3) (s := 1) (l := 0) (L := (delR v_s897 v_i898.toNat v_j899.toNat v_s897.length)) (x := (.tmp 27)) (lo := (.tmp 29)) (hi := (.tmp 30)) (a := (((v_i898.toNat + (v_s897.length - v_j899.toNat)) : Nat) : Int)) (ka := .i64) (b := (v_s897.length : Int)) (kb := .i64) (i := (v_i898.toNat + (v_s897.length - v_j899.toNat))) (by kernel_rfl) h314) (.cons (xclr (ti := ⟨1, 8, .int .i64, [.i .i64]⟩) (P := Try.prog) (T := TT) (f := (eI .i64)) (t := 39) (e := 3) (s := 1) (l := 0) (i := ((v_i898.toNat + (v_s897.length - v_j899.toNat)) : Nat)) (j := v_s897.length) (z := 0) (L := (delR v_s897 v_i898.toNat v_j899.toNat v_s897.length)) (x := (.tmp 31)) (p := .v (.int .i64 0)) (by kernel_rfl) (by kernel_rfl) (by kernel_rfl) (by kernel_rfl) (by decide) rfl h315) (.cons (xmv (P := Try.prog) (T := TT) (f := (eI .i64)) (e := 3) (s := 1) (l := 0) (nl := 137) (L := (clrR (delR v_s897 v_i898.toNat v_j899.toNat v_s897.length) ((v_i898.toNat + (v_s897.length - v_j899.toNat)) : Nat) v_s897.length 0)) (i := (v_i898.toNat + (v_s897.length - v_j899.toNat))) (x := (.tmp 0)) h316) .nil)))))))))))
                · rw [if_neg h316] at h; cases h
              · rw [if_neg h315] at h; cases h
            · rw [if_neg h314] at h; cases h
          · rw [if_neg h313] at h; cases h
        · rw [if_neg h312] at h; cases h
      · rw [if_neg h311] at h; cases h
  · rw [if_neg h309] at h; cases h
/- slices.Delete[[]ringhall/slab.Box,ringhall/slab.Box] -/
def G_slices_Delete_slab_Box_slab_Box_h (n : Nat) (v_s904 : (List S_slab_Box)) (v_i905 : Int) (v_j906 : Int) : Option ((List S_slab_Box)) :=
  if ((0 : Int) ≤ v_i905 ∧ v_i905 ≤ v_j906 ∧ v_j906 ≤ (v_s904.length : Int) ∧ (v_s904.length : Int) ≤ (v_s904.length : Int)) then
   if v_i905 = v_j906 then
    some v_s904
   else
    if ((0 : Int) ≤ v_i905 ∧ v_i905 ≤ (v_s904.length : Int)) then
     if ((0 : Int) ≤ v_j906 ∧ v_j906 ≤ (v_s904.length : Int)) then
      if v_i905.toNat ≤ v_j906.toNat ∧ v_j906.toNat ≤ v_s904.length ∧ v_s904.length ≤ v_s904.length then
       if ((0 : Int) ≤ (((v_i905.toNat + (v_s904.length - v_j906.toNat)) : Nat) : Int) ∧ (((v_i905.toNat + (v_s904.length - v_j906.toNat)) : Nat) : Int) ≤ (v_s904.length : Int) ∧ (v_s904.length : Int) ≤ ((delR v_s904 v_i905.toNat v_j906.toNat v_s904.length).length : Int)) then
        if ((v_i905.toNat + (v_s904.length - v_j906.toNat)) : Nat) ≤ v_s904.length ∧ v_s904.length ≤ (delR v_s904 v_i905.toNat v_j906.toNat v_s904.length).length then
         if (v_i905.toNat + (v_s904.length - v_j906.toNat)) ≤ (clrR (delR v_s904 v_i905.toNat v_j906.toNat v_s904.length) ((v_i905.toNat + (v_s904.length - v_j906.toNat)) : Nat) v_s904.length (S_slab_Box.mk 0 [])).length then
          some ((clrR (delR v_s904 v_i905.toNat v_j906.toNat v_s904.length) ((v_i905.toNat + (v_s904.length - v_j906.toNat)) : Nat) v_s904.length (S_slab_Box.mk 0 [])).take (v_i905.toNat + (v_s904.length - v_j906.toNat)))
         else none
        else none
       else none
      else none
     else none
    else none
  else none
theorem G_slices_Delete_slab_Box_slab_Box_h_ok (n : Nat) (v_s904 : (List S_slab_Box)) (v_i905 : Int) (v_j906 : Int) (r : (List S_slab_Box)) (h : G_slices_Delete_slab_Box_slab_Box_h n v_s904 v_i905 v_j906 = some r) : RetH Try.prog 84 [.srf 0, .d ((eI .i64) v_i905), .d ((eI .i64) v_j906)] [.row 136 2 (v_s904.map eS_slab_Box)] (.srf 1) [.none, .row 136 2 (r.map eS_slab_Box)] := by
  refine retH_run (n := 33) (fn := Try.f84) (c := bodyOf Try.f84) (by kernel_rfl) (by kernel_rfl) (by kernel_rfl) (by kernel_rfl) ?_
  have hF : KC 33 (FinH Try.prog Try.f84 [.row 136 2 (v_s904.map eS_slab_Box)] (.srf 1) [.none, .row 136 2 (r.map eS_slab_Box)]) := FinH.kc' (by kernel_rfl)
  unfold G_slices_Delete_slab_Box_slab_Box_h at h
  by_cases h321 : ((0 : Int) ≤ v_i905 ∧ v_i905 ≤ v_j906 ∧ v_j906 ≤ (v_s904.length : Int) ∧ (v_s904.length : Int) ≤ (v_s904.length : Int))
  · rw [if_pos h321] at h
    by_cases h322 : v_i905 = v_j906
    · rw [if_pos h322] at h
      obtain rfl := Option.some.inj h
      exact pendH_sound TTok mix 13 (hs := [.u (.d (.v (.int .i64 (v_s904.length : Int)))), .e 32 [0] (dd) [], .t true, .dl 4, .mv 0]) [0, 62] (by kernel_rfl) (by kernel_rfl) (by kernel_rfl) (.cons (len_ob (f := eS_slab_Box) (l := v_s904)) (.cons (xs111 (P := Try.prog) (T := TT) (f := eS_slab_Box) (t := 76) (e := 136) (s := 2) (l := 0) (L := v_s904) (x := (.tmp 8)) (lo := (.tmp 9)) (hi := (.tmp 10)) (mx := (.tmp 12)) (a := v_i905) (ka := .i64) (b := v_j906) (kb := .i64) (c := (v_s904.length : Int)) (kc := .i64) (by kernel_rfl) h321) (.cons (bt h322) .nil)))
    · rw [if_neg h322] at h
      by_cases h323 : ((0 : Int) ≤ v_i905 ∧ v_i905 ≤ (v_s904.length : Int))
      · rw [if_pos h323] at h
        by_cases h324 : ((0 : Int) ≤ v_j906 ∧ v_j906 ≤ (v_s904.length : Int))
        · rw [if_pos h324] at h
          by_cases h325 : v_i905.toNat ≤ v_j906.toNat ∧ v_j906.toNat ≤ v_s904.length ∧ v_s904.length ≤ v_s904.length
          · rw [if_pos h325] at h
            by_cases h326 : ((0 : Int) ≤ (((v_i905.toNat + (v_s904.length - v_j906.toNat)) : Nat) : Int) ∧ (((v_i905.toNat + (v_s904.length - v_j906.toNat)) : Nat) : Int) ≤ (v_s904.length : Int) ∧ (v_s904.length : Int) ≤ ((delR v_s904 v_i905.toNat v_j906.toNat v_s904.length).length : Int))
            · rw [if_pos h326] at h
              by_cases h327 : ((v_i905.toNat + (v_s904.length - v_j906.toNat)) : Nat) ≤ v_s904.length ∧ v_s904.length ≤ (delR v_s904 v_i905.toNat v_j906.toNat v_s904.length).length
              · rw [if_pos h327] at h
                by_cases h328 : (v_i905.toNat + (v_s904.length - v_j906.toNat)) ≤ (clrR (delR v_s904 v_i905.toNat v_j906.toNat v_s904.length) ((v_i905.toNat + (v_s904.length - v_j906.toNat)) : Nat) v_s904.length (S_slab_Box.mk 0 [])).length
                · rw [if_pos h328] at h
                  obtain rfl := Option.some.inj h
                  exact pendH_sound TTok mix 18 (hs := [.u (.d (.v (.int .i64 (v_s904.length : Int)))), .e 32 [0] (dd) [], .t false, .u (.d (.v (.int .i64 (v_s904.length : Int)))), .e 77 [0] (.ssl 0 0 v_i905.toNat 2) [], .e 92 [0] (.ssl 0 v_j906.toNat v_s904.length 2) [], .e 97 [0] (.ssl 0 0 (v_i905.toNat + (v_s904.length - v_j906.toNat)) 2) [(0, .row 136 2 ((delR v_s904 v_i905.toNat v_j906.toNat v_s904.length).map eS_slab_Box))], .e 117 [] (.d (.v (.int .i64 (((v_i905.toNat + (v_s904.length - v_j906.toNat)) : Nat) : Int)))) [], .e 127 [0] (.ssl 0 ((v_i905.toNat + (v_s904.length - v_j906.toNat)) : Nat) v_s904.length 2) [], .e 132 [0] (dd) [(0, .row 136 2 ((clrR (delR v_s904 v_i905.toNat v_j906.toNat v_s904.length) ((v_i905.toNat + (v_s904.length - v_j906.toNat)) : Nat) v_s904.length (S_slab_Box.mk 0 [])).map eS_slab_Box))], .e 137 [0, 137] (.srf 137) [(0, .none), (137, .row 136 2 (((clrR (delR v_s904 v_i905.toNat v_j906.toNat v_s904.length) ((v_i905.toNat + (v_s904.length - v_j906.toNat)) : Nat) v_s904.length (S_slab_Box.mk 0 [])).take (v_i905.toNat + (v_s904.length - v_j906.toNat))).map eS_slab_Box))]]) [0, 137] (by kernel_rfl) (by kernel_rfl) (by kernel_rfl) (.cons (len_ob (f := eS_slab_Box) (l := v_s904)) (.cons (xs111 (P := Try.prog) (T := TT) (f := eS_slab_Box) (t := 76) (e := 136) (s := 2) (l := 0) (L := v_s904) (x := (.tmp 8)) (lo := (.tmp 9)) (hi := (.tmp 10)) (mx := (.tmp 12)) (a := v_i905) (ka := .i64) (b := v_j906) (kb := .i64) (c := (v_s904.length : Int)) (kc := .i64) (by kernel_rfl) h321) (.cons (bf h322) (.cons (len_ob (f := eS_slab_Box) (l := v_s904)) (.cons (xs01 (P := Try.prog) (T := TT) (f := eS_slab_Box) (t := 76) (e := 136) (s := 2) (l := 0) (L := v_s904) (x := (.tmp 20)) (hi := (.tmp 21)) (b := v_i905) (kb := .i64) (by kernel_rfl) h323) (.cons (xs10 (P := Try.prog) (T := TT) (f := eS_slab_Box) (t := 76) (e := 136) (s := 2) (l := 0) (L := v_s904) (x := (.tmp 23)) (lo := (.tmp 24)) (a := v_j906) (ka := .i64) (by kernel_rfl) h324) (.cons (xapp (ti := ⟨2, 32, .st [(0, 3), (1, 39)], [.i .i64, .sl]⟩) (P := Try.prog) (T := TT) (f := eS_slab_Box) (t := 76) (e := 136) (s := 2) (l := 0) (i := v_i905.toNat) (j := v_j906.toNat) (q := v_s904.length) (L := v_s904) (x := (.tmp 22)) (y := (.tmp 25)) (by kernel_rfl) (by kernel_rfl) h325) (.cons (xlen (P := Try.prog) (T := TT) (t := 76) (e := 136) (s := 2) (l := 0) (i := 0) (j := (v_i905.toNat + (v_s904.length - v_j906.toNat))) (x := (.tmp 28)) (by kernel_rfl)) (.cons (xt11 (P := Try.prog) (T := TT) (f := eS_slab_Box) (t := 76) (e := 136) (s := 2) (l := 0) (L := (delR v_s904 v_i905.toNat v_j906.toNat v_s904.length)) (x := (.tmp 27)) (lo := (.tmp 29)) (hi := (.tmp 30)) (a := (((v_i905.toNat + (v_s904.length - v_j906.toNat)) : Nat) : Int)) (ka := .i64) (b := (v_s904.length : Int)) (kb := .i64) (i := (v_i905.toNat + (v_s904.length - v_j906.toNat))) (by kernel_rfl) h326) (.cons (xclr (ti := ⟨2, 32, .st [(0, 3), (1, 39)], [.i .i64, .sl]⟩) (P := Try.prog) (T := TT) (f := eS_slab_Box) (t := 76) (e := 136) (s := 2) (l := 0) (i := ((v_i905.toNat + (v_s904.length - v_j906.toNat)) : Nat)) (j := v_s904.length) (z := (S_slab_Box.mk 0 [])) (L := (delR v_s904 v_i905.toNat v_j906.toNat v_s904.length)) (x := (.tmp 31)) (p := .agg [.v (.int .i64 0), .sl []]) (by kernel_rfl) (by kernel_rfl) (by kernel_rfl) (by kernel_rfl) (by decide) rfl h327) (.cons (xmv (P := Try.prog) (T := TT) (f := eS_slab_Box) (e := 136) (s := 2) (l := 0) (nl := 137) (L := (clrR (delR v_s904 v_i905.toNat v_j906.toNat v_s904.length) ((v_i905.toNat + (v_s904.length - v_j906.toNat)) : Nat) v_s904.length (S_slab_Box.mk 0 []))) (i := (v_i905.toNat + (v_s904.length - v_j906.toNat))) (x := (.tmp 0)) h328) .nil)))))))))))
                · rw [if_neg h328] at h; cases h
              · rw [if_neg h327] at h; cases h
            · rw [if_neg h326] at h; cases h
          · rw [if_neg h325] at h; cases h
        · rw [if_neg h324] at h; cases h
      · rw [if_neg h323] at h; cases h
  · rw [if_neg h321] at h; cases h
inductive G_slab_Give_L1_R where
  | x0 (v_x901 : Bool) (v_x902 : Int) (v_w903 : (List S_slab_Box))
  | x1 (v_x908 : Bool) (v_x909 : Int) (v_w910 : (List S_slab_Box))
  | x2 
def G_slab_Give_L1_ex : G_slab_Give_L1_R → Ex
  | .x0 _ _ _ => .ret
  | .x1 _ _ _ => .ret
  | .x2  => .exit 0
def G_slab_Give_L1_st (v_r887 : (S_slab_Slab)) (v_p847 : S_slab_Place) : G_slab_Give_L1_R → PS
  | .x0 v_x901 v_x902 v_w903 => ⟨[dd, dd, dd, dd, .ref 0 0, .d (.v (.bool v_x901)), .d (.v (.int .i64 v_x902)), dd, dd, dd, dd, dd, dd, dd, dd, dd, dd, dd, dd, dd, dd, dd, dd, dd, dd, dd, dd, dd, dd, dd, dd, dd, dd, dd, dd, dd, dd, dd, dd, dd, dd, dd, dd, dd, dd, dd, dd, dd, dd, dd, dd, dd, dd, dd, dd, dd, dd, dd, dd, dd, dd, dd, dd, dd, dd, dd, dd], [.box [.d (.v (.int .i64 v_r887.fSize)), .srf 1], .cu (outC 136 2 nq_S_slab_Box [none, none] (v_w903.map eS_slab_Box)) [.srf 2, .d (.v noB), .d (.v noB)], .cu (bagC nct_S_slab_Box nq_S_slab_Box (v_w903.map eS_slab_Box)) []]⟩
  | .x1 v_x908 v_x909 v_w910 => ⟨[dd, dd, dd, dd, .ref 0 0, .d (.v (.bool v_x908)), .d (.v (.int .i64 v_x909)), dd, dd, dd, dd, dd, dd, dd, dd, dd, dd, dd, dd, dd, dd, dd, dd, dd, dd, dd, dd, dd, dd, dd, dd, dd, dd, dd, dd, dd, dd, dd, dd, dd, dd, dd, dd, dd, dd, dd, dd, dd, dd, dd, dd, dd, dd, dd, dd, dd, dd, dd, dd, dd, dd, dd, dd, dd, dd, dd, dd], [.box [.d (.v (.int .i64 v_r887.fSize)), .srf 1], .row 136 2 (v_w910.map eS_slab_Box)]⟩
  | .x2  => ⟨[dd, dd, dd, dd, .ref 0 0, dd, dd, dd, dd, dd, dd, dd, dd, dd, dd, dd, dd, dd, dd, dd, dd, dd, dd, dd, dd, dd, dd, dd, dd, dd, dd, dd, dd, dd, dd, dd, dd, dd, dd, dd, dd, dd, dd, dd, dd, dd, dd, dd, dd, dd, dd, dd, dd, dd, dd, dd, dd, dd, dd, dd, dd, dd, dd, dd, dd, dd, dd], [.box [.d (.v (.int .i64 0)), .d (vnil)]]⟩
def G_slab_Give_L1_hd (v_r887 : (S_slab_Slab)) (v_p847 : S_slab_Place) (v_x893 : Int) : PS := ⟨[dd, dd, .ref 0 0, .ref 3 0, .ref 4 0, dd, dd, dd, dd, dd, dd, dd, dd, dd, dd, dd, dd, dd, dd, dd, .srf 1, .d (.v (.int .i64 (v_r887.fBoxes.length : Int))), .d (.v (.int .i64 v_x893)), dd, dd, dd, dd, dd, dd, dd, dd, dd, dd, dd, dd, dd, dd, dd, dd, dd, dd, dd, dd, dd, dd, dd, dd, dd, dd, dd, dd, dd, dd, dd, dd, dd, dd, dd, dd, dd, dd, dd, dd, dd, dd, dd, dd], [.box [.d (.v (.int .i64 v_r887.fSize)), .srf 1], .cu (outC 136 2 nq_S_slab_Box [none, none] (v_r887.fBoxes.map eS_slab_Box)) [.srf 2, .d (.v noB), .d (.v noB)], .cu (bagC nct_S_slab_Box nq_S_slab_Box (v_r887.fBoxes.map eS_slab_Box)) [], .box [.d (.v (.int .i64 v_p847.fFrame)), .d (.v (.int .i64 v_p847.fAt))], .box [.d (.v (.int .i64 0)), .d (vnil)]]⟩
def G_slab_Give_L1 (n : Nat) (v_r887 : (S_slab_Slab)) (v_p847 : S_slab_Place) : Nat → Int → Option G_slab_Give_L1_R
  | 0, _ => none
  | k + 1, v_x893 =>
    if v_x893 < (v_r887.fBoxes.length : Int) then
     if 0 ≤ v_x893 ∧ (v_x893).toNat < v_r887.fBoxes.length then
      (v_r887.fBoxes[(v_x893).toNat]?).bind fun (v_y895 : S_slab_Box) =>
      (G_slices_Index_int_int n v_y895.fUsed v_p847.fAt).bind fun (v_r896 : (Int)) =>
      if v_y895.fFrame = v_p847.fFrame then
       if v_r896 < 0 then
        G_slab_Give_L1 n v_r887 v_p847 k (wi .i64 (v_x893 + 1))
       else
        (G_slices_Delete_int_int_h n v_y895.fUsed v_r896 (wi .i64 (v_r896 + 1))).bind fun (v_r900 : ((List Int))) =>
        if 0 ≤ v_x893 ∧ (v_x893).toNat < v_r887.fBoxes.length then
         if (v_x893).toNat < v_r887.fBoxes.length then
          if (v_y895.fUsed.length : Int) > 1 then
           some (.x0 false 0 (v_r887.fBoxes.set ((v_x893).toNat) (S_slab_Box.mk v_y895.fFrame v_r900)))
          else
           (G_slices_Delete_slab_Box_slab_Box_h n (v_r887.fBoxes.set ((v_x893).toNat) (S_slab_Box.mk v_y895.fFrame v_r900)) v_x893 (wi .i64 (v_x893 + 1))).bind fun (v_r907 : ((List S_slab_Box))) =>
           some (.x1 true 0 v_r907)
         else none
        else none
      else
       G_slab_Give_L1 n v_r887 v_p847 k (wi .i64 (v_x893 + 1))
     else none
    else
     some (.x2 )
theorem G_slab_Give_L1_ok {Fi : Ex → PS → Prop} (hF : KC 67 Fi) (ks : List Fr) (n : Nat) (v_r887 : (S_slab_Slab)) (v_p847 : S_slab_Place)  : ∀ (k : Nat) (v_x893 : Int) (o : G_slab_Give_L1_R), G_slab_Give_L1 n v_r887 v_p847 k v_x893 = some o → RunE Try.prog 67 Fi ks (G_slab_Give_L1_ex o) (G_slab_Give_L1_st v_r887 v_p847 o) → RunE Try.prog 67 Fi (.l k (cP (cB (cR (cL (cR (cR (cR (bodyOf Try.f38)))))))) :: ks) .normal (G_slab_Give_L1_hd v_r887 v_p847 v_x893)
  | 0, v_x893, o, h, q => by rw [G_slab_Give_L1] at h; cases h
  | k + 1, v_x893, o, h, q => by
    rw [G_slab_Give_L1] at h
    by_cases h303 : v_x893 < (v_r887.fBoxes.length : Int)
    · rw [if_pos h303] at h
      by_cases h304 : 0 ≤ v_x893 ∧ (v_x893).toNat < v_r887.fBoxes.length
      · rw [if_pos h304] at h
        obtain ⟨v_y895, h305, h⟩ := bind_some h
        obtain ⟨v_r896, h306, h⟩ := bind_some h
        by_cases h307 : v_y895.fFrame = v_p847.fFrame
        · rw [if_pos h307] at h
          by_cases h308 : v_r896 < 0
          · rw [if_pos h308] at h
            exact pkk_sound TTok mix hF 21 (hs := [.t true, .e 15 [1] (.ept 1 2 ((v_x893).toNat) 0) [], .e 20 [1, 2, 20, 21] (.agg [.d (.v (.int .i64 v_y895.fFrame)), .srf 20]) [(2, .none), (20, .row 3 1 (v_y895.fUsed.map (eI .i64))), (21, .cu (bagC nct_S_slab_Box (minus nq_S_slab_Box (((v_x893).toNat) * 2 + 1)) (v_r887.fBoxes.map eS_slab_Box)) []), (1, .cu (outC 136 2 (minus nq_S_slab_Box (((v_x893).toNat) * 2 + 1)) [some (((v_x893).toNat) * 2 + 1), none] (v_r887.fBoxes.map eS_slab_Box)) [.srf 21, .srf 20, .d (.v noB)])], .c, .c, .c, .c, .r ((eI .i64) v_r896), .c, .c, .t false, .c, .t true, .dl 4, .sx [1, 21, 20] (nClose 1 21 20 136 2 nct_S_slab_Box nq_S_slab_Box [none, none] (v_r887.fBoxes.map eS_slab_Box) [.srf 21, .srf 20, .d (.v noB)] 0)]) (ts := []) (s := [0, 1, 125, 3, 4]) (l := [2, 3, 4, 20, 21, 22]) (by kernel_rfl) (by kernel_rfl) (.cons (dt h303) (.cons (nidx (P := Try.prog) (T := TT) (t := 76) (l := 1) (ty := 136) (sz := 2) (q := nq_S_slab_Box) (hs := [none, none]) (xs := (v_r887.fBoxes.map eS_slab_Box)) (fs := [.srf 2, .d (.v noB), .d (.v noB)]) (x := (.tmp 20)) (i := (.tmp 22)) (ik := .i64) (j := v_x893) (by kernel_rfl) h304.1 (by rw [List.length_map]; exact h304.2)) (.cons (ntakeA (P := Try.prog) (T := TT) (t := 136) (l := 1) (ty := 136) (sz := 2) (i := (v_x893).toNat) (q := nq_S_slab_Box) (hs := [none, none]) (xs := (v_r887.fBoxes.map eS_slab_Box)) (fs := [.srf 2, .d (.v noB), .d (.v noB)]) (x := (.tmp 25)) (B := 2) (nl := 20) (j := 0) (e := 3) (s := 1) (ct := nct_S_slab_Box) (ys := (v_y895.fUsed.map (eI .i64))) (pre := [.v (.int .i64 v_y895.fFrame)]) (post := []) (y := (eS_slab_Box v_y895)) (by kernel_rfl) (by kernel_rfl) (all_fits (fun _ => rfl)) (get_ob (f := eS_slab_Box) h305) rfl (by simp only [List.length_cons, List.length_nil]; simp only [nq_S_slab_Box, minus, plus, qpre, Bool.and_eq_true, Bool.or_eq_true, Bool.not_eq_true', decide_eq_true_eq, decide_eq_false_iff_not, and_true, and_false, true_and, false_and, or_true, or_false, true_or, false_or, not_true_eq_false, not_false_eq_true] <;> omega) (by intro c hc hne; simp only [List.length_cons, List.length_nil] at hne; exact ⟨(by rw [Bool.eq_false_iff, ne_eq]; simp only [nq_S_slab_Box, minus, plus, qpre, Bool.and_eq_true, Bool.or_eq_true, Bool.not_eq_true', decide_eq_true_eq, decide_eq_false_iff_not, and_true, and_false, true_and, false_and, or_true, or_false, true_or, false_or, not_true_eq_false, not_false_eq_true] <;> omega), (by intro j h; rcases j with _ | _ | j <;> simp at h <;> omega)⟩) rfl rfl (by decide) rfl (by decide)) (.cons (show 0 + 2 ≤ 2 by decide) (.cons (G_slices_Index_int_int_ok n v_y895.fUsed v_p847.fAt _ h306) (.cons (nf h307) (.cons (dt h308) (.cons (nclose_same (l := 1) (B := 21) (L := 20) (ty := 136) (sz := 2) (i := (v_x893).toNat) (off := 1) (j := 0) (e := 3) (s := 1) (ct := nct_S_slab_Box) (q := (minus nq_S_slab_Box (((v_x893).toNat) * 2 + 1))) (q' := nq_S_slab_Box) (hs := [some (((v_x893).toNat) * 2 + 1), none]) (xs := (v_r887.fBoxes.map eS_slab_Box)) (ys := (v_y895.fUsed.map (eI .i64))) (fs := [.srf 21, .srf 20, .d (.v noB)]) (y := (eS_slab_Box v_y895)) (by decide) (by decide) (by decide) (all_fits (fun _ => rfl)) (get_ob (f := eS_slab_Box) h305) (by decide) rfl (by rw [Bool.eq_false_iff, ne_eq]; simp only [nq_S_slab_Box, minus, plus, qpre, Bool.and_eq_true, Bool.or_eq_true, Bool.not_eq_true', decide_eq_true_eq, decide_eq_false_iff_not, and_true, and_false, true_and, false_and, or_true, or_false, true_or, false_or, not_true_eq_false, not_false_eq_true] <;> omega) rfl (by intro j' hj' h; rcases j' with _ | _ | j' <;> simp at h hj' <;> omega) rfl rfl rfl (by intro k hk; rw [Bool.eq_iff_iff]; simp only [nq_S_slab_Box, minus, plus, qpre, Bool.and_eq_true, Bool.or_eq_true, Bool.not_eq_true', decide_eq_true_eq, decide_eq_false_iff_not, and_true, and_false, true_and, false_and, or_true, or_false, true_or, false_or, not_true_eq_false, not_false_eq_true] <;> omega)) .nil)))))))) (G_slab_Give_L1_ok hF ks n v_r887 v_p847 k (wi .i64 (v_x893 + 1)) _ h q)
          · rw [if_neg h308] at h
            obtain ⟨v_r900, h317, h⟩ := bind_some h
            by_cases h318 : 0 ≤ v_x893 ∧ (v_x893).toNat < v_r887.fBoxes.length
            · rw [if_pos h318] at h
              by_cases h319 : (v_x893).toNat < v_r887.fBoxes.length
              · rw [if_pos h319] at h
                by_cases h320 : (v_y895.fUsed.length : Int) > 1
                · rw [if_pos h320] at h
                  cases h
                  exact pkk_sound TTok mix hF 31 (hs := [.t true, .e 15 [1] (.ept 1 2 ((v_x893).toNat) 0) [], .e 20 [1, 2, 20, 21] (.agg [.d (.v (.int .i64 v_y895.fFrame)), .srf 20]) [(2, .none), (20, .row 3 1 (v_y895.fUsed.map (eI .i64))), (21, .cu (bagC nct_S_slab_Box (minus nq_S_slab_Box (((v_x893).toNat) * 2 + 1)) (v_r887.fBoxes.map eS_slab_Box)) []), (1, .cu (outC 136 2 (minus nq_S_slab_Box (((v_x893).toNat) * 2 + 1)) [some (((v_x893).toNat) * 2 + 1), none] (v_r887.fBoxes.map eS_slab_Box)) [.srf 21, .srf 20, .d (.v noB)])], .c, .c, .c, .c, .r ((eI .i64) v_r896), .c, .c, .t false, .c, .t false, .c, .e 135 [25, 20] (.srf 20) [(25, .box [.d (.v (.int .i64 v_y895.fFrame)), .ssl 20 0 v_y895.fUsed.length 1])], .h [20] [] [.none, .row 3 1 (v_r900.map (eI .i64))] (.srf 1), .e 160 [1] (.ept 1 2 ((v_x893).toNat) 0) [], .e 170 [1] (dd) [(1, .cu (outC 136 2 (minus nq_S_slab_Box (((v_x893).toNat) * 2 + 1)) [some (((v_x893).toNat) * 2 + 1), none] (v_r887.fBoxes.map eS_slab_Box)) [.srf 21, .srf 155, .d (.v noB)])], .c, .e 185 [] (.d (.v (.int .i64 (v_y895.fUsed.length : Int)))) [], .t true, .c, .c, .dl 5, .sx [1, 21, 155] (nClose 1 21 155 136 2 nct_S_slab_Box nq_S_slab_Box [none, none] ((v_r887.fBoxes.set ((v_x893).toNat) (S_slab_Box.mk v_y895.fFrame v_r900)).map eS_slab_Box) [.srf 21, .srf 155, .d (.v noB)] 0)]) (ts := []) (s := [4, 1, 215]) (l := [4, 5, 6]) (by kernel_rfl) (by kernel_rfl) (.cons (dt h303) (.cons (nidx (P := Try.prog) (T := TT) (t := 76) (l := 1) (ty := 136) (sz := 2) (q := nq_S_slab_Box) (hs := [none, none]) (xs := (v_r887.fBoxes.map eS_slab_Box)) (fs := [.srf 2, .d (.v noB), .d (.v noB)]) (x := (.tmp 20)) (i := (.tmp 22)) (ik := .i64) (j := v_x893) (by kernel_rfl) h304.1 (by rw [List.length_map]; exact h304.2)) (.cons (ntakeA (P := Try.prog) (T := TT) (t := 136) (l := 1) (ty := 136) (sz := 2) (i := (v_x893).toNat) (q := nq_S_slab_Box) (hs := [none, none]) (xs := (v_r887.fBoxes.map eS_slab_Box)) (fs := [.srf 2, .d (.v noB), .d (.v noB)]) (x := (.tmp 25)) (B := 2) (nl := 20) (j := 0) (e := 3) (s := 1) (ct := nct_S_slab_Box) (ys := (v_y895.fUsed.map (eI .i64))) (pre := [.v (.int .i64 v_y895.fFrame)]) (post := []) (y := (eS_slab_Box v_y895)) (by kernel_rfl) (by kernel_rfl) (all_fits (fun _ => rfl)) (get_ob (f := eS_slab_Box) h305) rfl (by simp only [List.length_cons, List.length_nil]; simp only [nq_S_slab_Box, minus, plus, qpre, Bool.and_eq_true, Bool.or_eq_true, Bool.not_eq_true', decide_eq_true_eq, decide_eq_false_iff_not, and_true, and_false, true_and, false_and, or_true, or_false, true_or, false_or, not_true_eq_false, not_false_eq_true] <;> omega) (by intro c hc hne; simp only [List.length_cons, List.length_nil] at hne; exact ⟨(by rw [Bool.eq_false_iff, ne_eq]; simp only [nq_S_slab_Box, minus, plus, qpre, Bool.and_eq_true, Bool.or_eq_true, Bool.not_eq_true', decide_eq_true_eq, decide_eq_false_iff_not, and_true, and_false, true_and, false_and, or_true, or_false, true_or, false_or, not_true_eq_false, not_false_eq_true] <;> omega), (by intro j h; rcases j with _ | _ | j <;> simp at h <;> omega)⟩) rfl rfl (by decide) rfl (by decide)) (.cons (show 0 + 2 ≤ 2 by decide) (.cons (G_slices_Index_int_int_ok n v_y895.fUsed v_p847.fAt _ h306) (.cons (nf h307) (.cons (df h308) (.cons (nalias (P := Try.prog) (T := TT) (t := 39) (b := 25) (off := 1) (L := 20) (e := 3) (s := 1) (N := v_y895.fUsed.length) (cs := [.d (.v (.int .i64 v_y895.fFrame)), .srf 20]) (ys := (v_y895.fUsed.map (eI .i64))) (x := (.tmp 44)) (by simp) (by kernel_rfl) rfl (by decide)) (.cons (G_slices_Delete_int_int_h_ok n v_y895.fUsed v_r896 (wi .i64 (v_r896 + 1)) _ h317) (.cons (nidx (P := Try.prog) (T := TT) (t := 76) (l := 1) (ty := 136) (sz := 2) (q := (minus nq_S_slab_Box (((v_x893).toNat) * 2 + 1))) (hs := [some (((v_x893).toNat) * 2 + 1), none]) (xs := (v_r887.fBoxes.map eS_slab_Box)) (fs := [.srf 21, .srf 20, .d (.v noB)]) (x := (.tmp 42)) (i := (.tmp 43)) (ik := .i64) (j := v_x893) (by kernel_rfl) h318.1 (by rw [List.length_map]; exact h318.2)) (.cons (nput (P := Try.prog) (T := TT) (t := 39) (l := 1) (L := 155) (ty := 136) (sz := 2) (i := (v_x893).toNat) (off := 1) (j := 0) (q := (minus nq_S_slab_Box (((v_x893).toNat) * 2 + 1))) (hs := [some (((v_x893).toNat) * 2 + 1), none]) (xs := (v_r887.fBoxes.map eS_slab_Box)) (fs := [.srf 21, .srf 20, .d (.v noB)]) (x := (.tmp 51)) (z := (.tmp 49)) (by kernel_rfl) (by rw [List.length_map]; exact h319) (by decide) (all_fits (fun _ => rfl)) (by rw [Bool.eq_false_iff, ne_eq]; simp only [nq_S_slab_Box, minus, plus, qpre, Bool.and_eq_true, Bool.or_eq_true, Bool.not_eq_true', decide_eq_true_eq, decide_eq_false_iff_not, and_true, and_false, true_and, false_and, or_true, or_false, true_or, false_or, not_true_eq_false, not_false_eq_true] <;> omega) (.inr rfl) (by intro j' hj' h; rcases j' with _ | _ | j' <;> simp at h hj' <;> omega) ⟨_, rfl⟩ (by decide)) (.cons (xlen (P := Try.prog) (T := TT) (t := 39) (e := 3) (s := 1) (l := 20) (i := 0) (j := v_y895.fUsed.length) (x := (.tmp 53)) (by kernel_rfl)) (.cons (dt h320) (.cons (show 0 + 2 ≤ 2 by decide) (.cons (nclose' (l := 1) (B := 21) (L := 155) (ty := 136) (sz := 2) (i := (v_x893).toNat) (off := 1) (j := 0) (e := 3) (s := 1) (ct := nct_S_slab_Box) (q := (minus nq_S_slab_Box (((v_x893).toNat) * 2 + 1))) (q' := nq_S_slab_Box) (hs := [some (((v_x893).toNat) * 2 + 1), none]) (xs := (v_r887.fBoxes.map eS_slab_Box)) (ys := (v_r900.map (eI .i64))) (fs := [.srf 21, .srf 155, .d (.v noB)]) (y := (eS_slab_Box v_y895)) (y' := (.agg [.v (.int .i64 v_y895.fFrame), .sl (v_r900.map (eI .i64))])) (set_ob (f := eS_slab_Box) (l := v_r887.fBoxes) (k := (v_x893).toNat) (z := (S_slab_Box.mk v_y895.fFrame v_r900)) (p := .agg [.v (.int .i64 v_y895.fFrame), .sl (v_r900.map (eI .i64))]) rfl) (by decide) (by decide) (by decide) (all_fits (fun _ => rfl)) (get_ob (f := eS_slab_Box) h305) (by decide) rfl rfl (by rw [Bool.eq_false_iff, ne_eq]; simp only [nq_S_slab_Box, minus, plus, qpre, Bool.and_eq_true, Bool.or_eq_true, Bool.not_eq_true', decide_eq_true_eq, decide_eq_false_iff_not, and_true, and_false, true_and, false_and, or_true, or_false, true_or, false_or, not_true_eq_false, not_false_eq_true] <;> omega) rfl (by intro j' hj' h; rcases j' with _ | _ | j' <;> simp at h hj' <;> omega) rfl rfl rfl (by intro k hk; rw [Bool.eq_iff_iff]; simp only [nq_S_slab_Box, minus, plus, qpre, Bool.and_eq_true, Bool.or_eq_true, Bool.not_eq_true', decide_eq_true_eq, decide_eq_false_iff_not, and_true, and_false, true_and, false_and, or_true, or_false, true_or, false_or, not_true_eq_false, not_false_eq_true] <;> omega)) .nil))))))))))))))) q
                · rw [if_neg h320] at h
                  obtain ⟨v_r907, h329, h⟩ := bind_some h
                  cases h
                  exact pkk_sound TTok mix hF 34 (hs := [.t true, .e 15 [1] (.ept 1 2 ((v_x893).toNat) 0) [], .e 20 [1, 2, 20, 21] (.agg [.d (.v (.int .i64 v_y895.fFrame)), .srf 20]) [(2, .none), (20, .row 3 1 (v_y895.fUsed.map (eI .i64))), (21, .cu (bagC nct_S_slab_Box (minus nq_S_slab_Box (((v_x893).toNat) * 2 + 1)) (v_r887.fBoxes.map eS_slab_Box)) []), (1, .cu (outC 136 2 (minus nq_S_slab_Box (((v_x893).toNat) * 2 + 1)) [some (((v_x893).toNat) * 2 + 1), none] (v_r887.fBoxes.map eS_slab_Box)) [.srf 21, .srf 20, .d (.v noB)])], .c, .c, .c, .c, .r ((eI .i64) v_r896), .c, .c, .t false, .c, .t false, .c, .e 135 [25, 20] (.srf 20) [(25, .box [.d (.v (.int .i64 v_y895.fFrame)), .ssl 20 0 v_y895.fUsed.length 1])], .h [20] [] [.none, .row 3 1 (v_r900.map (eI .i64))] (.srf 1), .e 160 [1] (.ept 1 2 ((v_x893).toNat) 0) [], .e 170 [1] (dd) [(1, .cu (outC 136 2 (minus nq_S_slab_Box (((v_x893).toNat) * 2 + 1)) [some (((v_x893).toNat) * 2 + 1), none] (v_r887.fBoxes.map eS_slab_Box)) [.srf 21, .srf 155, .d (.v noB)])], .c, .e 185 [] (.d (.v (.int .i64 (v_y895.fUsed.length : Int)))) [], .t false, .dl 2, .sx [1, 21, 155] (nClose 1 21 155 136 2 nct_S_slab_Box nq_S_slab_Box [none, none] ((v_r887.fBoxes.set ((v_x893).toNat) (S_slab_Box.mk v_y895.fFrame v_r900)).map eS_slab_Box) [.srf 21, .srf 155, .d (.v noB)] 0), .sx [1, 195] (nFrz 1 195 136 2 ((v_r887.fBoxes.set ((v_x893).toNat) (S_slab_Box.mk v_y895.fFrame v_r900)).map eS_slab_Box)), .c, .h [1] [] [.none, .row 136 2 (v_r907.map eS_slab_Box)] (.srf 1), .c, .c, .c]) (ts := []) (s := [4, 221]) (l := [4, 5, 6]) (by kernel_rfl) (by kernel_rfl) (.cons (dt h303) (.cons (nidx (P := Try.prog) (T := TT) (t := 76) (l := 1) (ty := 136) (sz := 2) (q := nq_S_slab_Box) (hs := [none, none]) (xs := (v_r887.fBoxes.map eS_slab_Box)) (fs := [.srf 2, .d (.v noB), .d (.v noB)]) (x := (.tmp 20)) (i := (.tmp 22)) (ik := .i64) (j := v_x893) (by kernel_rfl) h304.1 (by rw [List.length_map]; exact h304.2)) (.cons (ntakeA (P := Try.prog) (T := TT) (t := 136) (l := 1) (ty := 136) (sz := 2) (i := (v_x893).toNat) (q := nq_S_slab_Box) (hs := [none, none]) (xs := (v_r887.fBoxes.map eS_slab_Box)) (fs := [.srf 2, .d (.v noB), .d (.v noB)]) (x := (.tmp 25)) (B := 2) (nl := 20) (j := 0) (e := 3) (s := 1) (ct := nct_S_slab_Box) (ys := (v_y895.fUsed.map (eI .i64))) (pre := [.v (.int .i64 v_y895.fFrame)]) (post := []) (y := (eS_slab_Box v_y895)) (by kernel_rfl) (by kernel_rfl) (all_fits (fun _ => rfl)) (get_ob (f := eS_slab_Box) h305) rfl (by simp only [List.length_cons, List.length_nil]; simp only [nq_S_slab_Box, minus, plus, qpre, Bool.and_eq_true, Bool.or_eq_true, Bool.not_eq_true', decide_eq_true_eq, decide_eq_false_iff_not, and_true, and_false, true_and, false_and, or_true, or_false, true_or, false_or, not_true_eq_false, not_false_eq_true] <;> omega) (by intro c hc hne; simp only [List.length_cons, List.length_nil] at hne; exact ⟨(by rw [Bool.eq_false_iff, ne_eq]; simp only [nq_S_slab_Box, minus, plus, qpre, Bool.and_eq_true, Bool.or_eq_true, Bool.not_eq_true', decide_eq_true_eq, decide_eq_false_iff_not, and_true, and_false, true_and, false_and, or_true, or_false, true_or, false_or, not_true_eq_false, not_false_eq_true] <;> omega), (by intro j h; rcases j with _ | _ | j <;> simp at h <;> omega)⟩) rfl rfl (by decide) rfl (by decide)) (.cons (show 0 + 2 ≤ 2 by decide) (.cons (G_slices_Index_int_int_ok n v_y895.fUsed v_p847.fAt _ h306) (.cons (nf h307) (.cons (df h308) (.cons (nalias (P := Try.prog) (T := TT) (t := 39) (b := 25) (off := 1) (L := 20) (e := 3) (s := 1) (N := v_y895.fUsed.length) (cs := [.d (.v (.int .i64 v_y895.fFrame)), .srf 20]) (ys := (v_y895.fUsed.map (eI .i64))) (x := (.tmp 44)) (by simp) (by kernel_rfl) rfl (by decide)) (.cons (G_slices_Delete_int_int_h_ok n v_y895.fUsed v_r896 (wi .i64 (v_r896 + 1)) _ h317) (.cons (nidx (P := Try.prog) (T := TT) (t := 76) (l := 1) (ty := 136) (sz := 2) (q := (minus nq_S_slab_Box (((v_x893).toNat) * 2 + 1))) (hs := [some (((v_x893).toNat) * 2 + 1), none]) (xs := (v_r887.fBoxes.map eS_slab_Box)) (fs := [.srf 21, .srf 20, .d (.v noB)]) (x := (.tmp 42)) (i := (.tmp 43)) (ik := .i64) (j := v_x893) (by kernel_rfl) h318.1 (by rw [List.length_map]; exact h318.2)) (.cons (nput (P := Try.prog) (T := TT) (t := 39) (l := 1) (L := 155) (ty := 136) (sz := 2) (i := (v_x893).toNat) (off := 1) (j := 0) (q := (minus nq_S_slab_Box (((v_x893).toNat) * 2 + 1))) (hs := [some (((v_x893).toNat) * 2 + 1), none]) (xs := (v_r887.fBoxes.map eS_slab_Box)) (fs := [.srf 21, .srf 20, .d (.v noB)]) (x := (.tmp 51)) (z := (.tmp 49)) (by kernel_rfl) (by rw [List.length_map]; exact h319) (by decide) (all_fits (fun _ => rfl)) (by rw [Bool.eq_false_iff, ne_eq]; simp only [nq_S_slab_Box, minus, plus, qpre, Bool.and_eq_true, Bool.or_eq_true, Bool.not_eq_true', decide_eq_true_eq, decide_eq_false_iff_not, and_true, and_false, true_and, false_and, or_true, or_false, true_or, false_or, not_true_eq_false, not_false_eq_true] <;> omega) (.inr rfl) (by intro j' hj' h; rcases j' with _ | _ | j' <;> simp at h hj' <;> omega) ⟨_, rfl⟩ (by decide)) (.cons (xlen (P := Try.prog) (T := TT) (t := 39) (e := 3) (s := 1) (l := 20) (i := 0) (j := v_y895.fUsed.length) (x := (.tmp 53)) (by kernel_rfl)) (.cons (df h320) (.cons (nclose' (l := 1) (B := 21) (L := 155) (ty := 136) (sz := 2) (i := (v_x893).toNat) (off := 1) (j := 0) (e := 3) (s := 1) (ct := nct_S_slab_Box) (q := (minus nq_S_slab_Box (((v_x893).toNat) * 2 + 1))) (q' := nq_S_slab_Box) (hs := [some (((v_x893).toNat) * 2 + 1), none]) (xs := (v_r887.fBoxes.map eS_slab_Box)) (ys := (v_r900.map (eI .i64))) (fs := [.srf 21, .srf 155, .d (.v noB)]) (y := (eS_slab_Box v_y895)) (y' := (.agg [.v (.int .i64 v_y895.fFrame), .sl (v_r900.map (eI .i64))])) (set_ob (f := eS_slab_Box) (l := v_r887.fBoxes) (k := (v_x893).toNat) (z := (S_slab_Box.mk v_y895.fFrame v_r900)) (p := .agg [.v (.int .i64 v_y895.fFrame), .sl (v_r900.map (eI .i64))]) rfl) (by decide) (by decide) (by decide) (all_fits (fun _ => rfl)) (get_ob (f := eS_slab_Box) h305) (by decide) rfl rfl (by rw [Bool.eq_false_iff, ne_eq]; simp only [nq_S_slab_Box, minus, plus, qpre, Bool.and_eq_true, Bool.or_eq_true, Bool.not_eq_true', decide_eq_true_eq, decide_eq_false_iff_not, and_true, and_false, true_and, false_and, or_true, or_false, true_or, false_or, not_true_eq_false, not_false_eq_true] <;> omega) rfl (by intro j' hj' h; rcases j' with _ | _ | j' <;> simp at h hj' <;> omega) rfl rfl rfl (by intro k hk; rw [Bool.eq_iff_iff]; simp only [nq_S_slab_Box, minus, plus, qpre, Bool.and_eq_true, Bool.or_eq_true, Bool.not_eq_true', decide_eq_true_eq, decide_eq_false_iff_not, and_true, and_false, true_and, false_and, or_true, or_false, true_or, false_or, not_true_eq_false, not_false_eq_true] <;> omega)) (.cons (nfrz (l := 1) (B := 195) (ty := 136) (sz := 2) (ct := nct_S_slab_Box) (q := nq_S_slab_Box) (hs := [none, none]) (xs := ((v_r887.fBoxes.set ((v_x893).toNat) (S_slab_Box.mk v_y895.fFrame v_r900)).map eS_slab_Box)) (fs := [.srf 195, .d (.v noB), .d (.v noB)]) (by decide) (all_fits (fun _ => rfl)) (by intro j k h; rcases j with _ | _ | j <;> simp at h) rfl) (.cons (G_slices_Delete_slab_Box_slab_Box_h_ok n (v_r887.fBoxes.set ((v_x893).toNat) (S_slab_Box.mk v_y895.fFrame v_r900)) v_x893 (wi .i64 (v_x893 + 1)) _ h329) (.cons (show 1 + 1 ≤ 2 by decide) (.cons (show 0 + 2 ≤ 2 by decide) .nil)))))))))))))))))) q
              · rw [if_neg h319] at h; cases h
            · rw [if_neg h318] at h; cases h
        · rw [if_neg h307] at h
          exact pkk_sound TTok mix hF 21 (hs := [.t true, .e 15 [1] (.ept 1 2 ((v_x893).toNat) 0) [], .e 20 [1, 2, 20, 21] (.agg [.d (.v (.int .i64 v_y895.fFrame)), .srf 20]) [(2, .none), (20, .row 3 1 (v_y895.fUsed.map (eI .i64))), (21, .cu (bagC nct_S_slab_Box (minus nq_S_slab_Box (((v_x893).toNat) * 2 + 1)) (v_r887.fBoxes.map eS_slab_Box)) []), (1, .cu (outC 136 2 (minus nq_S_slab_Box (((v_x893).toNat) * 2 + 1)) [some (((v_x893).toNat) * 2 + 1), none] (v_r887.fBoxes.map eS_slab_Box)) [.srf 21, .srf 20, .d (.v noB)])], .c, .c, .c, .c, .r ((eI .i64) v_r896), .c, .c, .t true, .c, .c, .dl 4, .sx [1, 21, 20] (nClose 1 21 20 136 2 nct_S_slab_Box nq_S_slab_Box [none, none] (v_r887.fBoxes.map eS_slab_Box) [.srf 21, .srf 20, .d (.v noB)] 0)]) (ts := []) (s := [0, 1, 125, 3, 4]) (l := [2, 3, 4, 20, 21, 22]) (by kernel_rfl) (by kernel_rfl) (.cons (dt h303) (.cons (nidx (P := Try.prog) (T := TT) (t := 76) (l := 1) (ty := 136) (sz := 2) (q := nq_S_slab_Box) (hs := [none, none]) (xs := (v_r887.fBoxes.map eS_slab_Box)) (fs := [.srf 2, .d (.v noB), .d (.v noB)]) (x := (.tmp 20)) (i := (.tmp 22)) (ik := .i64) (j := v_x893) (by kernel_rfl) h304.1 (by rw [List.length_map]; exact h304.2)) (.cons (ntakeA (P := Try.prog) (T := TT) (t := 136) (l := 1) (ty := 136) (sz := 2) (i := (v_x893).toNat) (q := nq_S_slab_Box) (hs := [none, none]) (xs := (v_r887.fBoxes.map eS_slab_Box)) (fs := [.srf 2, .d (.v noB), .d (.v noB)]) (x := (.tmp 25)) (B := 2) (nl := 20) (j := 0) (e := 3) (s := 1) (ct := nct_S_slab_Box) (ys := (v_y895.fUsed.map (eI .i64))) (pre := [.v (.int .i64 v_y895.fFrame)]) (post := []) (y := (eS_slab_Box v_y895)) (by kernel_rfl) (by kernel_rfl) (all_fits (fun _ => rfl)) (get_ob (f := eS_slab_Box) h305) rfl (by simp only [List.length_cons, List.length_nil]; simp only [nq_S_slab_Box, minus, plus, qpre, Bool.and_eq_true, Bool.or_eq_true, Bool.not_eq_true', decide_eq_true_eq, decide_eq_false_iff_not, and_true, and_false, true_and, false_and, or_true, or_false, true_or, false_or, not_true_eq_false, not_false_eq_true] <;> omega) (by intro c hc hne; simp only [List.length_cons, List.length_nil] at hne; exact ⟨(by rw [Bool.eq_false_iff, ne_eq]; simp only [nq_S_slab_Box, minus, plus, qpre, Bool.and_eq_true, Bool.or_eq_true, Bool.not_eq_true', decide_eq_true_eq, decide_eq_false_iff_not, and_true, and_false, true_and, false_and, or_true, or_false, true_or, false_or, not_true_eq_false, not_false_eq_true] <;> omega), (by intro j h; rcases j with _ | _ | j <;> simp at h <;> omega)⟩) rfl rfl (by decide) rfl (by decide)) (.cons (show 0 + 2 ≤ 2 by decide) (.cons (G_slices_Index_int_int_ok n v_y895.fUsed v_p847.fAt _ h306) (.cons (nt h307) (.cons (nclose_same (l := 1) (B := 21) (L := 20) (ty := 136) (sz := 2) (i := (v_x893).toNat) (off := 1) (j := 0) (e := 3) (s := 1) (ct := nct_S_slab_Box) (q := (minus nq_S_slab_Box (((v_x893).toNat) * 2 + 1))) (q' := nq_S_slab_Box) (hs := [some (((v_x893).toNat) * 2 + 1), none]) (xs := (v_r887.fBoxes.map eS_slab_Box)) (ys := (v_y895.fUsed.map (eI .i64))) (fs := [.srf 21, .srf 20, .d (.v noB)]) (y := (eS_slab_Box v_y895)) (by decide) (by decide) (by decide) (all_fits (fun _ => rfl)) (get_ob (f := eS_slab_Box) h305) (by decide) rfl (by rw [Bool.eq_false_iff, ne_eq]; simp only [nq_S_slab_Box, minus, plus, qpre, Bool.and_eq_true, Bool.or_eq_true, Bool.not_eq_true', decide_eq_true_eq, decide_eq_false_iff_not, and_true, and_false, true_and, false_and, or_true, or_false, true_or, false_or, not_true_eq_false, not_false_eq_true] <;> omega) rfl (by intro j' hj' h; rcases j' with _ | _ | j' <;> simp at h hj' <;> omega) rfl rfl rfl (by intro k hk; rw [Bool.eq_iff_iff]; simp only [nq_S_slab_Box, minus, plus, qpre, Bool.and_eq_true, Bool.or_eq_true, Bool.not_eq_true', decide_eq_true_eq, decide_eq_false_iff_not, and_true, and_false, true_and, false_and, or_true, or_false, true_or, false_or, not_true_eq_false, not_false_eq_true] <;> omega)) .nil))))))) (G_slab_Give_L1_ok hF ks n v_r887 v_p847 k (wi .i64 (v_x893 + 1)) _ h q)
      · rw [if_neg h304] at h; cases h
    · rw [if_neg h303] at h
      cases h
      exact pkk_sound TTok mix hF 8 (hs := [.t false]) (ts := []) (s := [4]) (l := [4]) (by kernel_rfl) (by kernel_rfl) (.cons (df h303) .nil) q
/- ringhall/slab.Give -/
def G_slab_Give (n : Nat) (v_s846 : S_slab_Slab) (v_p847 : S_slab_Place) : Option (S_slab_Slab × Bool × Int) :=
  (G_slab_Check n v_s846).bind fun (v_r857 : (Int)) =>
  if v_r857 = 0 then
   (G_slab_copied_h n v_s846).bind fun (v_r887 : (S_slab_Slab)) =>
   (G_slab_Give_L1 n v_r887 v_p847 n 0).bind fun v_o911 => match v_o911 with
   | .x0 v_z912 v_z913 v_z914 =>
     some ((S_slab_Slab.mk v_r887.fSize v_z914), v_z912, v_z913)
   | .x1 v_z915 v_z916 v_z917 =>
     some ((S_slab_Slab.mk v_r887.fSize v_z917), v_z915, v_z916)
   | .x2  =>
     some ((S_slab_Slab.mk 0 ([] : (List S_slab_Box))), false, 4)
  else
   some ((S_slab_Slab.mk 0 ([] : (List S_slab_Box))), false, v_r857)
theorem G_slab_Give_ok (n : Nat) (v_s846 : S_slab_Slab) (v_p847 : S_slab_Place) (r : S_slab_Slab × Bool × Int) (h : G_slab_Give n v_s846 v_p847 = some r) : Ret Try.prog 38 [eS_slab_Slab v_s846, eS_slab_Place v_p847] (.tup [eS_slab_Slab r.1, eB r.2.1, (eI .i64) r.2.2]) := by
  refine ret_run (n := 67) (fn := Try.f38) (c := bodyOf Try.f38) (by kernel_rfl) (by kernel_rfl) (by kernel_rfl) (by kernel_rfl) ?_
  have hF : KC 67 (FinR Try.prog Try.f38 (.tup [eS_slab_Slab r.1, eB r.2.1, (eI .i64) r.2.2])) := FinR.kc' (by kernel_rfl)
  unfold G_slab_Give at h
  obtain ⟨v_r857, h299, h⟩ := bind_some h
  by_cases h301 : v_r857 = 0
  · rw [if_pos h301] at h
    obtain ⟨v_r887, h302, h⟩ := bind_some h
    obtain ⟨v_o911, h330, h⟩ := bind_some h
    refine pkk_sound TTok mix hF 16 (hs := [.c, .r ((eI .i64) v_r857), .t false, .c, .h [] [] [.cu (outC 136 2 nq_S_slab_Box [none, none] (v_r887.fBoxes.map eS_slab_Box)) [.srf 1, .d (.v noB), .d (.v noB)], .cu (bagC nct_S_slab_Box nq_S_slab_Box (v_r887.fBoxes.map eS_slab_Box)) []] (.agg [.d (.v (.int .i64 v_r887.fSize)), .srf 0]), .c, .c, .e 75 [55] (.d (.v (.int .i64 (v_r887.fBoxes.length : Int)))) [], .n n]) (ts := []) (s := [0, 55, 56, 5, 10]) (l := [2, 3, 4, 20, 21, 22]) (by kernel_rfl) (by kernel_rfl) (.cons (G_slab_Check_ok n v_s846 _ h299) (.cons (nf h301) (.cons (G_slab_copied_h_ok n v_s846 _ h302) (.cons (show 0 + 2 ≤ 2 by decide) (.cons (nlen' (P := Try.prog) (T := TT) (t := 76) (l := 55) (ty := 136) (sz := 2) (N := v_r887.fBoxes.length) (q := nq_S_slab_Box) (hs := [none, none]) (xs := (v_r887.fBoxes.map eS_slab_Box)) (fs := [.srf 56, .d (.v noB), .d (.v noB)]) (x := (.tmp 20)) (by simp) (by kernel_rfl)) .nil))))) (G_slab_Give_L1_ok hF (.b 0 :: .s (cR (cR (cR (cR (bodyOf Try.f38))))) :: []) n v_r887 v_p847 n 0 _ h330 ?_)
    cases v_o911 with
    | x0 v_z912 v_z913 v_z914 =>
      try dsimp only at h
      obtain rfl := Option.some.inj h
      exact pend_sound TTok mix 3 (hs := [.dl 2, .sx [1, 2] (nFrz 1 2 136 2 (v_z914.map eS_slab_Box))]) (by kernel_rfl) (by kernel_rfl) (by kernel_rfl) (.cons (nfrz (l := 1) (B := 2) (ty := 136) (sz := 2) (ct := nct_S_slab_Box) (q := nq_S_slab_Box) (hs := [none, none]) (xs := (v_z914.map eS_slab_Box)) (fs := [.srf 2, .d (.v noB), .d (.v noB)]) (by decide) (all_fits (fun _ => rfl)) (by intro j k h; rcases j with _ | _ | j <;> simp at h) rfl) .nil)
    | x1 v_z915 v_z916 v_z917 =>
      try dsimp only at h
      obtain rfl := Option.some.inj h
      exact pend_sound TTok mix 2 (hs := []) (by kernel_rfl) (by kernel_rfl) (by kernel_rfl) .nil
    | x2  =>
      try dsimp only at h
      obtain rfl := Option.some.inj h
      exact pend_sound TTok mix 4 (hs := [.c]) (by kernel_rfl) (by kernel_rfl) (by kernel_rfl) (.cons (show 0 + 2 ≤ 2 by decide) .nil)
  · rw [if_neg h301] at h
    obtain rfl := Option.some.inj h
    exact pend_sound TTok mix 12 (hs := [.c, .r ((eI .i64) v_r857), .t true, .c]) (by kernel_rfl) (by kernel_rfl) (by kernel_rfl) (.cons (G_slab_Check_ok n v_s846 _ h299) (.cons (nt h301) (.cons (show 0 + 2 ≤ 2 by decide) .nil)))
inductive G_slab_Many_L1_R where
  | x0 (v_n978 : Int)
def G_slab_Many_L1_ex : G_slab_Many_L1_R → Ex
  | .x0 _ => .exit 0
def G_slab_Many_L1_st (v_s941 : S_slab_Slab) : G_slab_Many_L1_R → PS
  | .x0 v_n978 => ⟨[dd, .ref 0 0, dd, dd, dd, dd, .d (.v (.int .i64 v_n978)), dd, dd, dd, dd, dd, dd, dd, dd, dd, dd, dd, dd, dd, dd, dd, dd, dd, dd, dd, dd, dd, dd, dd, dd, dd, dd, dd, dd, dd, dd], [.box [.d (.v (.int .i64 v_s941.fSize)), .d (.sl (v_s941.fBoxes.map eS_slab_Box))]]⟩
def G_slab_Many_L1_hd (v_s941 : S_slab_Slab) (v_n973 : Int) (v_x974 : Int) : PS := ⟨[dd, .ref 0 0, dd, dd, dd, dd, .d (.v (.int .i64 v_n973)), dd, dd, dd, dd, dd, dd, dd, dd, .d (.sl (v_s941.fBoxes.map eS_slab_Box)), .d (.v (.int .i64 (v_s941.fBoxes.length : Int))), .d (.v (.int .i64 v_x974)), dd, dd, dd, dd, dd, dd, dd, dd, dd, dd, dd, dd, dd, dd, dd, dd, dd, dd, dd], [.box [.d (.v (.int .i64 v_s941.fSize)), .d (.sl (v_s941.fBoxes.map eS_slab_Box))]]⟩
def G_slab_Many_L1 (n : Nat) (v_s941 : S_slab_Slab) : Nat → Int → Int → Option G_slab_Many_L1_R
  | 0, _, _ => none
  | k + 1, v_n973, v_x974 =>
    if v_x974 < (v_s941.fBoxes.length : Int) then
     (getI v_s941.fBoxes v_x974).bind fun (v_y977 : S_slab_Box) =>
     G_slab_Many_L1 n v_s941 k (wi .i64 (v_n973 + (v_y977.fUsed.length : Int))) (wi .i64 (v_x974 + 1))
    else
     some (.x0 v_n973)
theorem G_slab_Many_L1_ok {Fi : Ex → PS → Prop} (hF : KC 37 Fi) (ks : List Fr) (n : Nat) (v_s941 : S_slab_Slab)  : ∀ (k : Nat) (v_n973 : Int) (v_x974 : Int) (o : G_slab_Many_L1_R), G_slab_Many_L1 n v_s941 k v_n973 v_x974 = some o → RunE Try.prog 37 Fi ks (G_slab_Many_L1_ex o) (G_slab_Many_L1_st v_s941 o) → RunE Try.prog 37 Fi (.l k (cP (cB (cR (cL (cR (cR (cR (bodyOf Try.f39)))))))) :: ks) .normal (G_slab_Many_L1_hd v_s941 v_n973 v_x974)
  | 0, v_n973, v_x974, o, h, q => by rw [G_slab_Many_L1] at h; cases h
  | k + 1, v_n973, v_x974, o, h, q => by
    rw [G_slab_Many_L1] at h
    by_cases h335 : v_x974 < (v_s941.fBoxes.length : Int)
    · rw [if_pos h335] at h
      obtain ⟨v_y977, h337, h⟩ := bind_some h
      exact pkk_sound TTok mix hF 13 (hs := [.t true, .y (eS_slab_Box v_y977), .c, .c, .u (.d (.v (.int .i64 (v_y977.fUsed.length : Int))))]) (ts := []) (s := [0]) (l := [1, 6, 15, 16, 17]) (by kernel_rfl) (by kernel_rfl) (.cons (dt h335) (.cons (getI_ob (f := eS_slab_Box) h337) (.cons (show 0 + 2 ≤ 2 by decide) (.cons (len_ob (f := (eI .i64)) (l := v_y977.fUsed)) .nil)))) (G_slab_Many_L1_ok hF ks n v_s941 k (wi .i64 (v_n973 + (v_y977.fUsed.length : Int))) (wi .i64 (v_x974 + 1)) _ h q)
    · rw [if_neg h335] at h
      cases h
      exact pkk_sound TTok mix hF 8 (hs := [.t false]) (ts := []) (s := [0]) (l := [1, 6]) (by kernel_rfl) (by kernel_rfl) (.cons (df h335) .nil) q
/- ringhall/slab.Many -/
def G_slab_Many (n : Nat) (v_s941 : S_slab_Slab) : Option (Int × Int × Int) :=
  (G_slab_Check n v_s941).bind fun (v_r945 : (Int)) =>
  if v_r945 = 0 then
   (G_slab_Many_L1 n v_s941 n 0 0).bind fun v_o979 => match v_o979 with
   | .x0 v_z980 =>
     some (v_z980, (wi .i64 ((wi .i64 ((v_s941.fBoxes.length : Int) * 16)) - (wi .i64 (v_z980 * v_s941.fSize)))), 0)
  else
   some (0, 0, v_r945)
theorem G_slab_Many_ok (n : Nat) (v_s941 : S_slab_Slab) (r : Int × Int × Int) (h : G_slab_Many n v_s941 = some r) : Ret Try.prog 39 [eS_slab_Slab v_s941] (.tup [(eI .i64) r.1, (eI .i64) r.2.1, (eI .i64) r.2.2]) := by
  refine ret_run (n := 37) (fn := Try.f39) (c := bodyOf Try.f39) (by kernel_rfl) (by kernel_rfl) (by kernel_rfl) (by kernel_rfl) ?_
  have hF : KC 37 (FinR Try.prog Try.f39 (.tup [(eI .i64) r.1, (eI .i64) r.2.1, (eI .i64) r.2.2])) := FinR.kc' (by kernel_rfl)
  unfold G_slab_Many at h
  obtain ⟨v_r945, h332, h⟩ := bind_some h
  by_cases h334 : v_r945 = 0
  · rw [if_pos h334] at h
    obtain ⟨v_o979, h338, h⟩ := bind_some h
    refine pkk_sound TTok mix hF 16 (hs := [.c, .r ((eI .i64) v_r945), .t false, .c, .u (.d (.v (.int .i64 (v_s941.fBoxes.length : Int)))), .n n]) (ts := []) (s := [0]) (l := [1, 6, 15, 16, 17]) (by kernel_rfl) (by kernel_rfl) (.cons (G_slab_Check_ok n v_s941 _ h332) (.cons (nf h334) (.cons (len_ob (f := eS_slab_Box) (l := v_s941.fBoxes)) .nil))) (G_slab_Many_L1_ok hF (.b 0 :: .s (cR (cR (cR (cR (bodyOf Try.f39))))) :: []) n v_s941 n 0 0 _ h338 ?_)
    cases v_o979 with
    | x0 v_z980 =>
      try dsimp only at h
      obtain rfl := Option.some.inj h
      exact pend_sound TTok mix 4 (hs := [.c, .u (.d (.v (.int .i64 (v_s941.fBoxes.length : Int)))), .c]) (by kernel_rfl) (by kernel_rfl) (by kernel_rfl) (.cons (len_ob (f := eS_slab_Box) (l := v_s941.fBoxes)) .nil)
  · rw [if_neg h334] at h
    obtain rfl := Option.some.inj h
    exact pend_sound TTok mix 12 (hs := [.c, .r ((eI .i64) v_r945), .t true]) (by kernel_rfl) (by kernel_rfl) (by kernel_rfl) (.cons (G_slab_Check_ok n v_s941 _ h332) (.cons (nt h334) .nil))
/- ringhall/ringref2.In -/
def G_ringref2_In (n : Nat) (v_n1059 : Int) (v_least1060 : Int) (v_most1061 : Int) : Option (Bool) :=
  if v_n1059 ≥ v_least1060 then
   some (decide (v_n1059 ≤ v_most1061))
  else
   some false
theorem G_ringref2_In_ok (n : Nat) (v_n1059 : Int) (v_least1060 : Int) (v_most1061 : Int) (r : Bool) (h : G_ringref2_In n v_n1059 v_least1060 v_most1061 = some r) : Ret Try.prog 14 [(eI .i64) v_n1059, (eI .i64) v_least1060, (eI .i64) v_most1061] (eB r) := by
  refine ret_run (n := 15) (fn := Try.f14) (c := bodyOf Try.f14) (by kernel_rfl) (by kernel_rfl) (by kernel_rfl) (by kernel_rfl) ?_
  have hF : KC 15 (FinR Try.prog Try.f14 (eB r)) := FinR.kc' (by kernel_rfl)
  unfold G_ringref2_In at h
  by_cases h340 : v_n1059 ≥ v_least1060
  · rw [if_pos h340] at h
    obtain rfl := Option.some.inj h
    exact pend_sound TTok mix 5 (hs := [.t true, .c, .c]) (by kernel_rfl) (by kernel_rfl) (by kernel_rfl) (.cons (dt h340) .nil)
  · rw [if_neg h340] at h
    obtain rfl := Option.some.inj h
    exact pend_sound TTok mix 5 (hs := [.t false, .c, .c]) (by kernel_rfl) (by kernel_rfl) (by kernel_rfl) (.cons (df h340) .nil)
inductive G_ringref2_SlabSame_C1_R where
  | x0 (v_x1072 : Bool)
def G_ringref2_SlabSame_C1_ex : G_ringref2_SlabSame_C1_R → Ex
  | .x0 _ => .normal
def G_ringref2_SlabSame_C1_st (v_a1063 : S_slab_Slab) (v_b1064 : S_slab_Slab) : G_ringref2_SlabSame_C1_R → PS
  | .x0 v_x1072 => ⟨[dd, dd, .ref 0 0, .ref 1 0, dd, dd, dd, dd, dd, dd, dd, dd, dd, dd, dd, dd, dd, dd, dd, dd, .d (.v (.bool v_x1072)), dd, dd, dd, dd, dd, dd, dd, dd, dd, dd, dd, dd, dd, dd, dd, dd, dd, dd, dd, dd, dd, dd, dd, dd, dd, dd, dd, dd, dd, dd, dd, dd, dd, dd, dd, dd, dd, dd, dd, dd, dd, dd, dd, dd, dd, dd, dd, dd, dd, dd, dd, dd, dd, dd, dd, dd, dd, dd, dd, dd, dd, dd, dd, dd, dd, dd, dd], [.box [.d (.v (.int .i64 v_a1063.fSize)), .d (.sl (v_a1063.fBoxes.map eS_slab_Box))], .box [.d (.v (.int .i64 v_b1064.fSize)), .d (.sl (v_b1064.fBoxes.map eS_slab_Box))]]⟩
def G_ringref2_SlabSame_C1_hd (v_a1063 : S_slab_Slab) (v_b1064 : S_slab_Slab)  : PS := ⟨[dd, dd, .ref 0 0, .ref 1 0, dd, dd, dd, dd, dd, dd, dd, dd, dd, dd, dd, dd, dd, dd, dd, dd, dd, dd, dd, dd, dd, dd, dd, dd, dd, dd, dd, dd, dd, dd, dd, dd, dd, dd, dd, dd, dd, dd, dd, dd, dd, dd, dd, dd, dd, dd, dd, dd, dd, dd, dd, dd, dd, dd, dd, dd, dd, dd, dd, dd, dd, dd, dd, dd, dd, dd, dd, dd, dd, dd, dd, dd, dd, dd, dd, dd, dd, dd, dd, dd, dd, dd, dd, dd], [.box [.d (.v (.int .i64 v_a1063.fSize)), .d (.sl (v_a1063.fBoxes.map eS_slab_Box))], .box [.d (.v (.int .i64 v_b1064.fSize)), .d (.sl (v_b1064.fBoxes.map eS_slab_Box))]]⟩
def G_ringref2_SlabSame_C1 (n : Nat) (v_a1063 : S_slab_Slab) (v_b1064 : S_slab_Slab) : Option G_ringref2_SlabSame_C1_R :=
  if v_a1063.fSize = v_b1064.fSize then
   some (.x0 ((v_a1063.fBoxes.length : Int) != (v_b1064.fBoxes.length : Int)))
  else
   some (.x0 true)
theorem G_ringref2_SlabSame_C1_ok {Fi : Ex → PS → Prop} (hF : KC 88 Fi) (ks : List Fr) (n : Nat) (v_a1063 : S_slab_Slab) (v_b1064 : S_slab_Slab)  (o : G_ringref2_SlabSame_C1_R) (h : G_ringref2_SlabSame_C1 n v_a1063 v_b1064 = some o) (q : RunE Try.prog 88 Fi ks (G_ringref2_SlabSame_C1_ex o) (G_ringref2_SlabSame_C1_st v_a1063 v_b1064 o)) : RunE Try.prog 88 Fi (.s (cL (cL (cR (bodyOf Try.f40)))) :: ks) .normal (G_ringref2_SlabSame_C1_hd v_a1063 v_b1064) := by
  unfold G_ringref2_SlabSame_C1 at h
  by_cases h344 : v_a1063.fSize = v_b1064.fSize
  · rw [if_pos h344] at h
    cases h
    exact pkk_sound TTok mix hF 1 (hs := [.c, .c, .t false, .c, .c, .c, .u (.d (.v (.int .i64 (v_a1063.fBoxes.length : Int)))), .c, .c, .c, .c, .u (.d (.v (.int .i64 (v_b1064.fBoxes.length : Int)))), .c]) (ts := []) (s := [0, 1]) (l := [2, 3, 20]) (by kernel_rfl) (by kernel_rfl) (.cons (nf h344) (.cons (len_ob (f := eS_slab_Box) (l := v_a1063.fBoxes)) (.cons (len_ob (f := eS_slab_Box) (l := v_b1064.fBoxes)) .nil))) q
  · rw [if_neg h344] at h
    cases h
    exact pkk_sound TTok mix hF 1 (hs := [.c, .c, .t true, .c, .c, .c, .c, .c, .c]) (ts := []) (s := [0, 1]) (l := [2, 3, 20]) (by kernel_rfl) (by kernel_rfl) (.cons (nt h344) .nil) q
inductive G_ringref2_SlabSame_C2_R where
  | x0 (v_x1103 : Bool)
def G_ringref2_SlabSame_C2_ex : G_ringref2_SlabSame_C2_R → Ex
  | .x0 _ => .normal
def G_ringref2_SlabSame_C2_st (v_x1094 : Int) (v_a1063 : S_slab_Slab) (v_b1064 : S_slab_Slab) : G_ringref2_SlabSame_C2_R → PS
  | .x0 v_x1103 => ⟨[dd, dd, .ref 0 0, .ref 1 0, dd, .d (.v (.int .i64 v_x1094)), dd, dd, dd, dd, dd, dd, dd, dd, dd, dd, dd, dd, dd, dd, dd, dd, dd, .d (.v (.int .i64 (v_a1063.fBoxes.length : Int))), .d (.v (.int .i64 v_x1094)), dd, dd, dd, dd, dd, dd, dd, dd, dd, dd, dd, dd, dd, dd, dd, dd, dd, dd, dd, dd, dd, dd, dd, dd, dd, dd, dd, dd, dd, dd, dd, .d (.v (.bool v_x1103)), dd, dd, dd, dd, dd, dd, dd, dd, dd, dd, dd, dd, dd, dd, dd, dd, dd, dd, dd, dd, dd, dd, dd, dd, dd, dd, dd, dd, dd, dd, dd], [.box [.d (.v (.int .i64 v_a1063.fSize)), .d (.sl (v_a1063.fBoxes.map eS_slab_Box))], .box [.d (.v (.int .i64 v_b1064.fSize)), .d (.sl (v_b1064.fBoxes.map eS_slab_Box))]]⟩
def G_ringref2_SlabSame_C2_hd (v_x1094 : Int) (v_a1063 : S_slab_Slab) (v_b1064 : S_slab_Slab)  : PS := ⟨[dd, dd, .ref 0 0, .ref 1 0, dd, .d (.v (.int .i64 v_x1094)), dd, dd, dd, dd, dd, dd, dd, dd, dd, dd, dd, dd, dd, dd, dd, dd, dd, .d (.v (.int .i64 (v_a1063.fBoxes.length : Int))), .d (.v (.int .i64 v_x1094)), dd, dd, dd, dd, dd, dd, dd, dd, dd, dd, dd, dd, dd, dd, dd, dd, dd, dd, dd, dd, dd, dd, dd, dd, dd, dd, dd, dd, dd, dd, dd, dd, dd, dd, dd, dd, dd, dd, dd, dd, dd, dd, dd, dd, dd, dd, dd, dd, dd, dd, dd, dd, dd, dd, dd, dd, dd, dd, dd, dd, dd, dd, dd], [.box [.d (.v (.int .i64 v_a1063.fSize)), .d (.sl (v_a1063.fBoxes.map eS_slab_Box))], .box [.d (.v (.int .i64 v_b1064.fSize)), .d (.sl (v_b1064.fBoxes.map eS_slab_Box))]]⟩
def G_ringref2_SlabSame_C2 (n : Nat) (v_x1094 : Int) (v_a1063 : S_slab_Slab) (v_b1064 : S_slab_Slab) : Option G_ringref2_SlabSame_C2_R :=
  (getI v_a1063.fBoxes v_x1094).bind fun (v_y1101 : S_slab_Box) =>
  (getI v_b1064.fBoxes v_x1094).bind fun (v_y1102 : S_slab_Box) =>
  if v_y1101.fFrame = v_y1102.fFrame then
   (getI v_a1063.fBoxes v_x1094).bind fun (v_y1104 : S_slab_Box) =>
   (getI v_b1064.fBoxes v_x1094).bind fun (v_y1105 : S_slab_Box) =>
   some (.x0 ((v_y1104.fUsed.length : Int) != (v_y1105.fUsed.length : Int)))
  else
   some (.x0 true)
theorem G_ringref2_SlabSame_C2_ok {Fi : Ex → PS → Prop} (hF : KC 88 Fi) (ks : List Fr) (n : Nat) (v_x1094 : Int) (v_a1063 : S_slab_Slab) (v_b1064 : S_slab_Slab)  (o : G_ringref2_SlabSame_C2_R) (h : G_ringref2_SlabSame_C2 n v_x1094 v_a1063 v_b1064 = some o) (q : RunE Try.prog 88 Fi ks (G_ringref2_SlabSame_C2_ex o) (G_ringref2_SlabSame_C2_st v_x1094 v_a1063 v_b1064 o)) : RunE Try.prog 88 Fi (.s (cL (cL (cR (cB (cL (cR (cR (cP (cB (cR (cL (cR (cR (bodyOf Try.f40)))))))))))))) :: ks) .normal (G_ringref2_SlabSame_C2_hd v_x1094 v_a1063 v_b1064) := by
  unfold G_ringref2_SlabSame_C2 at h
  obtain ⟨v_y1101, h353, h⟩ := bind_some h
  obtain ⟨v_y1102, h354, h⟩ := bind_some h
  by_cases h355 : v_y1101.fFrame = v_y1102.fFrame
  · rw [if_pos h355] at h
    obtain ⟨v_y1104, h356, h⟩ := bind_some h
    obtain ⟨v_y1105, h357, h⟩ := bind_some h
    cases h
    exact pkk_sound TTok mix hF 1 (hs := [.c, .y (eS_slab_Box v_y1101), .c, .c, .y (eS_slab_Box v_y1102), .c, .t false, .c, .c, .c, .c, .y (eS_slab_Box v_y1104), .c, .c, .c, .c, .u (.d (.v (.int .i64 (v_y1104.fUsed.length : Int)))), .c, .c, .c, .c, .c, .y (eS_slab_Box v_y1105), .c, .c, .c, .c, .u (.d (.v (.int .i64 (v_y1105.fUsed.length : Int)))), .c]) (ts := []) (s := [0, 1]) (l := [2, 3, 5, 23, 24, 56]) (by kernel_rfl) (by kernel_rfl) (.cons (getI_ob (f := eS_slab_Box) h353) (.cons (getI_ob (f := eS_slab_Box) h354) (.cons (nf h355) (.cons (getI_ob (f := eS_slab_Box) h356) (.cons (len_ob (f := (eI .i64)) (l := v_y1104.fUsed)) (.cons (getI_ob (f := eS_slab_Box) h357) (.cons (len_ob (f := (eI .i64)) (l := v_y1105.fUsed)) .nil))))))) q
  · rw [if_neg h355] at h
    cases h
    exact pkk_sound TTok mix hF 1 (hs := [.c, .y (eS_slab_Box v_y1101), .c, .c, .y (eS_slab_Box v_y1102), .c, .t true, .c, .c, .c, .c, .c, .c, .c, .c, .c, .c, .c, .c, .c, .c]) (ts := []) (s := [0, 1]) (l := [2, 3, 5, 23, 24, 56]) (by kernel_rfl) (by kernel_rfl) (.cons (getI_ob (f := eS_slab_Box) h353) (.cons (getI_ob (f := eS_slab_Box) h354) (.cons (nt h355) .nil))) q
inductive G_ringref2_SlabSame_L3_R where
  | x0 (v_x1121 : Bool)
  | x1 
def G_ringref2_SlabSame_L3_ex : G_ringref2_SlabSame_L3_R → Ex
  | .x0 _ => .ret
  | .x1  => .exit 2
def G_ringref2_SlabSame_L3_st (v_x1094 : Int) (v_a1063 : S_slab_Slab) (v_y1110 : S_slab_Box) (v_b1064 : S_slab_Slab) : G_ringref2_SlabSame_L3_R → PS
  | .x0 v_x1121 => ⟨[dd, dd, dd, dd, .d (.v (.bool v_x1121)), dd, dd, dd, dd, dd, dd, dd, dd, dd, dd, dd, dd, dd, dd, dd, dd, dd, dd, dd, dd, dd, dd, dd, dd, dd, dd, dd, dd, dd, dd, dd, dd, dd, dd, dd, dd, dd, dd, dd, dd, dd, dd, dd, dd, dd, dd, dd, dd, dd, dd, dd, dd, dd, dd, dd, dd, dd, dd, dd, dd, dd, dd, dd, dd, dd, dd, dd, dd, dd, dd, dd, dd, dd, dd, dd, dd, dd, dd, dd, dd, dd, dd, dd], []⟩
  | .x1  => ⟨[dd, dd, .ref 0 0, .ref 1 0, dd, dd, dd, dd, dd, dd, dd, dd, dd, dd, dd, dd, dd, dd, dd, dd, dd, dd, dd, .d (.v (.int .i64 (v_a1063.fBoxes.length : Int))), .d (.v (.int .i64 v_x1094)), dd, dd, dd, dd, dd, dd, dd, dd, dd, dd, dd, dd, dd, dd, dd, dd, dd, dd, dd, dd, dd, dd, dd, dd, dd, dd, dd, dd, dd, dd, dd, dd, dd, dd, dd, dd, dd, dd, dd, dd, dd, dd, dd, dd, dd, dd, dd, dd, dd, dd, dd, dd, dd, dd, dd, dd, dd, dd, dd, dd, dd, dd, dd], [.box [.d (.v (.int .i64 v_a1063.fSize)), .d (.sl (v_a1063.fBoxes.map eS_slab_Box))], .box [.d (.v (.int .i64 v_b1064.fSize)), .d (.sl (v_b1064.fBoxes.map eS_slab_Box))]]⟩
def G_ringref2_SlabSame_L3_hd (v_x1094 : Int) (v_a1063 : S_slab_Slab) (v_y1110 : S_slab_Box) (v_b1064 : S_slab_Slab) (v_x1111 : Int) : PS := ⟨[dd, dd, .ref 0 0, .ref 1 0, dd, .d (.v (.int .i64 v_x1094)), dd, dd, dd, dd, dd, dd, dd, dd, dd, dd, dd, dd, dd, dd, dd, dd, dd, .d (.v (.int .i64 (v_a1063.fBoxes.length : Int))), .d (.v (.int .i64 v_x1094)), dd, dd, dd, dd, dd, dd, dd, dd, dd, dd, dd, dd, dd, dd, dd, dd, dd, dd, dd, dd, dd, dd, dd, dd, dd, dd, dd, dd, dd, dd, dd, dd, dd, dd, dd, dd, dd, dd, .d (.v (.int .i64 (v_y1110.fUsed.length : Int))), .d (.v (.int .i64 v_x1111)), dd, dd, dd, dd, dd, dd, dd, dd, dd, dd, dd, dd, dd, dd, dd, dd, dd, dd, dd, dd, dd, dd, dd], [.box [.d (.v (.int .i64 v_a1063.fSize)), .d (.sl (v_a1063.fBoxes.map eS_slab_Box))], .box [.d (.v (.int .i64 v_b1064.fSize)), .d (.sl (v_b1064.fBoxes.map eS_slab_Box))]]⟩
def G_ringref2_SlabSame_L3 (n : Nat) (v_x1094 : Int) (v_a1063 : S_slab_Slab) (v_y1110 : S_slab_Box) (v_b1064 : S_slab_Slab) : Nat → Int → Option G_ringref2_SlabSame_L3_R
  | 0, _ => none
  | k + 1, v_x1111 =>
    if v_x1111 < (v_y1110.fUsed.length : Int) then
     (getI v_a1063.fBoxes v_x1094).bind fun (v_y1117 : S_slab_Box) =>
     (getI v_y1117.fUsed v_x1111).bind fun (v_y1118 : Int) =>
     (getI v_b1064.fBoxes v_x1094).bind fun (v_y1119 : S_slab_Box) =>
     (getI v_y1119.fUsed v_x1111).bind fun (v_y1120 : Int) =>
     if v_y1118 = v_y1120 then
      G_ringref2_SlabSame_L3 n v_x1094 v_a1063 v_y1110 v_b1064 k (wi .i64 (v_x1111 + 1))
     else
      some (.x0 false)
    else
     some (.x1 )
theorem G_ringref2_SlabSame_L3_ok {Fi : Ex → PS → Prop} (hF : KC 88 Fi) (ks : List Fr) (n : Nat) (v_x1094 : Int) (v_a1063 : S_slab_Slab) (v_y1110 : S_slab_Box) (v_b1064 : S_slab_Slab)  : ∀ (k : Nat) (v_x1111 : Int) (o : G_ringref2_SlabSame_L3_R), G_ringref2_SlabSame_L3 n v_x1094 v_a1063 v_y1110 v_b1064 k v_x1111 = some o → RunE Try.prog 88 Fi ks (G_ringref2_SlabSame_L3_ex o) (G_ringref2_SlabSame_L3_st v_x1094 v_a1063 v_y1110 v_b1064 o) → RunE Try.prog 88 Fi (.l k (cP (cB (cR (cR (cR (cB (cL (cR (cR (cP (cB (cR (cL (cR (cR (bodyOf Try.f40)))))))))))))))) :: ks) .normal (G_ringref2_SlabSame_L3_hd v_x1094 v_a1063 v_y1110 v_b1064 v_x1111)
  | 0, v_x1111, o, h, q => by rw [G_ringref2_SlabSame_L3] at h; cases h
  | k + 1, v_x1111, o, h, q => by
    rw [G_ringref2_SlabSame_L3] at h
    by_cases h361 : v_x1111 < (v_y1110.fUsed.length : Int)
    · rw [if_pos h361] at h
      obtain ⟨v_y1117, h367, h⟩ := bind_some h
      obtain ⟨v_y1118, h368, h⟩ := bind_some h
      obtain ⟨v_y1119, h369, h⟩ := bind_some h
      obtain ⟨v_y1120, h370, h⟩ := bind_some h
      by_cases h371 : v_y1118 = v_y1120
      · rw [if_pos h371] at h
        exact pkk_sound TTok mix hF 16 (hs := [.t true, .c, .y (eS_slab_Box v_y1117), .c, .y ((eI .i64) v_y1118), .c, .c, .y (eS_slab_Box v_y1119), .c, .y ((eI .i64) v_y1120), .c, .t false]) (ts := []) (s := [0, 1]) (l := [2, 3, 5, 23, 24, 63, 64]) (by kernel_rfl) (by kernel_rfl) (.cons (dt h361) (.cons (getI_ob (f := eS_slab_Box) h367) (.cons (getI_ob (f := (eI .i64)) h368) (.cons (getI_ob (f := eS_slab_Box) h369) (.cons (getI_ob (f := (eI .i64)) h370) (.cons (nf h371) .nil)))))) (G_ringref2_SlabSame_L3_ok hF ks n v_x1094 v_a1063 v_y1110 v_b1064 k (wi .i64 (v_x1111 + 1)) _ h q)
      · rw [if_neg h371] at h
        cases h
        exact pkk_sound TTok mix hF 19 (hs := [.t true, .c, .y (eS_slab_Box v_y1117), .c, .y ((eI .i64) v_y1118), .c, .c, .y (eS_slab_Box v_y1119), .c, .y ((eI .i64) v_y1120), .c, .t true]) (ts := []) (s := []) (l := [4]) (by kernel_rfl) (by kernel_rfl) (.cons (dt h361) (.cons (getI_ob (f := eS_slab_Box) h367) (.cons (getI_ob (f := (eI .i64)) h368) (.cons (getI_ob (f := eS_slab_Box) h369) (.cons (getI_ob (f := (eI .i64)) h370) (.cons (nt h371) .nil)))))) q
    · rw [if_neg h361] at h
      cases h
      exact pkk_sound TTok mix hF 8 (hs := [.t false]) (ts := []) (s := [0, 1]) (l := [2, 3, 23, 24]) (by kernel_rfl) (by kernel_rfl) (.cons (df h361) .nil) q
inductive G_ringref2_SlabSame_L4_R where
  | x0 (v_x1109 : Bool)
  | x1 
def G_ringref2_SlabSame_L4_ex : G_ringref2_SlabSame_L4_R → Ex
  | .x0 _ => .ret
  | .x1  => .exit 0
def G_ringref2_SlabSame_L4_st (v_a1063 : S_slab_Slab) (v_b1064 : S_slab_Slab) : G_ringref2_SlabSame_L4_R → PS
  | .x0 v_x1109 => ⟨[dd, dd, dd, dd, .d (.v (.bool v_x1109)), dd, dd, dd, dd, dd, dd, dd, dd, dd, dd, dd, dd, dd, dd, dd, dd, dd, dd, dd, dd, dd, dd, dd, dd, dd, dd, dd, dd, dd, dd, dd, dd, dd, dd, dd, dd, dd, dd, dd, dd, dd, dd, dd, dd, dd, dd, dd, dd, dd, dd, dd, dd, dd, dd, dd, dd, dd, dd, dd, dd, dd, dd, dd, dd, dd, dd, dd, dd, dd, dd, dd, dd, dd, dd, dd, dd, dd, dd, dd, dd, dd, dd, dd], []⟩
  | .x1  => ⟨[dd, dd, dd, dd, dd, dd, dd, dd, dd, dd, dd, dd, dd, dd, dd, dd, dd, dd, dd, dd, dd, dd, dd, dd, dd, dd, dd, dd, dd, dd, dd, dd, dd, dd, dd, dd, dd, dd, dd, dd, dd, dd, dd, dd, dd, dd, dd, dd, dd, dd, dd, dd, dd, dd, dd, dd, dd, dd, dd, dd, dd, dd, dd, dd, dd, dd, dd, dd, dd, dd, dd, dd, dd, dd, dd, dd, dd, dd, dd, dd, dd, dd, dd, dd, dd, dd, dd, dd], []⟩
def G_ringref2_SlabSame_L4_hd (v_a1063 : S_slab_Slab) (v_b1064 : S_slab_Slab) (v_x1094 : Int) : PS := ⟨[dd, dd, .ref 0 0, .ref 1 0, dd, dd, dd, dd, dd, dd, dd, dd, dd, dd, dd, dd, dd, dd, dd, dd, dd, dd, dd, .d (.v (.int .i64 (v_a1063.fBoxes.length : Int))), .d (.v (.int .i64 v_x1094)), dd, dd, dd, dd, dd, dd, dd, dd, dd, dd, dd, dd, dd, dd, dd, dd, dd, dd, dd, dd, dd, dd, dd, dd, dd, dd, dd, dd, dd, dd, dd, dd, dd, dd, dd, dd, dd, dd, dd, dd, dd, dd, dd, dd, dd, dd, dd, dd, dd, dd, dd, dd, dd, dd, dd, dd, dd, dd, dd, dd, dd, dd, dd], [.box [.d (.v (.int .i64 v_a1063.fSize)), .d (.sl (v_a1063.fBoxes.map eS_slab_Box))], .box [.d (.v (.int .i64 v_b1064.fSize)), .d (.sl (v_b1064.fBoxes.map eS_slab_Box))]]⟩
def G_ringref2_SlabSame_L4 (n : Nat) (v_a1063 : S_slab_Slab) (v_b1064 : S_slab_Slab) : Nat → Int → Option G_ringref2_SlabSame_L4_R
  | 0, _ => none
  | k + 1, v_x1094 =>
    if v_x1094 < (v_a1063.fBoxes.length : Int) then
     (G_ringref2_SlabSame_C2 n v_x1094 v_a1063 v_b1064).bind fun v_o1107 => match v_o1107 with
     | .x0 v_z1108 =>
       if v_z1108 = true then
        some (.x0 false)
       else
        (getI v_a1063.fBoxes v_x1094).bind fun (v_y1110 : S_slab_Box) =>
        (G_ringref2_SlabSame_L3 n v_x1094 v_a1063 v_y1110 v_b1064 n 0).bind fun v_o1122 => match v_o1122 with
        | .x0 v_z1123 =>
          some (.x0 v_z1123)
        | .x1  =>
          G_ringref2_SlabSame_L4 n v_a1063 v_b1064 k (wi .i64 (v_x1094 + 1))
    else
     some (.x1 )
theorem G_ringref2_SlabSame_L4_ok {Fi : Ex → PS → Prop} (hF : KC 88 Fi) (ks : List Fr) (n : Nat) (v_a1063 : S_slab_Slab) (v_b1064 : S_slab_Slab)  : ∀ (k : Nat) (v_x1094 : Int) (o : G_ringref2_SlabSame_L4_R), G_ringref2_SlabSame_L4 n v_a1063 v_b1064 k v_x1094 = some o → RunE Try.prog 88 Fi ks (G_ringref2_SlabSame_L4_ex o) (G_ringref2_SlabSame_L4_st v_a1063 v_b1064 o) → RunE Try.prog 88 Fi (.l k (cP (cB (cR (cL (cR (cR (bodyOf Try.f40))))))) :: ks) .normal (G_ringref2_SlabSame_L4_hd v_a1063 v_b1064 v_x1094)
  | 0, v_x1094, o, h, q => by rw [G_ringref2_SlabSame_L4] at h; cases h
  | k + 1, v_x1094, o, h, q => by
    rw [G_ringref2_SlabSame_L4] at h
    by_cases h347 : v_x1094 < (v_a1063.fBoxes.length : Int)
    · rw [if_pos h347] at h
      obtain ⟨v_o1107, h358, h⟩ := bind_some h
      refine pkk_sound TTok mix hF 12 (hs := [.t true]) (ts := []) (s := [0, 1]) (l := [2, 3, 5, 23, 24]) (by kernel_rfl) (by kernel_rfl) (.cons (dt h347) .nil) (G_ringref2_SlabSame_C2_ok hF (.s (cR (cL (cR (cB (cL (cR (cR (cP (cB (cR (cL (cR (cR (bodyOf Try.f40)))))))))))))) :: .s (cR (cR (cB (cL (cR (cR (cP (cB (cR (cL (cR (cR (bodyOf Try.f40))))))))))))) :: .b 1 :: .s (cR (cR (cR (cP (cB (cR (cL (cR (cR (bodyOf Try.f40)))))))))) :: .l k (cP (cB (cR (cL (cR (cR (bodyOf Try.f40))))))) :: ks) n v_x1094 v_a1063 v_b1064 _ h358 ?_)
      cases v_o1107 with
      | x0 v_z1108 =>
        try dsimp only at h
        by_cases h359 : v_z1108 = true
        · rw [if_pos h359] at h
          cases h
          exact pkk_sound TTok mix hF 8 (hs := [.t true]) (ts := []) (s := []) (l := [4]) (by kernel_rfl) (by kernel_rfl) (.cons h359 .nil) q
        · rw [if_neg h359] at h
          obtain ⟨v_y1110, h360, h⟩ := bind_some h
          obtain ⟨v_o1122, h372, h⟩ := bind_some h
          refine pkk_sound TTok mix hF 6 (hs := [.t false, .c, .y (eS_slab_Box v_y1110), .c, .u (.d (.v (.int .i64 (v_y1110.fUsed.length : Int)))), .n n]) (ts := []) (s := [0, 1]) (l := [2, 3, 5, 23, 24, 63, 64]) (by kernel_rfl) (by kernel_rfl) (.cons (vf h359) (.cons (getI_ob (f := eS_slab_Box) h360) (.cons (len_ob (f := (eI .i64)) (l := v_y1110.fUsed)) .nil))) (G_ringref2_SlabSame_L3_ok hF (.b 2 :: .b 1 :: .s (cR (cR (cR (cP (cB (cR (cL (cR (cR (bodyOf Try.f40)))))))))) :: .l k (cP (cB (cR (cL (cR (cR (bodyOf Try.f40))))))) :: ks) n v_x1094 v_a1063 v_y1110 v_b1064 n 0 _ h372 ?_)
          cases v_o1122 with
          | x0 v_z1123 =>
            try dsimp only at h
            cases h
            exact pkk_sound TTok mix hF 4 (hs := []) (ts := []) (s := []) (l := [4]) (by kernel_rfl) (by kernel_rfl) .nil q
          | x1  =>
            try dsimp only at h
            exact pkk_sound TTok mix hF 3 (hs := []) (ts := []) (s := [0, 1]) (l := [2, 3, 23, 24]) (by kernel_rfl) (by kernel_rfl) .nil (G_ringref2_SlabSame_L4_ok hF ks n v_a1063 v_b1064 k (wi .i64 (v_x1094 + 1)) _ h q)
    · rw [if_neg h347] at h
      cases h
      exact pkk_sound TTok mix hF 8 (hs := [.t false]) (ts := []) (s := []) (l := []) (by kernel_rfl) (by kernel_rfl) (.cons (df h347) .nil) q
/- ringhall/ringref2.SlabSame -/
def G_ringref2_SlabSame (n : Nat) (v_a1063 : S_slab_Slab) (v_b1064 : S_slab_Slab) : Option (Bool) :=
  (G_ringref2_SlabSame_C1 n v_a1063 v_b1064).bind fun v_o1074 => match v_o1074 with
  | .x0 v_z1075 =>
    if v_z1075 = true then
     some false
    else
     (G_ringref2_SlabSame_L4 n v_a1063 v_b1064 n 0).bind fun v_o1125 => match v_o1125 with
     | .x0 v_z1126 =>
       some v_z1126
     | .x1  =>
       some true
theorem G_ringref2_SlabSame_ok (n : Nat) (v_a1063 : S_slab_Slab) (v_b1064 : S_slab_Slab) (r : Bool) (h : G_ringref2_SlabSame n v_a1063 v_b1064 = some r) : Ret Try.prog 40 [eS_slab_Slab v_a1063, eS_slab_Slab v_b1064] (eB r) := by
  refine ret_run (n := 88) (fn := Try.f40) (c := bodyOf Try.f40) (by kernel_rfl) (by kernel_rfl) (by kernel_rfl) (by kernel_rfl) ?_
  have hF : KC 88 (FinR Try.prog Try.f40 (eB r)) := FinR.kc' (by kernel_rfl)
  unfold G_ringref2_SlabSame at h
  obtain ⟨v_o1074, h345, h⟩ := bind_some h
  refine pkk_sound TTok mix hF 4 (hs := []) (ts := []) (s := [0, 5]) (l := [2, 3]) (by kernel_rfl) (by kernel_rfl) .nil (G_ringref2_SlabSame_C1_ok hF (.s (cR (cL (cR (bodyOf Try.f40)))) :: .s (cR (cR (bodyOf Try.f40))) :: []) n v_a1063 v_b1064 _ h345 ?_)
  cases v_o1074 with
  | x0 v_z1075 =>
    try dsimp only at h
    by_cases h346 : v_z1075 = true
    · rw [if_pos h346] at h
      obtain rfl := Option.some.inj h
      exact pend_sound TTok mix 5 (hs := [.t true]) (by kernel_rfl) (by kernel_rfl) (by kernel_rfl) (.cons h346 .nil)
    · rw [if_neg h346] at h
      obtain ⟨v_o1125, h373, h⟩ := bind_some h
      refine pkk_sound TTok mix hF 7 (hs := [.t false, .c, .u (.d (.v (.int .i64 (v_a1063.fBoxes.length : Int)))), .n n]) (ts := []) (s := [0, 1]) (l := [2, 3, 23, 24]) (by kernel_rfl) (by kernel_rfl) (.cons (vf h346) (.cons (len_ob (f := eS_slab_Box) (l := v_a1063.fBoxes)) .nil)) (G_ringref2_SlabSame_L4_ok hF (.b 0 :: .s (cR (cR (cR (bodyOf Try.f40)))) :: []) n v_a1063 v_b1064 n 0 _ h373 ?_)
      cases v_o1125 with
      | x0 v_z1126 =>
        try dsimp only at h
        obtain rfl := Option.some.inj h
        exact pend_sound TTok mix 2 (hs := []) (by kernel_rfl) (by kernel_rfl) (by kernel_rfl) .nil
      | x1  =>
        try dsimp only at h
        obtain rfl := Option.some.inj h
        exact pend_sound TTok mix 4 (hs := []) (by kernel_rfl) (by kernel_rfl) (by kernel_rfl) .nil
inductive G_ringref2_Slabs_C1_R where
  | x0 (v_x1237 : Bool)
def G_ringref2_Slabs_C1_ex : G_ringref2_Slabs_C1_R → Ex
  | .x0 _ => .normal
def G_ringref2_Slabs_C1_st (v_last1232 : Int) (v_s1203 : S_slab_Slab) (v_x1233 : Int) (v_y1235 : S_slab_Box) : G_ringref2_Slabs_C1_R → PS
  | .x0 v_x1237 => ⟨[dd, .ref 0 0, dd, dd, dd, .ref 1 0, dd, dd, dd, dd, dd, dd, dd, dd, dd, dd, dd, dd, .d (.sl (v_s1203.fBoxes.map eS_slab_Box)), .d (.v (.int .i64 (v_s1203.fBoxes.length : Int))), .d (.v (.int .i64 v_x1233)), dd, dd, dd, dd, dd, dd, dd, dd, dd, dd, dd, dd, dd, dd, dd, dd, dd, .d (.v (.bool v_x1237)), dd, dd, dd, dd, dd, dd, dd, dd, dd, dd, dd, dd, dd, dd, dd, dd, dd, dd, dd, dd, dd, dd, dd, dd, dd, dd, dd, dd, dd, dd, dd, dd, dd], [.box [.d (.v (.int .i64 v_s1203.fSize)), .d (.sl (v_s1203.fBoxes.map eS_slab_Box))], .box [.d (.v (.int .i64 v_y1235.fFrame)), .d (.sl (v_y1235.fUsed.map (eI .i64)))]]⟩
def G_ringref2_Slabs_C1_hd (v_last1232 : Int) (v_s1203 : S_slab_Slab) (v_x1233 : Int) (v_y1235 : S_slab_Box)  : PS := ⟨[dd, .ref 0 0, dd, .d (.v (.int .i64 v_last1232)), dd, .ref 1 0, dd, dd, dd, dd, dd, dd, dd, dd, dd, dd, dd, dd, .d (.sl (v_s1203.fBoxes.map eS_slab_Box)), .d (.v (.int .i64 (v_s1203.fBoxes.length : Int))), .d (.v (.int .i64 v_x1233)), dd, dd, dd, dd, dd, dd, dd, dd, dd, dd, dd, dd, dd, dd, dd, dd, dd, dd, dd, dd, dd, dd, dd, dd, dd, dd, dd, dd, dd, dd, dd, dd, dd, dd, dd, dd, dd, dd, dd, dd, dd, dd, dd, dd, dd, dd, dd, dd, dd, dd, dd], [.box [.d (.v (.int .i64 v_s1203.fSize)), .d (.sl (v_s1203.fBoxes.map eS_slab_Box))], .box [.d (.v (.int .i64 v_y1235.fFrame)), .d (.sl (v_y1235.fUsed.map (eI .i64)))]]⟩
def G_ringref2_Slabs_C1 (n : Nat) (v_last1232 : Int) (v_s1203 : S_slab_Slab) (v_x1233 : Int) (v_y1235 : S_slab_Box) : Option G_ringref2_Slabs_C1_R :=
  if v_y1235.fFrame ≤ v_last1232 then
   some (.x0 true)
  else
   if v_y1235.fFrame > 63 then
    some (.x0 true)
   else
    some (.x0 ((v_y1235.fUsed.length : Int) == 0))
theorem G_ringref2_Slabs_C1_ok {Fi : Ex → PS → Prop} (hF : KC 72 Fi) (ks : List Fr) (n : Nat) (v_last1232 : Int) (v_s1203 : S_slab_Slab) (v_x1233 : Int) (v_y1235 : S_slab_Box)  (o : G_ringref2_Slabs_C1_R) (h : G_ringref2_Slabs_C1 n v_last1232 v_s1203 v_x1233 v_y1235 = some o) (q : RunE Try.prog 72 Fi ks (G_ringref2_Slabs_C1_ex o) (G_ringref2_Slabs_C1_st v_last1232 v_s1203 v_x1233 v_y1235 o)) : RunE Try.prog 72 Fi (.s (cL (cL (cR (cB (cL (cR (cR (cP (cB (cR (cL (cR (cR (cR (cR (bodyOf Try.f41)))))))))))))))) :: ks) .normal (G_ringref2_Slabs_C1_hd v_last1232 v_s1203 v_x1233 v_y1235) := by
  unfold G_ringref2_Slabs_C1 at h
  by_cases h407 : v_y1235.fFrame ≤ v_last1232
  · rw [if_pos h407] at h
    cases h
    exact pkk_sound TTok mix hF 1 (hs := [.c, .t true, .c, .c, .c, .c, .c, .c]) (ts := []) (s := [0, 1]) (l := [1, 5, 18, 19, 20, 38]) (by kernel_rfl) (by kernel_rfl) (.cons (dt h407) .nil) q
  · rw [if_neg h407] at h
    by_cases h408 : v_y1235.fFrame > 63
    · rw [if_pos h408] at h
      cases h
      exact pkk_sound TTok mix hF 1 (hs := [.c, .t false, .c, .c, .c, .t true, .c, .c, .c]) (ts := []) (s := [0, 1]) (l := [1, 5, 18, 19, 20, 38]) (by kernel_rfl) (by kernel_rfl) (.cons (df h407) (.cons (dt h408) .nil)) q
    · rw [if_neg h408] at h
      cases h
      exact pkk_sound TTok mix hF 1 (hs := [.c, .t false, .c, .c, .c, .t false, .c, .c, .c, .u (.d (.v (.int .i64 (v_y1235.fUsed.length : Int)))), .c]) (ts := []) (s := [0, 1]) (l := [1, 5, 18, 19, 20, 38]) (by kernel_rfl) (by kernel_rfl) (.cons (df h407) (.cons (df h408) (.cons (len_ob (f := (eI .i64)) (l := v_y1235.fUsed)) .nil))) q
inductive G_ringref2_Slabs_C2_R where
  | x0 (v_x1256 : Bool)
def G_ringref2_Slabs_C2_ex : G_ringref2_Slabs_C2_R → Ex
  | .x0 _ => .normal
def G_ringref2_Slabs_C2_st (v_y1235 : S_slab_Box) (v_before1243 : Int) (v_y1254 : Int) (v_s1203 : S_slab_Slab) (v_x1233 : Int) (v_x1244 : Int) : G_ringref2_Slabs_C2_R → PS
  | .x0 v_x1256 => ⟨[dd, .ref 0 0, dd, .d (.v (.int .i64 v_y1235.fFrame)), dd, dd, dd, dd, .d (.v (.int .i64 v_y1254)), dd, dd, dd, dd, dd, dd, dd, dd, dd, .d (.sl (v_s1203.fBoxes.map eS_slab_Box)), .d (.v (.int .i64 (v_s1203.fBoxes.length : Int))), .d (.v (.int .i64 v_x1233)), dd, dd, dd, dd, dd, dd, dd, dd, dd, dd, dd, dd, dd, dd, dd, dd, dd, dd, dd, dd, dd, .d (.sl (v_y1235.fUsed.map (eI .i64))), .d (.v (.int .i64 (v_y1235.fUsed.length : Int))), .d (.v (.int .i64 v_x1244)), dd, dd, dd, dd, dd, dd, dd, dd, dd, dd, dd, dd, dd, dd, dd, dd, dd, dd, dd, dd, dd, dd, dd, .d (.v (.bool v_x1256)), dd, dd, dd], [.box [.d (.v (.int .i64 v_s1203.fSize)), .d (.sl (v_s1203.fBoxes.map eS_slab_Box))]]⟩
def G_ringref2_Slabs_C2_hd (v_y1235 : S_slab_Box) (v_before1243 : Int) (v_y1254 : Int) (v_s1203 : S_slab_Slab) (v_x1233 : Int) (v_x1244 : Int)  : PS := ⟨[dd, .ref 0 0, dd, .d (.v (.int .i64 v_y1235.fFrame)), dd, dd, .d (.v (.int .i64 v_before1243)), dd, .d (.v (.int .i64 v_y1254)), dd, dd, dd, dd, dd, dd, dd, dd, dd, .d (.sl (v_s1203.fBoxes.map eS_slab_Box)), .d (.v (.int .i64 (v_s1203.fBoxes.length : Int))), .d (.v (.int .i64 v_x1233)), dd, dd, dd, dd, dd, dd, dd, dd, dd, dd, dd, dd, dd, dd, dd, dd, dd, dd, dd, dd, dd, .d (.sl (v_y1235.fUsed.map (eI .i64))), .d (.v (.int .i64 (v_y1235.fUsed.length : Int))), .d (.v (.int .i64 v_x1244)), dd, dd, dd, dd, dd, dd, dd, dd, dd, dd, dd, dd, dd, dd, dd, dd, dd, dd, dd, dd, dd, dd, dd, dd, dd, dd, dd], [.box [.d (.v (.int .i64 v_s1203.fSize)), .d (.sl (v_s1203.fBoxes.map eS_slab_Box))]]⟩
def G_ringref2_Slabs_C2 (n : Nat) (v_y1235 : S_slab_Box) (v_before1243 : Int) (v_y1254 : Int) (v_s1203 : S_slab_Slab) (v_x1233 : Int) (v_x1244 : Int) : Option G_ringref2_Slabs_C2_R :=
  if v_y1254 ≤ v_before1243 then
   some (.x0 true)
  else
   if v_s1203.fSize ≠ 0 then
    if (remI v_y1254 v_s1203.fSize) = 0 then
     if (wi .i64 (v_y1254 + v_s1203.fSize)) > 16 then
      some (.x0 true)
     else
      some (.x0 (decide (v_y1254 > 15)))
    else
     some (.x0 true)
   else none
theorem G_ringref2_Slabs_C2_ok {Fi : Ex → PS → Prop} (hF : KC 72 Fi) (ks : List Fr) (n : Nat) (v_y1235 : S_slab_Box) (v_before1243 : Int) (v_y1254 : Int) (v_s1203 : S_slab_Slab) (v_x1233 : Int) (v_x1244 : Int)  (o : G_ringref2_Slabs_C2_R) (h : G_ringref2_Slabs_C2 n v_y1235 v_before1243 v_y1254 v_s1203 v_x1233 v_x1244 = some o) (q : RunE Try.prog 72 Fi ks (G_ringref2_Slabs_C2_ex o) (G_ringref2_Slabs_C2_st v_y1235 v_before1243 v_y1254 v_s1203 v_x1233 v_x1244 o)) : RunE Try.prog 72 Fi (.s (cL (cL (cR (cB (cL (cR (cR (cP (cB (cR (cR (cR (cR (cR (cB (cL (cR (cR (cP (cB (cR (cL (cR (cR (cR (cR (bodyOf Try.f41))))))))))))))))))))))))))) :: ks) .normal (G_ringref2_Slabs_C2_hd v_y1235 v_before1243 v_y1254 v_s1203 v_x1233 v_x1244) := by
  unfold G_ringref2_Slabs_C2 at h
  by_cases h428 : v_y1254 ≤ v_before1243
  · rw [if_pos h428] at h
    cases h
    exact pkk_sound TTok mix hF 1 (hs := [.t true, .c, .c, .c, .c, .c, .c, .c, .c, .c, .c, .c]) (ts := []) (s := [0]) (l := [1, 3, 8, 18, 19, 20, 42, 43, 44, 68]) (by kernel_rfl) (by kernel_rfl) (.cons (dt h428) .nil) q
  · rw [if_neg h428] at h
    by_cases h429 : v_s1203.fSize ≠ 0
    · rw [if_pos h429] at h
      by_cases h430 : (remI v_y1254 v_s1203.fSize) = 0
      · rw [if_pos h430] at h
        by_cases h431 : (wi .i64 (v_y1254 + v_s1203.fSize)) > 16
        · rw [if_pos h431] at h
          cases h
          exact pkk_sound TTok mix hF 1 (hs := [.t false, .c, .c, .c, .c, .c, .t false, .c, .c, .c, .c, .c, .t true, .c]) (ts := []) (s := [0]) (l := [1, 3, 8, 18, 19, 20, 42, 43, 44, 68]) (by kernel_rfl) (by kernel_rfl) (.cons (df h428) (.cons h429 (.cons (nf h430) (.cons (dt h431) .nil)))) q
        · rw [if_neg h431] at h
          cases h
          exact pkk_sound TTok mix hF 1 (hs := [.t false, .c, .c, .c, .c, .c, .t false, .c, .c, .c, .c, .c, .t false, .c]) (ts := []) (s := [0]) (l := [1, 3, 8, 18, 19, 20, 42, 43, 44, 68]) (by kernel_rfl) (by kernel_rfl) (.cons (df h428) (.cons h429 (.cons (nf h430) (.cons (df h431) .nil)))) q
      · rw [if_neg h430] at h
        cases h
        exact pkk_sound TTok mix hF 1 (hs := [.t false, .c, .c, .c, .c, .c, .t true, .c, .c, .c, .c, .c, .c]) (ts := []) (s := [0]) (l := [1, 3, 8, 18, 19, 20, 42, 43, 44, 68]) (by kernel_rfl) (by kernel_rfl) (.cons (df h428) (.cons h429 (.cons (nt h430) .nil))) q
    · rw [if_neg h429] at h; cases h
inductive G_ringref2_Slabs_L3_R where
  | x0 (v_x1262 : Int)
  | x1 
def G_ringref2_Slabs_L3_ex : G_ringref2_Slabs_L3_R → Ex
  | .x0 _ => .ret
  | .x1  => .exit 2
def G_ringref2_Slabs_L3_st (v_y1235 : S_slab_Box) (v_s1203 : S_slab_Slab) (v_x1233 : Int) : G_ringref2_Slabs_L3_R → PS
  | .x0 v_x1262 => ⟨[dd, dd, .d (.v (.int .i64 v_x1262)), dd, dd, dd, dd, dd, dd, dd, dd, dd, dd, dd, dd, dd, dd, dd, dd, dd, dd, dd, dd, dd, dd, dd, dd, dd, dd, dd, dd, dd, dd, dd, dd, dd, dd, dd, dd, dd, dd, dd, dd, dd, dd, dd, dd, dd, dd, dd, dd, dd, dd, dd, dd, dd, dd, dd, dd, dd, dd, dd, dd, dd, dd, dd, dd, dd, dd, dd, dd, dd], []⟩
  | .x1  => ⟨[dd, .ref 0 0, dd, .d (.v (.int .i64 v_y1235.fFrame)), dd, dd, dd, dd, dd, dd, dd, dd, dd, dd, dd, dd, dd, dd, .d (.sl (v_s1203.fBoxes.map eS_slab_Box)), .d (.v (.int .i64 (v_s1203.fBoxes.length : Int))), .d (.v (.int .i64 v_x1233)), dd, dd, dd, dd, dd, dd, dd, dd, dd, dd, dd, dd, dd, dd, dd, dd, dd, dd, dd, dd, dd, dd, dd, dd, dd, dd, dd, dd, dd, dd, dd, dd, dd, dd, dd, dd, dd, dd, dd, dd, dd, dd, dd, dd, dd, dd, dd, dd, dd, dd, dd], [.box [.d (.v (.int .i64 v_s1203.fSize)), .d (.sl (v_s1203.fBoxes.map eS_slab_Box))]]⟩
def G_ringref2_Slabs_L3_hd (v_y1235 : S_slab_Box) (v_s1203 : S_slab_Slab) (v_x1233 : Int) (v_before1243 : Int) (v_x1244 : Int) : PS := ⟨[dd, .ref 0 0, dd, .d (.v (.int .i64 v_y1235.fFrame)), dd, dd, .d (.v (.int .i64 v_before1243)), dd, dd, dd, dd, dd, dd, dd, dd, dd, dd, dd, .d (.sl (v_s1203.fBoxes.map eS_slab_Box)), .d (.v (.int .i64 (v_s1203.fBoxes.length : Int))), .d (.v (.int .i64 v_x1233)), dd, dd, dd, dd, dd, dd, dd, dd, dd, dd, dd, dd, dd, dd, dd, dd, dd, dd, dd, dd, dd, .d (.sl (v_y1235.fUsed.map (eI .i64))), .d (.v (.int .i64 (v_y1235.fUsed.length : Int))), .d (.v (.int .i64 v_x1244)), dd, dd, dd, dd, dd, dd, dd, dd, dd, dd, dd, dd, dd, dd, dd, dd, dd, dd, dd, dd, dd, dd, dd, dd, dd, dd, dd], [.box [.d (.v (.int .i64 v_s1203.fSize)), .d (.sl (v_s1203.fBoxes.map eS_slab_Box))]]⟩
def G_ringref2_Slabs_L3 (n : Nat) (v_y1235 : S_slab_Box) (v_s1203 : S_slab_Slab) (v_x1233 : Int) : Nat → Int → Int → Option G_ringref2_Slabs_L3_R
  | 0, _, _ => none
  | k + 1, v_before1243, v_x1244 =>
    if v_x1244 < (v_y1235.fUsed.length : Int) then
     (getI v_y1235.fUsed v_x1244).bind fun (v_y1254 : Int) =>
     (G_ringref2_Slabs_C2 n v_y1235 v_before1243 v_y1254 v_s1203 v_x1233 v_x1244).bind fun v_o1260 => match v_o1260 with
     | .x0 v_z1261 =>
       if v_z1261 = true then
        some (.x0 3)
       else
        G_ringref2_Slabs_L3 n v_y1235 v_s1203 v_x1233 k v_y1254 (wi .i64 (v_x1244 + 1))
    else
     some (.x1 )
theorem G_ringref2_Slabs_L3_ok {Fi : Ex → PS → Prop} (hF : KC 72 Fi) (ks : List Fr) (n : Nat) (v_y1235 : S_slab_Box) (v_s1203 : S_slab_Slab) (v_x1233 : Int)  : ∀ (k : Nat) (v_before1243 : Int) (v_x1244 : Int) (o : G_ringref2_Slabs_L3_R), G_ringref2_Slabs_L3 n v_y1235 v_s1203 v_x1233 k v_before1243 v_x1244 = some o → RunE Try.prog 72 Fi ks (G_ringref2_Slabs_L3_ex o) (G_ringref2_Slabs_L3_st v_y1235 v_s1203 v_x1233 o) → RunE Try.prog 72 Fi (.l k (cP (cB (cR (cR (cR (cR (cR (cB (cL (cR (cR (cP (cB (cR (cL (cR (cR (cR (cR (bodyOf Try.f41)))))))))))))))))))) :: ks) .normal (G_ringref2_Slabs_L3_hd v_y1235 v_s1203 v_x1233 v_before1243 v_x1244)
  | 0, v_before1243, v_x1244, o, h, q => by rw [G_ringref2_Slabs_L3] at h; cases h
  | k + 1, v_before1243, v_x1244, o, h, q => by
    rw [G_ringref2_Slabs_L3] at h
    by_cases h411 : v_x1244 < (v_y1235.fUsed.length : Int)
    · rw [if_pos h411] at h
      obtain ⟨v_y1254, h423, h⟩ := bind_some h
      obtain ⟨v_o1260, h432, h⟩ := bind_some h
      refine pkk_sound TTok mix hF 12 (hs := [.t true, .y ((eI .i64) v_y1254), .c]) (ts := []) (s := [0]) (l := [1, 3, 6, 8, 18, 19, 20, 42, 43, 44]) (by kernel_rfl) (by kernel_rfl) (.cons (dt h411) (.cons (getI_ob (f := (eI .i64)) h423) .nil)) (G_ringref2_Slabs_C2_ok hF (.s (cR (cL (cR (cB (cL (cR (cR (cP (cB (cR (cR (cR (cR (cR (cB (cL (cR (cR (cP (cB (cR (cL (cR (cR (cR (cR (bodyOf Try.f41))))))))))))))))))))))))))) :: .s (cR (cR (cB (cL (cR (cR (cP (cB (cR (cR (cR (cR (cR (cB (cL (cR (cR (cP (cB (cR (cL (cR (cR (cR (cR (bodyOf Try.f41)))))))))))))))))))))))))) :: .b 3 :: .s (cR (cR (cR (cP (cB (cR (cR (cR (cR (cR (cB (cL (cR (cR (cP (cB (cR (cL (cR (cR (cR (cR (bodyOf Try.f41))))))))))))))))))))))) :: .l k (cP (cB (cR (cR (cR (cR (cR (cB (cL (cR (cR (cP (cB (cR (cL (cR (cR (cR (cR (bodyOf Try.f41)))))))))))))))))))) :: ks) n v_y1235 v_before1243 v_y1254 v_s1203 v_x1233 v_x1244 _ h432 ?_)
      cases v_o1260 with
      | x0 v_z1261 =>
        try dsimp only at h
        by_cases h433 : v_z1261 = true
        · rw [if_pos h433] at h
          cases h
          exact pkk_sound TTok mix hF 8 (hs := [.t true]) (ts := []) (s := []) (l := [2]) (by kernel_rfl) (by kernel_rfl) (.cons h433 .nil) q
        · rw [if_neg h433] at h
          exact pkk_sound TTok mix hF 5 (hs := [.t false]) (ts := []) (s := [0]) (l := [1, 3, 6, 18, 19, 20, 42, 43, 44]) (by kernel_rfl) (by kernel_rfl) (.cons (vf h433) .nil) (G_ringref2_Slabs_L3_ok hF ks n v_y1235 v_s1203 v_x1233 k v_y1254 (wi .i64 (v_x1244 + 1)) _ h q)
    · rw [if_neg h411] at h
      cases h
      exact pkk_sound TTok mix hF 8 (hs := [.t false]) (ts := []) (s := [0]) (l := [1, 3, 18, 19, 20]) (by kernel_rfl) (by kernel_rfl) (.cons (df h411) .nil) q
inductive G_ringref2_Slabs_L4_R where
  | x0 (v_x1242 : Int)
  | x1 
def G_ringref2_Slabs_L4_ex : G_ringref2_Slabs_L4_R → Ex
  | .x0 _ => .ret
  | .x1  => .exit 0
def G_ringref2_Slabs_L4_st (v_s1203 : S_slab_Slab) : G_ringref2_Slabs_L4_R → PS
  | .x0 v_x1242 => ⟨[dd, dd, .d (.v (.int .i64 v_x1242)), dd, dd, dd, dd, dd, dd, dd, dd, dd, dd, dd, dd, dd, dd, dd, dd, dd, dd, dd, dd, dd, dd, dd, dd, dd, dd, dd, dd, dd, dd, dd, dd, dd, dd, dd, dd, dd, dd, dd, dd, dd, dd, dd, dd, dd, dd, dd, dd, dd, dd, dd, dd, dd, dd, dd, dd, dd, dd, dd, dd, dd, dd, dd, dd, dd, dd, dd, dd, dd], []⟩
  | .x1  => ⟨[dd, dd, dd, dd, dd, dd, dd, dd, dd, dd, dd, dd, dd, dd, dd, dd, dd, dd, dd, dd, dd, dd, dd, dd, dd, dd, dd, dd, dd, dd, dd, dd, dd, dd, dd, dd, dd, dd, dd, dd, dd, dd, dd, dd, dd, dd, dd, dd, dd, dd, dd, dd, dd, dd, dd, dd, dd, dd, dd, dd, dd, dd, dd, dd, dd, dd, dd, dd, dd, dd, dd, dd], []⟩
def G_ringref2_Slabs_L4_hd (v_s1203 : S_slab_Slab) (v_last1232 : Int) (v_x1233 : Int) : PS := ⟨[dd, .ref 0 0, dd, .d (.v (.int .i64 v_last1232)), dd, dd, dd, dd, dd, dd, dd, dd, dd, dd, dd, dd, dd, dd, .d (.sl (v_s1203.fBoxes.map eS_slab_Box)), .d (.v (.int .i64 (v_s1203.fBoxes.length : Int))), .d (.v (.int .i64 v_x1233)), dd, dd, dd, dd, dd, dd, dd, dd, dd, dd, dd, dd, dd, dd, dd, dd, dd, dd, dd, dd, dd, dd, dd, dd, dd, dd, dd, dd, dd, dd, dd, dd, dd, dd, dd, dd, dd, dd, dd, dd, dd, dd, dd, dd, dd, dd, dd, dd, dd, dd, dd], [.box [.d (.v (.int .i64 v_s1203.fSize)), .d (.sl (v_s1203.fBoxes.map eS_slab_Box))]]⟩
def G_ringref2_Slabs_L4 (n : Nat) (v_s1203 : S_slab_Slab) : Nat → Int → Int → Option G_ringref2_Slabs_L4_R
  | 0, _, _ => none
  | k + 1, v_last1232, v_x1233 =>
    if v_x1233 < (v_s1203.fBoxes.length : Int) then
     (getI v_s1203.fBoxes v_x1233).bind fun (v_y1235 : S_slab_Box) =>
     (G_ringref2_Slabs_C1 n v_last1232 v_s1203 v_x1233 v_y1235).bind fun v_o1240 => match v_o1240 with
     | .x0 v_z1241 =>
       if v_z1241 = true then
        some (.x0 3)
       else
        (G_ringref2_Slabs_L3 n v_y1235 v_s1203 v_x1233 n (-1) 0).bind fun v_o1263 => match v_o1263 with
        | .x0 v_z1264 =>
          some (.x0 v_z1264)
        | .x1  =>
          G_ringref2_Slabs_L4 n v_s1203 k v_y1235.fFrame (wi .i64 (v_x1233 + 1))
    else
     some (.x1 )
theorem G_ringref2_Slabs_L4_ok {Fi : Ex → PS → Prop} (hF : KC 72 Fi) (ks : List Fr) (n : Nat) (v_s1203 : S_slab_Slab)  : ∀ (k : Nat) (v_last1232 : Int) (v_x1233 : Int) (o : G_ringref2_Slabs_L4_R), G_ringref2_Slabs_L4 n v_s1203 k v_last1232 v_x1233 = some o → RunE Try.prog 72 Fi ks (G_ringref2_Slabs_L4_ex o) (G_ringref2_Slabs_L4_st v_s1203 o) → RunE Try.prog 72 Fi (.l k (cP (cB (cR (cL (cR (cR (cR (cR (bodyOf Try.f41))))))))) :: ks) .normal (G_ringref2_Slabs_L4_hd v_s1203 v_last1232 v_x1233)
  | 0, v_last1232, v_x1233, o, h, q => by rw [G_ringref2_Slabs_L4] at h; cases h
  | k + 1, v_last1232, v_x1233, o, h, q => by
    rw [G_ringref2_Slabs_L4] at h
    by_cases h403 : v_x1233 < (v_s1203.fBoxes.length : Int)
    · rw [if_pos h403] at h
      obtain ⟨v_y1235, h404, h⟩ := bind_some h
      obtain ⟨v_o1240, h409, h⟩ := bind_some h
      refine pkk_sound TTok mix hF 12 (hs := [.t true, .y (eS_slab_Box v_y1235), .c]) (ts := []) (s := [0, 16]) (l := [1, 3, 5, 18, 19, 20]) (by kernel_rfl) (by kernel_rfl) (.cons (dt h403) (.cons (getI_ob (f := eS_slab_Box) h404) (.cons (show 0 + 2 ≤ 2 by decide) .nil))) (G_ringref2_Slabs_C1_ok hF (.s (cR (cL (cR (cB (cL (cR (cR (cP (cB (cR (cL (cR (cR (cR (cR (bodyOf Try.f41)))))))))))))))) :: .s (cR (cR (cB (cL (cR (cR (cP (cB (cR (cL (cR (cR (cR (cR (bodyOf Try.f41))))))))))))))) :: .b 1 :: .s (cR (cR (cR (cP (cB (cR (cL (cR (cR (cR (cR (bodyOf Try.f41)))))))))))) :: .l k (cP (cB (cR (cL (cR (cR (cR (cR (bodyOf Try.f41))))))))) :: ks) n v_last1232 v_s1203 v_x1233 v_y1235 _ h409 ?_)
      cases v_o1240 with
      | x0 v_z1241 =>
        try dsimp only at h
        by_cases h410 : v_z1241 = true
        · rw [if_pos h410] at h
          cases h
          exact pkk_sound TTok mix hF 8 (hs := [.t true]) (ts := []) (s := []) (l := [2]) (by kernel_rfl) (by kernel_rfl) (.cons h410 .nil) q
        · rw [if_neg h410] at h
          obtain ⟨v_o1263, h434, h⟩ := bind_some h
          refine pkk_sound TTok mix hF 10 (hs := [.t false, .c, .c, .u (.d (.v (.int .i64 (v_y1235.fUsed.length : Int)))), .n n]) (ts := []) (s := [0]) (l := [1, 3, 6, 18, 19, 20, 42, 43, 44]) (by kernel_rfl) (by kernel_rfl) (.cons (vf h410) (.cons (len_ob (f := (eI .i64)) (l := v_y1235.fUsed)) .nil)) (G_ringref2_Slabs_L3_ok hF (.b 2 :: .b 1 :: .s (cR (cR (cR (cP (cB (cR (cL (cR (cR (cR (cR (bodyOf Try.f41)))))))))))) :: .l k (cP (cB (cR (cL (cR (cR (cR (cR (bodyOf Try.f41))))))))) :: ks) n v_y1235 v_s1203 v_x1233 n (-1) 0 _ h434 ?_)
          cases v_o1263 with
          | x0 v_z1264 =>
            try dsimp only at h
            cases h
            exact pkk_sound TTok mix hF 4 (hs := []) (ts := []) (s := []) (l := [2]) (by kernel_rfl) (by kernel_rfl) .nil q
          | x1  =>
            try dsimp only at h
            exact pkk_sound TTok mix hF 3 (hs := []) (ts := []) (s := [0]) (l := [1, 3, 18, 19, 20]) (by kernel_rfl) (by kernel_rfl) .nil (G_ringref2_Slabs_L4_ok hF ks n v_s1203 k v_y1235.fFrame (wi .i64 (v_x1233 + 1)) _ h q)
    · rw [if_neg h403] at h
      cases h
      exact pkk_sound TTok mix hF 8 (hs := [.t false]) (ts := []) (s := []) (l := []) (by kernel_rfl) (by kernel_rfl) (.cons (df h403) .nil) q
/- ringhall/ringref2.Slabs -/
def G_ringref2_Slabs (n : Nat) (v_s1203 : S_slab_Slab) : Option (Int) :=
  (G_ringref2_In n v_s1203.fSize 1 16).bind fun (v_r1207 : (Bool)) =>
  if v_r1207 = true then
   if (v_s1203.fBoxes.length : Int) > 64 then
    some 2
   else
    (G_ringref2_Slabs_L4 n v_s1203 n (-1) 0).bind fun v_o1266 => match v_o1266 with
    | .x0 v_z1267 =>
      some v_z1267
    | .x1  =>
      some 0
  else
   some 1
theorem G_ringref2_Slabs_ok (n : Nat) (v_s1203 : S_slab_Slab) (r : Int) (h : G_ringref2_Slabs n v_s1203 = some r) : Ret Try.prog 41 [eS_slab_Slab v_s1203] ((eI .i64) r) := by
  refine ret_run (n := 72) (fn := Try.f41) (c := bodyOf Try.f41) (by kernel_rfl) (by kernel_rfl) (by kernel_rfl) (by kernel_rfl) ?_
  have hF : KC 72 (FinR Try.prog Try.f41 ((eI .i64) r)) := FinR.kc' (by kernel_rfl)
  unfold G_ringref2_Slabs at h
  obtain ⟨v_r1207, h400, h⟩ := bind_some h
  by_cases h401 : v_r1207 = true
  · rw [if_pos h401] at h
    by_cases h402 : (v_s1203.fBoxes.length : Int) > 64
    · rw [if_pos h402] at h
      obtain rfl := Option.some.inj h
      exact pend_sound TTok mix 15 (hs := [.c, .r (eB v_r1207), .t false, .c, .u (.d (.v (.int .i64 (v_s1203.fBoxes.length : Int)))), .t true]) (by kernel_rfl) (by kernel_rfl) (by kernel_rfl) (.cons (G_ringref2_In_ok n v_s1203.fSize 1 16 _ h400) (.cons (bnf h401) (.cons (len_ob (f := eS_slab_Box) (l := v_s1203.fBoxes)) (.cons (dt h402) .nil))))
    · rw [if_neg h402] at h
      obtain ⟨v_o1266, h435, h⟩ := bind_some h
      refine pkk_sound TTok mix hF 19 (hs := [.c, .r (eB v_r1207), .t false, .c, .u (.d (.v (.int .i64 (v_s1203.fBoxes.length : Int)))), .t false, .c, .u (.d (.v (.int .i64 (v_s1203.fBoxes.length : Int)))), .n n]) (ts := []) (s := [0]) (l := [1, 3, 18, 19, 20]) (by kernel_rfl) (by kernel_rfl) (.cons (G_ringref2_In_ok n v_s1203.fSize 1 16 _ h400) (.cons (bnf h401) (.cons (len_ob (f := eS_slab_Box) (l := v_s1203.fBoxes)) (.cons (df h402) (.cons (len_ob (f := eS_slab_Box) (l := v_s1203.fBoxes)) .nil))))) (G_ringref2_Slabs_L4_ok hF (.b 0 :: .s (cR (cR (cR (cR (cR (bodyOf Try.f41)))))) :: []) n v_s1203 n (-1) 0 _ h435 ?_)
      cases v_o1266 with
      | x0 v_z1267 =>
        try dsimp only at h
        obtain rfl := Option.some.inj h
        exact pend_sound TTok mix 2 (hs := []) (by kernel_rfl) (by kernel_rfl) (by kernel_rfl) .nil
      | x1  =>
        try dsimp only at h
        obtain rfl := Option.some.inj h
        exact pend_sound TTok mix 4 (hs := []) (by kernel_rfl) (by kernel_rfl) (by kernel_rfl) .nil
  · rw [if_neg h401] at h
    obtain rfl := Option.some.inj h
    exact pend_sound TTok mix 10 (hs := [.c, .r (eB v_r1207), .t true]) (by kernel_rfl) (by kernel_rfl) (by kernel_rfl) (.cons (G_ringref2_In_ok n v_s1203.fSize 1 16 _ h400) (.cons (bnt (vf h401)) .nil))
inductive G_ringref2_SlabHas_L2_R where
  | x0 (v_b1564 : (Fin 64 → (Fin 16 → Bool)))
def G_ringref2_SlabHas_L2_ex : G_ringref2_SlabHas_L2_R → Ex
  | .x0 _ => .exit 2
def G_ringref2_SlabHas_L2_st (v_s1500 : S_slab_Slab) (v_x1543 : Int) (v_y1546 : S_slab_Box) : G_ringref2_SlabHas_L2_R → PS
  | .x0 v_b1564 => ⟨[dd, dd, .ref 0 0, .ref 1 0, dd, dd, dd, dd, dd, .d (.sl (v_s1500.fBoxes.map eS_slab_Box)), .d (.v (.int .i64 (v_s1500.fBoxes.length : Int))), .d (.v (.int .i64 v_x1543)), dd, dd, dd, dd, dd, dd, dd, dd, dd, dd, dd, dd, dd, dd, dd, dd, dd, dd], [.box ((cA_t92 (fun (_ : Fin 64) => (fun (_ : Fin 16) => false))).map FV.d), .box ((cA_t92 v_b1564).map FV.d)]⟩
def G_ringref2_SlabHas_L2_hd (v_s1500 : S_slab_Slab) (v_x1543 : Int) (v_y1546 : S_slab_Box) (v_x1555 : Int) (v_b1556 : (Fin 64 → (Fin 16 → Bool))) : PS := ⟨[dd, dd, .ref 0 0, .ref 1 0, dd, .ref 2 0, dd, dd, dd, .d (.sl (v_s1500.fBoxes.map eS_slab_Box)), .d (.v (.int .i64 (v_s1500.fBoxes.length : Int))), .d (.v (.int .i64 v_x1543)), dd, dd, dd, dd, .d (.sl (v_y1546.fUsed.map (eI .i64))), .d (.v (.int .i64 (v_y1546.fUsed.length : Int))), .d (.v (.int .i64 v_x1555)), dd, dd, dd, dd, dd, dd, dd, dd, dd, dd, dd], [.box ((cA_t92 (fun (_ : Fin 64) => (fun (_ : Fin 16) => false))).map FV.d), .box ((cA_t92 v_b1556).map FV.d), .box [.d (.v (.int .i64 v_y1546.fFrame)), .d (.sl (v_y1546.fUsed.map (eI .i64)))]]⟩
def G_ringref2_SlabHas_L2 (n : Nat) (v_s1500 : S_slab_Slab) (v_x1543 : Int) (v_y1546 : S_slab_Box) : Nat → Int → (Fin 64 → (Fin 16 → Bool)) → Option G_ringref2_SlabHas_L2_R
  | 0, _, _ => none
  | k + 1, v_x1555, v_b1556 =>
    if v_x1555 < (v_y1546.fUsed.length : Int) then
     (getI v_y1546.fUsed v_x1555).bind fun (v_y1561 : Int) =>
     if 0 ≤ v_y1546.fFrame ∧ v_y1546.fFrame < (64 : Int) then
      if 0 ≤ v_y1561 ∧ v_y1561 < (16 : Int) then
       (getA v_b1556 v_y1546.fFrame).bind fun (v_y1562 : (Fin 16 → Bool)) =>
       (getA v_y1562 v_y1561).bind fun (v_y1563 : Bool) =>
       G_ringref2_SlabHas_L2 n v_s1500 v_x1543 v_y1546 k (wi .i64 (v_x1555 + 1)) (setA v_b1556 v_y1546.fFrame (setA v_y1562 v_y1561 true))
      else none
     else none
    else
     some (.x0 v_b1556)
theorem G_ringref2_SlabHas_L2_ok {Fi : Ex → PS → Prop} (hF : KC 30 Fi) (ks : List Fr) (n : Nat) (v_s1500 : S_slab_Slab) (v_x1543 : Int) (v_y1546 : S_slab_Box)  : ∀ (k : Nat) (v_x1555 : Int) (v_b1556 : (Fin 64 → (Fin 16 → Bool))) (o : G_ringref2_SlabHas_L2_R), G_ringref2_SlabHas_L2 n v_s1500 v_x1543 v_y1546 k v_x1555 v_b1556 = some o → RunE Try.prog 30 Fi ks (G_ringref2_SlabHas_L2_ex o) (G_ringref2_SlabHas_L2_st v_s1500 v_x1543 v_y1546 o) → RunE Try.prog 30 Fi (.l k (cP (cB (cR (cR (cB (cL (cR (cR (cP (cB (cR (cL (cR (cR (bodyOf Try.f43))))))))))))))) :: ks) .normal (G_ringref2_SlabHas_L2_hd v_s1500 v_x1543 v_y1546 v_x1555 v_b1556)
  | 0, v_x1555, v_b1556, o, h, q => by rw [G_ringref2_SlabHas_L2] at h; cases h
  | k + 1, v_x1555, v_b1556, o, h, q => by
    rw [G_ringref2_SlabHas_L2] at h
    by_cases h525 : v_x1555 < (v_y1546.fUsed.length : Int)
    · rw [if_pos h525] at h
      obtain ⟨v_y1561, h531, h⟩ := bind_some h
      by_cases h532 : 0 ≤ v_y1546.fFrame ∧ v_y1546.fFrame < (64 : Int)
      · rw [if_pos h532] at h
        by_cases h533 : 0 ≤ v_y1561 ∧ v_y1561 < (16 : Int)
        · rw [if_pos h533] at h
          obtain ⟨v_y1562, h534, h⟩ := bind_some h
          obtain ⟨v_y1563, h535, h⟩ := bind_some h
          exact pkk_sound TTok mix hF 13 (hs := [.t true, .y ((eI .i64) v_y1561), .c, .c, .x ((cA_t92 (setA v_b1556 v_y1546.fFrame (setA v_y1562 v_y1561 true))).map FV.d), .c]) (ts := []) (s := [0, 1, 2]) (l := [2, 3, 5, 9, 10, 11, 16, 17, 18]) (by kernel_rfl) (by kernel_rfl) (.cons (dt h525) (.cons (getI_ob (f := (eI .i64)) h531) (.cons h532 (.cons h533 (.cons (arr_store2 (γ := FV) (sz := 16) (g := (fun x => [.d (.v (.bool (x 0))), .d (.v (.bool (x 1))), .d (.v (.bool (x 2))), .d (.v (.bool (x 3))), .d (.v (.bool (x 4))), .d (.v (.bool (x 5))), .d (.v (.bool (x 6))), .d (.v (.bool (x 7))), .d (.v (.bool (x 8))), .d (.v (.bool (x 9))), .d (.v (.bool (x 10))), .d (.v (.bool (x 11))), .d (.v (.bool (x 12))), .d (.v (.bool (x 13))), .d (.v (.bool (x 14))), .d (.v (.bool (x 15)))])) (pre := []) (post := []) (P0 := 0) (o := 0 + (v_y1561).toNat * 1 + 0) (y := (setA v_y1562 v_y1561 true)) (zs := [.d (.v (.bool true))]) rfl (fun _ => rfl) h534 (arr_store2 (γ := FV) (sz := 1) (g := (fun x => [.d (.v (.bool x))])) (pre := []) (post := []) (P0 := 0) (o := 0) (y := true) (zs := [.d (.v (.bool true))]) rfl (fun _ => rfl) h535 rfl (Nat.le_of_ble_eq_true rfl) (idx := 0 + (v_y1561).toNat * 1 + 0) (by omega)).2 (arr_store2 (γ := FV) (sz := 1) (g := (fun x => [.d (.v (.bool x))])) (pre := []) (post := []) (P0 := 0) (o := 0) (y := true) (zs := [.d (.v (.bool true))]) rfl (fun _ => rfl) h535 rfl (Nat.le_of_ble_eq_true rfl) (idx := 0 + (v_y1561).toNat * 1 + 0) (by omega)).1 (idx := 0 + (v_y1546.fFrame).toNat * 16 + (v_y1561).toNat * 1) (by omega)).1 (.cons (arr_store2 (γ := FV) (sz := 16) (g := (fun x => [.d (.v (.bool (x 0))), .d (.v (.bool (x 1))), .d (.v (.bool (x 2))), .d (.v (.bool (x 3))), .d (.v (.bool (x 4))), .d (.v (.bool (x 5))), .d (.v (.bool (x 6))), .d (.v (.bool (x 7))), .d (.v (.bool (x 8))), .d (.v (.bool (x 9))), .d (.v (.bool (x 10))), .d (.v (.bool (x 11))), .d (.v (.bool (x 12))), .d (.v (.bool (x 13))), .d (.v (.bool (x 14))), .d (.v (.bool (x 15)))])) (pre := []) (post := []) (P0 := 0) (o := 0 + (v_y1561).toNat * 1 + 0) (y := (setA v_y1562 v_y1561 true)) (zs := [.d (.v (.bool true))]) rfl (fun _ => rfl) h534 (arr_store2 (γ := FV) (sz := 1) (g := (fun x => [.d (.v (.bool x))])) (pre := []) (post := []) (P0 := 0) (o := 0) (y := true) (zs := [.d (.v (.bool true))]) rfl (fun _ => rfl) h535 rfl (Nat.le_of_ble_eq_true rfl) (idx := 0 + (v_y1561).toNat * 1 + 0) (by omega)).2 (arr_store2 (γ := FV) (sz := 1) (g := (fun x => [.d (.v (.bool x))])) (pre := []) (post := []) (P0 := 0) (o := 0) (y := true) (zs := [.d (.v (.bool true))]) rfl (fun _ => rfl) h535 rfl (Nat.le_of_ble_eq_true rfl) (idx := 0 + (v_y1561).toNat * 1 + 0) (by omega)).1 (idx := 0 + (v_y1546.fFrame).toNat * 16 + (v_y1561).toNat * 1) (by omega)).2 .nil)))))) (G_ringref2_SlabHas_L2_ok hF ks n v_s1500 v_x1543 v_y1546 k (wi .i64 (v_x1555 + 1)) (setA v_b1556 v_y1546.fFrame (setA v_y1562 v_y1561 true)) _ h q)
        · rw [if_neg h533] at h; cases h
      · rw [if_neg h532] at h; cases h
    · rw [if_neg h525] at h
      cases h
      exact pkk_sound TTok mix hF 8 (hs := [.t false]) (ts := []) (s := [0, 1]) (l := [2, 3, 9, 10, 11]) (by kernel_rfl) (by kernel_rfl) (.cons (df h525) .nil) q
inductive G_ringref2_SlabHas_L3_R where
  | x0 (v_b1567 : (Fin 64 → (Fin 16 → Bool)))
def G_ringref2_SlabHas_L3_ex : G_ringref2_SlabHas_L3_R → Ex
  | .x0 _ => .exit 0
def G_ringref2_SlabHas_L3_st (v_s1500 : S_slab_Slab) : G_ringref2_SlabHas_L3_R → PS
  | .x0 v_b1567 => ⟨[dd, dd, .ref 0 0, .ref 1 0, dd, dd, dd, dd, dd, dd, dd, dd, dd, dd, dd, dd, dd, dd, dd, dd, dd, dd, dd, dd, dd, dd, dd, dd, dd, dd], [.box ((cA_t92 (fun (_ : Fin 64) => (fun (_ : Fin 16) => false))).map FV.d), .box ((cA_t92 v_b1567).map FV.d)]⟩
def G_ringref2_SlabHas_L3_hd (v_s1500 : S_slab_Slab) (v_x1543 : Int) (v_b1544 : (Fin 64 → (Fin 16 → Bool))) : PS := ⟨[dd, dd, .ref 0 0, .ref 1 0, dd, dd, dd, dd, dd, .d (.sl (v_s1500.fBoxes.map eS_slab_Box)), .d (.v (.int .i64 (v_s1500.fBoxes.length : Int))), .d (.v (.int .i64 v_x1543)), dd, dd, dd, dd, dd, dd, dd, dd, dd, dd, dd, dd, dd, dd, dd, dd, dd, dd], [.box ((cA_t92 (fun (_ : Fin 64) => (fun (_ : Fin 16) => false))).map FV.d), .box ((cA_t92 v_b1544).map FV.d)]⟩
def G_ringref2_SlabHas_L3 (n : Nat) (v_s1500 : S_slab_Slab) : Nat → Int → (Fin 64 → (Fin 16 → Bool)) → Option G_ringref2_SlabHas_L3_R
  | 0, _, _ => none
  | k + 1, v_x1543, v_b1544 =>
    if v_x1543 < (v_s1500.fBoxes.length : Int) then
     (getI v_s1500.fBoxes v_x1543).bind fun (v_y1546 : S_slab_Box) =>
     (G_ringref2_SlabHas_L2 n v_s1500 v_x1543 v_y1546 n 0 v_b1544).bind fun v_o1565 => match v_o1565 with
     | .x0 v_z1566 =>
       G_ringref2_SlabHas_L3 n v_s1500 k (wi .i64 (v_x1543 + 1)) v_z1566
    else
     some (.x0 v_b1544)
theorem G_ringref2_SlabHas_L3_ok {Fi : Ex → PS → Prop} (hF : KC 30 Fi) (ks : List Fr) (n : Nat) (v_s1500 : S_slab_Slab)  : ∀ (k : Nat) (v_x1543 : Int) (v_b1544 : (Fin 64 → (Fin 16 → Bool))) (o : G_ringref2_SlabHas_L3_R), G_ringref2_SlabHas_L3 n v_s1500 k v_x1543 v_b1544 = some o → RunE Try.prog 30 Fi ks (G_ringref2_SlabHas_L3_ex o) (G_ringref2_SlabHas_L3_st v_s1500 o) → RunE Try.prog 30 Fi (.l k (cP (cB (cR (cL (cR (cR (bodyOf Try.f43))))))) :: ks) .normal (G_ringref2_SlabHas_L3_hd v_s1500 v_x1543 v_b1544)
  | 0, v_x1543, v_b1544, o, h, q => by rw [G_ringref2_SlabHas_L3] at h; cases h
  | k + 1, v_x1543, v_b1544, o, h, q => by
    rw [G_ringref2_SlabHas_L3] at h
    by_cases h512 : v_x1543 < (v_s1500.fBoxes.length : Int)
    · rw [if_pos h512] at h
      obtain ⟨v_y1546, h513, h⟩ := bind_some h
      obtain ⟨v_o1565, h536, h⟩ := bind_some h
      refine pkk_sound TTok mix hF 14 (hs := [.t true, .y (eS_slab_Box v_y1546), .c, .c, .u (.d (.v (.int .i64 (v_y1546.fUsed.length : Int)))), .n n]) (ts := []) (s := [0, 1, 17]) (l := [2, 3, 5, 9, 10, 11, 16, 17, 18]) (by kernel_rfl) (by kernel_rfl) (.cons (dt h512) (.cons (getI_ob (f := eS_slab_Box) h513) (.cons (show 0 + 2 ≤ 2 by decide) (.cons (len_ob (f := (eI .i64)) (l := v_y1546.fUsed)) .nil)))) (G_ringref2_SlabHas_L2_ok hF (.b 2 :: .b 1 :: .s (cR (cR (cR (cP (cB (cR (cL (cR (cR (bodyOf Try.f43)))))))))) :: .l k (cP (cB (cR (cL (cR (cR (bodyOf Try.f43))))))) :: ks) n v_s1500 v_x1543 v_y1546 n 0 v_b1544 _ h536 ?_)
      cases v_o1565 with
      | x0 v_z1566 =>
        try dsimp only at h
        exact pkk_sound TTok mix hF 3 (hs := []) (ts := []) (s := [0, 1]) (l := [2, 3, 9, 10, 11]) (by kernel_rfl) (by kernel_rfl) .nil (G_ringref2_SlabHas_L3_ok hF ks n v_s1500 k (wi .i64 (v_x1543 + 1)) v_z1566 _ h q)
    · rw [if_neg h512] at h
      cases h
      exact pkk_sound TTok mix hF 8 (hs := [.t false]) (ts := []) (s := [0, 1]) (l := [2, 3]) (by kernel_rfl) (by kernel_rfl) (.cons (df h512) .nil) q
/- ringhall/ringref2.SlabHas -/
def G_ringref2_SlabHas (n : Nat) (v_s1500 : S_slab_Slab) : Option ((Fin 64 → (Fin 16 → Bool))) :=
  (G_ringref2_SlabHas_L3 n v_s1500 n 0 (fun (_ : Fin 64) => (fun (_ : Fin 16) => false))).bind fun v_o1568 => match v_o1568 with
  | .x0 v_z1569 =>
    some v_z1569

end Go.Proofs.Ytpeakaeblibfmaa.pv
