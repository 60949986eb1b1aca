/- What the functions compute, as functions over plain data, with their contracts: written by gen.py. -/
import Derived.Test.YtpeakaeblibfmaaProg
import Derived.Test.YtpeakaeblibfmaaQr
import Derived.Test.YtpeakaeblibfmaaSh
import Derived.Test.YtpeakaeblibfmaaSi
set_option maxRecDepth 100000
set_option linter.all false
namespace Go.Proofs.Ytpeakaeblibfmaa.pv
open Go.RowKit
def TT : List TI := [
⟨1, 0, .oth, []⟩,
⟨1, 8, .oth, [.nf]⟩,
⟨1, 8, .int .i64, [.i .i64]⟩,
⟨1, 8, .int .i64, [.i .i64]⟩,
⟨1, 1, .bool, [.b]⟩,
⟨1, 1, .int .u8, [.i .u8]⟩,
⟨1, 1, .int .u8, [.i .u8]⟩,
⟨4, 24, .st [(0, 2), (1, 3), (2, 4), (3, 6)], [.i .i64, .i .i64, .b, .i .u8]⟩,
⟨4, 24, .st [(0, 2), (1, 3), (2, 4), (3, 6)], [.i .i64, .i .i64, .b, .i .u8]⟩,
⟨1, 16, .str, [.s]⟩,
⟨1, 16, .str, [.s]⟩,
⟨1, 16, .str, [.s]⟩,
⟨1, 8, .int .u64, [.i .u64]⟩,
⟨2, 24, .st [(0, 9), (1, 12)], [.s, .i .u64]⟩,
⟨2, 24, .st [(0, 9), (1, 12)], [.s, .i .u64]⟩,
⟨1, 8, .ptr 176, [.np]⟩,
⟨1, 8, .ptr 179, [.np]⟩,
⟨1, 8, .ptr 188, [.np]⟩,
⟨1, 8, .st [(0, 17)], [.np]⟩,
⟨1, 8, .st [(0, 17)], [.np]⟩,
⟨1, 16, .oth, [.ni]⟩,
⟨1, 4, .int .i32, [.i .i32]⟩,
⟨1, 24, .sl 5, [.sl]⟩,
⟨1, 24, .sl 39, [.sl]⟩,
⟨2, 48, .st [(0, 22), (1, 23)], [.sl, .sl]⟩,
⟨2, 48, .st [(0, 22), (1, 23)], [.sl, .sl]⟩,
⟨1, 8, .int .i64, [.i .i64]⟩,
⟨1, 0, .oth, []⟩,
⟨1, 8, .oth, [.nf]⟩,
⟨1, 0, .oth, []⟩,
⟨1, 8, .oth, [.nf]⟩,
⟨1, 8, .oth, [.nf]⟩,
⟨1, 0, .oth, []⟩,
⟨1, 8, .oth, [.nf]⟩,
⟨1, 0, .oth, []⟩,
⟨1, 8, .oth, [.nf]⟩,
⟨1, 8, .oth, [.nf]⟩,
⟨1, 8, .oth, [.nf]⟩,
⟨1, 8, .oth, [.nf]⟩,
⟨1, 24, .sl 3, [.sl]⟩,
⟨1, 0, .oth, []⟩,
⟨1, 8, .oth, [.nf]⟩,
⟨1, 8, .oth, [.nf]⟩,
⟨1, 8, .oth, [.nf]⟩,
⟨1, 8, .oth, [.nf]⟩,
⟨1, 8, .oth, [.nf]⟩,
⟨1, 8, .oth, [.nf]⟩,
⟨1, 24, .sl 66, [.sl]⟩,
⟨1, 4, .int .u32, [.i .u32]⟩,
⟨2, 16, .st [(0, 3), (1, 3)], [.i .i64, .i .i64]⟩,
⟨2, 16, .st [(0, 3), (1, 3)], [.i .i64, .i .i64]⟩,
⟨1, 0, .oth, []⟩,
⟨1, 8, .oth, [.nf]⟩,
⟨1, 8, .oth, [.nf]⟩,
⟨1, 0, .oth, []⟩,
⟨1, 8, .oth, [.nf]⟩,
⟨1, 8, .oth, [.nf]⟩,
⟨1, 0, .oth, []⟩,
⟨1, 8, .oth, [.nf]⟩,
⟨1, 0, .oth, []⟩,
⟨1, 8, .oth, [.nf]⟩,
⟨1, 8, .oth, [.nf]⟩,
⟨1, 8, .oth, [.nf]⟩,
⟨1, 24, .sl 69, [.sl]⟩,
⟨1, 24, .sl 50, [.sl]⟩,
⟨2, 48, .st [(0, 63), (1, 64)], [.sl, .sl]⟩,
⟨2, 48, .st [(0, 63), (1, 64)], [.sl, .sl]⟩,
⟨1, 8, .oth, [.nf]⟩,
⟨3, 24, .st [(0, 3), (1, 3), (2, 48)], [.i .i64, .i .i64, .i .u32]⟩,
⟨3, 24, .st [(0, 3), (1, 3), (2, 48)], [.i .i64, .i .i64, .i .u32]⟩,
⟨1, 8, .oth, [.nf]⟩,
⟨1, 8, .oth, [.nf]⟩,
⟨1, 8, .oth, [.nf]⟩,
⟨1, 8, .oth, [.nf]⟩,
⟨1, 8, .oth, [.nf]⟩,
⟨1, 8, .oth, [.nf]⟩,
⟨1, 24, .sl 136, [.sl]⟩,
⟨2, 32, .st [(0, 3), (1, 76)], [.i .i64, .sl]⟩,
⟨2, 32, .st [(0, 3), (1, 76)], [.i .i64, .sl]⟩,
⟨2, 16, .st [(0, 3), (1, 3)], [.i .i64, .i .i64]⟩,
⟨2, 16, .st [(0, 3), (1, 3)], [.i .i64, .i .i64]⟩,
⟨1, 0, .oth, []⟩,
⟨1, 8, .oth, [.nf]⟩,
⟨1, 0, .oth, []⟩,
⟨1, 8, .oth, [.nf]⟩,
⟨1, 0, .oth, []⟩,
⟨1, 8, .oth, [.nf]⟩,
⟨1, 0, .oth, []⟩,
⟨1, 8, .oth, [.nf]⟩,
⟨1, 8, .oth, [.nf]⟩,
⟨1, 8, .oth, [.nf]⟩,
⟨16, 16, .arr 16 4, List.replicate 16 (.b)⟩,
⟨1024, 1024, .arr 64 91, List.replicate 1024 (.b)⟩,
⟨1, 8, .oth, [.nf]⟩,
⟨1, 8, .oth, [.nf]⟩,
⟨1, 24, .sl 4, [.sl]⟩,
⟨1, 8, .oth, [.nf]⟩,
⟨1, 8, .oth, [.nf]⟩,
⟨1, 0, .oth, []⟩,
⟨1, 8, .oth, [.nf]⟩,
⟨1, 8, .oth, [.nf]⟩,
⟨1, 24, .sl 112, [.sl]⟩,
⟨2, 32, .st [(0, 3), (1, 101)], [.i .i64, .sl]⟩,
⟨2, 32, .st [(0, 3), (1, 101)], [.i .i64, .sl]⟩,
⟨1, 0, .oth, []⟩,
⟨1, 8, .oth, [.nf]⟩,
⟨1, 0, .oth, []⟩,
⟨1, 8, .oth, [.nf]⟩,
⟨1, 8, .oth, [.nf]⟩,
⟨1, 8, .oth, [.nf]⟩,
⟨1, 8, .oth, [.nf]⟩,
⟨2, 16, .st [(0, 3), (1, 3)], [.i .i64, .i .i64]⟩,
⟨2, 16, .st [(0, 3), (1, 3)], [.i .i64, .i .i64]⟩,
⟨1, 8, .oth, [.nf]⟩,
⟨64, 64, .arr 64 4, List.replicate 64 (.b)⟩,
⟨1, 8, .oth, [.nf]⟩,
⟨1, 8, .oth, [.nf]⟩,
⟨1, 8, .oth, [.nf]⟩,
⟨1, 8, .oth, [.nf]⟩,
⟨1, 0, .oth, []⟩,
⟨1, 8, .oth, [.nf]⟩,
⟨1, 8, .oth, [.nf]⟩,
⟨1, 8, .oth, [.nf]⟩,
⟨1, 8, .oth, [.nf]⟩,
⟨1, 8, .oth, [.nf]⟩,
⟨1, 8, .oth, [.nf]⟩,
⟨1, 8, .oth, [.nf]⟩,
⟨1, 8, .oth, [.nf]⟩,
⟨1, 8, .oth, [.nf]⟩,
⟨1, 8, .ptr 66, [.np]⟩,
⟨1, 8, .oth, [.nf]⟩,
⟨1, 8, .oth, [.nf]⟩,
⟨1, 8, .oth, [.nf]⟩,
⟨1, 8, .oth, [.nf]⟩,
⟨1, 8, .oth, [.nf]⟩,
⟨2, 32, .st [(0, 3), (1, 39)], [.i .i64, .sl]⟩,
⟨2, 32, .st [(0, 3), (1, 39)], [.i .i64, .sl]⟩,
⟨1, 8, .oth, [.nf]⟩,
⟨1, 8, .oth, [.nf]⟩,
⟨1, 8, .oth, [.nf]⟩,
⟨1, 8, .oth, [.nf]⟩,
⟨1, 8, .oth, [.nf]⟩,
⟨1, 8, .oth, [.nf]⟩,
⟨1, 8, .oth, [.nf]⟩,
⟨1, 8, .oth, [.nf]⟩,
⟨1, 8, .oth, [.nf]⟩,
⟨1, 8, .oth, [.nf]⟩,
⟨1, 8, .oth, [.nf]⟩,
⟨1, 8, .oth, [.nf]⟩,
⟨1, 8, .oth, [.nf]⟩,
⟨1, 8, .oth, [.nf]⟩,
⟨1, 8, .oth, [.nf]⟩,
⟨1, 8, .oth, [.nf]⟩,
⟨1, 8, .oth, [.nf]⟩,
⟨1, 8, .oth, [.nf]⟩,
⟨1, 8, .oth, [.nf]⟩,
⟨1, 8, .oth, [.nf]⟩,
⟨1, 8, .oth, [.nf]⟩,
⟨1, 8, .oth, [.nf]⟩,
⟨1, 8, .oth, [.nf]⟩,
⟨1, 8, .oth, [.nf]⟩,
⟨1, 8, .oth, [.nf]⟩,
⟨1, 8, .oth, [.nf]⟩,
⟨1, 8, .oth, [.nf]⟩,
⟨1, 8, .oth, [.nf]⟩,
⟨1, 8, .oth, [.nf]⟩,
⟨1, 8, .oth, [.nf]⟩,
⟨1, 8, .oth, [.nf]⟩,
⟨1, 8, .oth, [.nf]⟩,
⟨1, 8, .oth, [.nf]⟩,
⟨1, 8, .ptr 112, [.np]⟩,
⟨1, 8, .oth, [.nf]⟩,
⟨1, 8, .oth, [.nf]⟩,
⟨1, 8, .oth, [.nf]⟩,
⟨1, 8, .oth, [.nf]⟩,
⟨4, 40, .st [(0, 17), (1, 17), (2, 17), (3, 9)], [.np, .np, .np, .s]⟩,
⟨4, 40, .st [(0, 17), (1, 17), (2, 17), (3, 9)], [.np, .np, .np, .s]⟩,
⟨0, 0, .arr 0 16, []⟩,
⟨0, 0, .st [(0, 177)], []⟩,
⟨0, 0, .st [(0, 177)], []⟩,
⟨1, 8, .oth, [.nf]⟩,
⟨1, 1, .int .u8, [.i .u8]⟩,
⟨1, 1, .int .u8, [.i .u8]⟩,
⟨1, 8, .oth, [.nf]⟩,
⟨1, 8, .ptr 5, [.np]⟩,
⟨1, 4, .int .i32, [.i .i32]⟩,
⟨1, 4, .int .i32, [.i .i32]⟩,
⟨11, 48, .st [(0, 12), (1, 12), (2, 48), (3, 181), (4, 5), (5, 5), (6, 182), (7, 183), (8, 184), (9, 185), (10, 186)], [.i .u64, .i .u64, .i .u32, .i .u8, .i .u8, .i .u8, .i .u8, .nf, .np, .i .i32, .i .i32]⟩,
⟨11, 48, .st [(0, 12), (1, 12), (2, 48), (3, 181), (4, 5), (5, 5), (6, 182), (7, 183), (8, 184), (9, 185), (10, 186)], [.i .u64, .i .u64, .i .u32, .i .u8, .i .u8, .i .u8, .i .u8, .nf, .np, .i .i32, .i .i32]⟩,
⟨1, 8, .oth, [.np]⟩]
theorem TTok : TOk Try.prog TT := by unfold TOk; kernel_rfl
theorem mix : Try.prog.follows .mixedOrders = true := by kernel_rfl
structure S_twin_Room where
  fAt : Int
  fOrder : Int
def eS_twin_Room (x : S_twin_Room) : PV := .agg [.v (.int .i64 x.fAt), .v (.int .i64 x.fOrder)]
structure S_twin_Twin where
  fOrder : Int
  fFree : (List S_twin_Room)
def eS_twin_Twin (x : S_twin_Twin) : PV := .agg [.v (.int .i64 x.fOrder), .sl (x.fFree.map eS_twin_Room)]
def cA_t114 (x : (Fin 64 → Bool)) : List PV := (List.ofFn x).flatMap fun a => [.v (.bool a)]
def eqS_twin_Room (x y : S_twin_Room) : Bool := ((x.fAt == y.fAt) && ((x.fOrder == y.fOrder) && true))
theorem eqS_twin_Room_ok (x y : S_twin_Room) : EqA Try.prog 112 [((.int .i64 x.fAt)), ((.int .i64 x.fOrder))] [((.int .i64 y.fAt)), ((.int .i64 y.fOrder))] (eqS_twin_Room x y) := eqA_of TTok (by kernel_rfl) (by kernel_rfl) (by kernel_rfl)
/- ringhall/twin.New -/
def G_twin_New (n : Nat) (v_order6 : Int) : Option (S_twin_Twin × Int) :=
  if v_order6 < 0 then
   some ((S_twin_Twin.mk 0 ([] : (List S_twin_Room))), 1)
  else
   if v_order6 > 6 then
    some ((S_twin_Twin.mk 0 ([] : (List S_twin_Room))), 1)
   else
    some ((S_twin_Twin.mk v_order6 ([(S_twin_Room.mk 0 v_order6)])), 0)
theorem G_twin_New_ok (n : Nat) (v_order6 : Int) (r : S_twin_Twin × Int) (h : G_twin_New n v_order6 = some r) : Ret Try.prog 48 [(eI .i64) v_order6] (.tup [eS_twin_Twin r.1, (eI .i64) r.2]) := by
  refine ret_run (n := 16) (fn := Try.f48) (c := bodyOf Try.f48) (by kernel_rfl) (by kernel_rfl) (by kernel_rfl) (by kernel_rfl) ?_
  have hF : KC 16 (FinR Try.prog Try.f48 (.tup [eS_twin_Twin r.1, (eI .i64) r.2])) := FinR.kc' (by kernel_rfl)
  unfold G_twin_New at h
  by_cases h1 : v_order6 < 0
  · rw [if_pos h1] at h
    obtain rfl := Option.some.inj h
    exact pend_sound TTok mix 10 (hs := [.t true, .c, .c, .c]) (by kernel_rfl) (by kernel_rfl) (by kernel_rfl) (.cons (dt h1) (.cons (show 0 + 2 ≤ 2 by decide) .nil))
  · rw [if_neg h1] at h
    by_cases h3 : v_order6 > 6
    · rw [if_pos h3] at h
      obtain rfl := Option.some.inj h
      exact pend_sound TTok mix 10 (hs := [.t false, .c, .t true, .c]) (by kernel_rfl) (by kernel_rfl) (by kernel_rfl) (.cons (df h1) (.cons (dt h3) (.cons (show 0 + 2 ≤ 2 by decide) .nil)))
    · rw [if_neg h3] at h
      obtain rfl := Option.some.inj h
      exact pend_sound TTok mix 10 (hs := [.t false, .c, .t false, .bd, .c]) (by kernel_rfl) (by kernel_rfl) (by kernel_rfl) (.cons (df h1) (.cons (df h3) (.cons (show 0 + 2 ≤ 2 by decide) .nil)))
/- ringhall/twin.buddies -/
def G_twin_buddies (n : Nat) (v_a53 : S_twin_Room) (v_b54 : S_twin_Room) : Option (Bool) :=
  if v_a53.fOrder = v_b54.fOrder then
   if 0 ≤ v_a53.fOrder then
    some ((bits .xor .i64 v_a53.fAt v_b54.fAt) == (shlI .i64 1 v_a53.fOrder))
   else none
  else
   some false
theorem G_twin_buddies_ok (n : Nat) (v_a53 : S_twin_Room) (v_b54 : S_twin_Room) (r : Bool) (h : G_twin_buddies n v_a53 v_b54 = some r) : Ret Try.prog 91 [eS_twin_Room v_a53, eS_twin_Room v_b54] (eB r) := by
  refine ret_run (n := 21) (fn := Try.f91) (c := bodyOf Try.f91) (by kernel_rfl) (by kernel_rfl) (by kernel_rfl) (by kernel_rfl) ?_
  have hF : KC 21 (FinR Try.prog Try.f91 (eB r)) := FinR.kc' (by kernel_rfl)
  unfold G_twin_buddies at h
  by_cases h22 : v_a53.fOrder = v_b54.fOrder
  · rw [if_pos h22] at h
    by_cases h23 : 0 ≤ v_a53.fOrder
    · rw [if_pos h23] at h
      obtain rfl := Option.some.inj h
      exact pend_sound TTok mix 5 (hs := [.c, .c, .t true, .c, .c, .c, .c, .c, .c, .c, .c, .c, .c, .c]) (by kernel_rfl) (by kernel_rfl) (by kernel_rfl) (.cons (bt h22) (.cons h23 .nil))
    · rw [if_neg h23] at h; cases h
  · rw [if_neg h22] at h
    obtain rfl := Option.some.inj h
    exact pend_sound TTok mix 5 (hs := [.c, .c, .t false, .c, .c, .c, .c, .c, .c, .c, .c]) (by kernel_rfl) (by kernel_rfl) (by kernel_rfl) (.cons (bf h22) .nil)
def G_twin_Check_J1 (n : Nat)   : Option (Int) :=
  some 1
theorem G_twin_Check_J1_ok (n : Nat)    (r : Int) (h : G_twin_Check_J1 n   = some r) : RunE Try.prog 80 (FinR Try.prog Try.f54 ((eI .i64) r)) (.s (cT (cR (cL (cR (bodyOf Try.f54))))) :: .s (cR (cR (bodyOf Try.f54))) :: []) .normal ⟨[dd, dd, dd, dd, dd, dd, dd, dd, dd, dd, dd, dd, dd, dd, dd, dd, dd, dd, dd, dd, dd, dd, dd, dd, dd, dd, dd, dd, dd, dd, dd, dd, dd, dd, dd, dd, dd, dd, dd, dd, dd, dd, dd, dd, dd, dd, dd, dd, dd, dd, dd, dd, dd, dd, dd, dd, dd, dd, dd, dd, dd, dd, dd, dd, dd, dd, dd, dd, dd, dd, dd, dd, dd, dd, dd, dd, dd, dd, dd, dd], []⟩ := by
  have hF : KC 80 (FinR Try.prog Try.f54 ((eI .i64) r)) := FinR.kc' (by kernel_rfl)
  unfold G_twin_Check_J1 at h
  obtain rfl := Option.some.inj h
  exact pend_sound TTok mix 4 (hs := []) (by kernel_rfl) (by kernel_rfl) (by kernel_rfl) .nil
inductive G_twin_Check_C1_R where
  | x0 (v_x185 : Bool)
def G_twin_Check_C1_ex : G_twin_Check_C1_R → Ex
  | .x0 _ => .normal
def G_twin_Check_C1_st (v_end166 : Int) (v_x167 : Int) (v_t25 : S_twin_Twin) (v_y182 : S_twin_Room) : G_twin_Check_C1_R → PS
  | .x0 v_x185 => ⟨[dd, .ref 0 0, dd, dd, dd, .ref 1 0, dd, dd, dd, dd, dd, dd, dd, dd, dd, .d (.sl (v_t25.fFree.map eS_twin_Room)), .d (.v (.int .i64 (v_t25.fFree.length : Int))), .d (.v (.int .i64 v_x167)), dd, dd, dd, dd, dd, dd, dd, dd, dd, dd, dd, dd, dd, dd, dd, dd, dd, dd, dd, dd, dd, dd, dd, dd, dd, dd, dd, dd, dd, dd, dd, dd, dd, dd, dd, dd, dd, dd, dd, dd, dd, dd, dd, dd, dd, dd, dd, dd, dd, dd, dd, dd, dd, dd, .d (.v (.bool v_x185)), dd, dd, dd, dd, dd, dd, dd], [.box [.d (.v (.int .i64 v_t25.fOrder)), .d (.sl (v_t25.fFree.map eS_twin_Room))], .box [.d (.v (.int .i64 v_y182.fAt)), .d (.v (.int .i64 v_y182.fOrder))]]⟩
def G_twin_Check_C1_hd (v_end166 : Int) (v_x167 : Int) (v_t25 : S_twin_Twin) (v_y182 : S_twin_Room)  : PS := ⟨[dd, .ref 0 0, dd, .d (.v (.int .i64 v_end166)), .d (.v (.int .i64 v_x167)), .ref 1 0, dd, dd, dd, dd, dd, dd, dd, dd, dd, .d (.sl (v_t25.fFree.map eS_twin_Room)), .d (.v (.int .i64 (v_t25.fFree.length : Int))), .d (.v (.int .i64 v_x167)), dd, dd, dd, dd, dd, dd, dd, dd, dd, dd, dd, dd, dd, dd, dd, dd, dd, dd, dd, dd, dd, dd, dd, dd, dd, dd, dd, dd, dd, dd, dd, dd, dd, dd, dd, dd, dd, dd, dd, dd, dd, dd, dd, dd, dd, dd, dd, dd, dd, dd, dd, dd, dd, dd, dd, dd, dd, dd, dd, dd, dd, dd], [.box [.d (.v (.int .i64 v_t25.fOrder)), .d (.sl (v_t25.fFree.map eS_twin_Room))], .box [.d (.v (.int .i64 v_y182.fAt)), .d (.v (.int .i64 v_y182.fOrder))]]⟩
def G_twin_Check_C1 (n : Nat) (v_end166 : Int) (v_x167 : Int) (v_t25 : S_twin_Twin) (v_y182 : S_twin_Room) : Option G_twin_Check_C1_R :=
  if v_y182.fOrder < 0 then
   some (.x0 true)
  else
   if v_y182.fOrder > v_t25.fOrder then
    some (.x0 true)
   else
    if v_y182.fAt < v_end166 then
     some (.x0 true)
    else
     if 0 ≤ v_t25.fOrder then
      if 0 ≤ v_y182.fOrder then
       if v_y182.fAt > (wi .i64 ((shlI .i64 1 v_t25.fOrder) - (shlI .i64 1 v_y182.fOrder))) then
        some (.x0 true)
       else
        if 0 ≤ v_y182.fOrder then
         if (shlI .i64 1 v_y182.fOrder) ≠ 0 then
          if (remI v_y182.fAt (shlI .i64 1 v_y182.fOrder)) = 0 then
           if v_x167 > 0 then
            (getI v_t25.fFree (wi .i64 (v_x167 - 1))).bind fun (v_y190 : S_twin_Room) =>
            (G_twin_buddies n v_y190 v_y182).bind fun (v_r191 : (Bool)) =>
            some (.x0 v_r191)
           else
            some (.x0 false)
          else
           some (.x0 true)
         else none
        else none
      else none
     else none
theorem G_twin_Check_C1_ok {Fi : Ex → PS → Prop} (hF : KC 80 Fi) (ks : List Fr) (n : Nat) (v_end166 : Int) (v_x167 : Int) (v_t25 : S_twin_Twin) (v_y182 : S_twin_Room)  (o : G_twin_Check_C1_R) (h : G_twin_Check_C1 n v_end166 v_x167 v_t25 v_y182 = some o) (q : RunE Try.prog 80 Fi ks (G_twin_Check_C1_ex o) (G_twin_Check_C1_st v_end166 v_x167 v_t25 v_y182 o)) : RunE Try.prog 80 Fi (.s (cL (cL (cR (cB (cL (cR (cR (cP (cB (cR (cL (cR (cR (cR (bodyOf Try.f54))))))))))))))) :: ks) .normal (G_twin_Check_C1_hd v_end166 v_x167 v_t25 v_y182) := by
  unfold G_twin_Check_C1 at h
  by_cases h173 : v_y182.fOrder < 0
  · rw [if_pos h173] at h
    cases h
    exact pkk_sound TTok mix hF 1 (hs := [.c, .t true, .c, .c, .c, .c, .c, .c, .c, .c, .c, .c, .c, .c, .c, .c, .c, .c, .c, .c, .c, .c, .c, .c, .c, .c, .c, .c, .c, .c, .c]) (ts := []) (s := [0, 1]) (l := [1, 5, 15, 16, 17, 72]) (by kernel_rfl) (by kernel_rfl) (.cons (dt h173) .nil) q
  · rw [if_neg h173] at h
    by_cases h174 : v_y182.fOrder > v_t25.fOrder
    · rw [if_pos h174] at h
      cases h
      exact pkk_sound TTok mix hF 1 (hs := [.c, .t false, .c, .c, .c, .c, .c, .c, .t true, .c, .c, .c, .c, .c, .c, .c, .c, .c, .c, .c, .c, .c, .c, .c, .c, .c, .c, .c, .c, .c, .c, .c, .c]) (ts := []) (s := [0, 1]) (l := [1, 5, 15, 16, 17, 72]) (by kernel_rfl) (by kernel_rfl) (.cons (df h173) (.cons (dt h174) .nil)) q
    · rw [if_neg h174] at h
      by_cases h175 : v_y182.fAt < v_end166
      · rw [if_pos h175] at h
        cases h
        exact pkk_sound TTok mix hF 1 (hs := [.c, .t false, .c, .c, .c, .c, .c, .c, .t false, .c, .c, .c, .c, .t true, .c, .c, .c, .c, .c, .c, .c, .c, .c, .c, .c, .c, .c, .c, .c, .c, .c, .c, .c, .c]) (ts := []) (s := [0, 1]) (l := [1, 5, 15, 16, 17, 72]) (by kernel_rfl) (by kernel_rfl) (.cons (df h173) (.cons (df h174) (.cons (dt h175) .nil))) q
      · rw [if_neg h175] at h
        by_cases h176 : 0 ≤ v_t25.fOrder
        · rw [if_pos h176] at h
          by_cases h177 : 0 ≤ v_y182.fOrder
          · rw [if_pos h177] at h
            by_cases h178 : v_y182.fAt > (wi .i64 ((shlI .i64 1 v_t25.fOrder) - (shlI .i64 1 v_y182.fOrder)))
            · rw [if_pos h178] at h
              cases h
              exact pkk_sound TTok mix hF 1 (hs := [.c, .t false, .c, .c, .c, .c, .c, .c, .t false, .c, .c, .c, .c, .t false, .c, .c, .c, .c, .c, .c, .c, .c, .c, .c, .c, .c, .t true, .c, .c, .c, .c, .c, .c, .c, .c, .c, .c]) (ts := []) (s := [0, 1]) (l := [1, 5, 15, 16, 17, 72]) (by kernel_rfl) (by kernel_rfl) (.cons (df h173) (.cons (df h174) (.cons (df h175) (.cons h176 (.cons h177 (.cons (dt h178) .nil)))))) q
            · rw [if_neg h178] at h
              by_cases h179 : 0 ≤ v_y182.fOrder
              · rw [if_pos h179] at h
                by_cases h180 : (shlI .i64 1 v_y182.fOrder) ≠ 0
                · rw [if_pos h180] at h
                  by_cases h181 : (remI v_y182.fAt (shlI .i64 1 v_y182.fOrder)) = 0
                  · rw [if_pos h181] at h
                    by_cases h182 : v_x167 > 0
                    · rw [if_pos h182] at h
                      obtain ⟨v_y190, h183, h⟩ := bind_some h
                      obtain ⟨v_r191, h184, h⟩ := bind_some h
                      cases h
                      exact pkk_sound TTok mix hF 1 (hs := [.c, .t false, .c, .c, .c, .c, .c, .c, .t false, .c, .c, .c, .c, .t false, .c, .c, .c, .c, .c, .c, .c, .c, .c, .c, .c, .c, .t false, .c, .c, .c, .c, .c, .c, .c, .c, .t false, .c, .c, .t true, .c, .c, .c, .c, .c, .y (eS_twin_Room v_y190), .c, .c, .c, .c, .r (eB v_r191), .c]) (ts := []) (s := [0, 1]) (l := [1, 5, 15, 16, 17, 72]) (by kernel_rfl) (by kernel_rfl) (.cons (df h173) (.cons (df h174) (.cons (df h175) (.cons h176 (.cons h177 (.cons (df h178) (.cons h179 (.cons h180 (.cons (nf h181) (.cons (dt h182) (.cons (getI_ob (f := eS_twin_Room) h183) (.cons (G_twin_buddies_ok n v_y190 v_y182 _ h184) .nil)))))))))))) q
                    · rw [if_neg h182] at h
                      cases h
                      exact pkk_sound TTok mix hF 1 (hs := [.c, .t false, .c, .c, .c, .c, .c, .c, .t false, .c, .c, .c, .c, .t false, .c, .c, .c, .c, .c, .c, .c, .c, .c, .c, .c, .c, .t false, .c, .c, .c, .c, .c, .c, .c, .c, .t false, .c, .c, .t false, .c, .c, .c, .c, .c, .c, .c, .c]) (ts := []) (s := [0, 1]) (l := [1, 5, 15, 16, 17, 72]) (by kernel_rfl) (by kernel_rfl) (.cons (df h173) (.cons (df h174) (.cons (df h175) (.cons h176 (.cons h177 (.cons (df h178) (.cons h179 (.cons h180 (.cons (nf h181) (.cons (df h182) .nil)))))))))) q
                  · rw [if_neg h181] at h
                    cases h
                    exact pkk_sound TTok mix hF 1 (hs := [.c, .t false, .c, .c, .c, .c, .c, .c, .t false, .c, .c, .c, .c, .t false, .c, .c, .c, .c, .c, .c, .c, .c, .c, .c, .c, .c, .t false, .c, .c, .c, .c, .c, .c, .c, .c, .t true, .c, .c, .c]) (ts := []) (s := [0, 1]) (l := [1, 5, 15, 16, 17, 72]) (by kernel_rfl) (by kernel_rfl) (.cons (df h173) (.cons (df h174) (.cons (df h175) (.cons h176 (.cons h177 (.cons (df h178) (.cons h179 (.cons h180 (.cons (nt h181) .nil))))))))) q
                · rw [if_neg h180] at h; cases h
              · rw [if_neg h179] at h; cases h
          · rw [if_neg h177] at h; cases h
        · rw [if_neg h176] at h; cases h
inductive G_twin_Check_L2_R where
  | x0 (v_x196 : Int)
  | x1 
def G_twin_Check_L2_ex : G_twin_Check_L2_R → Ex
  | .x0 _ => .ret
  | .x1  => .exit 0
def G_twin_Check_L2_st (v_t25 : S_twin_Twin) : G_twin_Check_L2_R → PS
  | .x0 v_x196 => ⟨[dd, dd, .d (.v (.int .i64 v_x196)), dd, dd, dd, dd, dd, dd, dd, dd, dd, dd, dd, dd, dd, dd, dd, dd, dd, dd, dd, dd, dd, dd, dd, dd, dd, dd, dd, dd, dd, dd, dd, dd, dd, dd, dd, dd, dd, dd, dd, dd, dd, dd, dd, dd, dd, dd, dd, dd, dd, dd, dd, dd, dd, dd, dd, dd, dd, dd, dd, dd, dd, dd, dd, dd, dd, dd, dd, dd, dd, dd, dd, dd, dd, dd, dd, dd, dd], []⟩
  | .x1  => ⟨[dd, dd, dd, dd, dd, dd, dd, dd, dd, dd, dd, dd, dd, dd, dd, dd, dd, dd, dd, dd, dd, dd, dd, dd, dd, dd, dd, dd, dd, dd, dd, dd, dd, dd, dd, dd, dd, dd, dd, dd, dd, dd, dd, dd, dd, dd, dd, dd, dd, dd, dd, dd, dd, dd, dd, dd, dd, dd, dd, dd, dd, dd, dd, dd, dd, dd, dd, dd, dd, dd, dd, dd, dd, dd, dd, dd, dd, dd, dd, dd], []⟩
def G_twin_Check_L2_hd (v_t25 : S_twin_Twin) (v_end166 : Int) (v_x167 : Int) : PS := ⟨[dd, .ref 0 0, dd, .d (.v (.int .i64 v_end166)), dd, dd, dd, dd, dd, dd, dd, dd, dd, dd, dd, .d (.sl (v_t25.fFree.map eS_twin_Room)), .d (.v (.int .i64 (v_t25.fFree.length : Int))), .d (.v (.int .i64 v_x167)), dd, dd, dd, dd, dd, dd, dd, dd, dd, dd, dd, dd, dd, dd, dd, dd, dd, dd, dd, dd, dd, dd, dd, dd, dd, dd, dd, dd, dd, dd, dd, dd, dd, dd, dd, dd, dd, dd, dd, dd, dd, dd, dd, dd, dd, dd, dd, dd, dd, dd, dd, dd, dd, dd, dd, dd, dd, dd, dd, dd, dd, dd], [.box [.d (.v (.int .i64 v_t25.fOrder)), .d (.sl (v_t25.fFree.map eS_twin_Room))]]⟩
def G_twin_Check_L2 (n : Nat) (v_t25 : S_twin_Twin) : Nat → Int → Int → Option G_twin_Check_L2_R
  | 0, _, _ => none
  | k + 1, v_end166, v_x167 =>
    if v_x167 < (v_t25.fFree.length : Int) then
     (getI v_t25.fFree v_x167).bind fun (v_y182 : S_twin_Room) =>
     (G_twin_Check_C1 n v_end166 v_x167 v_t25 v_y182).bind fun v_o194 => match v_o194 with
     | .x0 v_z195 =>
       if v_z195 = true then
        some (.x0 3)
       else
        if 0 ≤ v_y182.fOrder then
         G_twin_Check_L2 n v_t25 k (wi .i64 (v_y182.fAt + (shlI .i64 1 v_y182.fOrder))) (wi .i64 (v_x167 + 1))
        else none
    else
     some (.x1 )
theorem G_twin_Check_L2_ok {Fi : Ex → PS → Prop} (hF : KC 80 Fi) (ks : List Fr) (n : Nat) (v_t25 : S_twin_Twin)  : ∀ (k : Nat) (v_end166 : Int) (v_x167 : Int) (o : G_twin_Check_L2_R), G_twin_Check_L2 n v_t25 k v_end166 v_x167 = some o → RunE Try.prog 80 Fi ks (G_twin_Check_L2_ex o) (G_twin_Check_L2_st v_t25 o) → RunE Try.prog 80 Fi (.l k (cP (cB (cR (cL (cR (cR (cR (bodyOf Try.f54)))))))) :: ks) .normal (G_twin_Check_L2_hd v_t25 v_end166 v_x167)
  | 0, v_end166, v_x167, o, h, q => by rw [G_twin_Check_L2] at h; cases h
  | k + 1, v_end166, v_x167, o, h, q => by
    rw [G_twin_Check_L2] at h
    by_cases h131 : v_x167 < (v_t25.fFree.length : Int)
    · rw [if_pos h131] at h
      obtain ⟨v_y182, h160, h⟩ := bind_some h
      obtain ⟨v_o194, h185, h⟩ := bind_some h
      refine pkk_sound TTok mix hF 12 (hs := [.t true, .y (eS_twin_Room v_y182), .c]) (ts := []) (s := [0, 21]) (l := [1, 3, 4, 5, 15, 16, 17]) (by kernel_rfl) (by kernel_rfl) (.cons (dt h131) (.cons (getI_ob (f := eS_twin_Room) h160) (.cons (show 0 + 2 ≤ 2 by decide) .nil))) (G_twin_Check_C1_ok hF (.s (cR (cL (cR (cB (cL (cR (cR (cP (cB (cR (cL (cR (cR (cR (bodyOf Try.f54))))))))))))))) :: .s (cR (cR (cB (cL (cR (cR (cP (cB (cR (cL (cR (cR (cR (bodyOf Try.f54)))))))))))))) :: .b 1 :: .s (cR (cR (cR (cP (cB (cR (cL (cR (cR (cR (bodyOf Try.f54))))))))))) :: .l k (cP (cB (cR (cL (cR (cR (cR (bodyOf Try.f54)))))))) :: ks) n v_end166 v_x167 v_t25 v_y182 _ h185 ?_)
      cases v_o194 with
      | x0 v_z195 =>
        try dsimp only at h
        by_cases h186 : v_z195 = true
        · rw [if_pos h186] at h
          cases h
          exact pkk_sound TTok mix hF 8 (hs := [.t true]) (ts := []) (s := []) (l := [2]) (by kernel_rfl) (by kernel_rfl) (.cons h186 .nil) q
        · rw [if_neg h186] at h
          by_cases h187 : 0 ≤ v_y182.fOrder
          · rw [if_pos h187] at h
            exact pkk_sound TTok mix hF 5 (hs := [.t false, .c, .c]) (ts := []) (s := [0]) (l := [1, 3, 15, 16, 17]) (by kernel_rfl) (by kernel_rfl) (.cons (vf h186) (.cons h187 .nil)) (G_twin_Check_L2_ok hF ks n v_t25 k (wi .i64 (v_y182.fAt + (shlI .i64 1 v_y182.fOrder))) (wi .i64 (v_x167 + 1)) _ h q)
          · rw [if_neg h187] at h; cases h
    · rw [if_neg h131] at h
      cases h
      exact pkk_sound TTok mix hF 8 (hs := [.t false]) (ts := []) (s := []) (l := []) (by kernel_rfl) (by kernel_rfl) (.cons (df h131) .nil) q
/- ringhall/twin.Check -/
def G_twin_Check (n : Nat) (v_t25 : S_twin_Twin) : Option (Int) :=
  if v_t25.fOrder < 0 then
   G_twin_Check_J1 n  
  else
   if v_t25.fOrder > 6 then
    G_twin_Check_J1 n  
   else
    (G_twin_Check_L2 n v_t25 n 0 0).bind fun v_o197 => match v_o197 with
    | .x0 v_z198 =>
      some v_z198
    | .x1  =>
      some 0
theorem G_twin_Check_ok (n : Nat) (v_t25 : S_twin_Twin) (r : Int) (h : G_twin_Check n v_t25 = some r) : Ret Try.prog 54 [eS_twin_Twin v_t25] ((eI .i64) r) := by
  refine ret_run (n := 80) (fn := Try.f54) (c := bodyOf Try.f54) (by kernel_rfl) (by kernel_rfl) (by kernel_rfl) (by kernel_rfl) ?_
  have hF : KC 80 (FinR Try.prog Try.f54 ((eI .i64) r)) := FinR.kc' (by kernel_rfl)
  unfold G_twin_Check at h
  by_cases h129 : v_t25.fOrder < 0
  · rw [if_pos h129] at h
    exact pkk_sound TTok mix hF 6 (hs := [.c, .t true, .c, .c, .c]) (ts := []) (s := []) (l := []) (by kernel_rfl) (by kernel_rfl) (.cons (dt h129) .nil) (G_twin_Check_J1_ok n   _ h)
  · rw [if_neg h129] at h
    by_cases h130 : v_t25.fOrder > 6
    · rw [if_pos h130] at h
      exact pkk_sound TTok mix hF 6 (hs := [.c, .t false, .c, .c, .c, .t true]) (ts := []) (s := []) (l := []) (by kernel_rfl) (by kernel_rfl) (.cons (df h129) (.cons (dt h130) .nil)) (G_twin_Check_J1_ok n   _ h)
    · rw [if_neg h130] at h
      obtain ⟨v_o197, h188, h⟩ := bind_some h
      refine pkk_sound TTok mix hF 14 (hs := [.c, .t false, .c, .c, .c, .t false, .c, .u (.d (.v (.int .i64 (v_t25.fFree.length : Int)))), .n n]) (ts := []) (s := [0]) (l := [1, 3, 15, 16, 17]) (by kernel_rfl) (by kernel_rfl) (.cons (df h129) (.cons (df h130) (.cons (len_ob (f := eS_twin_Room) (l := v_t25.fFree)) .nil))) (G_twin_Check_L2_ok hF (.b 0 :: .s (cR (cR (cR (cR (bodyOf Try.f54))))) :: []) n v_t25 n 0 0 _ h188 ?_)
      cases v_o197 with
      | x0 v_z198 =>
        try dsimp only at h
        obtain rfl := Option.some.inj h
        exact pend_sound TTok mix 2 (hs := []) (by kernel_rfl) (by kernel_rfl) (by kernel_rfl) .nil
      | x1  =>
        try dsimp only at h
        obtain rfl := Option.some.inj h
        exact pend_sound TTok mix 4 (hs := []) (by kernel_rfl) (by kernel_rfl) (by kernel_rfl) .nil
/- slices.Clone[[]ringhall/twin.Room,ringhall/twin.Room] -/
def G_slices_Clone_twin_Room_twin_Room_A (n : Nat) (v_c354 : Nat) : Option ((List S_twin_Room)) :=
  some ([] : List S_twin_Room)
theorem G_slices_Clone_twin_Room_twin_Room_A_ok (n : Nat) (v_c354 : Nat) (r : (List S_twin_Room)) (h : G_slices_Clone_twin_Room_twin_Room_A n v_c354 = some r) : RetH Try.prog 87 [.d (.v (.slice none 0 v_c354))] [] (.srf 0) [.row 112 2 (r.map eS_twin_Room)] := by
  refine retH_run (n := 8) (fn := Try.f87) (c := bodyOf Try.f87) (by kernel_rfl) (by kernel_rfl) (by kernel_rfl) (by kernel_rfl) ?_
  have hF : KC 8 (FinH Try.prog Try.f87 [] (.srf 0) [.row 112 2 (r.map eS_twin_Room)]) := FinH.kc' (by kernel_rfl)
  unfold G_slices_Clone_twin_Room_twin_Room_A at h
  obtain rfl := Option.some.inj h
  exact pendH_sound TTok mix 11 (hs := [.c, .dl 4, .th 2 112 2]) [20] (by kernel_rfl) (by kernel_rfl) (by kernel_rfl) .nil
/- slices.Clone[[]ringhall/twin.Room,ringhall/twin.Room] -/
def G_slices_Clone_twin_Room_twin_Room_B (n : Nat) (v_a355 : Addr) (v_c356 : Nat) : Option ((List S_twin_Room)) :=
  (app 16 ([] : List S_twin_Room) ([] : (List S_twin_Room))).bind fun (v_a357 : (List S_twin_Room)) =>
  some v_a357
theorem G_slices_Clone_twin_Room_twin_Room_B_ok (n : Nat) (v_a355 : Addr) (v_c356 : Nat) (r : (List S_twin_Room)) (h : G_slices_Clone_twin_Room_twin_Room_B n v_a355 v_c356 = some r) : RetH Try.prog 87 [.d (.v (.slice (some v_a355) 0 v_c356))] [] (.srf 0) [.row 112 2 (r.map eS_twin_Room)] := by
  refine retH_run (n := 8) (fn := Try.f87) (c := bodyOf Try.f87) (by kernel_rfl) (by kernel_rfl) (by kernel_rfl) (by kernel_rfl) ?_
  have hF : KC 8 (FinH Try.prog Try.f87 [] (.srf 0) [.row 112 2 (r.map eS_twin_Room)]) := FinH.kc' (by kernel_rfl)
  unfold G_slices_Clone_twin_Room_twin_Room_B at h
  obtain ⟨v_a357, h226, h⟩ := bind_some h
  obtain rfl := Option.some.inj h
  exact pendH_sound TTok mix 10 (hs := [.c, .w (([] : List S_twin_Room).map eS_twin_Room), .w (v_a357.map eS_twin_Room)]) [25] (by kernel_rfl) (by kernel_rfl) (by kernel_rfl) (.cons (Eq.refl (([] : List S_twin_Room).map eS_twin_Room)) (.cons (app_ob (f := eS_twin_Room) (s := 2) h226 (fun _ => rfl)).1 (.cons (app_ob (f := eS_twin_Room) (s := 2) h226 (fun _ => rfl)).2.1 (.cons (app_ob (f := eS_twin_Room) (s := 2) h226 (fun _ => rfl)).2.2.1 (.cons (app_ob (f := eS_twin_Room) (s := 2) h226 (fun _ => rfl)).2.2.2 .nil)))))
/- slices.Clone[[]ringhall/twin.Room,ringhall/twin.Room] -/
def G_slices_Clone_twin_Room_twin_Room_C (n : Nat) (v_y358 : S_twin_Room) (v_ys359 : (List S_twin_Room)) : Option ((List S_twin_Room)) :=
  (app 16 ([] : List S_twin_Room) (v_y358 :: v_ys359)).bind fun (v_a360 : (List S_twin_Room)) =>
  some v_a360
theorem G_slices_Clone_twin_Room_twin_Room_C_ok (n : Nat) (v_y358 : S_twin_Room) (v_ys359 : (List S_twin_Room)) (r : (List S_twin_Room)) (h : G_slices_Clone_twin_Room_twin_Room_C n v_y358 v_ys359 = some r) : RetH Try.prog 87 [.d (.sl (eS_twin_Room v_y358 :: v_ys359.map eS_twin_Room))] [] (.srf 0) [.row 112 2 (r.map eS_twin_Room)] := by
  refine retH_run (n := 8) (fn := Try.f87) (c := bodyOf Try.f87) (by kernel_rfl) (by kernel_rfl) (by kernel_rfl) (by kernel_rfl) ?_
  have hF : KC 8 (FinH Try.prog Try.f87 [] (.srf 0) [.row 112 2 (r.map eS_twin_Room)]) := FinH.kc' (by kernel_rfl)
  unfold G_slices_Clone_twin_Room_twin_Room_C at h
  obtain ⟨v_a360, h227, h⟩ := bind_some h
  obtain rfl := Option.some.inj h
  exact pendH_sound TTok mix 10 (hs := [.c, .w (([] : List S_twin_Room).map eS_twin_Room), .w (v_a360.map eS_twin_Room)]) [25] (by kernel_rfl) (by kernel_rfl) (by kernel_rfl) (.cons (Eq.refl (([] : List S_twin_Room).map eS_twin_Room)) (.cons (app_ob (f := eS_twin_Room) (s := 2) h227 (fun _ => rfl)).1 (.cons (app_ob (f := eS_twin_Room) (s := 2) h227 (fun _ => rfl)).2.1 (.cons (app_ob (f := eS_twin_Room) (s := 2) h227 (fun _ => rfl)).2.2.1 (.cons (app_ob (f := eS_twin_Room) (s := 2) h227 (fun _ => rfl)).2.2.2 .nil)))))
def G_slices_Clone_twin_Room_twin_Room (n : Nat) (xs : (List S_twin_Room)) : Option (List S_twin_Room) := app 16 [] xs
theorem G_slices_Clone_twin_Room_twin_Room_ok (n : Nat) (xs : (List S_twin_Room)) (r : (List S_twin_Room)) (h : G_slices_Clone_twin_Room_twin_Room n xs = some r) : RetH Try.prog 87 [.d (.sl (xs.map eS_twin_Room))] [] (.srf 0) [.row 112 2 (r.map eS_twin_Room)] := by
  unfold G_slices_Clone_twin_Room_twin_Room at h
  have e : app 16 ([] : (List S_twin_Room)) [] = some [] := by simp [app]
  cases xs with
  | nil =>
    rw [e] at h; obtain rfl := Option.some.inj h
    exact clone_nil (fun c => G_slices_Clone_twin_Room_twin_Room_A_ok n c _ (by unfold G_slices_Clone_twin_Room_twin_Room_A; rfl)) (fun a c => G_slices_Clone_twin_Room_twin_Room_B_ok n a c _ (by unfold G_slices_Clone_twin_Room_twin_Room_B; rw [e]; rfl))
  | cons y ys => exact G_slices_Clone_twin_Room_twin_Room_C_ok n y ys _ (by unfold G_slices_Clone_twin_Room_twin_Room_C; rw [h]; rfl)
inductive G_slices_Replace_twin_Room_twin_Room_h_ROWN_C1_R where
  | x0 (v_w367 : (List S_twin_Room))
def G_slices_Replace_twin_Room_twin_Room_h_ROWN_C1_ex : G_slices_Replace_twin_Room_twin_Room_h_ROWN_C1_R → Ex
  | .x0 _ => .normal
def G_slices_Replace_twin_Room_twin_Room_h_ROWN_C1_st (v_s363 : (List S_twin_Room)) (v_i364 : Int) : G_slices_Replace_twin_Room_twin_Room_h_ROWN_C1_R → PS
  | .x0 v_w367 => ⟨[dd, dd, dd, dd, dd, dd, dd, dd, dd, .ssl 1 0 v_i364.toNat 2, dd, dd, dd, dd, dd, dd, dd, dd, dd, dd, dd, dd, dd, dd, dd, dd, dd, dd, dd, dd, dd, dd, dd, dd, dd, dd, dd, dd, dd, dd, dd, dd, dd, dd, dd, dd, dd, dd, dd, dd, dd, dd, dd, dd, dd, dd, dd, dd, dd, dd, dd, dd, dd, dd, dd, dd, dd, dd, dd, dd, dd, dd, dd, dd, dd, dd, dd, dd, dd, dd, dd, dd, dd, dd, dd, dd, dd, dd, dd, dd, dd, dd, dd, dd, dd, dd, dd, dd, dd, dd, dd, dd, dd, dd, dd, dd, dd, dd, dd, dd, dd, dd, dd, dd, dd, dd, dd, dd, dd, dd, dd, dd, dd, dd, dd, dd, dd, dd, dd, dd, dd, dd, dd, dd, dd, dd, dd, dd, dd, dd, dd, dd, dd, dd, dd, dd, dd, dd, dd, dd, dd, dd, dd, dd, dd, dd, dd, dd, dd, dd, dd, dd, dd, dd, dd, dd, dd, dd, dd, dd, dd, dd, dd, dd, dd, dd, dd, dd, dd, dd, dd, dd, dd, dd, dd, dd, dd, dd, dd, dd, dd, dd, dd, dd, dd, dd, dd, dd, dd, dd, dd, dd, dd, dd, dd, dd, dd, dd, dd, dd, dd, dd, dd, dd, dd, dd, dd, dd, dd, dd, dd, dd, dd, dd], [.gh 0 (.srf 1), .row 112 2 (v_w367.map eS_twin_Room)]⟩
def G_slices_Replace_twin_Room_twin_Room_h_ROWN_C1_hd (v_s363 : (List S_twin_Room)) (v_i364 : Int)  : PS := ⟨[.ssl 1 0 v_s363.length 2, dd, dd, dd, dd, dd, dd, dd, dd, .ssl 1 0 v_i364.toNat 2, dd, dd, dd, dd, dd, dd, dd, dd, dd, dd, dd, dd, dd, dd, dd, dd, dd, dd, dd, dd, dd, dd, dd, dd, dd, dd, dd, dd, dd, .d (.v (.bool (decide ((v_i364.toNat : Int) < (v_s363.length : Int))))), dd, dd, dd, dd, dd, dd, dd, dd, dd, dd, dd, dd, dd, dd, dd, dd, dd, dd, dd, dd, dd, dd, dd, dd, dd, dd, dd, dd, dd, dd, dd, dd, dd, dd, dd, dd, dd, dd, dd, dd, dd, dd, dd, dd, dd, dd, dd, dd, dd, dd, dd, dd, dd, dd, dd, dd, dd, dd, dd, dd, dd, dd, dd, dd, dd, dd, dd, dd, dd, dd, dd, dd, dd, dd, dd, dd, dd, dd, dd, dd, dd, dd, dd, dd, dd, dd, dd, dd, dd, dd, dd, dd, dd, dd, dd, dd, dd, dd, dd, dd, dd, dd, dd, dd, dd, dd, dd, dd, dd, dd, dd, dd, dd, dd, dd, dd, dd, dd, dd, dd, dd, dd, dd, dd, dd, dd, dd, dd, dd, dd, dd, dd, dd, dd, dd, dd, dd, dd, dd, dd, dd, dd, dd, dd, dd, dd, dd, dd, dd, dd, dd, dd, dd, dd, dd, dd, dd, dd, dd, dd, dd, dd, dd, dd, dd, dd, dd, dd, dd, dd, dd, dd, dd, dd, dd, dd, dd, dd, dd, dd, dd, dd, dd, dd], [.gh 0 (.srf 1), .row 112 2 (v_s363.map eS_twin_Room)]⟩
def G_slices_Replace_twin_Room_twin_Room_h_ROWN_C1 (n : Nat) (v_s363 : (List S_twin_Room)) (v_i364 : Int) : Option G_slices_Replace_twin_Room_twin_Room_h_ROWN_C1_R :=
  if (v_i364.toNat : Int) < (v_s363.length : Int) then
   if (v_s363.length ≤ v_s363.length) ∧ ((0 : Int) ≤ (v_i364.toNat : Int) ∧ (v_i364.toNat : Int) ≤ (v_s363.length : Int)) then
    if v_i364.toNat ≤ v_s363.length ∧ v_s363.length ≤ v_s363.length then
     some (.x0 (clrR v_s363 v_i364.toNat v_s363.length (S_twin_Room.mk 0 0)))
    else none
   else none
  else
   some (.x0 v_s363)
theorem G_slices_Replace_twin_Room_twin_Room_h_ROWN_C1_ok {Fi : Ex → PS → Prop} (hF : KC 224 Fi) (ks : List Fr) (n : Nat) (v_s363 : (List S_twin_Room)) (v_i364 : Int)  (o : G_slices_Replace_twin_Room_twin_Room_h_ROWN_C1_R) (h : G_slices_Replace_twin_Room_twin_Room_h_ROWN_C1 n v_s363 v_i364 = some o) (q : RunE Try.prog 224 Fi ks (G_slices_Replace_twin_Room_twin_Room_h_ROWN_C1_ex o) (G_slices_Replace_twin_Room_twin_Room_h_ROWN_C1_st v_s363 v_i364 o)) : RunE Try.prog 224 Fi (.s (cR (cL (cR (cT (cR (cL (cR (cR (cR (bodyOf Try.f86)))))))))) :: ks) .normal (G_slices_Replace_twin_Room_twin_Room_h_ROWN_C1_hd v_s363 v_i364) := by
  unfold G_slices_Replace_twin_Room_twin_Room_h_ROWN_C1 at h
  by_cases h248 : (v_i364.toNat : Int) < (v_s363.length : Int)
  · rw [if_pos h248] at h
    by_cases h249 : (v_s363.length ≤ v_s363.length) ∧ ((0 : Int) ≤ (v_i364.toNat : Int) ∧ (v_i364.toNat : Int) ≤ (v_s363.length : Int))
    · rw [if_pos h249] at h
      by_cases h250 : v_i364.toNat ≤ v_s363.length ∧ v_s363.length ≤ v_s363.length
      · rw [if_pos h250] at h
        cases h
        exact pkk_sound TTok mix hF 2 (hs := [.t true, .e 12 [] (.d (.v (.int .i64 (v_i364.toNat : Int)))) [], .e 17 [1] (.ssl 1 v_i364.toNat v_s363.length 2) [], .e 22 [1] (dd) [(1, .row 112 2 ((clrR v_s363 v_i364.toNat v_s363.length (S_twin_Room.mk 0 0)).map eS_twin_Room))]]) (ts := []) (s := [0, 1]) (l := [9]) (by kernel_rfl) (by kernel_rfl) (.cons (dt h248) (.cons (xlen (P := Try.prog) (T := TT) (t := 101) (e := 112) (s := 2) (l := 1) (i := 0) (j := v_i364.toNat) (x := (.tmp 41)) (by kernel_rfl)) (.cons (xt10 (P := Try.prog) (T := TT) (f := eS_twin_Room) (t := 101) (e := 112) (s := 2) (l := 1) (L := v_s363) (x := (.tmp 40)) (lo := (.tmp 42)) (a := (v_i364.toNat : Int)) (ka := .i64) (i := v_s363.length) (by kernel_rfl) h249.1 h249.2) (.cons (xclr (ti := ⟨2, 16, .st [(0, 3), (1, 3)], [.i .i64, .i .i64]⟩) (P := Try.prog) (T := TT) (f := eS_twin_Room) (t := 101) (e := 112) (s := 2) (l := 1) (i := v_i364.toNat) (j := v_s363.length) (z := (S_twin_Room.mk 0 0)) (L := v_s363) (x := (.tmp 43)) (p := .agg [.v (.int .i64 0), .v (.int .i64 0)]) (by kernel_rfl) (by kernel_rfl) (by kernel_rfl) (by kernel_rfl) (by decide) rfl h250) .nil)))) q
      · rw [if_neg h250] at h; cases h
    · rw [if_neg h249] at h; cases h
  · rw [if_neg h248] at h
    cases h
    exact pkk_sound TTok mix hF 2 (hs := [.t false]) (ts := []) (s := [0, 1]) (l := [9]) (by kernel_rfl) (by kernel_rfl) (.cons (df h248) .nil) q
/- slices.Replace[[]ringhall/twin.Room,ringhall/twin.Room] -/
def G_slices_Replace_twin_Room_twin_Room_h_ROWN (n : Nat) (v_s363 : (List S_twin_Room)) (v_i364 : Int) (v_j365 : Int) : Option ((List S_twin_Room)) :=
  if ((0 : Int) ≤ v_i364 ∧ v_i364 ≤ v_j365 ∧ v_j365 ≤ (v_s363.length : Int)) then
   if v_i364 = v_j365 then
    none
   else
    if v_j365 = (v_s363.length : Int) then
     if ((0 : Int) ≤ v_i364 ∧ v_i364 ≤ (v_s363.length : Int)) then
      (G_slices_Replace_twin_Room_twin_Room_h_ROWN_C1 n v_s363 v_i364).bind fun v_o369 => match v_o369 with
      | .x0 v_z370 =>
        if v_i364.toNat ≤ v_z370.length then
         some (v_z370.take v_i364.toNat)
        else none
     else none
    else
     none
  else none
theorem G_slices_Replace_twin_Room_twin_Room_h_ROWN_ok (n : Nat) (v_s363 : (List S_twin_Room)) (v_i364 : Int) (v_j365 : Int) (r : (List S_twin_Room)) (h : G_slices_Replace_twin_Room_twin_Room_h_ROWN n v_s363 v_i364 v_j365 = some r) : RetH Try.prog 86 [.ssl 0 0 v_s363.length 2, .d ((eI .i64) v_i364), .d ((eI .i64) v_j365), .d ((eL eS_twin_Room) ([] : List S_twin_Room))] [.row 112 2 (v_s363.map eS_twin_Room)] (.srf 1) [.none, .row 112 2 (r.map eS_twin_Room)] := by
  refine retH_run (n := 224) (fn := Try.f86) (c := bodyOf Try.f86) (by kernel_rfl) (by kernel_rfl) (by kernel_rfl) (by kernel_rfl) ?_
  have hF : KC 224 (FinH Try.prog Try.f86 [.row 112 2 (v_s363.map eS_twin_Room)] (.srf 1) [.none, .row 112 2 (r.map eS_twin_Room)]) := FinH.kc' (by kernel_rfl)
  unfold G_slices_Replace_twin_Room_twin_Room_h_ROWN at h
  by_cases h230 : ((0 : Int) ≤ v_i364 ∧ v_i364 ≤ v_j365 ∧ v_j365 ≤ (v_s363.length : Int))
  · rw [if_pos h230] at h
    by_cases h232 : v_i364 = v_j365
    · rw [if_pos h232] at h
      cases h
    · rw [if_neg h232] at h
      by_cases h243 : v_j365 = (v_s363.length : Int)
      · rw [if_pos h243] at h
        by_cases h244 : ((0 : Int) ≤ v_i364 ∧ v_i364 ≤ (v_s363.length : Int))
        · rw [if_pos h244] at h
          obtain ⟨v_o369, h251, h⟩ := bind_some h
          refine pkk_sound TTok mix hF 18 (hs := [.e 22 [0] (.ssl 0 v_i364.toNat v_j365.toNat 2) [], .t false, .e 52 [] (.d (.v (.int .i64 (v_s363.length : Int)))) [], .t true, .e 72 [0] (.ssl 0 0 v_i364.toNat 2) [], .e 82 [] (.ssl 0 0 v_i364.toNat 2) [], .e 97 [] (.d (.v (.int .i64 (v_i364.toNat : Int)))) [], .e 107 [] (.d (.v (.int .i64 (v_s363.length : Int)))) []]) (ts := []) (s := [1, 0]) (l := [0, 9, 39]) (by kernel_rfl) (by kernel_rfl) (.cons (xt11 (P := Try.prog) (T := TT) (f := eS_twin_Room) (t := 101) (e := 112) (s := 2) (l := 0) (L := v_s363) (x := (.tmp 15)) (lo := (.tmp 16)) (hi := (.tmp 17)) (a := v_i364) (ka := .i64) (b := v_j365) (kb := .i64) (i := v_s363.length) (by kernel_rfl) h230) (.cons (bf h232) (.cons (xlen (P := Try.prog) (T := TT) (t := 101) (e := 112) (s := 2) (l := 0) (i := 0) (j := v_s363.length) (x := (.tmp 27)) (by kernel_rfl)) (.cons (bt h243) (.cons (xt01 (P := Try.prog) (T := TT) (f := eS_twin_Room) (t := 101) (e := 112) (s := 2) (l := 0) (L := v_s363) (x := (.tmp 30)) (hi := (.tmp 31)) (b := v_i364) (kb := .i64) (i := v_s363.length) (by kernel_rfl) h244) (.cons (xapN (P := Try.prog) (T := TT) (t := 101) (e := 112) (s := 2) (l := 0) (i := v_i364.toNat) (x := (.tmp 32)) (y := (.tmp 33)) (by kernel_rfl)) (.cons (xlen (P := Try.prog) (T := TT) (t := 101) (e := 112) (s := 2) (l := 0) (i := 0) (j := v_i364.toNat) (x := (.tmp 35)) (by kernel_rfl)) (.cons (xlen (P := Try.prog) (T := TT) (t := 101) (e := 112) (s := 2) (l := 0) (i := 0) (j := v_s363.length) (x := (.tmp 37)) (by kernel_rfl)) .nil)))))))) (G_slices_Replace_twin_Room_twin_Room_h_ROWN_C1_ok hF (.s (cR (cR (cT (cR (cL (cR (cR (cR (bodyOf Try.f86))))))))) :: .s (cR (cR (cR (cR (bodyOf Try.f86))))) :: []) n v_s363 v_i364 _ h251 ?_)
          cases v_o369 with
          | x0 v_z370 =>
            try dsimp only at h
            by_cases h252 : v_i364.toNat ≤ v_z370.length
            · rw [if_pos h252] at h
              obtain rfl := Option.some.inj h
              exact pendH_sound TTok mix 4 (hs := [.e 2 [1, 2] (.srf 2) [(1, .none), (2, .row 112 2 ((v_z370.take v_i364.toNat).map eS_twin_Room))]]) [1, 2] (by kernel_rfl) (by kernel_rfl) (by kernel_rfl) (.cons (xmv (P := Try.prog) (T := TT) (f := eS_twin_Room) (e := 112) (s := 2) (l := 1) (nl := 2) (L := v_z370) (i := v_i364.toNat) (x := (.tmp 9)) h252) .nil)
            · rw [if_neg h252] at h; cases h
        · rw [if_neg h244] at h; cases h
      · rw [if_neg h243] at h
        cases h
  · rw [if_neg h230] at h; cases h
/- slices.Replace[[]ringhall/twin.Room,ringhall/twin.Room] -/
def G_slices_Replace_twin_Room_twin_Room_h_ROWA (n : Nat) (v_s371 : (List S_twin_Room)) (v_i372 : Int) (v_j373 : Int) (v_v374 : (List S_twin_Room)) : Option ((List S_twin_Room)) :=
  if ((0 : Int) ≤ v_i372 ∧ v_i372 ≤ v_j373 ∧ v_j373 ≤ (v_s371.length : Int)) then
   if v_i372 = v_j373 then
    none
   else
    if v_j373 = (v_s371.length : Int) then
     if ((0 : Int) ≤ v_i372 ∧ v_i372 ≤ (v_s371.length : Int)) then
      (app 16 (v_s371.take v_i372.toNat) v_v374).bind fun (v_a376 : (List S_twin_Room)) =>
      if v_i372.toNat ≤ v_s371.length then
       if (v_a376.length : Int) < (v_s371.length : Int) then
        none
       else
        some v_a376
      else none
     else none
    else
     none
  else none
theorem G_slices_Replace_twin_Room_twin_Room_h_ROWA_ok (n : Nat) (v_s371 : (List S_twin_Room)) (v_i372 : Int) (v_j373 : Int) (v_v374 : (List S_twin_Room)) (r : (List S_twin_Room)) (h : G_slices_Replace_twin_Room_twin_Room_h_ROWA n v_s371 v_i372 v_j373 v_v374 = some r) : RetH Try.prog 86 [.ssl 0 0 v_s371.length 2, .d ((eI .i64) v_i372), .d ((eI .i64) v_j373), .d ((eL eS_twin_Room) v_v374)] [.row 112 2 (v_s371.map eS_twin_Room)] (.srf 1) [.none, .row 112 2 (r.map eS_twin_Room)] := by
  refine retH_run (n := 224) (fn := Try.f86) (c := bodyOf Try.f86) (by kernel_rfl) (by kernel_rfl) (by kernel_rfl) (by kernel_rfl) ?_
  have hF : KC 224 (FinH Try.prog Try.f86 [.row 112 2 (v_s371.map eS_twin_Room)] (.srf 1) [.none, .row 112 2 (r.map eS_twin_Room)]) := FinH.kc' (by kernel_rfl)
  unfold G_slices_Replace_twin_Room_twin_Room_h_ROWA at h
  by_cases h255 : ((0 : Int) ≤ v_i372 ∧ v_i372 ≤ v_j373 ∧ v_j373 ≤ (v_s371.length : Int))
  · rw [if_pos h255] at h
    by_cases h257 : v_i372 = v_j373
    · rw [if_pos h257] at h
      cases h
    · rw [if_neg h257] at h
      by_cases h264 : v_j373 = (v_s371.length : Int)
      · rw [if_pos h264] at h
        by_cases h265 : ((0 : Int) ≤ v_i372 ∧ v_i372 ≤ (v_s371.length : Int))
        · rw [if_pos h265] at h
          obtain ⟨v_a376, h267, h⟩ := bind_some h
          by_cases h266 : v_i372.toNat ≤ v_s371.length
          · rw [if_pos h266] at h
            by_cases h269 : (v_a376.length : Int) < (v_s371.length : Int)
            · rw [if_pos h269] at h
              cases h
            · rw [if_neg h269] at h
              obtain rfl := Option.some.inj h
              exact pendH_sound TTok mix 24 (hs := [.e 22 [0] (.ssl 0 v_i372.toNat v_j373.toNat 2) [], .t false, .e 52 [] (.d (.v (.int .i64 (v_s371.length : Int)))) [], .t true, .e 72 [0] (.ssl 0 0 v_i372.toNat 2) [], .e 82 [0, 82] (.srf 82) [(0, .none), (82, .row 112 2 (v_a376.map eS_twin_Room))], .u (.d (.v (.int .i64 (v_a376.length : Int)))), .e 107 [] (.d (.v (.int .i64 (v_s371.length : Int)))) [], .t false]) [0, 82] (by kernel_rfl) (by kernel_rfl) (by kernel_rfl) (.cons (xt11 (P := Try.prog) (T := TT) (f := eS_twin_Room) (t := 101) (e := 112) (s := 2) (l := 0) (L := v_s371) (x := (.tmp 15)) (lo := (.tmp 16)) (hi := (.tmp 17)) (a := v_i372) (ka := .i64) (b := v_j373) (kb := .i64) (i := v_s371.length) (by kernel_rfl) h255) (.cons (bf h257) (.cons (xlen (P := Try.prog) (T := TT) (t := 101) (e := 112) (s := 2) (l := 0) (i := 0) (j := v_s371.length) (x := (.tmp 27)) (by kernel_rfl)) (.cons (bt h264) (.cons (xt01 (P := Try.prog) (T := TT) (f := eS_twin_Room) (t := 101) (e := 112) (s := 2) (l := 0) (L := v_s371) (x := (.tmp 30)) (hi := (.tmp 31)) (b := v_i372) (kb := .i64) (i := v_s371.length) (by kernel_rfl) h265) (.cons (xapA (f := eS_twin_Room) (L := v_s371) (Y := v_v374) (nl := 82) (ti := ⟨2, 16, .st [(0, 3), (1, 3)], [.i .i64, .i .i64]⟩) (P := Try.prog) (T := TT) (t := 101) (e := 112) (s := 2) (l := 0) (i := v_i372.toNat) (x := (.tmp 32)) (y := (.tmp 33)) (by kernel_rfl) h267 (by kernel_rfl) (by kernel_rfl) (by decide) (fun _ => rfl) (by decide) h266) (.cons (len_ob (f := eS_twin_Room) (l := v_a376)) (.cons (xlen (P := Try.prog) (T := TT) (t := 101) (e := 112) (s := 2) (l := 0) (i := 0) (j := v_s371.length) (x := (.tmp 37)) (by kernel_rfl)) (.cons (df h269) .nil)))))))))
          · rw [if_neg h266] at h; cases h
        · rw [if_neg h265] at h; cases h
      · rw [if_neg h264] at h
        cases h
  · rw [if_neg h255] at h; cases h
/- slices.Replace[[]ringhall/twin.Room,ringhall/twin.Room] -/
def G_slices_Replace_twin_Room_twin_Room_h_CAPG (n : Nat) (v_C378 : Nat) (v_s377 : (List S_twin_Room)) (v_i379 : Int) (v_j380 : Int) (v_v381 : (List S_twin_Room)) : Option ((List S_twin_Room)) :=
  if (0 ≤ v_i379 ∧ v_i379 ≤ v_j380 ∧ v_j380 ≤ (v_s377.length : Int)) ∧ v_s377.length ≤ v_s377.length ∧ v_s377.length ≤ v_C378 then
   if v_i379 = v_j380 then
    none
   else
    if v_j380 = (v_s377.length : Int) then
     none
    else
     if (0 ≤ v_i379 ∧ v_i379 ≤ (v_s377.length : Int)) ∧ v_s377.length ≤ v_s377.length ∧ v_s377.length ≤ v_C378 then
      if (0 ≤ v_j380 ∧ v_j380 ≤ ((v_s377.length : Nat) : Int)) ∧ v_s377.length ≤ v_s377.length ∧ v_s377.length ≤ v_C378 then
       if (wi .i64 ((wi .i64 ((v_i379.toNat : Int) + (v_v381.length : Int))) + ((v_s377.length - v_j380.toNat : Nat) : Int))) > (v_C378 : Int) then
        if (0 ≤ v_i379 ∧ v_i379 ≤ (v_s377.length : Int)) ∧ v_s377.length ≤ v_s377.length ∧ v_s377.length ≤ v_C378 then
         if (wi .i64 ((wi .i64 ((wi .i64 ((v_i379.toNat : Int) + (v_v381.length : Int))) + ((v_s377.length - v_j380.toNat : Nat) : Int))) - v_i379)) = (((v_v381.length + (v_s377.length - v_j380.toNat)) : Nat) : Int) ∧ v_i379.toNat ≤ v_s377.length ∧ 0 < (v_v381.length + (v_s377.length - v_j380.toNat)) ∧ v_C378 < v_i379.toNat + (v_v381.length + (v_s377.length - v_j380.toNat)) ∧ v_i379.toNat + (v_v381.length + (v_s377.length - v_j380.toNat)) ≤ maxLen ∧ (v_i379.toNat + (v_v381.length + (v_s377.length - v_j380.toNat))) * 16 ≤ 140737488355328 then
          if ((0 : Int) ≤ v_i379 ∧ v_i379 ≤ ((v_s377.take v_i379.toNat ++ List.replicate (v_v381.length + (v_s377.length - v_j380.toNat)) (S_twin_Room.mk 0 0)).length : Int)) then
           if (v_s377.take v_i379.toNat ++ List.replicate (v_v381.length + (v_s377.length - v_j380.toNat)) (S_twin_Room.mk 0 0)).length ≤ (v_s377.take v_i379.toNat ++ List.replicate (v_v381.length + (v_s377.length - v_j380.toNat)) (S_twin_Room.mk 0 0)).length then
            if ((0 : Int) ≤ (wi .i64 (v_i379 + (v_v381.length : Int))) ∧ (wi .i64 (v_i379 + (v_v381.length : Int))) ≤ ((cpyR (v_s377.take v_i379.toNat ++ List.replicate (v_v381.length + (v_s377.length - v_j380.toNat)) (S_twin_Room.mk 0 0)) v_i379.toNat ((v_s377.take v_i379.toNat ++ List.replicate (v_v381.length + (v_s377.length - v_j380.toNat)) (S_twin_Room.mk 0 0)).length) v_v381).length : Int)) then
             if (0 ≤ v_j380 ∧ v_j380 ≤ ((v_s377.length : Nat) : Int)) ∧ v_s377.length ≤ v_s377.length ∧ v_s377.length ≤ v_C378 then
              if (cpyR (v_s377.take v_i379.toNat ++ List.replicate (v_v381.length + (v_s377.length - v_j380.toNat)) (S_twin_Room.mk 0 0)) v_i379.toNat ((v_s377.take v_i379.toNat ++ List.replicate (v_v381.length + (v_s377.length - v_j380.toNat)) (S_twin_Room.mk 0 0)).length) v_v381).length ≤ (cpyR (v_s377.take v_i379.toNat ++ List.replicate (v_v381.length + (v_s377.length - v_j380.toNat)) (S_twin_Room.mk 0 0)) v_i379.toNat ((v_s377.take v_i379.toNat ++ List.replicate (v_v381.length + (v_s377.length - v_j380.toNat)) (S_twin_Room.mk 0 0)).length) v_v381).length ∧ v_s377.length ≤ v_s377.length then
               some (cpyR (cpyR (v_s377.take v_i379.toNat ++ List.replicate (v_v381.length + (v_s377.length - v_j380.toNat)) (S_twin_Room.mk 0 0)) v_i379.toNat ((v_s377.take v_i379.toNat ++ List.replicate (v_v381.length + (v_s377.length - v_j380.toNat)) (S_twin_Room.mk 0 0)).length) v_v381) ((wi .i64 (v_i379 + (v_v381.length : Int))).toNat) ((cpyR (v_s377.take v_i379.toNat ++ List.replicate (v_v381.length + (v_s377.length - v_j380.toNat)) (S_twin_Room.mk 0 0)) v_i379.toNat ((v_s377.take v_i379.toNat ++ List.replicate (v_v381.length + (v_s377.length - v_j380.toNat)) (S_twin_Room.mk 0 0)).length) v_v381).length) ((v_s377.take v_s377.length).drop v_j380.toNat))
              else none
             else none
            else none
           else none
          else none
         else none
        else none
       else
        none
      else none
     else none
  else none
theorem G_slices_Replace_twin_Room_twin_Room_h_CAPG_ok (n : Nat) (v_C378 : Nat) (v_s377 : (List S_twin_Room)) (v_i379 : Int) (v_j380 : Int) (v_v381 : (List S_twin_Room)) (r : (List S_twin_Room)) (h : G_slices_Replace_twin_Room_twin_Room_h_CAPG n v_C378 v_s377 v_i379 v_j380 v_v381 = some r) : RetH Try.prog 86 [.ssl 0 0 v_s377.length 2, .d ((eI .i64) v_i379), .d ((eI .i64) v_j380), .d ((eL eS_twin_Room) v_v381)] [.cu (rowC 112 2 v_C378 (v_s377.map eS_twin_Room)) []] (.srf 1) [.none, .row 112 2 (r.map eS_twin_Room)] := by
  refine retH_run (n := 224) (fn := Try.f86) (c := bodyOf Try.f86) (by kernel_rfl) (by kernel_rfl) (by kernel_rfl) (by kernel_rfl) ?_
  have hF : KC 224 (FinH Try.prog Try.f86 [.cu (rowC 112 2 v_C378 (v_s377.map eS_twin_Room)) []] (.srf 1) [.none, .row 112 2 (r.map eS_twin_Room)]) := FinH.kc' (by kernel_rfl)
  unfold G_slices_Replace_twin_Room_twin_Room_h_CAPG at h
  by_cases h272 : (0 ≤ v_i379 ∧ v_i379 ≤ v_j380 ∧ v_j380 ≤ (v_s377.length : Int)) ∧ v_s377.length ≤ v_s377.length ∧ v_s377.length ≤ v_C378
  · rw [if_pos h272] at h
    by_cases h274 : v_i379 = v_j380
    · rw [if_pos h274] at h
      cases h
    · rw [if_neg h274] at h
      by_cases h277 : v_j380 = (v_s377.length : Int)
      · rw [if_pos h277] at h
        cases h
      · rw [if_neg h277] at h
        by_cases h279 : (0 ≤ v_i379 ∧ v_i379 ≤ (v_s377.length : Int)) ∧ v_s377.length ≤ v_s377.length ∧ v_s377.length ≤ v_C378
        · rw [if_pos h279] at h
          by_cases h280 : (0 ≤ v_j380 ∧ v_j380 ≤ ((v_s377.length : Nat) : Int)) ∧ v_s377.length ≤ v_s377.length ∧ v_s377.length ≤ v_C378
          · rw [if_pos h280] at h
            by_cases h289 : (wi .i64 ((wi .i64 ((v_i379.toNat : Int) + (v_v381.length : Int))) + ((v_s377.length - v_j380.toNat : Nat) : Int))) > (v_C378 : Int)
            · rw [if_pos h289] at h
              by_cases h290 : (0 ≤ v_i379 ∧ v_i379 ≤ (v_s377.length : Int)) ∧ v_s377.length ≤ v_s377.length ∧ v_s377.length ≤ v_C378
              · rw [if_pos h290] at h
                by_cases h291 : (wi .i64 ((wi .i64 ((wi .i64 ((v_i379.toNat : Int) + (v_v381.length : Int))) + ((v_s377.length - v_j380.toNat : Nat) : Int))) - v_i379)) = (((v_v381.length + (v_s377.length - v_j380.toNat)) : Nat) : Int) ∧ v_i379.toNat ≤ v_s377.length ∧ 0 < (v_v381.length + (v_s377.length - v_j380.toNat)) ∧ v_C378 < v_i379.toNat + (v_v381.length + (v_s377.length - v_j380.toNat)) ∧ v_i379.toNat + (v_v381.length + (v_s377.length - v_j380.toNat)) ≤ maxLen ∧ (v_i379.toNat + (v_v381.length + (v_s377.length - v_j380.toNat))) * 16 ≤ 140737488355328
                · rw [if_pos h291] at h
                  by_cases h292 : ((0 : Int) ≤ v_i379 ∧ v_i379 ≤ ((v_s377.take v_i379.toNat ++ List.replicate (v_v381.length + (v_s377.length - v_j380.toNat)) (S_twin_Room.mk 0 0)).length : Int))
                  · rw [if_pos h292] at h
                    by_cases h293 : (v_s377.take v_i379.toNat ++ List.replicate (v_v381.length + (v_s377.length - v_j380.toNat)) (S_twin_Room.mk 0 0)).length ≤ (v_s377.take v_i379.toNat ++ List.replicate (v_v381.length + (v_s377.length - v_j380.toNat)) (S_twin_Room.mk 0 0)).length
                    · rw [if_pos h293] at h
                      by_cases h294 : ((0 : Int) ≤ (wi .i64 (v_i379 + (v_v381.length : Int))) ∧ (wi .i64 (v_i379 + (v_v381.length : Int))) ≤ ((cpyR (v_s377.take v_i379.toNat ++ List.replicate (v_v381.length + (v_s377.length - v_j380.toNat)) (S_twin_Room.mk 0 0)) v_i379.toNat ((v_s377.take v_i379.toNat ++ List.replicate (v_v381.length + (v_s377.length - v_j380.toNat)) (S_twin_Room.mk 0 0)).length) v_v381).length : Int))
                      · rw [if_pos h294] at h
                        by_cases h295 : (0 ≤ v_j380 ∧ v_j380 ≤ ((v_s377.length : Nat) : Int)) ∧ v_s377.length ≤ v_s377.length ∧ v_s377.length ≤ v_C378
                        · rw [if_pos h295] at h
                          by_cases h296 : (cpyR (v_s377.take v_i379.toNat ++ List.replicate (v_v381.length + (v_s377.length - v_j380.toNat)) (S_twin_Room.mk 0 0)) v_i379.toNat ((v_s377.take v_i379.toNat ++ List.replicate (v_v381.length + (v_s377.length - v_j380.toNat)) (S_twin_Room.mk 0 0)).length) v_v381).length ≤ (cpyR (v_s377.take v_i379.toNat ++ List.replicate (v_v381.length + (v_s377.length - v_j380.toNat)) (S_twin_Room.mk 0 0)) v_i379.toNat ((v_s377.take v_i379.toNat ++ List.replicate (v_v381.length + (v_s377.length - v_j380.toNat)) (S_twin_Room.mk 0 0)).length) v_v381).length ∧ v_s377.length ≤ v_s377.length
                          · rw [if_pos h296] at h
                            obtain rfl := Option.some.inj h
                            exact pendH_sound TTok mix 30 (hs := [.e 22 [0] (.ssl 0 v_i379.toNat v_j380.toNat 2) [], .t false, .e 52 [] (.d (.v (.int .i64 (v_s377.length : Int)))) [], .t false, .e 72 [0] (.ssl 0 0 v_i379.toNat 2) [], .e 77 [] (.d (.v (.int .i64 (v_i379.toNat : Int)))) [], .u (.d (.v (.int .i64 (v_v381.length : Int)))), .e 107 [0] (.ssl 0 v_j380.toNat v_s377.length 2) [], .e 112 [] (.d (.v (.int .i64 ((v_s377.length - v_j380.toNat : Nat) : Int)))) [], .e 137 [0] (.d (.v (.int .i64 (v_C378 : Int)))) [], .t true, .e 157 [0] (.ssl 0 0 v_i379.toNat 2) [], .e 177 [0, 177] (.srf 177) [(177, .row 112 2 ((v_s377.take v_i379.toNat ++ List.replicate (v_v381.length + (v_s377.length - v_j380.toNat)) (S_twin_Room.mk 0 0)).map eS_twin_Room))], .e 197 [177] (.ssl 177 v_i379.toNat ((v_s377.take v_i379.toNat ++ List.replicate (v_v381.length + (v_s377.length - v_j380.toNat)) (S_twin_Room.mk 0 0)).length) 2) [], .e 207 [177] (.d (.v (.int .i64 ((Nat.min v_v381.length ((v_s377.take v_i379.toNat ++ List.replicate (v_v381.length + (v_s377.length - v_j380.toNat)) (S_twin_Room.mk 0 0)).length - v_i379.toNat) : Nat) : Int)))) [(177, .row 112 2 ((cpyR (v_s377.take v_i379.toNat ++ List.replicate (v_v381.length + (v_s377.length - v_j380.toNat)) (S_twin_Room.mk 0 0)) v_i379.toNat ((v_s377.take v_i379.toNat ++ List.replicate (v_v381.length + (v_s377.length - v_j380.toNat)) (S_twin_Room.mk 0 0)).length) v_v381).map eS_twin_Room))], .u (.d (.v (.int .i64 (v_v381.length : Int)))), .e 237 [177] (.ssl 177 ((wi .i64 (v_i379 + (v_v381.length : Int))).toNat) ((cpyR (v_s377.take v_i379.toNat ++ List.replicate (v_v381.length + (v_s377.length - v_j380.toNat)) (S_twin_Room.mk 0 0)) v_i379.toNat ((v_s377.take v_i379.toNat ++ List.replicate (v_v381.length + (v_s377.length - v_j380.toNat)) (S_twin_Room.mk 0 0)).length) v_v381).length) 2) [], .e 252 [0] (.ssl 0 v_j380.toNat v_s377.length 2) [], .e 257 [177, 0] (.d (.v (.int .i64 ((Nat.min ((v_s377.take v_s377.length).drop v_j380.toNat).length ((cpyR (v_s377.take v_i379.toNat ++ List.replicate (v_v381.length + (v_s377.length - v_j380.toNat)) (S_twin_Room.mk 0 0)) v_i379.toNat ((v_s377.take v_i379.toNat ++ List.replicate (v_v381.length + (v_s377.length - v_j380.toNat)) (S_twin_Room.mk 0 0)).length) v_v381).length - (wi .i64 (v_i379 + (v_v381.length : Int))).toNat) : Nat) : Int)))) [(177, .row 112 2 ((cpyR (cpyR (v_s377.take v_i379.toNat ++ List.replicate (v_v381.length + (v_s377.length - v_j380.toNat)) (S_twin_Room.mk 0 0)) v_i379.toNat ((v_s377.take v_i379.toNat ++ List.replicate (v_v381.length + (v_s377.length - v_j380.toNat)) (S_twin_Room.mk 0 0)).length) v_v381) ((wi .i64 (v_i379 + (v_v381.length : Int))).toNat) ((cpyR (v_s377.take v_i379.toNat ++ List.replicate (v_v381.length + (v_s377.length - v_j380.toNat)) (S_twin_Room.mk 0 0)) v_i379.toNat ((v_s377.take v_i379.toNat ++ List.replicate (v_v381.length + (v_s377.length - v_j380.toNat)) (S_twin_Room.mk 0 0)).length) v_v381).length) ((v_s377.take v_s377.length).drop v_j380.toNat)).map eS_twin_Room)), (0, .none)]]) [0, 177] (by kernel_rfl) (by kernel_rfl) (by kernel_rfl) (.cons (ext_same (yt11 (P := Try.prog) (T := TT) (f := eS_twin_Room) (t := 101) (e := 112) (s := 2) (l := 0) (L := v_s377) (x := (.tmp 15)) (k := v_s377.length) (C := v_C378) (lo := (.tmp 16)) (hi := (.tmp 17)) (A := v_i379) (ka := .i64) (B := v_j380) (kb := .i64) (by kernel_rfl) h272.1 h272.2.1 h272.2.2)) (.cons (bf h274) (.cons (xlen (P := Try.prog) (T := TT) (t := 101) (e := 112) (s := 2) (l := 0) (i := 0) (j := v_s377.length) (x := (.tmp 27)) (by kernel_rfl)) (.cons (bf h277) (.cons (ext_same (yt01 (P := Try.prog) (T := TT) (f := eS_twin_Room) (t := 101) (e := 112) (s := 2) (l := 0) (L := v_s377) (x := (.tmp 45)) (k := v_s377.length) (C := v_C378) (hi := (.tmp 46)) (B := v_i379) (kb := .i64) (by kernel_rfl) h279.1 h279.2.1 h279.2.2)) (.cons (xlen (P := Try.prog) (T := TT) (t := 101) (e := 112) (s := 2) (l := 0) (i := 0) (j := v_i379.toNat) (x := (.tmp 47)) (by kernel_rfl)) (.cons (len_ob (f := eS_twin_Room) (l := v_v381)) (.cons (ext_same (yt10 (P := Try.prog) (T := TT) (f := eS_twin_Room) (t := 101) (e := 112) (s := 2) (l := 0) (L := v_s377) (x := (.tmp 52)) (k := v_s377.length) (C := v_C378) (lo := (.tmp 53)) (A := v_j380) (ka := .i64) (by kernel_rfl) h280.1 h280.2.1 h280.2.2)) (.cons (xlen (P := Try.prog) (T := TT) (t := 101) (e := 112) (s := 2) (l := 0) (i := v_j380.toNat) (j := v_s377.length) (x := (.tmp 54)) (by kernel_rfl)) (.cons (ycapS (P := Try.prog) (T := TT) (f := eS_twin_Room) (t := 101) (e := 112) (s := 2) (l := 0) (L := v_s377) (C := v_C378) (k := v_s377.length) (x := (.tmp 58)) (by kernel_rfl)) (.cons (dt h289) (.cons (ext_same (yt01 (P := Try.prog) (T := TT) (f := eS_twin_Room) (t := 101) (e := 112) (s := 2) (l := 0) (L := v_s377) (x := (.tmp 61)) (k := v_s377.length) (C := v_C378) (hi := (.tmp 62)) (B := v_i379) (kb := .i64) (by kernel_rfl) h290.1 h290.2.1 h290.2.2)) (.cons (yapZ (P := Try.prog) (T := TT) (f := eS_twin_Room) (t := 101) (e := 112) (s := 2) (l := 0) (nl := 177) (C := v_C378) (i := v_i379.toNat) (k := (v_v381.length + (v_s377.length - v_j380.toNat))) (L := v_s377) (x := (.tmp 63)) (y := (.tmp 66)) (ti := ⟨2, 16, .st [(0, 3), (1, 3)], [.i .i64, .i .i64]⟩) (tn := 3) (kn := .i64) (kq := .i64) (z := (S_twin_Room.mk 0 0)) (p := .agg [.v (.int .i64 0), .v (.int .i64 0)]) (B := (wi .i64 ((wi .i64 ((wi .i64 ((v_i379.toNat : Int) + (v_v381.length : Int))) + ((v_s377.length - v_j380.toNat : Nat) : Int))) - v_i379))) (by kernel_rfl) (by kernel_rfl) (by kernel_rfl) (by kernel_rfl) (by kernel_rfl) (by decide) rfl h291.1 h291.2.1 h291.2.2.1 h291.2.2.2.1 h291.2.2.2.2.1 h291.2.2.2.2.2 (by decide)) (.cons (xs10 (P := Try.prog) (T := TT) (f := eS_twin_Room) (t := 101) (e := 112) (s := 2) (l := 177) (L := (v_s377.take v_i379.toNat ++ List.replicate (v_v381.length + (v_s377.length - v_j380.toNat)) (S_twin_Room.mk 0 0))) (x := (.tmp 68)) (lo := (.tmp 69)) (a := v_i379) (ka := .i64) (by kernel_rfl) h292) (.cons (xcpD (P := Try.prog) (T := TT) (f := eS_twin_Room) (t := 101) (t' := 101) (e := 112) (s := 2) (l := 177) (x := (.tmp 70)) (y := (.tmp 71)) (ti := ⟨2, 16, .st [(0, 3), (1, 3)], [.i .i64, .i .i64]⟩) (L := (v_s377.take v_i379.toNat ++ List.replicate (v_v381.length + (v_s377.length - v_j380.toNat)) (S_twin_Room.mk 0 0))) (Y := v_v381) (i := v_i379.toNat) (j := (v_s377.take v_i379.toNat ++ List.replicate (v_v381.length + (v_s377.length - v_j380.toNat)) (S_twin_Room.mk 0 0)).length) (by kernel_rfl) (by kernel_rfl) h293 (fun _ => rfl)) (.cons (len_ob (f := eS_twin_Room) (l := v_v381)) (.cons (xs10 (P := Try.prog) (T := TT) (f := eS_twin_Room) (t := 101) (e := 112) (s := 2) (l := 177) (L := (cpyR (v_s377.take v_i379.toNat ++ List.replicate (v_v381.length + (v_s377.length - v_j380.toNat)) (S_twin_Room.mk 0 0)) v_i379.toNat ((v_s377.take v_i379.toNat ++ List.replicate (v_v381.length + (v_s377.length - v_j380.toNat)) (S_twin_Room.mk 0 0)).length) v_v381)) (x := (.tmp 73)) (lo := (.tmp 77)) (a := (wi .i64 (v_i379 + (v_v381.length : Int)))) (ka := .i64) (by kernel_rfl) h294) (.cons (ext_same (yt10 (P := Try.prog) (T := TT) (f := eS_twin_Room) (t := 101) (e := 112) (s := 2) (l := 0) (L := v_s377) (x := (.tmp 79)) (k := v_s377.length) (C := v_C378) (lo := (.tmp 80)) (A := v_j380) (ka := .i64) (by kernel_rfl) h295.1 h295.2.1 h295.2.2)) (.cons (ext_kill (l := 0) (ycpC (P := Try.prog) (T := TT) (f := eS_twin_Room) (t := 101) (t' := 101) (e := 112) (s := 2) (l := 177) (x := (.tmp 78)) (y := (.tmp 81)) (ti := ⟨2, 16, .st [(0, 3), (1, 3)], [.i .i64, .i .i64]⟩) (L := (cpyR (v_s377.take v_i379.toNat ++ List.replicate (v_v381.length + (v_s377.length - v_j380.toNat)) (S_twin_Room.mk 0 0)) v_i379.toNat ((v_s377.take v_i379.toNat ++ List.replicate (v_v381.length + (v_s377.length - v_j380.toNat)) (S_twin_Room.mk 0 0)).length) v_v381)) (i := (wi .i64 (v_i379 + (v_v381.length : Int))).toNat) (j := (cpyR (v_s377.take v_i379.toNat ++ List.replicate (v_v381.length + (v_s377.length - v_j380.toNat)) (S_twin_Room.mk 0 0)) v_i379.toNat ((v_s377.take v_i379.toNat ++ List.replicate (v_v381.length + (v_s377.length - v_j380.toNat)) (S_twin_Room.mk 0 0)).length) v_v381).length) (p := v_j380.toNat) (q := v_s377.length) (Y := v_s377) (l' := 0) (C := v_C378) (by kernel_rfl) (by kernel_rfl) h296.1 h296.2)) .nil)))))))))))))))))))
                          · rw [if_neg h296] at h; cases h
                        · rw [if_neg h295] at h; cases h
                      · rw [if_neg h294] at h; cases h
                    · rw [if_neg h293] at h; cases h
                  · rw [if_neg h292] at h; cases h
                · rw [if_neg h291] at h; cases h
              · rw [if_neg h290] at h; cases h
            · rw [if_neg h289] at h
              cases h
          · rw [if_neg h280] at h; cases h
        · rw [if_neg h279] at h; cases h
  · rw [if_neg h272] at h; cases h
/- slices.Replace[[]ringhall/twin.Room,ringhall/twin.Room] -/
def G_slices_Replace_twin_Room_twin_Room_h_CAPF (n : Nat) (v_C383 : Nat) (v_s382 : (List S_twin_Room)) (v_i384 : Int) (v_j385 : Int) (v_v386 : (List S_twin_Room)) : Option ((List S_twin_Room)) :=
  if (0 ≤ v_i384 ∧ v_i384 ≤ v_j385 ∧ v_j385 ≤ (v_s382.length : Int)) ∧ v_s382.length ≤ v_s382.length ∧ v_s382.length ≤ v_C383 then
   if v_i384 = v_j385 then
    none
   else
    if v_j385 = (v_s382.length : Int) then
     none
    else
     if (0 ≤ v_i384 ∧ v_i384 ≤ (v_s382.length : Int)) ∧ v_s382.length ≤ v_s382.length ∧ v_s382.length ≤ v_C383 then
      if (0 ≤ v_j385 ∧ v_j385 ≤ ((v_s382.length : Nat) : Int)) ∧ v_s382.length ≤ v_s382.length ∧ v_s382.length ≤ v_C383 then
       if (wi .i64 ((wi .i64 ((v_i384.toNat : Int) + (v_v386.length : Int))) + ((v_s382.length - v_j385.toNat : Nat) : Int))) > (v_C383 : Int) then
        none
       else
        if (0 ≤ (wi .i64 ((wi .i64 ((v_i384.toNat : Int) + (v_v386.length : Int))) + ((v_s382.length - v_j385.toNat : Nat) : Int))) ∧ (wi .i64 ((wi .i64 ((v_i384.toNat : Int) + (v_v386.length : Int))) + ((v_s382.length - v_j385.toNat : Nat) : Int))) ≤ (v_s382.length : Int)) ∧ v_s382.length ≤ v_s382.length ∧ v_s382.length ≤ v_C383 then
         if (wi .i64 (v_i384 + (v_v386.length : Int))) ≤ v_j385 then
          if ((wi .i64 ((wi .i64 ((v_i384.toNat : Int) + (v_v386.length : Int))) + ((v_s382.length - v_j385.toNat : Nat) : Int))).toNat ≤ v_s382.length) ∧ ((0 : Int) ≤ v_i384 ∧ v_i384 ≤ (((wi .i64 ((wi .i64 ((v_i384.toNat : Int) + (v_v386.length : Int))) + ((v_s382.length - v_j385.toNat : Nat) : Int))).toNat : Nat) : Int)) then
           if (wi .i64 ((wi .i64 ((v_i384.toNat : Int) + (v_v386.length : Int))) + ((v_s382.length - v_j385.toNat : Nat) : Int))).toNat ≤ v_s382.length then
            if ((wi .i64 ((wi .i64 ((v_i384.toNat : Int) + (v_v386.length : Int))) + ((v_s382.length - v_j385.toNat : Nat) : Int))).toNat ≤ (cpyR v_s382 v_i384.toNat ((wi .i64 ((wi .i64 ((v_i384.toNat : Int) + (v_v386.length : Int))) + ((v_s382.length - v_j385.toNat : Nat) : Int))).toNat) v_v386).length) ∧ ((0 : Int) ≤ (wi .i64 (v_i384 + (v_v386.length : Int))) ∧ (wi .i64 (v_i384 + (v_v386.length : Int))) ≤ (((wi .i64 ((wi .i64 ((v_i384.toNat : Int) + (v_v386.length : Int))) + ((v_s382.length - v_j385.toNat : Nat) : Int))).toNat : Nat) : Int)) then
             if (v_s382.length ≤ (cpyR v_s382 v_i384.toNat ((wi .i64 ((wi .i64 ((v_i384.toNat : Int) + (v_v386.length : Int))) + ((v_s382.length - v_j385.toNat : Nat) : Int))).toNat) v_v386).length) ∧ ((0 : Int) ≤ v_j385 ∧ v_j385 ≤ (v_s382.length : Int)) then
              if (wi .i64 ((wi .i64 ((v_i384.toNat : Int) + (v_v386.length : Int))) + ((v_s382.length - v_j385.toNat : Nat) : Int))).toNat ≤ (cpyR v_s382 v_i384.toNat ((wi .i64 ((wi .i64 ((v_i384.toNat : Int) + (v_v386.length : Int))) + ((v_s382.length - v_j385.toNat : Nat) : Int))).toNat) v_v386).length ∧ v_s382.length ≤ (cpyR v_s382 v_i384.toNat ((wi .i64 ((wi .i64 ((v_i384.toNat : Int) + (v_v386.length : Int))) + ((v_s382.length - v_j385.toNat : Nat) : Int))).toNat) v_v386).length then
               if (v_s382.length ≤ (cpyR (cpyR v_s382 v_i384.toNat ((wi .i64 ((wi .i64 ((v_i384.toNat : Int) + (v_v386.length : Int))) + ((v_s382.length - v_j385.toNat : Nat) : Int))).toNat) v_v386) ((wi .i64 (v_i384 + (v_v386.length : Int))).toNat) ((wi .i64 ((wi .i64 ((v_i384.toNat : Int) + (v_v386.length : Int))) + ((v_s382.length - v_j385.toNat : Nat) : Int))).toNat) (((cpyR v_s382 v_i384.toNat ((wi .i64 ((wi .i64 ((v_i384.toNat : Int) + (v_v386.length : Int))) + ((v_s382.length - v_j385.toNat : Nat) : Int))).toNat) v_v386).take v_s382.length).drop v_j385.toNat)).length) ∧ ((0 : Int) ≤ (wi .i64 ((wi .i64 ((v_i384.toNat : Int) + (v_v386.length : Int))) + ((v_s382.length - v_j385.toNat : Nat) : Int))) ∧ (wi .i64 ((wi .i64 ((v_i384.toNat : Int) + (v_v386.length : Int))) + ((v_s382.length - v_j385.toNat : Nat) : Int))) ≤ (v_s382.length : Int)) then
                if (wi .i64 ((wi .i64 ((v_i384.toNat : Int) + (v_v386.length : Int))) + ((v_s382.length - v_j385.toNat : Nat) : Int))).toNat ≤ v_s382.length ∧ v_s382.length ≤ (cpyR (cpyR v_s382 v_i384.toNat ((wi .i64 ((wi .i64 ((v_i384.toNat : Int) + (v_v386.length : Int))) + ((v_s382.length - v_j385.toNat : Nat) : Int))).toNat) v_v386) ((wi .i64 (v_i384 + (v_v386.length : Int))).toNat) ((wi .i64 ((wi .i64 ((v_i384.toNat : Int) + (v_v386.length : Int))) + ((v_s382.length - v_j385.toNat : Nat) : Int))).toNat) (((cpyR v_s382 v_i384.toNat ((wi .i64 ((wi .i64 ((v_i384.toNat : Int) + (v_v386.length : Int))) + ((v_s382.length - v_j385.toNat : Nat) : Int))).toNat) v_v386).take v_s382.length).drop v_j385.toNat)).length then
                 if (wi .i64 ((wi .i64 ((v_i384.toNat : Int) + (v_v386.length : Int))) + ((v_s382.length - v_j385.toNat : Nat) : Int))).toNat ≤ (clrR (cpyR (cpyR v_s382 v_i384.toNat ((wi .i64 ((wi .i64 ((v_i384.toNat : Int) + (v_v386.length : Int))) + ((v_s382.length - v_j385.toNat : Nat) : Int))).toNat) v_v386) ((wi .i64 (v_i384 + (v_v386.length : Int))).toNat) ((wi .i64 ((wi .i64 ((v_i384.toNat : Int) + (v_v386.length : Int))) + ((v_s382.length - v_j385.toNat : Nat) : Int))).toNat) (((cpyR v_s382 v_i384.toNat ((wi .i64 ((wi .i64 ((v_i384.toNat : Int) + (v_v386.length : Int))) + ((v_s382.length - v_j385.toNat : Nat) : Int))).toNat) v_v386).take v_s382.length).drop v_j385.toNat)) ((wi .i64 ((wi .i64 ((v_i384.toNat : Int) + (v_v386.length : Int))) + ((v_s382.length - v_j385.toNat : Nat) : Int))).toNat) v_s382.length (S_twin_Room.mk 0 0)).length then
                  some ((clrR (cpyR (cpyR v_s382 v_i384.toNat ((wi .i64 ((wi .i64 ((v_i384.toNat : Int) + (v_v386.length : Int))) + ((v_s382.length - v_j385.toNat : Nat) : Int))).toNat) v_v386) ((wi .i64 (v_i384 + (v_v386.length : Int))).toNat) ((wi .i64 ((wi .i64 ((v_i384.toNat : Int) + (v_v386.length : Int))) + ((v_s382.length - v_j385.toNat : Nat) : Int))).toNat) (((cpyR v_s382 v_i384.toNat ((wi .i64 ((wi .i64 ((v_i384.toNat : Int) + (v_v386.length : Int))) + ((v_s382.length - v_j385.toNat : Nat) : Int))).toNat) v_v386).take v_s382.length).drop v_j385.toNat)) ((wi .i64 ((wi .i64 ((v_i384.toNat : Int) + (v_v386.length : Int))) + ((v_s382.length - v_j385.toNat : Nat) : Int))).toNat) v_s382.length (S_twin_Room.mk 0 0)).take ((wi .i64 ((wi .i64 ((v_i384.toNat : Int) + (v_v386.length : Int))) + ((v_s382.length - v_j385.toNat : Nat) : Int))).toNat))
                 else none
                else none
               else none
              else none
             else none
            else none
           else none
          else none
         else
          none
        else none
      else none
     else none
  else none
theorem G_slices_Replace_twin_Room_twin_Room_h_CAPF_ok (n : Nat) (v_C383 : Nat) (v_s382 : (List S_twin_Room)) (v_i384 : Int) (v_j385 : Int) (v_v386 : (List S_twin_Room)) (r : (List S_twin_Room)) (h : G_slices_Replace_twin_Room_twin_Room_h_CAPF n v_C383 v_s382 v_i384 v_j385 v_v386 = some r) : RetH Try.prog 86 [.ssl 0 0 v_s382.length 2, .d ((eI .i64) v_i384), .d ((eI .i64) v_j385), .d ((eL eS_twin_Room) v_v386)] [.cu (rowC 112 2 v_C383 (v_s382.map eS_twin_Room)) []] (.srf 1) [.none, .row 112 2 (r.map eS_twin_Room)] := by
  refine retH_run (n := 224) (fn := Try.f86) (c := bodyOf Try.f86) (by kernel_rfl) (by kernel_rfl) (by kernel_rfl) (by kernel_rfl) ?_
  have hF : KC 224 (FinH Try.prog Try.f86 [.cu (rowC 112 2 v_C383 (v_s382.map eS_twin_Room)) []] (.srf 1) [.none, .row 112 2 (r.map eS_twin_Room)]) := FinH.kc' (by kernel_rfl)
  unfold G_slices_Replace_twin_Room_twin_Room_h_CAPF at h
  by_cases h298 : (0 ≤ v_i384 ∧ v_i384 ≤ v_j385 ∧ v_j385 ≤ (v_s382.length : Int)) ∧ v_s382.length ≤ v_s382.length ∧ v_s382.length ≤ v_C383
  · rw [if_pos h298] at h
    by_cases h300 : v_i384 = v_j385
    · rw [if_pos h300] at h
      cases h
    · rw [if_neg h300] at h
      by_cases h303 : v_j385 = (v_s382.length : Int)
      · rw [if_pos h303] at h
        cases h
      · rw [if_neg h303] at h
        by_cases h305 : (0 ≤ v_i384 ∧ v_i384 ≤ (v_s382.length : Int)) ∧ v_s382.length ≤ v_s382.length ∧ v_s382.length ≤ v_C383
        · rw [if_pos h305] at h
          by_cases h306 : (0 ≤ v_j385 ∧ v_j385 ≤ ((v_s382.length : Nat) : Int)) ∧ v_s382.length ≤ v_s382.length ∧ v_s382.length ≤ v_C383
          · rw [if_pos h306] at h
            by_cases h309 : (wi .i64 ((wi .i64 ((v_i384.toNat : Int) + (v_v386.length : Int))) + ((v_s382.length - v_j385.toNat : Nat) : Int))) > (v_C383 : Int)
            · rw [if_pos h309] at h
              cases h
            · rw [if_neg h309] at h
              by_cases h311 : (0 ≤ (wi .i64 ((wi .i64 ((v_i384.toNat : Int) + (v_v386.length : Int))) + ((v_s382.length - v_j385.toNat : Nat) : Int))) ∧ (wi .i64 ((wi .i64 ((v_i384.toNat : Int) + (v_v386.length : Int))) + ((v_s382.length - v_j385.toNat : Nat) : Int))) ≤ (v_s382.length : Int)) ∧ v_s382.length ≤ v_s382.length ∧ v_s382.length ≤ v_C383
              · rw [if_pos h311] at h
                by_cases h321 : (wi .i64 (v_i384 + (v_v386.length : Int))) ≤ v_j385
                · rw [if_pos h321] at h
                  by_cases h322 : ((wi .i64 ((wi .i64 ((v_i384.toNat : Int) + (v_v386.length : Int))) + ((v_s382.length - v_j385.toNat : Nat) : Int))).toNat ≤ v_s382.length) ∧ ((0 : Int) ≤ v_i384 ∧ v_i384 ≤ (((wi .i64 ((wi .i64 ((v_i384.toNat : Int) + (v_v386.length : Int))) + ((v_s382.length - v_j385.toNat : Nat) : Int))).toNat : Nat) : Int))
                  · rw [if_pos h322] at h
                    by_cases h323 : (wi .i64 ((wi .i64 ((v_i384.toNat : Int) + (v_v386.length : Int))) + ((v_s382.length - v_j385.toNat : Nat) : Int))).toNat ≤ v_s382.length
                    · rw [if_pos h323] at h
                      by_cases h324 : ((wi .i64 ((wi .i64 ((v_i384.toNat : Int) + (v_v386.length : Int))) + ((v_s382.length - v_j385.toNat : Nat) : Int))).toNat ≤ (cpyR v_s382 v_i384.toNat ((wi .i64 ((wi .i64 ((v_i384.toNat : Int) + (v_v386.length : Int))) + ((v_s382.length - v_j385.toNat : Nat) : Int))).toNat) v_v386).length) ∧ ((0 : Int) ≤ (wi .i64 (v_i384 + (v_v386.length : Int))) ∧ (wi .i64 (v_i384 + (v_v386.length : Int))) ≤ (((wi .i64 ((wi .i64 ((v_i384.toNat : Int) + (v_v386.length : Int))) + ((v_s382.length - v_j385.toNat : Nat) : Int))).toNat : Nat) : Int))
                      · rw [if_pos h324] at h
                        by_cases h325 : (v_s382.length ≤ (cpyR v_s382 v_i384.toNat ((wi .i64 ((wi .i64 ((v_i384.toNat : Int) + (v_v386.length : Int))) + ((v_s382.length - v_j385.toNat : Nat) : Int))).toNat) v_v386).length) ∧ ((0 : Int) ≤ v_j385 ∧ v_j385 ≤ (v_s382.length : Int))
                        · rw [if_pos h325] at h
                          by_cases h326 : (wi .i64 ((wi .i64 ((v_i384.toNat : Int) + (v_v386.length : Int))) + ((v_s382.length - v_j385.toNat : Nat) : Int))).toNat ≤ (cpyR v_s382 v_i384.toNat ((wi .i64 ((wi .i64 ((v_i384.toNat : Int) + (v_v386.length : Int))) + ((v_s382.length - v_j385.toNat : Nat) : Int))).toNat) v_v386).length ∧ v_s382.length ≤ (cpyR v_s382 v_i384.toNat ((wi .i64 ((wi .i64 ((v_i384.toNat : Int) + (v_v386.length : Int))) + ((v_s382.length - v_j385.toNat : Nat) : Int))).toNat) v_v386).length
                          · rw [if_pos h326] at h
                            by_cases h327 : (v_s382.length ≤ (cpyR (cpyR v_s382 v_i384.toNat ((wi .i64 ((wi .i64 ((v_i384.toNat : Int) + (v_v386.length : Int))) + ((v_s382.length - v_j385.toNat : Nat) : Int))).toNat) v_v386) ((wi .i64 (v_i384 + (v_v386.length : Int))).toNat) ((wi .i64 ((wi .i64 ((v_i384.toNat : Int) + (v_v386.length : Int))) + ((v_s382.length - v_j385.toNat : Nat) : Int))).toNat) (((cpyR v_s382 v_i384.toNat ((wi .i64 ((wi .i64 ((v_i384.toNat : Int) + (v_v386.length : Int))) + ((v_s382.length - v_j385.toNat : Nat) : Int))).toNat) v_v386).take v_s382.length).drop v_j385.toNat)).length) ∧ ((0 : Int) ≤ (wi .i64 ((wi .i64 ((v_i384.toNat : Int) + (v_v386.length : Int))) + ((v_s382.length - v_j385.toNat : Nat) : Int))) ∧ (wi .i64 ((wi .i64 ((v_i384.toNat : Int) + (v_v386.length : Int))) + ((v_s382.length - v_j385.toNat : Nat) : Int))) ≤ (v_s382.length : Int))
                            · rw [if_pos h327] at h
                              by_cases h328 : (wi .i64 ((wi .i64 ((v_i384.toNat : Int) + (v_v386.length : Int))) + ((v_s382.length - v_j385.toNat : Nat) : Int))).toNat ≤ v_s382.length ∧ v_s382.length ≤ (cpyR (cpyR v_s382 v_i384.toNat ((wi .i64 ((wi .i64 ((v_i384.toNat : Int) + (v_v386.length : Int))) + ((v_s382.length - v_j385.toNat : Nat) : Int))).toNat) v_v386) ((wi .i64 (v_i384 + (v_v386.length : Int))).toNat) ((wi .i64 ((wi .i64 ((v_i384.toNat : Int) + (v_v386.length : Int))) + ((v_s382.length - v_j385.toNat : Nat) : Int))).toNat) (((cpyR v_s382 v_i384.toNat ((wi .i64 ((wi .i64 ((v_i384.toNat : Int) + (v_v386.length : Int))) + ((v_s382.length - v_j385.toNat : Nat) : Int))).toNat) v_v386).take v_s382.length).drop v_j385.toNat)).length
                              · rw [if_pos h328] at h
                                by_cases h329 : (wi .i64 ((wi .i64 ((v_i384.toNat : Int) + (v_v386.length : Int))) + ((v_s382.length - v_j385.toNat : Nat) : Int))).toNat ≤ (clrR (cpyR (cpyR v_s382 v_i384.toNat ((wi .i64 ((wi .i64 ((v_i384.toNat : Int) + (v_v386.length : Int))) + ((v_s382.length - v_j385.toNat : Nat) : Int))).toNat) v_v386) ((wi .i64 (v_i384 + (v_v386.length : Int))).toNat) ((wi .i64 ((wi .i64 ((v_i384.toNat : Int) + (v_v386.length : Int))) + ((v_s382.length - v_j385.toNat : Nat) : Int))).toNat) (((cpyR v_s382 v_i384.toNat ((wi .i64 ((wi .i64 ((v_i384.toNat : Int) + (v_v386.length : Int))) + ((v_s382.length - v_j385.toNat : Nat) : Int))).toNat) v_v386).take v_s382.length).drop v_j385.toNat)) ((wi .i64 ((wi .i64 ((v_i384.toNat : Int) + (v_v386.length : Int))) + ((v_s382.length - v_j385.toNat : Nat) : Int))).toNat) v_s382.length (S_twin_Room.mk 0 0)).length
                                · rw [if_pos h329] at h
                                  obtain rfl := Option.some.inj h
                                  exact pendH_sound TTok mix 37 (hs := [.e 22 [0] (.ssl 0 v_i384.toNat v_j385.toNat 2) [], .t false, .e 52 [] (.d (.v (.int .i64 (v_s382.length : Int)))) [], .t false, .e 72 [0] (.ssl 0 0 v_i384.toNat 2) [], .e 77 [] (.d (.v (.int .i64 (v_i384.toNat : Int)))) [], .u (.d (.v (.int .i64 (v_v386.length : Int)))), .e 107 [0] (.ssl 0 v_j385.toNat v_s382.length 2) [], .e 112 [] (.d (.v (.int .i64 ((v_s382.length - v_j385.toNat : Nat) : Int)))) [], .e 137 [0] (.d (.v (.int .i64 (v_C383 : Int)))) [], .t false, .e 157 [0] (.ssl 0 0 ((wi .i64 ((wi .i64 ((v_i384.toNat : Int) + (v_v386.length : Int))) + ((v_s382.length - v_j385.toNat : Nat) : Int))).toNat) 2) [(0, .row 112 2 (v_s382.map eS_twin_Room))], .u (.d (.v (.int .i64 (v_v386.length : Int)))), .t true, .e 207 [0] (.ssl 0 v_i384.toNat ((wi .i64 ((wi .i64 ((v_i384.toNat : Int) + (v_v386.length : Int))) + ((v_s382.length - v_j385.toNat : Nat) : Int))).toNat) 2) [], .e 217 [0] (.d (.v (.int .i64 ((Nat.min v_v386.length ((wi .i64 ((wi .i64 ((v_i384.toNat : Int) + (v_v386.length : Int))) + ((v_s382.length - v_j385.toNat : Nat) : Int))).toNat - v_i384.toNat) : Nat) : Int)))) [(0, .row 112 2 ((cpyR v_s382 v_i384.toNat ((wi .i64 ((wi .i64 ((v_i384.toNat : Int) + (v_v386.length : Int))) + ((v_s382.length - v_j385.toNat : Nat) : Int))).toNat) v_v386).map eS_twin_Room))], .u (.d (.v (.int .i64 (v_v386.length : Int)))), .e 247 [0] (.ssl 0 ((wi .i64 (v_i384 + (v_v386.length : Int))).toNat) ((wi .i64 ((wi .i64 ((v_i384.toNat : Int) + (v_v386.length : Int))) + ((v_s382.length - v_j385.toNat : Nat) : Int))).toNat) 2) [], .e 262 [0] (.ssl 0 v_j385.toNat v_s382.length 2) [], .e 267 [0] (.d (.v (.int .i64 ((Nat.min (((cpyR v_s382 v_i384.toNat ((wi .i64 ((wi .i64 ((v_i384.toNat : Int) + (v_v386.length : Int))) + ((v_s382.length - v_j385.toNat : Nat) : Int))).toNat) v_v386).take v_s382.length).drop v_j385.toNat).length ((wi .i64 ((wi .i64 ((v_i384.toNat : Int) + (v_v386.length : Int))) + ((v_s382.length - v_j385.toNat : Nat) : Int))).toNat - (wi .i64 (v_i384 + (v_v386.length : Int))).toNat) : Nat) : Int)))) [(0, .row 112 2 ((cpyR (cpyR v_s382 v_i384.toNat ((wi .i64 ((wi .i64 ((v_i384.toNat : Int) + (v_v386.length : Int))) + ((v_s382.length - v_j385.toNat : Nat) : Int))).toNat) v_v386) ((wi .i64 (v_i384 + (v_v386.length : Int))).toNat) ((wi .i64 ((wi .i64 ((v_i384.toNat : Int) + (v_v386.length : Int))) + ((v_s382.length - v_j385.toNat : Nat) : Int))).toNat) (((cpyR v_s382 v_i384.toNat ((wi .i64 ((wi .i64 ((v_i384.toNat : Int) + (v_v386.length : Int))) + ((v_s382.length - v_j385.toNat : Nat) : Int))).toNat) v_v386).take v_s382.length).drop v_j385.toNat)).map eS_twin_Room))], .e 282 [0] (.ssl 0 ((wi .i64 ((wi .i64 ((v_i384.toNat : Int) + (v_v386.length : Int))) + ((v_s382.length - v_j385.toNat : Nat) : Int))).toNat) v_s382.length 2) [], .e 287 [0] (dd) [(0, .row 112 2 ((clrR (cpyR (cpyR v_s382 v_i384.toNat ((wi .i64 ((wi .i64 ((v_i384.toNat : Int) + (v_v386.length : Int))) + ((v_s382.length - v_j385.toNat : Nat) : Int))).toNat) v_v386) ((wi .i64 (v_i384 + (v_v386.length : Int))).toNat) ((wi .i64 ((wi .i64 ((v_i384.toNat : Int) + (v_v386.length : Int))) + ((v_s382.length - v_j385.toNat : Nat) : Int))).toNat) (((cpyR v_s382 v_i384.toNat ((wi .i64 ((wi .i64 ((v_i384.toNat : Int) + (v_v386.length : Int))) + ((v_s382.length - v_j385.toNat : Nat) : Int))).toNat) v_v386).take v_s382.length).drop v_j385.toNat)) ((wi .i64 ((wi .i64 ((v_i384.toNat : Int) + (v_v386.length : Int))) + ((v_s382.length - v_j385.toNat : Nat) : Int))).toNat) v_s382.length (S_twin_Room.mk 0 0)).map eS_twin_Room))], .e 292 [0, 292] (.srf 292) [(0, .none), (292, .row 112 2 (((clrR (cpyR (cpyR v_s382 v_i384.toNat ((wi .i64 ((wi .i64 ((v_i384.toNat : Int) + (v_v386.length : Int))) + ((v_s382.length - v_j385.toNat : Nat) : Int))).toNat) v_v386) ((wi .i64 (v_i384 + (v_v386.length : Int))).toNat) ((wi .i64 ((wi .i64 ((v_i384.toNat : Int) + (v_v386.length : Int))) + ((v_s382.length - v_j385.toNat : Nat) : Int))).toNat) (((cpyR v_s382 v_i384.toNat ((wi .i64 ((wi .i64 ((v_i384.toNat : Int) + (v_v386.length : Int))) + ((v_s382.length - v_j385.toNat : Nat) : Int))).toNat) v_v386).take v_s382.length).drop v_j385.toNat)) ((wi .i64 ((wi .i64 ((v_i384.toNat : Int) + (v_v386.length : Int))) + ((v_s382.length - v_j385.toNat : Nat) : Int))).toNat) v_s382.length (S_twin_Room.mk 0 0)).take ((wi .i64 ((wi .i64 ((v_i384.toNat : Int) + (v_v386.length : Int))) + ((v_s382.length - v_j385.toNat : Nat) : Int))).toNat)).map eS_twin_Room))]]) [0, 292] (by kernel_rfl) (by kernel_rfl) (by kernel_rfl) (.cons (ext_same (yt11 (P := Try.prog) (T := TT) (f := eS_twin_Room) (t := 101) (e := 112) (s := 2) (l := 0) (L := v_s382) (x := (.tmp 15)) (k := v_s382.length) (C := v_C383) (lo := (.tmp 16)) (hi := (.tmp 17)) (A := v_i384) (ka := .i64) (B := v_j385) (kb := .i64) (by kernel_rfl) h298.1 h298.2.1 h298.2.2)) (.cons (bf h300) (.cons (xlen (P := Try.prog) (T := TT) (t := 101) (e := 112) (s := 2) (l := 0) (i := 0) (j := v_s382.length) (x := (.tmp 27)) (by kernel_rfl)) (.cons (bf h303) (.cons (ext_same (yt01 (P := Try.prog) (T := TT) (f := eS_twin_Room) (t := 101) (e := 112) (s := 2) (l := 0) (L := v_s382) (x := (.tmp 45)) (k := v_s382.length) (C := v_C383) (hi := (.tmp 46)) (B := v_i384) (kb := .i64) (by kernel_rfl) h305.1 h305.2.1 h305.2.2)) (.cons (xlen (P := Try.prog) (T := TT) (t := 101) (e := 112) (s := 2) (l := 0) (i := 0) (j := v_i384.toNat) (x := (.tmp 47)) (by kernel_rfl)) (.cons (len_ob (f := eS_twin_Room) (l := v_v386)) (.cons (ext_same (yt10 (P := Try.prog) (T := TT) (f := eS_twin_Room) (t := 101) (e := 112) (s := 2) (l := 0) (L := v_s382) (x := (.tmp 52)) (k := v_s382.length) (C := v_C383) (lo := (.tmp 53)) (A := v_j385) (ka := .i64) (by kernel_rfl) h306.1 h306.2.1 h306.2.2)) (.cons (xlen (P := Try.prog) (T := TT) (t := 101) (e := 112) (s := 2) (l := 0) (i := v_j385.toNat) (j := v_s382.length) (x := (.tmp 54)) (by kernel_rfl)) (.cons (ycapS (P := Try.prog) (T := TT) (f := eS_twin_Room) (t := 101) (e := 112) (s := 2) (l := 0) (L := v_s382) (C := v_C383) (k := v_s382.length) (x := (.tmp 58)) (by kernel_rfl)) (.cons (df h309) (.cons (yt01R (P := Try.prog) (T := TT) (f := eS_twin_Room) (t := 101) (e := 112) (s := 2) (l := 0) (L := v_s382) (x := (.tmp 84)) (k := v_s382.length) (C := v_C383) (hi := (.tmp 85)) (B := (wi .i64 ((wi .i64 ((v_i384.toNat : Int) + (v_v386.length : Int))) + ((v_s382.length - v_j385.toNat : Nat) : Int)))) (kb := .i64) (by kernel_rfl) h311.1 h311.2.1 h311.2.2) (.cons (len_ob (f := eS_twin_Room) (l := v_v386)) (.cons (dt h321) (.cons (xt10 (P := Try.prog) (T := TT) (f := eS_twin_Room) (t := 101) (e := 112) (s := 2) (l := 0) (L := v_s382) (x := (.tmp 93)) (lo := (.tmp 94)) (a := v_i384) (ka := .i64) (i := (wi .i64 ((wi .i64 ((v_i384.toNat : Int) + (v_v386.length : Int))) + ((v_s382.length - v_j385.toNat : Nat) : Int))).toNat) (by kernel_rfl) h322.1 h322.2) (.cons (xcpD (P := Try.prog) (T := TT) (f := eS_twin_Room) (t := 101) (t' := 101) (e := 112) (s := 2) (l := 0) (x := (.tmp 95)) (y := (.tmp 96)) (ti := ⟨2, 16, .st [(0, 3), (1, 3)], [.i .i64, .i .i64]⟩) (L := v_s382) (Y := v_v386) (i := v_i384.toNat) (j := (wi .i64 ((wi .i64 ((v_i384.toNat : Int) + (v_v386.length : Int))) + ((v_s382.length - v_j385.toNat : Nat) : Int))).toNat) (by kernel_rfl) (by kernel_rfl) h323 (fun _ => rfl)) (.cons (len_ob (f := eS_twin_Room) (l := v_v386)) (.cons (xt10 (P := Try.prog) (T := TT) (f := eS_twin_Room) (t := 101) (e := 112) (s := 2) (l := 0) (L := (cpyR v_s382 v_i384.toNat ((wi .i64 ((wi .i64 ((v_i384.toNat : Int) + (v_v386.length : Int))) + ((v_s382.length - v_j385.toNat : Nat) : Int))).toNat) v_v386)) (x := (.tmp 98)) (lo := (.tmp 102)) (a := (wi .i64 (v_i384 + (v_v386.length : Int)))) (ka := .i64) (i := (wi .i64 ((wi .i64 ((v_i384.toNat : Int) + (v_v386.length : Int))) + ((v_s382.length - v_j385.toNat : Nat) : Int))).toNat) (by kernel_rfl) h324.1 h324.2) (.cons (xt10 (P := Try.prog) (T := TT) (f := eS_twin_Room) (t := 101) (e := 112) (s := 2) (l := 0) (L := (cpyR v_s382 v_i384.toNat ((wi .i64 ((wi .i64 ((v_i384.toNat : Int) + (v_v386.length : Int))) + ((v_s382.length - v_j385.toNat : Nat) : Int))).toNat) v_v386)) (x := (.tmp 104)) (lo := (.tmp 105)) (a := v_j385) (ka := .i64) (i := v_s382.length) (by kernel_rfl) h325.1 h325.2) (.cons (xcpS (P := Try.prog) (T := TT) (f := eS_twin_Room) (t := 101) (t' := 101) (e := 112) (s := 2) (l := 0) (x := (.tmp 103)) (y := (.tmp 106)) (ti := ⟨2, 16, .st [(0, 3), (1, 3)], [.i .i64, .i .i64]⟩) (L := (cpyR v_s382 v_i384.toNat ((wi .i64 ((wi .i64 ((v_i384.toNat : Int) + (v_v386.length : Int))) + ((v_s382.length - v_j385.toNat : Nat) : Int))).toNat) v_v386)) (i := (wi .i64 (v_i384 + (v_v386.length : Int))).toNat) (j := (wi .i64 ((wi .i64 ((v_i384.toNat : Int) + (v_v386.length : Int))) + ((v_s382.length - v_j385.toNat : Nat) : Int))).toNat) (p := v_j385.toNat) (q := v_s382.length) (by kernel_rfl) (by kernel_rfl) h326.1 h326.2) (.cons (xt10 (P := Try.prog) (T := TT) (f := eS_twin_Room) (t := 101) (e := 112) (s := 2) (l := 0) (L := (cpyR (cpyR v_s382 v_i384.toNat ((wi .i64 ((wi .i64 ((v_i384.toNat : Int) + (v_v386.length : Int))) + ((v_s382.length - v_j385.toNat : Nat) : Int))).toNat) v_v386) ((wi .i64 (v_i384 + (v_v386.length : Int))).toNat) ((wi .i64 ((wi .i64 ((v_i384.toNat : Int) + (v_v386.length : Int))) + ((v_s382.length - v_j385.toNat : Nat) : Int))).toNat) (((cpyR v_s382 v_i384.toNat ((wi .i64 ((wi .i64 ((v_i384.toNat : Int) + (v_v386.length : Int))) + ((v_s382.length - v_j385.toNat : Nat) : Int))).toNat) v_v386).take v_s382.length).drop v_j385.toNat))) (x := (.tmp 108)) (lo := (.tmp 109)) (a := (wi .i64 ((wi .i64 ((v_i384.toNat : Int) + (v_v386.length : Int))) + ((v_s382.length - v_j385.toNat : Nat) : Int)))) (ka := .i64) (i := v_s382.length) (by kernel_rfl) h327.1 h327.2) (.cons (xclr (ti := ⟨2, 16, .st [(0, 3), (1, 3)], [.i .i64, .i .i64]⟩) (P := Try.prog) (T := TT) (f := eS_twin_Room) (t := 101) (e := 112) (s := 2) (l := 0) (i := (wi .i64 ((wi .i64 ((v_i384.toNat : Int) + (v_v386.length : Int))) + ((v_s382.length - v_j385.toNat : Nat) : Int))).toNat) (j := v_s382.length) (z := (S_twin_Room.mk 0 0)) (L := (cpyR (cpyR v_s382 v_i384.toNat ((wi .i64 ((wi .i64 ((v_i384.toNat : Int) + (v_v386.length : Int))) + ((v_s382.length - v_j385.toNat : Nat) : Int))).toNat) v_v386) ((wi .i64 (v_i384 + (v_v386.length : Int))).toNat) ((wi .i64 ((wi .i64 ((v_i384.toNat : Int) + (v_v386.length : Int))) + ((v_s382.length - v_j385.toNat : Nat) : Int))).toNat) (((cpyR v_s382 v_i384.toNat ((wi .i64 ((wi .i64 ((v_i384.toNat : Int) + (v_v386.length : Int))) + ((v_s382.length - v_j385.toNat : Nat) : Int))).toNat) v_v386).take v_s382.length).drop v_j385.toNat))) (x := (.tmp 110)) (p := .agg [.v (.int .i64 0), .v (.int .i64 0)]) (by kernel_rfl) (by kernel_rfl) (by kernel_rfl) (by kernel_rfl) (by decide) rfl h328) (.cons (xmv (P := Try.prog) (T := TT) (f := eS_twin_Room) (e := 112) (s := 2) (l := 0) (nl := 292) (L := (clrR (cpyR (cpyR v_s382 v_i384.toNat ((wi .i64 ((wi .i64 ((v_i384.toNat : Int) + (v_v386.length : Int))) + ((v_s382.length - v_j385.toNat : Nat) : Int))).toNat) v_v386) ((wi .i64 (v_i384 + (v_v386.length : Int))).toNat) ((wi .i64 ((wi .i64 ((v_i384.toNat : Int) + (v_v386.length : Int))) + ((v_s382.length - v_j385.toNat : Nat) : Int))).toNat) (((cpyR v_s382 v_i384.toNat ((wi .i64 ((wi .i64 ((v_i384.toNat : Int) + (v_v386.length : Int))) + ((v_s382.length - v_j385.toNat : Nat) : Int))).toNat) v_v386).take v_s382.length).drop v_j385.toNat)) ((wi .i64 ((wi .i64 ((v_i384.toNat : Int) + (v_v386.length : Int))) + ((v_s382.length - v_j385.toNat : Nat) : Int))).toNat) v_s382.length (S_twin_Room.mk 0 0))) (i := (wi .i64 ((wi .i64 ((v_i384.toNat : Int) + (v_v386.length : Int))) + ((v_s382.length - v_j385.toNat : Nat) : Int))).toNat) (x := (.tmp 12)) h329) .nil)))))))))))))))))))))))
                                · rw [if_neg h329] at h; cases h
                              · rw [if_neg h328] at h; cases h
                            · rw [if_neg h327] at h; cases h
                          · rw [if_neg h326] at h; cases h
                        · rw [if_neg h325] at h; cases h
                      · rw [if_neg h324] at h; cases h
                    · rw [if_neg h323] at h; cases h
                  · rw [if_neg h322] at h; cases h
                · rw [if_neg h321] at h
                  cases h
              · rw [if_neg h311] at h; cases h
          · rw [if_neg h306] at h; cases h
        · rw [if_neg h305] at h; cases h
  · rw [if_neg h298] at h; cases h
/- slices.Replace[[]ringhall/twin.Room,ringhall/twin.Room] -/
def G_slices_Replace_twin_Room_twin_Room_h_CAPX (n : Nat) (v_C388 : Nat) (v_s387 : (List S_twin_Room)) (v_i389 : Int) (v_j390 : Int) (v_v391 : (List S_twin_Room)) : Option ((List S_twin_Room)) :=
  if (0 ≤ v_i389 ∧ v_i389 ≤ v_j390 ∧ v_j390 ≤ (v_s387.length : Int)) ∧ v_s387.length ≤ v_s387.length ∧ v_s387.length ≤ v_C388 then
   if v_i389 = v_j390 then
    none
   else
    if v_j390 = (v_s387.length : Int) then
     none
    else
     if (0 ≤ v_i389 ∧ v_i389 ≤ (v_s387.length : Int)) ∧ v_s387.length ≤ v_s387.length ∧ v_s387.length ≤ v_C388 then
      if (0 ≤ v_j390 ∧ v_j390 ≤ ((v_s387.length : Nat) : Int)) ∧ v_s387.length ≤ v_s387.length ∧ v_s387.length ≤ v_C388 then
       if (wi .i64 ((wi .i64 ((v_i389.toNat : Int) + (v_v391.length : Int))) + ((v_s387.length - v_j390.toNat : Nat) : Int))) > (v_C388 : Int) then
        none
       else
        if 0 < (v_v391.length + v_i389.toNat - v_j390.toNat) ∧ (v_s387.length + (v_v391.length + v_i389.toNat - v_j390.toNat)) ≤ v_C388 ∧ v_s387.length ≤ v_s387.length ∧ (wi .i64 ((wi .i64 ((v_i389.toNat : Int) + (v_v391.length : Int))) + ((v_s387.length - v_j390.toNat : Nat) : Int))) = (((v_s387.length + (v_v391.length + v_i389.toNat - v_j390.toNat)) : Nat) : Int) then
         if (wi .i64 (v_i389 + (v_v391.length : Int))) ≤ v_j390 then
          none
         else
          if (v_s387.length + (v_v391.length + v_i389.toNat - v_j390.toNat)) ≤ v_s387.length + (v_v391.length + v_i389.toNat - v_j390.toNat) + ([] : List S_twin_Room).length ∧ (wi .i64 (v_i389 + (v_v391.length : Int))) = (((v_i389.toNat + v_v391.length) : Nat) : Int) ∧ (v_i389.toNat + v_v391.length) ≤ (v_s387.length + (v_v391.length + v_i389.toNat - v_j390.toNat)) then
           if (v_s387.length + (v_v391.length + v_i389.toNat - v_j390.toNat)) ≤ v_s387.length + (v_v391.length + v_i389.toNat - v_j390.toNat) + ([] : List S_twin_Room).length ∧ (wi .i64 (v_i389 + (v_v391.length : Int))) = (((v_i389.toNat + v_v391.length) : Nat) : Int) ∧ (v_i389.toNat + v_v391.length) ≤ (v_s387.length + (v_v391.length + v_i389.toNat - v_j390.toNat)) then
            if v_s387.length ≤ v_s387.length + (v_v391.length + v_i389.toNat - v_j390.toNat) + ([] : List S_twin_Room).length ∧ v_j390 = ((v_j390.toNat : Nat) : Int) ∧ v_j390.toNat ≤ v_s387.length then
             if v_i389.toNat ≤ v_j390.toNat ∧ v_j390.toNat ≤ v_s387.length ∧ v_i389.toNat + v_v391.length + (v_s387.length - v_j390.toNat) = v_s387.length + (v_v391.length + v_i389.toNat - v_j390.toNat) ∧ (v_i389.toNat + v_v391.length) = v_i389.toNat + v_v391.length ∧ v_s387.length = v_s387.length then
              if (v_s387.length + (v_v391.length + v_i389.toNat - v_j390.toNat)) ≤ (v_s387.take v_i389.toNat).length + v_v391.length + (v_s387.drop v_j390.toNat).length ∧ v_i389 = ((v_i389.toNat : Nat) : Int) ∧ v_i389.toNat ≤ (v_s387.length + (v_v391.length + v_i389.toNat - v_j390.toNat)) then
               if v_i389.toNat = (v_s387.take v_i389.toNat).length ∧ (v_s387.length + (v_v391.length + v_i389.toNat - v_j390.toNat)) = (v_s387.take v_i389.toNat).length + v_v391.length + (v_s387.drop v_j390.toNat).length ∧ 0 < v_v391.length then
                if (v_s387.length + (v_v391.length + v_i389.toNat - v_j390.toNat)) = ((v_s387.take v_i389.toNat) ++ v_v391 ++ (v_s387.drop v_j390.toNat)).length then
                 some ((v_s387.take v_i389.toNat) ++ v_v391 ++ (v_s387.drop v_j390.toNat))
                else none
               else none
              else none
             else none
            else none
           else none
          else none
        else none
      else none
     else none
  else none
theorem G_slices_Replace_twin_Room_twin_Room_h_CAPX_ok (n : Nat) (v_C388 : Nat) (v_s387 : (List S_twin_Room)) (v_i389 : Int) (v_j390 : Int) (v_v391 : (List S_twin_Room)) (r : (List S_twin_Room)) (h : G_slices_Replace_twin_Room_twin_Room_h_CAPX n v_C388 v_s387 v_i389 v_j390 v_v391 = some r) : RetH Try.prog 86 [.ssl 0 0 v_s387.length 2, .d ((eI .i64) v_i389), .d ((eI .i64) v_j390), .d ((eL eS_twin_Room) v_v391)] [.cu (rowC 112 2 v_C388 (v_s387.map eS_twin_Room)) []] (.srf 1) [.none, .row 112 2 (r.map eS_twin_Room)] := by
  refine retH_run (n := 224) (fn := Try.f86) (c := bodyOf Try.f86) (by kernel_rfl) (by kernel_rfl) (by kernel_rfl) (by kernel_rfl) ?_
  have hF : KC 224 (FinH Try.prog Try.f86 [.cu (rowC 112 2 v_C388 (v_s387.map eS_twin_Room)) []] (.srf 1) [.none, .row 112 2 (r.map eS_twin_Room)]) := FinH.kc' (by kernel_rfl)
  unfold G_slices_Replace_twin_Room_twin_Room_h_CAPX at h
  by_cases h330 : (0 ≤ v_i389 ∧ v_i389 ≤ v_j390 ∧ v_j390 ≤ (v_s387.length : Int)) ∧ v_s387.length ≤ v_s387.length ∧ v_s387.length ≤ v_C388
  · rw [if_pos h330] at h
    by_cases h332 : v_i389 = v_j390
    · rw [if_pos h332] at h
      cases h
    · rw [if_neg h332] at h
      by_cases h335 : v_j390 = (v_s387.length : Int)
      · rw [if_pos h335] at h
        cases h
      · rw [if_neg h335] at h
        by_cases h337 : (0 ≤ v_i389 ∧ v_i389 ≤ (v_s387.length : Int)) ∧ v_s387.length ≤ v_s387.length ∧ v_s387.length ≤ v_C388
        · rw [if_pos h337] at h
          by_cases h338 : (0 ≤ v_j390 ∧ v_j390 ≤ ((v_s387.length : Nat) : Int)) ∧ v_s387.length ≤ v_s387.length ∧ v_s387.length ≤ v_C388
          · rw [if_pos h338] at h
            by_cases h341 : (wi .i64 ((wi .i64 ((v_i389.toNat : Int) + (v_v391.length : Int))) + ((v_s387.length - v_j390.toNat : Nat) : Int))) > (v_C388 : Int)
            · rw [if_pos h341] at h
              cases h
            · rw [if_neg h341] at h
              by_cases h343 : 0 < (v_v391.length + v_i389.toNat - v_j390.toNat) ∧ (v_s387.length + (v_v391.length + v_i389.toNat - v_j390.toNat)) ≤ v_C388 ∧ v_s387.length ≤ v_s387.length ∧ (wi .i64 ((wi .i64 ((v_i389.toNat : Int) + (v_v391.length : Int))) + ((v_s387.length - v_j390.toNat : Nat) : Int))) = (((v_s387.length + (v_v391.length + v_i389.toNat - v_j390.toNat)) : Nat) : Int)
              · rw [if_pos h343] at h
                by_cases h350 : (wi .i64 (v_i389 + (v_v391.length : Int))) ≤ v_j390
                · rw [if_pos h350] at h
                  cases h
                · rw [if_neg h350] at h
                  by_cases h356 : (v_s387.length + (v_v391.length + v_i389.toNat - v_j390.toNat)) ≤ v_s387.length + (v_v391.length + v_i389.toNat - v_j390.toNat) + ([] : List S_twin_Room).length ∧ (wi .i64 (v_i389 + (v_v391.length : Int))) = (((v_i389.toNat + v_v391.length) : Nat) : Int) ∧ (v_i389.toNat + v_v391.length) ≤ (v_s387.length + (v_v391.length + v_i389.toNat - v_j390.toNat))
                  · rw [if_pos h356] at h
                    by_cases h363 : (v_s387.length + (v_v391.length + v_i389.toNat - v_j390.toNat)) ≤ v_s387.length + (v_v391.length + v_i389.toNat - v_j390.toNat) + ([] : List S_twin_Room).length ∧ (wi .i64 (v_i389 + (v_v391.length : Int))) = (((v_i389.toNat + v_v391.length) : Nat) : Int) ∧ (v_i389.toNat + v_v391.length) ≤ (v_s387.length + (v_v391.length + v_i389.toNat - v_j390.toNat))
                    · rw [if_pos h363] at h
                      by_cases h364 : v_s387.length ≤ v_s387.length + (v_v391.length + v_i389.toNat - v_j390.toNat) + ([] : List S_twin_Room).length ∧ v_j390 = ((v_j390.toNat : Nat) : Int) ∧ v_j390.toNat ≤ v_s387.length
                      · rw [if_pos h364] at h
                        by_cases h365 : v_i389.toNat ≤ v_j390.toNat ∧ v_j390.toNat ≤ v_s387.length ∧ v_i389.toNat + v_v391.length + (v_s387.length - v_j390.toNat) = v_s387.length + (v_v391.length + v_i389.toNat - v_j390.toNat) ∧ (v_i389.toNat + v_v391.length) = v_i389.toNat + v_v391.length ∧ v_s387.length = v_s387.length
                        · rw [if_pos h365] at h
                          by_cases h366 : (v_s387.length + (v_v391.length + v_i389.toNat - v_j390.toNat)) ≤ (v_s387.take v_i389.toNat).length + v_v391.length + (v_s387.drop v_j390.toNat).length ∧ v_i389 = ((v_i389.toNat : Nat) : Int) ∧ v_i389.toNat ≤ (v_s387.length + (v_v391.length + v_i389.toNat - v_j390.toNat))
                          · rw [if_pos h366] at h
                            by_cases h367 : v_i389.toNat = (v_s387.take v_i389.toNat).length ∧ (v_s387.length + (v_v391.length + v_i389.toNat - v_j390.toNat)) = (v_s387.take v_i389.toNat).length + v_v391.length + (v_s387.drop v_j390.toNat).length ∧ 0 < v_v391.length
                            · rw [if_pos h367] at h
                              by_cases h368 : (v_s387.length + (v_v391.length + v_i389.toNat - v_j390.toNat)) = ((v_s387.take v_i389.toNat) ++ v_v391 ++ (v_s387.drop v_j390.toNat)).length
                              · rw [if_pos h368] at h
                                obtain rfl := Option.some.inj h
                                exact pendH_sound TTok mix 40 (hs := [.e 22 [0] (.ssl 0 v_i389.toNat v_j390.toNat 2) [], .t false, .e 52 [] (.d (.v (.int .i64 (v_s387.length : Int)))) [], .t false, .e 72 [0] (.ssl 0 0 v_i389.toNat 2) [], .e 77 [] (.d (.v (.int .i64 (v_i389.toNat : Int)))) [], .u (.d (.v (.int .i64 (v_v391.length : Int)))), .e 107 [0] (.ssl 0 v_j390.toNat v_s387.length 2) [], .e 112 [] (.d (.v (.int .i64 ((v_s387.length - v_j390.toNat : Nat) : Int)))) [], .e 137 [0] (.d (.v (.int .i64 (v_C388 : Int)))) [], .t false, .e 157 [0] (.ssl 0 0 (v_s387.length + (v_v391.length + v_i389.toNat - v_j390.toNat)) 2) [(0, .cu (rowH 112 2 v_C388 (v_s387.map eS_twin_Room) (v_v391.length + v_i389.toNat - v_j390.toNat) (([] : List S_twin_Room).map eS_twin_Room)) [])], .u (.d (.v (.int .i64 (v_v391.length : Int)))), .t false, .u (.d (.v (.int .i64 (v_v391.length : Int)))), .e 222 [0] (.ssl 0 (v_i389.toNat + v_v391.length) (v_s387.length + (v_v391.length + v_i389.toNat - v_j390.toNat)) 2) [], .e 232 [0] (.d (.v (.bool false))) [], .c, .u (.d (.v (.int .i64 (v_v391.length : Int)))), .e 267 [0] (.ssl 0 (v_i389.toNat + v_v391.length) (v_s387.length + (v_v391.length + v_i389.toNat - v_j390.toNat)) 2) [], .e 282 [0] (.ssl 0 v_j390.toNat v_s387.length 2) [], .e 287 [0] (.d (.v (.int .i64 ((v_s387.length - v_j390.toNat : Nat) : Int)))) [(0, .cu (rowH 112 2 v_C388 ((v_s387.take v_i389.toNat).map eS_twin_Room) v_v391.length ((v_s387.drop v_j390.toNat).map eS_twin_Room)) [])], .e 302 [0] (.ssl 0 v_i389.toNat (v_s387.length + (v_v391.length + v_i389.toNat - v_j390.toNat)) 2) [], .e 312 [0] (.d (.v (.int .i64 (v_v391.length : Int)))) [(0, .cu (rowH 112 2 v_C388 (((v_s387.take v_i389.toNat) ++ v_v391 ++ (v_s387.drop v_j390.toNat)).map eS_twin_Room) 0 (([] : List S_twin_Room).map eS_twin_Room)) [])], .e 317 [0, 317] (.srf 317) [(0, .none), (317, .row 112 2 (((v_s387.take v_i389.toNat) ++ v_v391 ++ (v_s387.drop v_j390.toNat)).map eS_twin_Room))]]) [0, 317] (by kernel_rfl) (by kernel_rfl) (by kernel_rfl) (.cons (ext_same (yt11 (P := Try.prog) (T := TT) (f := eS_twin_Room) (t := 101) (e := 112) (s := 2) (l := 0) (L := v_s387) (x := (.tmp 15)) (k := v_s387.length) (C := v_C388) (lo := (.tmp 16)) (hi := (.tmp 17)) (A := v_i389) (ka := .i64) (B := v_j390) (kb := .i64) (by kernel_rfl) h330.1 h330.2.1 h330.2.2)) (.cons (bf h332) (.cons (xlen (P := Try.prog) (T := TT) (t := 101) (e := 112) (s := 2) (l := 0) (i := 0) (j := v_s387.length) (x := (.tmp 27)) (by kernel_rfl)) (.cons (bf h335) (.cons (ext_same (yt01 (P := Try.prog) (T := TT) (f := eS_twin_Room) (t := 101) (e := 112) (s := 2) (l := 0) (L := v_s387) (x := (.tmp 45)) (k := v_s387.length) (C := v_C388) (hi := (.tmp 46)) (B := v_i389) (kb := .i64) (by kernel_rfl) h337.1 h337.2.1 h337.2.2)) (.cons (xlen (P := Try.prog) (T := TT) (t := 101) (e := 112) (s := 2) (l := 0) (i := 0) (j := v_i389.toNat) (x := (.tmp 47)) (by kernel_rfl)) (.cons (len_ob (f := eS_twin_Room) (l := v_v391)) (.cons (ext_same (yt10 (P := Try.prog) (T := TT) (f := eS_twin_Room) (t := 101) (e := 112) (s := 2) (l := 0) (L := v_s387) (x := (.tmp 52)) (k := v_s387.length) (C := v_C388) (lo := (.tmp 53)) (A := v_j390) (ka := .i64) (by kernel_rfl) h338.1 h338.2.1 h338.2.2)) (.cons (xlen (P := Try.prog) (T := TT) (t := 101) (e := 112) (s := 2) (l := 0) (i := v_j390.toNat) (j := v_s387.length) (x := (.tmp 54)) (by kernel_rfl)) (.cons (ycapS (P := Try.prog) (T := TT) (f := eS_twin_Room) (t := 101) (e := 112) (s := 2) (l := 0) (L := v_s387) (C := v_C388) (k := v_s387.length) (x := (.tmp 58)) (by kernel_rfl)) (.cons (df h341) (.cons (ytup (P := Try.prog) (T := TT) (f := eS_twin_Room) (t := 101) (e := 112) (s := 2) (l := 0) (L := v_s387) (x := (.tmp 84)) (k := v_s387.length) (C := v_C388) (hi := (.tmp 85)) (B := (wi .i64 ((wi .i64 ((v_i389.toNat : Int) + (v_v391.length : Int))) + ((v_s387.length - v_j390.toNat : Nat) : Int)))) (kb := .i64) (m := (v_v391.length + v_i389.toNat - v_j390.toNat)) (by kernel_rfl) h343.1 h343.2.1 h343.2.2.1 h343.2.2.2) (.cons (len_ob (f := eS_twin_Room) (l := v_v391)) (.cons (df h350) (.cons (len_ob (f := eS_twin_Room) (l := v_v391)) (.cons (ext_same (yg10 (P := Try.prog) (T := TT) (f := eS_twin_Room) (t := 101) (e := 112) (s := 2) (l := 0) (L := v_s387) (x := (.tmp 112)) (k := (v_s387.length + (v_v391.length + v_i389.toNat - v_j390.toNat))) (C := v_C388) (m := (v_v391.length + v_i389.toNat - v_j390.toNat)) (Z := ([] : List S_twin_Room)) (q := (v_i389.toNat + v_v391.length)) (lo := (.tmp 116)) (A := (wi .i64 (v_i389 + (v_v391.length : Int)))) (ka := .i64) (by kernel_rfl) h356.1 h356.2.1 h356.2.2)) (.cons (yovB (P := Try.prog) (T := TT) (f := eS_twin_Room) (t := 101) (e := 112) (s := 2) (l := 0) (L := v_s387) (Y := v_v391) (Z := ([] : List S_twin_Room)) (m := (v_v391.length + v_i389.toNat - v_j390.toNat)) (C := v_C388) (i := (v_i389.toNat + v_v391.length)) (j := (v_s387.length + (v_v391.length + v_i389.toNat - v_j390.toNat))) (x := (.tmp 117)) (y := (.tmp 118)) (g := 108) (fn := Try.f108) (tR := 4) (tys := #[101, 101]) (by kernel_rfl) (by kernel_rfl) (by kernel_rfl) (by kernel_rfl) (by kernel_rfl) (by kernel_rfl) (by decide) (fun _ => rfl)) (.cons (len_ob (f := eS_twin_Room) (l := v_v391)) (.cons (ext_same (yg10 (P := Try.prog) (T := TT) (f := eS_twin_Room) (t := 101) (e := 112) (s := 2) (l := 0) (L := v_s387) (x := (.tmp 121)) (k := (v_s387.length + (v_v391.length + v_i389.toNat - v_j390.toNat))) (C := v_C388) (m := (v_v391.length + v_i389.toNat - v_j390.toNat)) (Z := ([] : List S_twin_Room)) (q := (v_i389.toNat + v_v391.length)) (lo := (.tmp 125)) (A := (wi .i64 (v_i389 + (v_v391.length : Int)))) (ka := .i64) (by kernel_rfl) h363.1 h363.2.1 h363.2.2)) (.cons (ext_same (yg10 (P := Try.prog) (T := TT) (f := eS_twin_Room) (t := 101) (e := 112) (s := 2) (l := 0) (L := v_s387) (x := (.tmp 127)) (k := v_s387.length) (C := v_C388) (m := (v_v391.length + v_i389.toNat - v_j390.toNat)) (Z := ([] : List S_twin_Room)) (q := v_j390.toNat) (lo := (.tmp 128)) (A := v_j390) (ka := .i64) (by kernel_rfl) h364.1 h364.2.1 h364.2.2)) (.cons (ycpM (P := Try.prog) (T := TT) (f := eS_twin_Room) (t := 101) (t' := 101) (e := 112) (s := 2) (l := 0) (x := (.tmp 126)) (y := (.tmp 129)) (ti := ⟨2, 16, .st [(0, 3), (1, 3)], [.i .i64, .i .i64]⟩) (L := v_s387) (i := v_i389.toNat) (j := v_j390.toNat) (k := v_v391.length) (m := (v_v391.length + v_i389.toNat - v_j390.toNat)) (C := v_C388) (q := (v_i389.toNat + v_v391.length)) (n' := v_s387.length) (by kernel_rfl) (by kernel_rfl) h365.1 h365.2.1 h365.2.2.1 h365.2.2.2.1 h365.2.2.2.2) (.cons (ext_same (yg10 (P := Try.prog) (T := TT) (f := eS_twin_Room) (t := 101) (e := 112) (s := 2) (l := 0) (L := (v_s387.take v_i389.toNat)) (x := (.tmp 131)) (k := (v_s387.length + (v_v391.length + v_i389.toNat - v_j390.toNat))) (C := v_C388) (m := v_v391.length) (Z := (v_s387.drop v_j390.toNat)) (q := v_i389.toNat) (lo := (.tmp 132)) (A := v_i389) (ka := .i64) (by kernel_rfl) h366.1 h366.2.1 h366.2.2)) (.cons (ycpD (P := Try.prog) (T := TT) (f := eS_twin_Room) (t := 101) (t' := 101) (e := 112) (s := 2) (l := 0) (x := (.tmp 133)) (y := (.tmp 134)) (ti := ⟨2, 16, .st [(0, 3), (1, 3)], [.i .i64, .i .i64]⟩) (L := (v_s387.take v_i389.toNat)) (Y := v_v391) (Z := (v_s387.drop v_j390.toNat)) (i := v_i389.toNat) (k := (v_s387.length + (v_v391.length + v_i389.toNat - v_j390.toNat))) (m := v_v391.length) (C := v_C388) (by kernel_rfl) (by kernel_rfl) h367.1 h367.2.1 rfl h367.2.2 (fun _ => rfl)) (.cons (ymvH (L := ((v_s387.take v_i389.toNat) ++ v_v391 ++ (v_s387.drop v_j390.toNat))) (C := v_C388) (k := (v_s387.length + (v_v391.length + v_i389.toNat - v_j390.toNat))) (P := Try.prog) (T := TT) (f := eS_twin_Room) (e := 112) (s := 2) (l := 0) (nl := 317) (x := (.tmp 12)) h368) .nil))))))))))))))))))))))))
                              · rw [if_neg h368] at h; cases h
                            · rw [if_neg h367] at h; cases h
                          · rw [if_neg h366] at h; cases h
                        · rw [if_neg h365] at h; cases h
                      · rw [if_neg h364] at h; cases h
                    · rw [if_neg h363] at h; cases h
                  · rw [if_neg h356] at h; cases h
              · rw [if_neg h343] at h; cases h
          · rw [if_neg h338] at h; cases h
        · rw [if_neg h337] at h; cases h
  · rw [if_neg h330] at h; cases h
def G_slices_Replace_twin_Room_twin_Room_h (n : Nat) (s : (List S_twin_Room)) (i j : Int) (v : (List S_twin_Room)) : Option (List S_twin_Room) := repI 16 s i j v
theorem G_slices_Replace_twin_Room_twin_Room_h_ok (n : Nat) (s : (List S_twin_Room)) (i j : Int) (v r : (List S_twin_Room)) (h : G_slices_Replace_twin_Room_twin_Room_h n s i j v = some r) : RetH Try.prog 86 [.srf 0, .d (.v (.int .i64 i)), .d (.v (.int .i64 j)), .d ((eL eS_twin_Room) v)] [.row 112 2 (s.map eS_twin_Room)] (.srf 1) [.none, .row 112 2 (r.map eS_twin_Room)] := by
  unfold G_slices_Replace_twin_Room_twin_Room_h repI at h
  split at h
  case isFalse => cases h
  rename_i c
  obtain ⟨c1, c2, c3, c4, c5, c6⟩ := c
  obtain rfl := Option.some.inj h
  obtain ⟨i, rfl⟩ := Int.eq_ofNat_of_zero_le c1
  obtain ⟨j, rfl⟩ := Int.eq_ofNat_of_zero_le (Int.le_of_lt (Int.lt_of_le_of_lt c1 c2))
  simp only [Int.toNat_natCast]
  have w1 : wi .i64 ((i : Int) + (v.length : Int)) = ((i + v.length : Nat) : Int) := by rw [wi, IntKind.wrap_i64]; omega
  have w2 : wi .i64 (((i + v.length : Nat) : Int) + ((s.length - j : Nat) : Int)) = ((i + v.length + (s.length - j) : Nat) : Int) := by rw [wi, IntKind.wrap_i64]; omega
  have w3 : wi .i64 (((i + v.length + (s.length - j) : Nat) : Int) - (i : Int)) = ((v.length + (s.length - j) : Nat) : Int) := by rw [wi, IntKind.wrap_i64]; omega
  have hl : (s.map eS_twin_Room).length = s.length := List.length_map _
  by_cases hj : j = s.length
  · have c2' : i < j := by omega
    cases v with
    | nil =>
      have key : G_slices_Replace_twin_Room_twin_Room_h_ROWN n s i j = some (s.take i ++ [] ++ s.drop j) := by
        unfold G_slices_Replace_twin_Room_twin_Room_h_ROWN
        refine (if_pos (by omega)).trans ?_
        refine (if_neg (by omega)).trans ?_
        refine (if_pos (by omega)).trans ?_
        refine (if_pos (by omega)).trans ?_
        have k1 : G_slices_Replace_twin_Room_twin_Room_h_ROWN_C1 n s i = some (.x0 (clrR s i s.length (S_twin_Room.mk 0 0))) := by
          unfold G_slices_Replace_twin_Room_twin_Room_h_ROWN_C1
          simp only [Int.toNat_natCast]
          refine (if_pos (by omega)).trans ?_
          refine (if_pos (by omega)).trans ?_
          refine (if_pos (by omega)).trans ?_
          rfl
        rw [k1]
        show (if _ then _ else _) = _
        simp only [Int.toNat_natCast]
        have k2 : (clrR s i s.length (S_twin_Room.mk 0 0)).length = s.length := by unfold clrR; simp; omega
        refine (if_pos (by omega)).trans ?_
        unfold clrR
        rw [List.append_assoc, List.take_left' (by simp; omega), hj]
        simp
      have := retH_ssl (xs := s.map eS_twin_Room) (by rw [hl]; exact G_slices_Replace_twin_Room_twin_Room_h_ROWN_ok n s i j _ key)
      exact this
    | cons v0 v =>
      have key : G_slices_Replace_twin_Room_twin_Room_h_ROWA n s i j (v0 :: v) = some (s.take i ++ (v0 :: v) ++ s.drop j) := by
        unfold G_slices_Replace_twin_Room_twin_Room_h_ROWA
        refine (if_pos (by omega)).trans ?_
        refine (if_neg (by omega)).trans ?_
        refine (if_pos (by omega)).trans ?_
        refine (if_pos (by omega)).trans ?_
        simp only [Int.toNat_natCast]
        have hti : (s.take i).length = i := by simp; omega
        have ha : app 16 (s.take i) (v0 :: v) = some (s.take i ++ (v0 :: v)) := by
          unfold app
          exact if_pos ⟨by unfold maxLen; rw [hti]; omega, by rw [hti]; exact Nat.le_trans (Nat.mul_le_mul_right _ (by omega)) c6⟩
        rw [ha]
        show (if _ then _ else _) = _
        have hla : (s.take i ++ (v0 :: v)).length = i + (v0 :: v).length := by rw [List.length_append, hti]
        have hnz : (v0 :: v).length ≠ 0 := by simp
        refine (if_pos (by omega)).trans ?_
        refine (if_neg (by rw [hla]; omega)).trans ?_
        rw [hj]; simp
      have := retH_ssl (xs := s.map eS_twin_Room) (by rw [hl]; exact G_slices_Replace_twin_Room_twin_Room_h_ROWA_ok n s i j _ _ key)
      exact this
  · refine retH_capS ⟨Try.f86, by kernel_rfl, by kernel_rfl, by kernel_rfl⟩ fun C h1 h2 => ?_
    rw [hl] at h1 ⊢
    by_cases hg : C < i + v.length + (s.length - j)
    · refine G_slices_Replace_twin_Room_twin_Room_h_CAPG_ok n C s i j v _ ?_
      unfold G_slices_Replace_twin_Room_twin_Room_h_CAPG
      simp only [Int.toNat_natCast, w1, w2, w3]
      have hti : (s.take i).length = i := by simp; omega
      have hlA : (s.take i ++ List.replicate (v.length + (s.length - j)) (S_twin_Room.mk 0 0)).length = i + (v.length + (s.length - j)) := by rw [List.length_append, hti, List.length_replicate]
      have hlB : (cpyR (s.take i ++ List.replicate (v.length + (s.length - j)) (S_twin_Room.mk 0 0)) i (i + (v.length + (s.length - j))) v).length = i + (v.length + (s.length - j)) := by rw [cpy_len (by omega) (by omega), hlA]
      simp only [hlA, hlB]
      refine (if_pos (by omega)).trans ?_
      refine (if_neg (by omega)).trans ?_
      refine (if_neg (by omega)).trans ?_
      refine (if_pos (by omega)).trans ?_
      refine (if_pos (by omega)).trans ?_
      refine (if_pos (by omega)).trans ?_
      refine (if_pos (by omega)).trans ?_
      refine (if_pos ⟨by first | exact trivial | rfl, by omega, by omega, by omega, by unfold maxLen; omega, Nat.le_trans (Nat.mul_le_mul_right _ (by omega)) c6⟩).trans ?_
      refine (if_pos (by omega)).trans ?_
      refine (if_pos (by omega)).trans ?_
      refine (if_pos (by omega)).trans ?_
      refine (if_pos (by omega)).trans ?_
      refine (if_pos (by omega)).trans ?_
      rw [rep_grow (by omega) (by omega) rfl rfl rfl rfl]
    · by_cases hf : i + v.length ≤ j
      · refine G_slices_Replace_twin_Room_twin_Room_h_CAPF_ok n C s i j v _ ?_
        unfold G_slices_Replace_twin_Room_twin_Room_h_CAPF
        simp only [Int.toNat_natCast, w1, w2]
        have hlA : (cpyR s i (i + v.length + (s.length - j)) v).length = s.length := cpy_len (by omega) (by omega)
        have hlB : (cpyR (cpyR s i (i + v.length + (s.length - j)) v) (i + v.length) (i + v.length + (s.length - j)) (((cpyR s i (i + v.length + (s.length - j)) v).take s.length).drop j)).length = s.length := by rw [cpy_len (by omega) (by omega), hlA]
        have hlC : (clrR (cpyR (cpyR s i (i + v.length + (s.length - j)) v) (i + v.length) (i + v.length + (s.length - j)) (((cpyR s i (i + v.length + (s.length - j)) v).take s.length).drop j)) (i + v.length + (s.length - j)) s.length (S_twin_Room.mk 0 0)).length = s.length := by
          unfold clrR
          rw [List.length_append, List.length_append, List.length_take, List.length_replicate, List.length_drop, hlB]; omega
        simp only [hlA, hlB, hlC]
        refine (if_pos (by omega)).trans ?_
        refine (if_neg (by omega)).trans ?_
        refine (if_neg (by omega)).trans ?_
        refine (if_pos (by omega)).trans ?_
        refine (if_pos (by omega)).trans ?_
        refine (if_neg (by omega)).trans ?_
        refine (if_pos (by omega)).trans ?_
        refine (if_pos (by omega)).trans ?_
        refine (if_pos (by omega)).trans ?_
        refine (if_pos (by omega)).trans ?_
        refine (if_pos (by omega)).trans ?_
        refine (if_pos (by omega)).trans ?_
        refine (if_pos (by omega)).trans ?_
        refine (if_pos (by omega)).trans ?_
        refine (if_pos (by omega)).trans ?_
        refine (if_pos (by omega)).trans ?_
        rw [rep_fit hf (by omega) rfl rfl rfl rfl]
      · refine G_slices_Replace_twin_Room_twin_Room_h_CAPX_ok n C s i j v _ ?_
        unfold G_slices_Replace_twin_Room_twin_Room_h_CAPX
        have w4 : ((i + v.length + (s.length - j) : Nat) : Int) = ((s.length + (v.length + i - j) : Nat) : Int) := by omega
        simp only [Int.toNat_natCast, w1, w2]
        have hti : (s.take i).length = i := by simp; omega
        have htj : (s.drop j).length = s.length - j := List.length_drop
        have hlR : (s.take i ++ v ++ s.drop j).length = i + v.length + (s.length - j) := by rw [List.length_append, List.length_append, hti, htj]
        simp only [hti, htj, hlR, List.length_nil, true_and, and_true]
        refine (if_pos (by omega)).trans ?_
        refine (if_neg (by omega)).trans ?_
        refine (if_neg (by omega)).trans ?_
        refine (if_pos (by omega)).trans ?_
        refine (if_pos (by omega)).trans ?_
        refine (if_neg (by omega)).trans ?_
        refine (if_pos (by omega)).trans ?_
        refine (if_neg (by omega)).trans ?_
        refine (if_pos (by omega)).trans ?_
        refine (if_pos (by omega)).trans ?_
        refine (if_pos (by omega)).trans ?_
        refine (if_pos (by omega)).trans ?_
        refine (if_pos (by omega)).trans ?_
        refine (if_pos (by omega)).trans ?_
        refine (if_pos (by omega)).trans ?_
        rfl

inductive G_twin_Take_C1_R where
  | x0 (v_x225 : Bool)
def G_twin_Take_C1_ex : G_twin_Take_C1_R → Ex
  | .x0 _ => .normal
def G_twin_Take_C1_st (v_order18 : Int) (v_t17 : S_twin_Twin) : G_twin_Take_C1_R → PS
  | .x0 v_x225 => ⟨[dd, .d (.v (.int .i64 v_order18)), .ref 0 0, dd, .ref 1 0, dd, dd, dd, dd, dd, dd, dd, dd, dd, dd, dd, dd, dd, dd, dd, dd, dd, dd, dd, dd, dd, dd, .d (.v (.bool v_x225)), dd, dd, dd, dd, dd, dd, dd, dd, dd, dd, dd, dd, dd, dd, dd, dd, dd, dd, dd, dd, dd, dd, dd, dd, dd, dd, dd, dd, dd, dd, dd, dd, dd, dd, dd, dd, dd, dd, dd, dd, dd, dd, dd, dd, dd, dd, dd, dd, dd, dd, dd, dd, dd, dd, dd, dd, dd, dd, dd, dd, dd, dd, dd, dd, dd, dd, dd, dd], [.box [.d (.v (.int .i64 v_t17.fOrder)), .d (.sl (v_t17.fFree.map eS_twin_Room))], .box [.d (.v (.int .i64 0)), .d (vnil)]]⟩
def G_twin_Take_C1_hd (v_order18 : Int) (v_t17 : S_twin_Twin)  : PS := ⟨[dd, .d (.v (.int .i64 v_order18)), .ref 0 0, dd, .ref 1 0, dd, dd, dd, dd, dd, dd, dd, dd, dd, dd, dd, dd, dd, dd, dd, dd, dd, dd, dd, dd, dd, dd, dd, dd, dd, dd, dd, dd, dd, dd, dd, dd, dd, dd, dd, dd, dd, dd, dd, dd, dd, dd, dd, dd, dd, dd, dd, dd, dd, dd, dd, dd, dd, dd, dd, dd, dd, dd, dd, dd, dd, dd, dd, dd, dd, dd, dd, dd, dd, dd, dd, dd, dd, dd, dd, dd, dd, dd, dd, dd, dd, dd, dd, dd, dd, dd, dd, dd, dd, dd, dd], [.box [.d (.v (.int .i64 v_t17.fOrder)), .d (.sl (v_t17.fFree.map eS_twin_Room))], .box [.d (.v (.int .i64 0)), .d (vnil)]]⟩
def G_twin_Take_C1 (n : Nat) (v_order18 : Int) (v_t17 : S_twin_Twin) : Option G_twin_Take_C1_R :=
  if v_order18 < 0 then
   some (.x0 true)
  else
   some (.x0 (decide (v_order18 > v_t17.fOrder)))
theorem G_twin_Take_C1_ok {Fi : Ex → PS → Prop} (hF : KC 96 Fi) (ks : List Fr) (n : Nat) (v_order18 : Int) (v_t17 : S_twin_Twin)  (o : G_twin_Take_C1_R) (h : G_twin_Take_C1 n v_order18 v_t17 = some o) (q : RunE Try.prog 96 Fi ks (G_twin_Take_C1_ex o) (G_twin_Take_C1_st v_order18 v_t17 o)) : RunE Try.prog 96 Fi (.s (cL (cL (cR (cR (bodyOf Try.f49))))) :: ks) .normal (G_twin_Take_C1_hd v_order18 v_t17) := by
  unfold G_twin_Take_C1 at h
  by_cases h193 : v_order18 < 0
  · rw [if_pos h193] at h
    cases h
    exact pkk_sound TTok mix hF 1 (hs := [.t true, .c, .c, .c]) (ts := []) (s := [0, 1]) (l := [1, 2, 4, 27]) (by kernel_rfl) (by kernel_rfl) (.cons (dt h193) .nil) q
  · rw [if_neg h193] at h
    cases h
    exact pkk_sound TTok mix hF 1 (hs := [.t false, .c, .c, .c, .c]) (ts := []) (s := [0, 1]) (l := [1, 2, 4, 27]) (by kernel_rfl) (by kernel_rfl) (.cons (df h193) .nil) q
inductive G_twin_Take_C2_R where
  | x0 (v_x272 : Bool)
def G_twin_Take_C2_ex : G_twin_Take_C2_R → Ex
  | .x0 _ => .normal
def G_twin_Take_C2_st (v_order18 : Int) (v_best260 : Int) (v_x261 : Int) (v_t17 : S_twin_Twin) (v_y270 : S_twin_Room) : G_twin_Take_C2_R → PS
  | .x0 v_x272 => ⟨[dd, .d (.v (.int .i64 v_order18)), .ref 0 0, dd, .ref 1 0, dd, dd, dd, .d (.v (.int .i64 v_best260)), .d (.v (.int .i64 v_x261)), dd, dd, dd, dd, dd, dd, dd, dd, dd, dd, dd, dd, dd, dd, dd, dd, dd, dd, dd, dd, .d (.sl (v_t17.fFree.map eS_twin_Room)), .d (.v (.int .i64 (v_t17.fFree.length : Int))), .d (.v (.int .i64 v_x261)), dd, dd, dd, dd, dd, dd, dd, dd, dd, dd, dd, dd, dd, dd, dd, dd, dd, dd, dd, dd, dd, dd, .d (.v (.bool v_x272)), dd, dd, dd, dd, dd, dd, dd, dd, dd, dd, dd, dd, dd, dd, dd, dd, dd, dd, dd, dd, dd, dd, dd, dd, dd, dd, dd, dd, dd, dd, dd, dd, dd, dd, dd, dd, dd, dd, dd, dd], [.box [.d (.v (.int .i64 v_t17.fOrder)), .d (.sl (v_t17.fFree.map eS_twin_Room))], .box [.d (.v (.int .i64 0)), .d (vnil)]]⟩
def G_twin_Take_C2_hd (v_order18 : Int) (v_best260 : Int) (v_x261 : Int) (v_t17 : S_twin_Twin) (v_y270 : S_twin_Room)  : PS := ⟨[dd, .d (.v (.int .i64 v_order18)), .ref 0 0, dd, .ref 1 0, dd, dd, dd, .d (.v (.int .i64 v_best260)), .d (.v (.int .i64 v_x261)), .ref 2 0, dd, dd, dd, dd, dd, dd, dd, dd, dd, dd, dd, dd, dd, dd, dd, dd, dd, dd, dd, .d (.sl (v_t17.fFree.map eS_twin_Room)), .d (.v (.int .i64 (v_t17.fFree.length : Int))), .d (.v (.int .i64 v_x261)), dd, dd, dd, dd, dd, dd, dd, dd, dd, dd, dd, dd, dd, dd, dd, dd, dd, dd, dd, dd, dd, dd, dd, dd, dd, dd, dd, dd, dd, dd, dd, dd, dd, dd, dd, dd, dd, dd, dd, dd, dd, dd, dd, dd, dd, dd, dd, dd, dd, dd, dd, dd, dd, dd, dd, dd, dd, dd, dd, dd, dd, dd, dd], [.box [.d (.v (.int .i64 v_t17.fOrder)), .d (.sl (v_t17.fFree.map eS_twin_Room))], .box [.d (.v (.int .i64 0)), .d (vnil)], .box [.d (.v (.int .i64 v_y270.fAt)), .d (.v (.int .i64 v_y270.fOrder))]]⟩
def G_twin_Take_C2 (n : Nat) (v_order18 : Int) (v_best260 : Int) (v_x261 : Int) (v_t17 : S_twin_Twin) (v_y270 : S_twin_Room) : Option G_twin_Take_C2_R :=
  if v_y270.fOrder ≥ v_order18 then
   if v_best260 < 0 then
    some (.x0 true)
   else
    (getI v_t17.fFree v_best260).bind fun (v_y273 : S_twin_Room) =>
    some (.x0 (decide (v_y270.fOrder < v_y273.fOrder)))
  else
   some (.x0 false)
theorem G_twin_Take_C2_ok {Fi : Ex → PS → Prop} (hF : KC 96 Fi) (ks : List Fr) (n : Nat) (v_order18 : Int) (v_best260 : Int) (v_x261 : Int) (v_t17 : S_twin_Twin) (v_y270 : S_twin_Room)  (o : G_twin_Take_C2_R) (h : G_twin_Take_C2 n v_order18 v_best260 v_x261 v_t17 v_y270 = some o) (q : RunE Try.prog 96 Fi ks (G_twin_Take_C2_ex o) (G_twin_Take_C2_st v_order18 v_best260 v_x261 v_t17 v_y270 o)) : RunE Try.prog 96 Fi (.s (cL (cR (cB (cL (cR (cR (cP (cB (cR (cL (cR (cR (cR (cR (bodyOf Try.f49))))))))))))))) :: ks) .normal (G_twin_Take_C2_hd v_order18 v_best260 v_x261 v_t17 v_y270) := by
  unfold G_twin_Take_C2 at h
  by_cases h211 : v_y270.fOrder ≥ v_order18
  · rw [if_pos h211] at h
    by_cases h212 : v_best260 < 0
    · rw [if_pos h212] at h
      cases h
      exact pkk_sound TTok mix hF 1 (hs := [.c, .t true, .c, .c, .t true, .c, .c, .c, .c, .c, .c, .c, .c, .c]) (ts := []) (s := [0, 1]) (l := [1, 2, 4, 8, 9, 30, 31, 32, 55]) (by kernel_rfl) (by kernel_rfl) (.cons (dt h211) (.cons (dt h212) .nil)) q
    · rw [if_neg h212] at h
      obtain ⟨v_y273, h213, h⟩ := bind_some h
      cases h
      exact pkk_sound TTok mix hF 1 (hs := [.c, .t true, .c, .c, .t false, .c, .c, .c, .c, .c, .c, .c, .y (eS_twin_Room v_y273), .c, .c, .c, .c, .c]) (ts := []) (s := [0, 1]) (l := [1, 2, 4, 8, 9, 30, 31, 32, 55]) (by kernel_rfl) (by kernel_rfl) (.cons (dt h211) (.cons (df h212) (.cons (getI_ob (f := eS_twin_Room) h213) .nil))) q
  · rw [if_neg h211] at h
    cases h
    exact pkk_sound TTok mix hF 1 (hs := [.c, .t false, .c, .c, .c]) (ts := []) (s := [0, 1]) (l := [1, 2, 4, 8, 9, 30, 31, 32, 55]) (by kernel_rfl) (by kernel_rfl) (.cons (df h211) .nil) q
inductive G_twin_Take_L3_R where
  | x0 (v_best278 : Int)
def G_twin_Take_L3_ex : G_twin_Take_L3_R → Ex
  | .x0 _ => .exit 0
def G_twin_Take_L3_st (v_order18 : Int) (v_t17 : S_twin_Twin) : G_twin_Take_L3_R → PS
  | .x0 v_best278 => ⟨[dd, .d (.v (.int .i64 v_order18)), .ref 0 0, dd, .ref 1 0, dd, dd, dd, .d (.v (.int .i64 v_best278)), dd, dd, dd, dd, dd, dd, dd, dd, dd, dd, dd, dd, dd, dd, dd, dd, dd, dd, dd, dd, dd, dd, dd, dd, dd, dd, dd, dd, dd, dd, dd, dd, dd, dd, dd, dd, dd, dd, dd, dd, dd, dd, dd, dd, dd, dd, dd, dd, dd, dd, dd, dd, dd, dd, dd, dd, dd, dd, dd, dd, dd, dd, dd, dd, dd, dd, dd, dd, dd, dd, dd, dd, dd, dd, dd, dd, dd, dd, dd, dd, dd, dd, dd, dd, dd, dd, dd], [.box [.d (.v (.int .i64 v_t17.fOrder)), .d (.sl (v_t17.fFree.map eS_twin_Room))], .box [.d (.v (.int .i64 0)), .d (vnil)]]⟩
def G_twin_Take_L3_hd (v_order18 : Int) (v_t17 : S_twin_Twin) (v_best260 : Int) (v_x261 : Int) : PS := ⟨[dd, .d (.v (.int .i64 v_order18)), .ref 0 0, dd, .ref 1 0, dd, dd, dd, .d (.v (.int .i64 v_best260)), dd, dd, dd, dd, dd, dd, dd, dd, dd, dd, dd, dd, dd, dd, dd, dd, dd, dd, dd, dd, dd, .d (.sl (v_t17.fFree.map eS_twin_Room)), .d (.v (.int .i64 (v_t17.fFree.length : Int))), .d (.v (.int .i64 v_x261)), dd, dd, dd, dd, dd, dd, dd, dd, dd, dd, dd, dd, dd, dd, dd, dd, dd, dd, dd, dd, dd, dd, dd, dd, dd, dd, dd, dd, dd, dd, dd, dd, dd, dd, dd, dd, dd, dd, dd, dd, dd, dd, dd, dd, dd, dd, dd, dd, dd, dd, dd, dd, dd, dd, dd, dd, dd, dd, dd, dd, dd, dd, dd], [.box [.d (.v (.int .i64 v_t17.fOrder)), .d (.sl (v_t17.fFree.map eS_twin_Room))], .box [.d (.v (.int .i64 0)), .d (vnil)]]⟩
def G_twin_Take_L3 (n : Nat) (v_order18 : Int) (v_t17 : S_twin_Twin) : Nat → Int → Int → Option G_twin_Take_L3_R
  | 0, _, _ => none
  | k + 1, v_best260, v_x261 =>
    if v_x261 < (v_t17.fFree.length : Int) then
     (getI v_t17.fFree v_x261).bind fun (v_y270 : S_twin_Room) =>
     (G_twin_Take_C2 n v_order18 v_best260 v_x261 v_t17 v_y270).bind fun v_o276 => match v_o276 with
     | .x0 v_z277 =>
       if v_z277 = true then
        G_twin_Take_L3 n v_order18 v_t17 k v_x261 (wi .i64 (v_x261 + 1))
       else
        G_twin_Take_L3 n v_order18 v_t17 k v_best260 (wi .i64 (v_x261 + 1))
    else
     some (.x0 v_best260)
theorem G_twin_Take_L3_ok {Fi : Ex → PS → Prop} (hF : KC 96 Fi) (ks : List Fr) (n : Nat) (v_order18 : Int) (v_t17 : S_twin_Twin)  : ∀ (k : Nat) (v_best260 : Int) (v_x261 : Int) (o : G_twin_Take_L3_R), G_twin_Take_L3 n v_order18 v_t17 k v_best260 v_x261 = some o → RunE Try.prog 96 Fi ks (G_twin_Take_L3_ex o) (G_twin_Take_L3_st v_order18 v_t17 o) → RunE Try.prog 96 Fi (.l k (cP (cB (cR (cL (cR (cR (cR (cR (bodyOf Try.f49))))))))) :: ks) .normal (G_twin_Take_L3_hd v_order18 v_t17 v_best260 v_x261)
  | 0, v_best260, v_x261, o, h, q => by rw [G_twin_Take_L3] at h; cases h
  | k + 1, v_best260, v_x261, o, h, q => by
    rw [G_twin_Take_L3] at h
    by_cases h197 : v_x261 < (v_t17.fFree.length : Int)
    · rw [if_pos h197] at h
      obtain ⟨v_y270, h207, h⟩ := bind_some h
      obtain ⟨v_o276, h214, h⟩ := bind_some h
      refine pkk_sound TTok mix hF 11 (hs := [.t true, .y (eS_twin_Room v_y270), .c]) (ts := []) (s := [0, 1, 22]) (l := [1, 2, 4, 8, 9, 10, 30, 31, 32]) (by kernel_rfl) (by kernel_rfl) (.cons (dt h197) (.cons (getI_ob (f := eS_twin_Room) h207) (.cons (show 0 + 2 ≤ 2 by decide) .nil))) (G_twin_Take_C2_ok hF (.s (cR (cR (cB (cL (cR (cR (cP (cB (cR (cL (cR (cR (cR (cR (bodyOf Try.f49))))))))))))))) :: .b 1 :: .s (cR (cR (cR (cP (cB (cR (cL (cR (cR (cR (cR (bodyOf Try.f49)))))))))))) :: .l k (cP (cB (cR (cL (cR (cR (cR (cR (bodyOf Try.f49))))))))) :: ks) n v_order18 v_best260 v_x261 v_t17 v_y270 _ h214 ?_)
      cases v_o276 with
      | x0 v_z277 =>
        try dsimp only at h
        by_cases h215 : v_z277 = true
        · rw [if_pos h215] at h
          exact pkk_sound TTok mix hF 4 (hs := [.t true]) (ts := []) (s := [0, 1]) (l := [1, 2, 4, 8, 30, 31, 32]) (by kernel_rfl) (by kernel_rfl) (.cons h215 .nil) (G_twin_Take_L3_ok hF ks n v_order18 v_t17 k v_x261 (wi .i64 (v_x261 + 1)) _ h q)
        · rw [if_neg h215] at h
          exact pkk_sound TTok mix hF 4 (hs := [.t false]) (ts := []) (s := [0, 1]) (l := [1, 2, 4, 8, 30, 31, 32]) (by kernel_rfl) (by kernel_rfl) (.cons (vf h215) .nil) (G_twin_Take_L3_ok hF ks n v_order18 v_t17 k v_best260 (wi .i64 (v_x261 + 1)) _ h q)
    · rw [if_neg h197] at h
      cases h
      exact pkk_sound TTok mix hF 8 (hs := [.t false]) (ts := []) (s := [0, 1]) (l := [1, 2, 4, 8]) (by kernel_rfl) (by kernel_rfl) (.cons (df h197) .nil) q
inductive G_twin_Take_L4_R where
  | x0 (v_w341 : (List S_twin_Room))
def G_twin_Take_L4_ex : G_twin_Take_L4_R → Ex
  | .x0 _ => .exit 2
def G_twin_Take_L4_st (v_z280 : Int) (v_t17 : S_twin_Twin) (v_y308 : S_twin_Room) : G_twin_Take_L4_R → PS
  | .x0 v_w341 => ⟨[dd, dd, .ref 0 0, dd, .ref 1 0, dd, dd, dd, .d (.v (.int .i64 v_z280)), dd, dd, .ref 2 0, .srf 3, dd, dd, dd, dd, dd, dd, dd, dd, dd, dd, dd, dd, dd, dd, dd, dd, dd, dd, dd, dd, dd, dd, dd, dd, dd, dd, dd, dd, dd, dd, dd, dd, dd, dd, dd, dd, dd, dd, dd, dd, dd, dd, dd, dd, dd, dd, dd, dd, dd, dd, dd, dd, dd, dd, dd, dd, dd, dd, dd, dd, dd, dd, dd, dd, dd, dd, dd, dd, dd, dd, dd, dd, dd, dd, dd, dd, dd, dd, dd, dd, dd, dd, dd], [.box [.d (.v (.int .i64 v_t17.fOrder)), .d (.sl (v_t17.fFree.map eS_twin_Room))], .box [.d (.v (.int .i64 0)), .d (vnil)], .box [.d (.v (.int .i64 v_y308.fAt)), .d (.v (.int .i64 v_y308.fOrder))], .row 112 2 (v_w341.map eS_twin_Room)]⟩
def G_twin_Take_L4_hd (v_z280 : Int) (v_t17 : S_twin_Twin) (v_y308 : S_twin_Room) (v_k337 : Int) (v_w338 : (List S_twin_Room)) : PS := ⟨[dd, dd, .ref 0 0, dd, .ref 1 0, dd, dd, dd, .d (.v (.int .i64 v_z280)), dd, dd, .ref 2 0, .srf 3, .d (.v (.int .i64 v_k337)), dd, dd, dd, dd, dd, dd, dd, dd, dd, dd, dd, dd, dd, dd, dd, dd, dd, dd, dd, dd, dd, dd, dd, dd, dd, dd, dd, dd, dd, dd, dd, dd, dd, dd, dd, dd, dd, dd, dd, dd, dd, dd, dd, dd, dd, dd, dd, dd, dd, dd, dd, dd, dd, dd, dd, dd, dd, dd, dd, dd, dd, dd, dd, dd, dd, dd, dd, dd, dd, dd, dd, dd, dd, dd, dd, dd, dd, dd, dd, dd, dd, dd], [.box [.d (.v (.int .i64 v_t17.fOrder)), .d (.sl (v_t17.fFree.map eS_twin_Room))], .box [.d (.v (.int .i64 0)), .d (vnil)], .box [.d (.v (.int .i64 v_y308.fAt)), .d (.v (.int .i64 v_y308.fOrder))], .row 112 2 (v_w338.map eS_twin_Room)]⟩
def G_twin_Take_L4 (n : Nat) (v_z280 : Int) (v_t17 : S_twin_Twin) (v_y308 : S_twin_Room) : Nat → Int → (List S_twin_Room) → Option G_twin_Take_L4_R
  | 0, _, _ => none
  | k + 1, v_k337, v_w338 =>
    if v_k337 < v_y308.fOrder then
     if 0 ≤ v_k337 then
      (app 16 v_w338 ([(S_twin_Room.mk (wi .i64 (v_y308.fAt + (shlI .i64 1 v_k337))) v_k337)])).bind fun (v_a340 : (List S_twin_Room)) =>
      G_twin_Take_L4 n v_z280 v_t17 v_y308 k (wi .i64 (v_k337 + 1)) v_a340
     else none
    else
     some (.x0 v_w338)
theorem G_twin_Take_L4_ok {Fi : Ex → PS → Prop} (hF : KC 96 Fi) (ks : List Fr) (n : Nat) (v_z280 : Int) (v_t17 : S_twin_Twin) (v_y308 : S_twin_Room)  : ∀ (k : Nat) (v_k337 : Int) (v_w338 : (List S_twin_Room)) (o : G_twin_Take_L4_R), G_twin_Take_L4 n v_z280 v_t17 v_y308 k v_k337 v_w338 = some o → RunE Try.prog 96 Fi ks (G_twin_Take_L4_ex o) (G_twin_Take_L4_st v_z280 v_t17 v_y308 o) → RunE Try.prog 96 Fi (.l k (cP (cB (cR (cL (cR (cR (cR (cR (cR (cR (cR (cR (bodyOf Try.f49))))))))))))) :: ks) .normal (G_twin_Take_L4_hd v_z280 v_t17 v_y308 v_k337 v_w338)
  | 0, v_k337, v_w338, o, h, q => by rw [G_twin_Take_L4] at h; cases h
  | k + 1, v_k337, v_w338, o, h, q => by
    rw [G_twin_Take_L4] at h
    by_cases h220 : v_k337 < v_y308.fOrder
    · rw [if_pos h220] at h
      by_cases h223 : 0 ≤ v_k337
      · rw [if_pos h223] at h
        obtain ⟨v_a340, h224, h⟩ := bind_some h
        exact pkk_sound TTok mix hF 11 (hs := [.c, .t true, .c, .bd, .w (v_a340.map eS_twin_Room)]) (ts := []) (s := [0, 1, 2, 69]) (l := [2, 4, 8, 11, 12, 13]) (by kernel_rfl) (by kernel_rfl) (.cons (dt h220) (.cons h223 (.cons (app_ob (f := eS_twin_Room) (s := 2) h224 (fun _ => rfl)).1 (.cons (app_ob (f := eS_twin_Room) (s := 2) h224 (fun _ => rfl)).2.1 (.cons (app_ob (f := eS_twin_Room) (s := 2) h224 (fun _ => rfl)).2.2.1 (.cons (app_ob (f := eS_twin_Room) (s := 2) h224 (fun _ => rfl)).2.2.2 .nil)))))) (G_twin_Take_L4_ok hF ks n v_z280 v_t17 v_y308 k (wi .i64 (v_k337 + 1)) v_a340 _ h q)
      · rw [if_neg h223] at h; cases h
    · rw [if_neg h220] at h
      cases h
      exact pkk_sound TTok mix hF 8 (hs := [.c, .t false]) (ts := []) (s := [0, 1, 2, 3]) (l := [2, 4, 8, 11, 12]) (by kernel_rfl) (by kernel_rfl) (.cons (df h220) .nil) q
/- ringhall/twin.Take -/
def G_twin_Take (n : Nat) (v_t17 : S_twin_Twin) (v_order18 : Int) : Option (S_twin_Twin × Int × Int) :=
  (G_twin_Check n v_t17).bind fun (v_r199 : (Int)) =>
  if v_r199 = 0 then
   (G_twin_Take_C1 n v_order18 v_t17).bind fun v_o227 => match v_o227 with
   | .x0 v_z228 =>
     if v_z228 = true then
      some ((S_twin_Twin.mk 0 ([] : (List S_twin_Room))), 0, 1)
     else
      (G_twin_Take_L3 n v_order18 v_t17 n (-1) 0).bind fun v_o279 => match v_o279 with
      | .x0 v_z280 =>
        if v_z280 < 0 then
         some ((S_twin_Twin.mk 0 ([] : (List S_twin_Room))), 0, 6)
        else
         (getI v_t17.fFree v_z280).bind fun (v_y308 : S_twin_Room) =>
         (G_twin_Take_L4 n v_z280 v_t17 v_y308 n v_order18 ([] : List S_twin_Room)).bind fun v_o342 => match v_o342 with
         | .x0 v_z343 =>
           (G_slices_Clone_twin_Room_twin_Room n v_t17.fFree).bind fun (v_r362 : ((List S_twin_Room))) =>
           (G_slices_Replace_twin_Room_twin_Room_h n v_r362 v_z280 (wi .i64 (v_z280 + 1)) v_z343).bind fun (v_r392 : ((List S_twin_Room))) =>
           some ((S_twin_Twin.mk v_t17.fOrder v_r392), v_y308.fAt, 0)
  else
   some ((S_twin_Twin.mk 0 ([] : (List S_twin_Room))), 0, v_r199)
theorem G_twin_Take_ok (n : Nat) (v_t17 : S_twin_Twin) (v_order18 : Int) (r : S_twin_Twin × Int × Int) (h : G_twin_Take n v_t17 v_order18 = some r) : Ret Try.prog 49 [eS_twin_Twin v_t17, (eI .i64) v_order18] (.tup [eS_twin_Twin r.1, (eI .i64) r.2.1, (eI .i64) r.2.2]) := by
  refine ret_run (n := 96) (fn := Try.f49) (c := bodyOf Try.f49) (by kernel_rfl) (by kernel_rfl) (by kernel_rfl) (by kernel_rfl) ?_
  have hF : KC 96 (FinR Try.prog Try.f49 (.tup [eS_twin_Twin r.1, (eI .i64) r.2.1, (eI .i64) r.2.2])) := FinR.kc' (by kernel_rfl)
  unfold G_twin_Take at h
  obtain ⟨v_r199, h189, h⟩ := bind_some h
  by_cases h191 : v_r199 = 0
  · rw [if_pos h191] at h
    obtain ⟨v_o227, h194, h⟩ := bind_some h
    refine pkk_sound TTok mix hF 11 (hs := [.c, .r ((eI .i64) v_r199), .t false]) (ts := []) (s := [0, 5]) (l := [1, 2, 4]) (by kernel_rfl) (by kernel_rfl) (.cons (G_twin_Check_ok n v_t17 _ h189) (.cons (nf h191) .nil)) (G_twin_Take_C1_ok hF (.s (cR (cL (cR (cR (bodyOf Try.f49))))) :: .s (cR (cR (cR (bodyOf Try.f49)))) :: []) n v_order18 v_t17 _ h194 ?_)
    cases v_o227 with
    | x0 v_z228 =>
      try dsimp only at h
      by_cases h196 : v_z228 = true
      · rw [if_pos h196] at h
        obtain rfl := Option.some.inj h
        exact pend_sound TTok mix 5 (hs := [.t true, .c]) (by kernel_rfl) (by kernel_rfl) (by kernel_rfl) (.cons h196 (.cons (show 0 + 2 ≤ 2 by decide) .nil))
      · rw [if_neg h196] at h
        obtain ⟨v_o279, h216, h⟩ := bind_some h
        refine pkk_sound TTok mix hF 9 (hs := [.t false, .c, .u (.d (.v (.int .i64 (v_t17.fFree.length : Int)))), .n n]) (ts := []) (s := [0, 1]) (l := [1, 2, 4, 8, 30, 31, 32]) (by kernel_rfl) (by kernel_rfl) (.cons (vf h196) (.cons (len_ob (f := eS_twin_Room) (l := v_t17.fFree)) .nil)) (G_twin_Take_L3_ok hF (.b 0 :: .s (cR (cR (cR (cR (cR (bodyOf Try.f49)))))) :: []) n v_order18 v_t17 n (-1) 0 _ h216 ?_)
        cases v_o279 with
        | x0 v_z280 =>
          try dsimp only at h
          by_cases h218 : v_z280 < 0
          · rw [if_pos h218] at h
            obtain rfl := Option.some.inj h
            exact pend_sound TTok mix 9 (hs := [.t true, .c]) (by kernel_rfl) (by kernel_rfl) (by kernel_rfl) (.cons (dt h218) (.cons (show 0 + 2 ≤ 2 by decide) .nil))
          · rw [if_neg h218] at h
            obtain ⟨v_y308, h219, h⟩ := bind_some h
            obtain ⟨v_o342, h225, h⟩ := bind_some h
            refine pkk_sound TTok mix hF 15 (hs := [.t false, .c, .y (eS_twin_Room v_y308), .c, .n n]) (ts := [(12, 112, 2)]) (s := [0, 1, 37, 62]) (l := [2, 4, 8, 11, 12, 13]) (by kernel_rfl) (by kernel_rfl) (.cons (df h218) (.cons (getI_ob (f := eS_twin_Room) h219) (.cons (show 0 + 2 ≤ 2 by decide) .nil))) (G_twin_Take_L4_ok hF (.b 2 :: .s (cR (cR (cR (cR (cR (cR (cR (cR (cR (bodyOf Try.f49)))))))))) :: []) n v_z280 v_t17 v_y308 n v_order18 ([] : List S_twin_Room) _ h225 ?_)
            cases v_o342 with
            | x0 v_z343 =>
              try dsimp only at h
              obtain ⟨v_r362, h229, h⟩ := bind_some h
              obtain ⟨v_r392, h369, h⟩ := bind_some h
              obtain rfl := Option.some.inj h
              exact pend_sound TTok mix 5 (hs := [.dl 2, .fz 3, .c, .c, .h [] [] [.row 112 2 (v_r362.map eS_twin_Room)] (.srf 0), .h [24] [] [.none, .row 112 2 (v_r392.map eS_twin_Room)] (.srf 1), .c, .c]) (by kernel_rfl) (by kernel_rfl) (by kernel_rfl) (.cons (G_slices_Clone_twin_Room_twin_Room_ok n v_t17.fFree _ h229) (.cons (G_slices_Replace_twin_Room_twin_Room_h_ok n v_r362 v_z280 (wi .i64 (v_z280 + 1)) v_z343 _ h369) (.cons (show 0 + 2 ≤ 2 by decide) .nil)))
  · rw [if_neg h191] at h
    obtain rfl := Option.some.inj h
    exact pend_sound TTok mix 12 (hs := [.c, .r ((eI .i64) v_r199), .t true, .c]) (by kernel_rfl) (by kernel_rfl) (by kernel_rfl) (.cons (G_twin_Check_ok n v_t17 _ h189) (.cons (nt h191) (.cons (show 0 + 2 ≤ 2 by decide) .nil)))
inductive G_slices_IndexFunc_twin_Room_twin_Room_L1_R where
  | x0 (v_x468 : Int)
  | x1 
def G_slices_IndexFunc_twin_Room_twin_Room_L1_ex : G_slices_IndexFunc_twin_Room_twin_Room_L1_R → Ex
  | .x0 _ => .ret
  | .x1  => .exit 0
def G_slices_IndexFunc_twin_Room_twin_Room_L1_st (v_s459 : (List S_twin_Room)) (v_f460 : (S_twin_Room → Option (Bool))) (v_f460_g : FuncId) (v_f460_c : (List PV)) : G_slices_IndexFunc_twin_Room_twin_Room_L1_R → PS
  | .x0 v_x468 => ⟨[dd, dd, dd, dd, .d (.v (.int .i64 v_x468)), dd, dd, dd, dd, dd, dd, dd, dd, dd, dd, dd, dd, dd, dd], []⟩
  | .x1  => ⟨[dd, dd, dd, dd, dd, dd, dd, dd, dd, dd, dd, dd, dd, dd, dd, dd, dd, dd, dd], []⟩
def G_slices_IndexFunc_twin_Room_twin_Room_L1_hd (v_s459 : (List S_twin_Room)) (v_f460 : (S_twin_Room → Option (Bool))) (v_f460_g : FuncId) (v_f460_c : (List PV)) (v_x463 : Int) : PS := ⟨[.d (.sl (v_s459.map eS_twin_Room)), .d (.clo v_f460_g v_f460_c), dd, dd, dd, dd, dd, .d (.v (.int .i64 (v_s459.length : Int))), .d (.v (.int .i64 v_x463)), dd, dd, dd, dd, dd, dd, dd, dd, dd, dd], []⟩
def G_slices_IndexFunc_twin_Room_twin_Room_L1 (n : Nat) (v_s459 : (List S_twin_Room)) (v_f460 : (S_twin_Room → Option (Bool))) : Nat → Int → Option G_slices_IndexFunc_twin_Room_twin_Room_L1_R
  | 0, _ => none
  | k + 1, v_x463 =>
    if v_x463 < (v_s459.length : Int) then
     (getI v_s459 v_x463).bind fun (v_y466 : S_twin_Room) =>
     (v_f460 v_y466).bind fun (v_r467 : (Bool)) =>
     if v_r467 = true then
      some (.x0 v_x463)
     else
      G_slices_IndexFunc_twin_Room_twin_Room_L1 n v_s459 v_f460 k (wi .i64 (v_x463 + 1))
    else
     some (.x1 )
theorem G_slices_IndexFunc_twin_Room_twin_Room_L1_ok {Fi : Ex → PS → Prop} (hF : KC 19 Fi) (ks : List Fr) (n : Nat) (v_s459 : (List S_twin_Room)) (v_f460 : (S_twin_Room → Option (Bool))) (v_f460_g : FuncId) (v_f460_c : (List PV)) (v_f460_h : ∀ (x0 : S_twin_Room) (r : Bool), v_f460 x0 = some r → Ret Try.prog v_f460_g ([eS_twin_Room x0] ++ v_f460_c) (eB r)) : ∀ (k : Nat) (v_x463 : Int) (o : G_slices_IndexFunc_twin_Room_twin_Room_L1_R), G_slices_IndexFunc_twin_Room_twin_Room_L1 n v_s459 v_f460 k v_x463 = some o → RunE Try.prog 19 Fi ks (G_slices_IndexFunc_twin_Room_twin_Room_L1_ex o) (G_slices_IndexFunc_twin_Room_twin_Room_L1_st v_s459 v_f460 v_f460_g v_f460_c o) → RunE Try.prog 19 Fi (.l k (cP (cB (cR (cL (cR (bodyOf Try.f89)))))) :: ks) .normal (G_slices_IndexFunc_twin_Room_twin_Room_L1_hd v_s459 v_f460 v_f460_g v_f460_c v_x463)
  | 0, v_x463, o, h, q => by rw [G_slices_IndexFunc_twin_Room_twin_Room_L1] at h; cases h
  | k + 1, v_x463, o, h, q => by
    rw [G_slices_IndexFunc_twin_Room_twin_Room_L1] at h
    by_cases h383 : v_x463 < (v_s459.length : Int)
    · rw [if_pos h383] at h
      obtain ⟨v_y466, h387, h⟩ := bind_some h
      obtain ⟨v_r467, h388, h⟩ := bind_some h
      by_cases h389 : v_r467 = true
      · rw [if_pos h389] at h
        cases h
        exact pkk_sound TTok mix hF 19 (hs := [.t true, .y (eS_twin_Room v_y466), .r (eB v_r467), .t true]) (ts := []) (s := []) (l := [4]) (by kernel_rfl) (by kernel_rfl) (.cons (dt h383) (.cons (getI_ob (f := eS_twin_Room) h387) (.cons (v_f460_h v_y466 _ h388) (.cons h389 .nil)))) q
      · rw [if_neg h389] at h
        exact pkk_sound TTok mix hF 16 (hs := [.t true, .y (eS_twin_Room v_y466), .r (eB v_r467), .t false]) (ts := []) (s := []) (l := [0, 1, 7, 8]) (by kernel_rfl) (by kernel_rfl) (.cons (dt h383) (.cons (getI_ob (f := eS_twin_Room) h387) (.cons (v_f460_h v_y466 _ h388) (.cons (vf h389) .nil)))) (G_slices_IndexFunc_twin_Room_twin_Room_L1_ok hF ks n v_s459 v_f460 v_f460_g v_f460_c v_f460_h k (wi .i64 (v_x463 + 1)) _ h q)
    · rw [if_neg h383] at h
      cases h
      exact pkk_sound TTok mix hF 8 (hs := [.t false]) (ts := []) (s := []) (l := []) (by kernel_rfl) (by kernel_rfl) (.cons (df h383) .nil) q
/- slices.IndexFunc[[]ringhall/twin.Room,ringhall/twin.Room] -/
def G_slices_IndexFunc_twin_Room_twin_Room (n : Nat) (v_s459 : (List S_twin_Room)) (v_f460 : (S_twin_Room → Option (Bool))) : Option (Int) :=
  (G_slices_IndexFunc_twin_Room_twin_Room_L1 n v_s459 v_f460 n 0).bind fun v_o469 => match v_o469 with
  | .x0 v_z470 =>
    some v_z470
  | .x1  =>
    some (-1)
theorem G_slices_IndexFunc_twin_Room_twin_Room_ok (n : Nat) (v_s459 : (List S_twin_Room)) (v_f460 : (S_twin_Room → Option (Bool))) (v_f460_g : FuncId) (v_f460_c : List PV) (v_f460_h : ∀ (x0 : S_twin_Room) (r : Bool), v_f460 x0 = some r → Ret Try.prog v_f460_g ([eS_twin_Room x0] ++ v_f460_c) (eB r)) (r : Int) (h : G_slices_IndexFunc_twin_Room_twin_Room n v_s459 v_f460 = some r) : Ret Try.prog 89 [(eL eS_twin_Room) v_s459, (.clo v_f460_g v_f460_c)] ((eI .i64) r) := by
  refine ret_run (n := 19) (fn := Try.f89) (c := bodyOf Try.f89) (by kernel_rfl) (by kernel_rfl) (by kernel_rfl) (by kernel_rfl) ?_
  have hF : KC 19 (FinR Try.prog Try.f89 ((eI .i64) r)) := FinR.kc' (by kernel_rfl)
  unfold G_slices_IndexFunc_twin_Room_twin_Room at h
  obtain ⟨v_o469, h390, h⟩ := bind_some h
  refine pkk_sound TTok mix hF 7 (hs := [.u (.d (.v (.int .i64 (v_s459.length : Int)))), .n n]) (ts := []) (s := []) (l := [0, 1, 7, 8]) (by kernel_rfl) (by kernel_rfl) (.cons (len_ob (f := eS_twin_Room) (l := v_s459)) .nil) (G_slices_IndexFunc_twin_Room_twin_Room_L1_ok hF (.b 0 :: .s (cR (cR (bodyOf Try.f89))) :: []) n v_s459 v_f460 v_f460_g v_f460_c v_f460_h n 0 _ h390 ?_)
  cases v_o469 with
  | x0 v_z470 =>
    try dsimp only at h
    obtain rfl := Option.some.inj h
    exact pend_sound TTok mix 2 (hs := []) (by kernel_rfl) (by kernel_rfl) (by kernel_rfl) .nil
  | x1  =>
    try dsimp only at h
    obtain rfl := Option.some.inj h
    exact pend_sound TTok mix 4 (hs := []) (by kernel_rfl) (by kernel_rfl) (by kernel_rfl) .nil
/- slices.ContainsFunc[[]ringhall/twin.Room,ringhall/twin.Room] -/
def G_slices_ContainsFunc_twin_Room_twin_Room (n : Nat) (v_s457 : (List S_twin_Room)) (v_f458 : (S_twin_Room → Option (Bool))) : Option (Bool) :=
  (G_slices_IndexFunc_twin_Room_twin_Room n v_s457 v_f458).bind fun (v_r471 : (Int)) =>
  some (decide (v_r471 ≥ 0))
theorem G_slices_ContainsFunc_twin_Room_twin_Room_ok (n : Nat) (v_s457 : (List S_twin_Room)) (v_f458 : (S_twin_Room → Option (Bool))) (v_f458_g : FuncId) (v_f458_c : List PV) (v_f458_h : ∀ (x0 : S_twin_Room) (r : Bool), v_f458 x0 = some r → Ret Try.prog v_f458_g ([eS_twin_Room x0] ++ v_f458_c) (eB r)) (r : Bool) (h : G_slices_ContainsFunc_twin_Room_twin_Room n v_s457 v_f458 = some r) : Ret Try.prog 112 [(eL eS_twin_Room) v_s457, (.clo v_f458_g v_f458_c)] (eB r) := by
  refine ret_run (n := 9) (fn := Try.f112) (c := bodyOf Try.f112) (by kernel_rfl) (by kernel_rfl) (by kernel_rfl) (by kernel_rfl) ?_
  have hF : KC 9 (FinR Try.prog Try.f112 (eB r)) := FinR.kc' (by kernel_rfl)
  unfold G_slices_ContainsFunc_twin_Room_twin_Room at h
  obtain ⟨v_r471, h391, h⟩ := bind_some h
  obtain rfl := Option.some.inj h
  exact pend_sound TTok mix 5 (hs := [.r ((eI .i64) v_r471)]) (by kernel_rfl) (by kernel_rfl) (by kernel_rfl) (.cons (G_slices_IndexFunc_twin_Room_twin_Room_ok n v_s457 v_f458 v_f458_g v_f458_c v_f458_h _ h391) .nil)
/- ringhall/twin.apart$1 -/
def G_twin_apart_1 (n : Nat) (v_x472 : S_twin_Room) (v_c473 : S_twin_Room) : Option (Bool) :=
  if 0 ≤ v_c473.fOrder then
   if v_x472.fAt < (wi .i64 (v_c473.fAt + (shlI .i64 1 v_c473.fOrder))) then
    if 0 ≤ v_x472.fOrder then
     some (decide (v_c473.fAt < (wi .i64 (v_x472.fAt + (shlI .i64 1 v_x472.fOrder)))))
    else none
   else
    some false
  else none
theorem G_twin_apart_1_ok (n : Nat) (v_x472 : S_twin_Room) (v_c473 : S_twin_Room) (r : Bool) (h : G_twin_apart_1 n v_x472 v_c473 = some r) : Ret Try.prog 111 [eS_twin_Room v_x472, .iptr [.v (.int .i64 v_c473.fAt), .v (.int .i64 v_c473.fOrder)] 0] (eB r) := by
  refine ret_run (n := 24) (fn := Try.f111) (c := bodyOf Try.f111) (by kernel_rfl) (by kernel_rfl) (by kernel_rfl) (by kernel_rfl) ?_
  have hF : KC 24 (FinR Try.prog Try.f111 (eB r)) := FinR.kc' (by kernel_rfl)
  unfold G_twin_apart_1 at h
  by_cases h395 : 0 ≤ v_c473.fOrder
  · rw [if_pos h395] at h
    by_cases h396 : v_x472.fAt < (wi .i64 (v_c473.fAt + (shlI .i64 1 v_c473.fOrder)))
    · rw [if_pos h396] at h
      by_cases h397 : 0 ≤ v_x472.fOrder
      · rw [if_pos h397] at h
        obtain rfl := Option.some.inj h
        exact pend_sound TTok mix 5 (hs := [.c, .c, .c, .t true, .c, .c, .c, .c, .c, .c, .c, .c, .c, .c, .c]) (by kernel_rfl) (by kernel_rfl) (by kernel_rfl) (.cons h395 (.cons (dt h396) (.cons h397 .nil)))
      · rw [if_neg h397] at h; cases h
    · rw [if_neg h396] at h
      obtain rfl := Option.some.inj h
      exact pend_sound TTok mix 5 (hs := [.c, .c, .c, .t false, .c, .c, .c, .c, .c, .c, .c, .c]) (by kernel_rfl) (by kernel_rfl) (by kernel_rfl) (.cons h395 (.cons (df h396) .nil))
  · rw [if_neg h395] at h; cases h
inductive G_twin_apart_C1_R where
  | x0 (v_x478 : Bool)
def G_twin_apart_C1_ex : G_twin_apart_C1_R → Ex
  | .x0 _ => .normal
def G_twin_apart_C1_st (v_t447 : S_twin_Twin) (v_r448 : S_twin_Room) : G_twin_apart_C1_R → PS
  | .x0 v_x478 => ⟨[dd, dd, dd, dd, .d (.v (.bool v_x478)), dd, dd, dd, dd, dd, dd, dd, dd, dd, dd, dd, dd, dd, dd, dd, dd, dd, dd, dd, dd, dd, dd, dd, dd, dd, dd, dd, dd, dd, dd, dd, dd, dd, dd, dd, dd, dd, dd, dd, dd, dd, dd, dd, dd, dd], []⟩
def G_twin_apart_C1_hd (v_t447 : S_twin_Twin) (v_r448 : S_twin_Room)  : PS := ⟨[dd, dd, .ref 0 0, .ref 1 0, dd, .clo 111 [.ref 1 0], dd, dd, dd, dd, dd, dd, dd, dd, dd, dd, dd, dd, dd, dd, dd, dd, dd, dd, dd, dd, dd, dd, dd, dd, dd, dd, dd, dd, dd, dd, dd, dd, dd, dd, dd, dd, dd, dd, dd, dd, dd, dd, dd, dd], [.box [.d (.v (.int .i64 v_t447.fOrder)), .d (.sl (v_t447.fFree.map eS_twin_Room))], .box [.d (.v (.int .i64 v_r448.fAt)), .d (.v (.int .i64 v_r448.fOrder))]]⟩
def G_twin_apart_C1 (n : Nat) (v_t447 : S_twin_Twin) (v_r448 : S_twin_Room) : Option G_twin_apart_C1_R :=
  if v_r448.fOrder ≥ 0 then
   if v_r448.fOrder ≤ v_t447.fOrder then
    if v_r448.fAt ≥ 0 then
     if 0 ≤ v_t447.fOrder then
      if 0 ≤ v_r448.fOrder then
       if v_r448.fAt ≤ (wi .i64 ((shlI .i64 1 v_t447.fOrder) - (shlI .i64 1 v_r448.fOrder))) then
        if 0 ≤ v_r448.fOrder then
         if (shlI .i64 1 v_r448.fOrder) ≠ 0 then
          if (remI v_r448.fAt (shlI .i64 1 v_r448.fOrder)) = 0 then
           (G_slices_ContainsFunc_twin_Room_twin_Room n v_t447.fFree (fun (y0 : S_twin_Room) => G_twin_apart_1 n y0 v_r448)).bind fun (v_r477 : (Bool)) =>
           some (.x0 (!v_r477))
          else
           some (.x0 false)
         else none
        else none
       else
        some (.x0 false)
      else none
     else none
    else
     some (.x0 false)
   else
    some (.x0 false)
  else
   some (.x0 false)
theorem G_twin_apart_C1_ok {Fi : Ex → PS → Prop} (hF : KC 50 Fi) (ks : List Fr) (n : Nat) (v_t447 : S_twin_Twin) (v_r448 : S_twin_Room)  (o : G_twin_apart_C1_R) (h : G_twin_apart_C1 n v_t447 v_r448 = some o) (q : RunE Try.prog 50 Fi ks (G_twin_apart_C1_ex o) (G_twin_apart_C1_st v_t447 v_r448 o)) : RunE Try.prog 50 Fi (.s (cL (cR (cR (bodyOf Try.f88)))) :: ks) .normal (G_twin_apart_C1_hd v_t447 v_r448) := by
  unfold G_twin_apart_C1 at h
  by_cases h399 : v_r448.fOrder ≥ 0
  · rw [if_pos h399] at h
    by_cases h400 : v_r448.fOrder ≤ v_t447.fOrder
    · rw [if_pos h400] at h
      by_cases h401 : v_r448.fAt ≥ 0
      · rw [if_pos h401] at h
        by_cases h402 : 0 ≤ v_t447.fOrder
        · rw [if_pos h402] at h
          by_cases h403 : 0 ≤ v_r448.fOrder
          · rw [if_pos h403] at h
            by_cases h404 : v_r448.fAt ≤ (wi .i64 ((shlI .i64 1 v_t447.fOrder) - (shlI .i64 1 v_r448.fOrder)))
            · rw [if_pos h404] at h
              by_cases h405 : 0 ≤ v_r448.fOrder
              · rw [if_pos h405] at h
                by_cases h406 : (shlI .i64 1 v_r448.fOrder) ≠ 0
                · rw [if_pos h406] at h
                  by_cases h407 : (remI v_r448.fAt (shlI .i64 1 v_r448.fOrder)) = 0
                  · rw [if_pos h407] at h
                    obtain ⟨v_r477, h408, h⟩ := bind_some h
                    cases h
                    exact pkk_sound TTok mix hF 1 (hs := [.c, .t true, .c, .c, .c, .c, .c, .c, .t true, .c, .c, .c, .t true, .c, .c, .c, .c, .c, .c, .c, .c, .c, .c, .c, .c, .t true, .c, .c, .c, .c, .c, .c, .c, .c, .t true, .c, .c, .c, .c, .c, .r (eB v_r477), .c]) (ts := []) (s := []) (l := [4]) (by kernel_rfl) (by kernel_rfl) (.cons (dt h399) (.cons (dt h400) (.cons (dt h401) (.cons h402 (.cons h403 (.cons (dt h404) (.cons h405 (.cons h406 (.cons (bt h407) (.cons (G_slices_ContainsFunc_twin_Room_twin_Room_ok n v_t447.fFree (fun (y0 : S_twin_Room) => G_twin_apart_1 n y0 v_r448) 111 [.iptr [.v (.int .i64 v_r448.fAt), .v (.int .i64 v_r448.fOrder)] 0] (fun y0 r h => G_twin_apart_1_ok n y0 v_r448 r h) _ h408) .nil)))))))))) q
                  · rw [if_neg h407] at h
                    cases h
                    exact pkk_sound TTok mix hF 1 (hs := [.c, .t true, .c, .c, .c, .c, .c, .c, .t true, .c, .c, .c, .t true, .c, .c, .c, .c, .c, .c, .c, .c, .c, .c, .c, .c, .t true, .c, .c, .c, .c, .c, .c, .c, .c, .t false, .c, .c, .c, .c]) (ts := []) (s := []) (l := [4]) (by kernel_rfl) (by kernel_rfl) (.cons (dt h399) (.cons (dt h400) (.cons (dt h401) (.cons h402 (.cons h403 (.cons (dt h404) (.cons h405 (.cons h406 (.cons (bf h407) .nil))))))))) q
                · rw [if_neg h406] at h; cases h
              · rw [if_neg h405] at h; cases h
            · rw [if_neg h404] at h
              cases h
              exact pkk_sound TTok mix hF 1 (hs := [.c, .t true, .c, .c, .c, .c, .c, .c, .t true, .c, .c, .c, .t true, .c, .c, .c, .c, .c, .c, .c, .c, .c, .c, .c, .c, .t false, .c, .c, .c, .c, .c, .c, .c, .c, .c, .c, .c]) (ts := []) (s := []) (l := [4]) (by kernel_rfl) (by kernel_rfl) (.cons (dt h399) (.cons (dt h400) (.cons (dt h401) (.cons h402 (.cons h403 (.cons (df h404) .nil)))))) q
          · rw [if_neg h403] at h; cases h
        · rw [if_neg h402] at h; cases h
      · rw [if_neg h401] at h
        cases h
        exact pkk_sound TTok mix hF 1 (hs := [.c, .t true, .c, .c, .c, .c, .c, .c, .t true, .c, .c, .c, .t false, .c, .c, .c, .c, .c, .c, .c, .c, .c, .c, .c, .c, .c, .c, .c, .c, .c, .c, .c, .c, .c]) (ts := []) (s := []) (l := [4]) (by kernel_rfl) (by kernel_rfl) (.cons (dt h399) (.cons (dt h400) (.cons (df h401) .nil))) q
    · rw [if_neg h400] at h
      cases h
      exact pkk_sound TTok mix hF 1 (hs := [.c, .t true, .c, .c, .c, .c, .c, .c, .t false, .c, .c, .c, .c, .c, .c, .c, .c, .c, .c, .c, .c, .c, .c, .c, .c, .c, .c, .c, .c, .c, .c, .c, .c]) (ts := []) (s := []) (l := [4]) (by kernel_rfl) (by kernel_rfl) (.cons (dt h399) (.cons (df h400) .nil)) q
  · rw [if_neg h399] at h
    cases h
    exact pkk_sound TTok mix hF 1 (hs := [.c, .t false, .c, .c, .c, .c, .c, .c, .c, .c, .c, .c, .c, .c, .c, .c, .c, .c, .c, .c, .c, .c, .c, .c, .c, .c, .c, .c, .c, .c, .c]) (ts := []) (s := []) (l := [4]) (by kernel_rfl) (by kernel_rfl) (.cons (df h399) .nil) q
/- ringhall/twin.apart -/
def G_twin_apart (n : Nat) (v_t447 : S_twin_Twin) (v_r448 : S_twin_Room) : Option (Bool) :=
  (G_twin_apart_C1 n v_t447 v_r448).bind fun v_o484 => match v_o484 with
  | .x0 v_z485 =>
    some v_z485
theorem G_twin_apart_ok (n : Nat) (v_t447 : S_twin_Twin) (v_r448 : S_twin_Room) (r : Bool) (h : G_twin_apart n v_t447 v_r448 = some r) : Ret Try.prog 88 [eS_twin_Twin v_t447, eS_twin_Room v_r448] (eB r) := by
  refine ret_run (n := 50) (fn := Try.f88) (c := bodyOf Try.f88) (by kernel_rfl) (by kernel_rfl) (by kernel_rfl) (by kernel_rfl) ?_
  have hF : KC 50 (FinR Try.prog Try.f88 (eB r)) := FinR.kc' (by kernel_rfl)
  unfold G_twin_apart at h
  obtain ⟨v_o484, h409, h⟩ := bind_some h
  refine pkk_sound TTok mix hF 5 (hs := []) (ts := []) (s := [0, 5]) (l := [2, 3, 5]) (by kernel_rfl) (by kernel_rfl) .nil (G_twin_apart_C1_ok hF (.s (cR (cR (cR (bodyOf Try.f88)))) :: []) n v_t447 v_r448 _ h409 ?_)
  cases v_o484 with
  | x0 v_z485 =>
    try dsimp only at h
    obtain rfl := Option.some.inj h
    exact pend_sound TTok mix 1 (hs := []) (by kernel_rfl) (by kernel_rfl) (by kernel_rfl) .nil
/- ringhall/twin.Give$1 -/
def G_twin_Give_1 (n : Nat) (v_x518 : S_twin_Room) (v_c519 : S_twin_Room) : Option (Bool) :=
  (G_twin_buddies n v_x518 v_c519).bind fun (v_r520 : (Bool)) =>
  some v_r520
theorem G_twin_Give_1_ok (n : Nat) (v_x518 : S_twin_Room) (v_c519 : S_twin_Room) (r : Bool) (h : G_twin_Give_1 n v_x518 v_c519 = some r) : Ret Try.prog 90 [eS_twin_Room v_x518, .iptr [.v (.int .i64 v_c519.fAt), .v (.int .i64 v_c519.fOrder)] 0] (eB r) := by
  refine ret_run (n := 7) (fn := Try.f90) (c := bodyOf Try.f90) (by kernel_rfl) (by kernel_rfl) (by kernel_rfl) (by kernel_rfl) ?_
  have hF : KC 7 (FinR Try.prog Try.f90 (eB r)) := FinR.kc' (by kernel_rfl)
  unfold G_twin_Give_1 at h
  obtain ⟨v_r520, h415, h⟩ := bind_some h
  obtain rfl := Option.some.inj h
  exact pend_sound TTok mix 5 (hs := [.c, .r (eB v_r520)]) (by kernel_rfl) (by kernel_rfl) (by kernel_rfl) (.cons (G_twin_buddies_ok n v_x518 v_c519 _ h415) .nil)
/- slices.Delete[[]ringhall/twin.Room,ringhall/twin.Room] -/
def G_slices_Delete_twin_Room_twin_Room_h (n : Nat) (v_s523 : (List S_twin_Room)) (v_i524 : Int) (v_j525 : Int) : Option ((List S_twin_Room)) :=
  if ((0 : Int) ≤ v_i524 ∧ v_i524 ≤ v_j525 ∧ v_j525 ≤ (v_s523.length : Int) ∧ (v_s523.length : Int) ≤ (v_s523.length : Int)) then
   if v_i524 = v_j525 then
    some v_s523
   else
    if ((0 : Int) ≤ v_i524 ∧ v_i524 ≤ (v_s523.length : Int)) then
     if ((0 : Int) ≤ v_j525 ∧ v_j525 ≤ (v_s523.length : Int)) then
      if v_i524.toNat ≤ v_j525.toNat ∧ v_j525.toNat ≤ v_s523.length ∧ v_s523.length ≤ v_s523.length then
       if ((0 : Int) ≤ (((v_i524.toNat + (v_s523.length - v_j525.toNat)) : Nat) : Int) ∧ (((v_i524.toNat + (v_s523.length - v_j525.toNat)) : Nat) : Int) ≤ (v_s523.length : Int) ∧ (v_s523.length : Int) ≤ ((delR v_s523 v_i524.toNat v_j525.toNat v_s523.length).length : Int)) then
        if ((v_i524.toNat + (v_s523.length - v_j525.toNat)) : Nat) ≤ v_s523.length ∧ v_s523.length ≤ (delR v_s523 v_i524.toNat v_j525.toNat v_s523.length).length then
         if (v_i524.toNat + (v_s523.length - v_j525.toNat)) ≤ (clrR (delR v_s523 v_i524.toNat v_j525.toNat v_s523.length) ((v_i524.toNat + (v_s523.length - v_j525.toNat)) : Nat) v_s523.length (S_twin_Room.mk 0 0)).length then
          some ((clrR (delR v_s523 v_i524.toNat v_j525.toNat v_s523.length) ((v_i524.toNat + (v_s523.length - v_j525.toNat)) : Nat) v_s523.length (S_twin_Room.mk 0 0)).take (v_i524.toNat + (v_s523.length - v_j525.toNat)))
         else none
        else none
       else none
      else none
     else none
    else none
  else none
theorem G_slices_Delete_twin_Room_twin_Room_h_ok (n : Nat) (v_s523 : (List S_twin_Room)) (v_i524 : Int) (v_j525 : Int) (r : (List S_twin_Room)) (h : G_slices_Delete_twin_Room_twin_Room_h n v_s523 v_i524 v_j525 = some r) : RetH Try.prog 92 [.srf 0, .d ((eI .i64) v_i524), .d ((eI .i64) v_j525)] [.row 112 2 (v_s523.map eS_twin_Room)] (.srf 1) [.none, .row 112 2 (r.map eS_twin_Room)] := by
  refine retH_run (n := 33) (fn := Try.f92) (c := bodyOf Try.f92) (by kernel_rfl) (by kernel_rfl) (by kernel_rfl) (by kernel_rfl) ?_
  have hF : KC 33 (FinH Try.prog Try.f92 [.row 112 2 (v_s523.map eS_twin_Room)] (.srf 1) [.none, .row 112 2 (r.map eS_twin_Room)]) := FinH.kc' (by kernel_rfl)
  unfold G_slices_Delete_twin_Room_twin_Room_h at h
  by_cases h420 : ((0 : Int) ≤ v_i524 ∧ v_i524 ≤ v_j525 ∧ v_j525 ≤ (v_s523.length : Int) ∧ (v_s523.length : Int) ≤ (v_s523.length : Int))
  · rw [if_pos h420] at h
    by_cases h421 : v_i524 = v_j525
    · rw [if_pos h421] at h
      obtain rfl := Option.some.inj h
      exact pendH_sound TTok mix 13 (hs := [.u (.d (.v (.int .i64 (v_s523.length : Int)))), .e 32 [0] (dd) [], .t true, .dl 4, .mv 0]) [0, 62] (by kernel_rfl) (by kernel_rfl) (by kernel_rfl) (.cons (len_ob (f := eS_twin_Room) (l := v_s523)) (.cons (xs111 (P := Try.prog) (T := TT) (f := eS_twin_Room) (t := 101) (e := 112) (s := 2) (l := 0) (L := v_s523) (x := (.tmp 8)) (lo := (.tmp 9)) (hi := (.tmp 10)) (mx := (.tmp 12)) (a := v_i524) (ka := .i64) (b := v_j525) (kb := .i64) (c := (v_s523.length : Int)) (kc := .i64) (by kernel_rfl) h420) (.cons (bt h421) .nil)))
    · rw [if_neg h421] at h
      by_cases h422 : ((0 : Int) ≤ v_i524 ∧ v_i524 ≤ (v_s523.length : Int))
      · rw [if_pos h422] at h
        by_cases h423 : ((0 : Int) ≤ v_j525 ∧ v_j525 ≤ (v_s523.length : Int))
        · rw [if_pos h423] at h
          by_cases h424 : v_i524.toNat ≤ v_j525.toNat ∧ v_j525.toNat ≤ v_s523.length ∧ v_s523.length ≤ v_s523.length
          · rw [if_pos h424] at h
            by_cases h425 : ((0 : Int) ≤ (((v_i524.toNat + (v_s523.length - v_j525.toNat)) : Nat) : Int) ∧ (((v_i524.toNat + (v_s523.length - v_j525.toNat)) : Nat) : Int) ≤ (v_s523.length : Int) ∧ (v_s523.length : Int) ≤ ((delR v_s523 v_i524.toNat v_j525.toNat v_s523.length).length : Int))
            · rw [if_pos h425] at h
              by_cases h426 : ((v_i524.toNat + (v_s523.length - v_j525.toNat)) : Nat) ≤ v_s523.length ∧ v_s523.length ≤ (delR v_s523 v_i524.toNat v_j525.toNat v_s523.length).length
              · rw [if_pos h426] at h
                by_cases h427 : (v_i524.toNat + (v_s523.length - v_j525.toNat)) ≤ (clrR (delR v_s523 v_i524.toNat v_j525.toNat v_s523.length) ((v_i524.toNat + (v_s523.length - v_j525.toNat)) : Nat) v_s523.length (S_twin_Room.mk 0 0)).length
                · rw [if_pos h427] at h
                  obtain rfl := Option.some.inj h
                  exact pendH_sound TTok mix 18 (hs := [.u (.d (.v (.int .i64 (v_s523.length : Int)))), .e 32 [0] (dd) [], .t false, .u (.d (.v (.int .i64 (v_s523.length : Int)))), .e 77 [0] (.ssl 0 0 v_i524.toNat 2) [], .e 92 [0] (.ssl 0 v_j525.toNat v_s523.length 2) [], .e 97 [0] (.ssl 0 0 (v_i524.toNat + (v_s523.length - v_j525.toNat)) 2) [(0, .row 112 2 ((delR v_s523 v_i524.toNat v_j525.toNat v_s523.length).map eS_twin_Room))], .e 117 [] (.d (.v (.int .i64 (((v_i524.toNat + (v_s523.length - v_j525.toNat)) : Nat) : Int)))) [], .e 127 [0] (.ssl 0 ((v_i524.toNat + (v_s523.length - v_j525.toNat)) : Nat) v_s523.length 2) [], .e 132 [0] (dd) [(0, .row 112 2 ((clrR (delR v_s523 v_i524.toNat v_j525.toNat v_s523.length) ((v_i524.toNat + (v_s523.length - v_j525.toNat)) : Nat) v_s523.length (S_twin_Room.mk 0 0)).map eS_twin_Room))], .e 137 [0, 137] (.srf 137) [(0, .none), (137, .row 112 2 (((clrR (delR v_s523 v_i524.toNat v_j525.toNat v_s523.length) ((v_i524.toNat + (v_s523.length - v_j525.toNat)) : Nat) v_s523.length (S_twin_Room.mk 0 0)).take (v_i524.toNat + (v_s523.length - v_j525.toNat))).map eS_twin_Room))]]) [0, 137] (by kernel_rfl) (by kernel_rfl) (by kernel_rfl) (.cons (len_ob (f := eS_twin_Room) (l := v_s523)) (.cons (xs111 (P := Try.prog) (T := TT) (f := eS_twin_Room) (t := 101) (e := 112) (s := 2) (l := 0) (L := v_s523) (x := (.tmp 8)) (lo := (.tmp 9)) (hi := (.tmp 10)) (mx := (.tmp 12)) (a := v_i524) (ka := .i64) (b := v_j525) (kb := .i64) (c := (v_s523.length : Int)) (kc := .i64) (by kernel_rfl) h420) (.cons (bf h421) (.cons (len_ob (f := eS_twin_Room) (l := v_s523)) (.cons (xs01 (P := Try.prog) (T := TT) (f := eS_twin_Room) (t := 101) (e := 112) (s := 2) (l := 0) (L := v_s523) (x := (.tmp 20)) (hi := (.tmp 21)) (b := v_i524) (kb := .i64) (by kernel_rfl) h422) (.cons (xs10 (P := Try.prog) (T := TT) (f := eS_twin_Room) (t := 101) (e := 112) (s := 2) (l := 0) (L := v_s523) (x := (.tmp 23)) (lo := (.tmp 24)) (a := v_j525) (ka := .i64) (by kernel_rfl) h423) (.cons (xapp (ti := ⟨2, 16, .st [(0, 3), (1, 3)], [.i .i64, .i .i64]⟩) (P := Try.prog) (T := TT) (f := eS_twin_Room) (t := 101) (e := 112) (s := 2) (l := 0) (i := v_i524.toNat) (j := v_j525.toNat) (q := v_s523.length) (L := v_s523) (x := (.tmp 22)) (y := (.tmp 25)) (by kernel_rfl) (by kernel_rfl) h424) (.cons (xlen (P := Try.prog) (T := TT) (t := 101) (e := 112) (s := 2) (l := 0) (i := 0) (j := (v_i524.toNat + (v_s523.length - v_j525.toNat))) (x := (.tmp 28)) (by kernel_rfl)) (.cons (xt11 (P := Try.prog) (T := TT) (f := eS_twin_Room) (t := 101) (e := 112) (s := 2) (l := 0) (L := (delR v_s523 v_i524.toNat v_j525.toNat v_s523.length)) (x := (.tmp 27)) (lo := (.tmp 29)) (hi := (.tmp 30)) (a := (((v_i524.toNat + (v_s523.length - v_j525.toNat)) : Nat) : Int)) (ka := .i64) (b := (v_s523.length : Int)) (kb := .i64) (i := (v_i524.toNat + (v_s523.length - v_j525.toNat))) (by kernel_rfl) h425) (.cons (xclr (ti := ⟨2, 16, .st [(0, 3), (1, 3)], [.i .i64, .i .i64]⟩) (P := Try.prog) (T := TT) (f := eS_twin_Room) (t := 101) (e := 112) (s := 2) (l := 0) (i := ((v_i524.toNat + (v_s523.length - v_j525.toNat)) : Nat)) (j := v_s523.length) (z := (S_twin_Room.mk 0 0)) (L := (delR v_s523 v_i524.toNat v_j525.toNat v_s523.length)) (x := (.tmp 31)) (p := .agg [.v (.int .i64 0), .v (.int .i64 0)]) (by kernel_rfl) (by kernel_rfl) (by kernel_rfl) (by kernel_rfl) (by decide) rfl h426) (.cons (xmv (P := Try.prog) (T := TT) (f := eS_twin_Room) (e := 112) (s := 2) (l := 0) (nl := 137) (L := (clrR (delR v_s523 v_i524.toNat v_j525.toNat v_s523.length) ((v_i524.toNat + (v_s523.length - v_j525.toNat)) : Nat) v_s523.length (S_twin_Room.mk 0 0))) (i := (v_i524.toNat + (v_s523.length - v_j525.toNat))) (x := (.tmp 0)) h427) .nil)))))))))))
                · rw [if_neg h427] at h; cases h
              · rw [if_neg h426] at h; cases h
            · rw [if_neg h425] at h; cases h
          · rw [if_neg h424] at h; cases h
        · rw [if_neg h423] at h; cases h
      · rw [if_neg h422] at h; cases h
  · rw [if_neg h420] at h; cases h
/- slices.Insert[[]ringhall/twin.Room,ringhall/twin.Room] -/
def G_slices_Insert_twin_Room_twin_Room_hC (n : Nat) (v_C581 : Nat) (v_s580 : (List S_twin_Room)) (v_i582 : Int) (v_v583 : (List S_twin_Room)) : Option ((List S_twin_Room)) :=
  if (0 ≤ v_i582 ∧ v_i582 ≤ (v_s580.length : Int)) ∧ v_s580.length ≤ v_C581 then
   if (v_v583.length : Int) = 0 then
    some v_s580
   else
    if v_i582 = (v_s580.length : Int) then
     (app 16 v_s580 v_v583).bind fun (v_a585 : (List S_twin_Room)) =>
     some v_a585
    else
     if (wi .i64 ((v_s580.length : Int) + (v_v583.length : Int))) > (v_C581 : Int) then
      if (0 ≤ v_i582 ∧ v_i582 ≤ (v_s580.length : Int)) ∧ v_s580.length ≤ v_C581 then
       if (wi .i64 ((wi .i64 ((v_s580.length : Int) + (v_v583.length : Int))) - v_i582)) = (((v_s580.length + v_v583.length - v_i582.toNat) : Nat) : Int) ∧ v_i582.toNat ≤ v_s580.length ∧ 0 < (v_s580.length + v_v583.length - v_i582.toNat) ∧ v_C581 < v_i582.toNat + (v_s580.length + v_v583.length - v_i582.toNat) ∧ v_i582.toNat + (v_s580.length + v_v583.length - v_i582.toNat) ≤ maxLen ∧ (v_i582.toNat + (v_s580.length + v_v583.length - v_i582.toNat)) * 16 ≤ 140737488355328 then
        if ((0 : Int) ≤ v_i582 ∧ v_i582 ≤ ((v_s580.take v_i582.toNat ++ List.replicate (v_s580.length + v_v583.length - v_i582.toNat) (S_twin_Room.mk 0 0)).length : Int)) then
         if (v_s580.take v_i582.toNat ++ List.replicate (v_s580.length + v_v583.length - v_i582.toNat) (S_twin_Room.mk 0 0)).length ≤ (v_s580.take v_i582.toNat ++ List.replicate (v_s580.length + v_v583.length - v_i582.toNat) (S_twin_Room.mk 0 0)).length then
          if ((0 : Int) ≤ (wi .i64 (v_i582 + (v_v583.length : Int))) ∧ (wi .i64 (v_i582 + (v_v583.length : Int))) ≤ ((cpyR (v_s580.take v_i582.toNat ++ List.replicate (v_s580.length + v_v583.length - v_i582.toNat) (S_twin_Room.mk 0 0)) v_i582.toNat ((v_s580.take v_i582.toNat ++ List.replicate (v_s580.length + v_v583.length - v_i582.toNat) (S_twin_Room.mk 0 0)).length) v_v583).length : Int)) then
           if (0 ≤ v_i582 ∧ v_i582 ≤ (v_s580.length : Int)) ∧ v_s580.length ≤ v_C581 then
            if (cpyR (v_s580.take v_i582.toNat ++ List.replicate (v_s580.length + v_v583.length - v_i582.toNat) (S_twin_Room.mk 0 0)) v_i582.toNat ((v_s580.take v_i582.toNat ++ List.replicate (v_s580.length + v_v583.length - v_i582.toNat) (S_twin_Room.mk 0 0)).length) v_v583).length ≤ (cpyR (v_s580.take v_i582.toNat ++ List.replicate (v_s580.length + v_v583.length - v_i582.toNat) (S_twin_Room.mk 0 0)) v_i582.toNat ((v_s580.take v_i582.toNat ++ List.replicate (v_s580.length + v_v583.length - v_i582.toNat) (S_twin_Room.mk 0 0)).length) v_v583).length ∧ v_s580.length ≤ v_s580.length then
             some (cpyR (cpyR (v_s580.take v_i582.toNat ++ List.replicate (v_s580.length + v_v583.length - v_i582.toNat) (S_twin_Room.mk 0 0)) v_i582.toNat ((v_s580.take v_i582.toNat ++ List.replicate (v_s580.length + v_v583.length - v_i582.toNat) (S_twin_Room.mk 0 0)).length) v_v583) ((wi .i64 (v_i582 + (v_v583.length : Int))).toNat) ((cpyR (v_s580.take v_i582.toNat ++ List.replicate (v_s580.length + v_v583.length - v_i582.toNat) (S_twin_Room.mk 0 0)) v_i582.toNat ((v_s580.take v_i582.toNat ++ List.replicate (v_s580.length + v_v583.length - v_i582.toNat) (S_twin_Room.mk 0 0)).length) v_v583).length) ((v_s580.take v_s580.length).drop v_i582.toNat))
            else none
           else none
          else none
         else none
        else none
       else none
      else none
     else
      if 0 < v_v583.length ∧ (v_s580.length + v_v583.length) ≤ v_C581 ∧ (wi .i64 ((v_s580.length : Int) + (v_v583.length : Int))) = (((v_s580.length + v_v583.length) : Nat) : Int) then
       if (wi .i64 (v_i582 + (v_v583.length : Int))) = (((v_i582.toNat + v_v583.length) : Nat) : Int) ∧ (v_i582.toNat + v_v583.length) ≤ (v_s580.length + v_v583.length) then
        if (wi .i64 (v_i582 + (v_v583.length : Int))) = (((v_i582.toNat + v_v583.length) : Nat) : Int) ∧ (v_i582.toNat + v_v583.length) ≤ (v_s580.length + v_v583.length) then
         if 0 ≤ v_i582 ∧ v_i582 ≤ (((v_s580.length + v_v583.length) : Nat) : Int) then
          if 0 ≤ v_i582 ∧ v_i582 ≤ (((v_s580.length + v_v583.length) : Nat) : Int) then
           some ((v_s580.take v_i582.toNat) ++ v_v583 ++ (v_s580.drop v_i582.toNat))
          else none
         else none
        else none
       else none
      else none
  else none
theorem G_slices_Insert_twin_Room_twin_Room_hC_ok (n : Nat) (v_C581 : Nat) (v_s580 : (List S_twin_Room)) (v_i582 : Int) (v_v583 : (List S_twin_Room)) (r : (List S_twin_Room)) (h : G_slices_Insert_twin_Room_twin_Room_hC n v_C581 v_s580 v_i582 v_v583 = some r) : RetH Try.prog 93 [.srf 0, .d ((eI .i64) v_i582), .d ((eL eS_twin_Room) v_v583)] [.cu (rowC 112 2 v_C581 (v_s580.map eS_twin_Room)) []] (.srf 1) [.none, .row 112 2 (r.map eS_twin_Room)] := by
  refine retH_run (n := 95) (fn := Try.f93) (c := bodyOf Try.f93) (by kernel_rfl) (by kernel_rfl) (by kernel_rfl) (by kernel_rfl) ?_
  have hF : KC 95 (FinH Try.prog Try.f93 [.cu (rowC 112 2 v_C581 (v_s580.map eS_twin_Room)) []] (.srf 1) [.none, .row 112 2 (r.map eS_twin_Room)]) := FinH.kc' (by kernel_rfl)
  unfold G_slices_Insert_twin_Room_twin_Room_hC at h
  by_cases h454 : (0 ≤ v_i582 ∧ v_i582 ≤ (v_s580.length : Int)) ∧ v_s580.length ≤ v_C581
  · rw [if_pos h454] at h
    by_cases h455 : (v_v583.length : Int) = 0
    · rw [if_pos h455] at h
      obtain rfl := Option.some.inj h
      exact pendH_sound TTok mix 14 (hs := [.e 17 [0] (.ssl 0 v_i582.toNat v_s580.length 2) [], .u (.d (.v (.int .i64 (v_v583.length : Int)))), .t true, .e 47 [0, 47] (.srf 47) [(0, .none), (47, .row 112 2 (v_s580.map eS_twin_Room))]]) [0, 47] (by kernel_rfl) (by kernel_rfl) (by kernel_rfl) (.cons (ext_same (yc10 (P := Try.prog) (T := TT) (f := eS_twin_Room) (t := 101) (e := 112) (s := 2) (l := 0) (L := v_s580) (x := (.tmp 10)) (C := v_C581) (lo := (.tmp 11)) (A := v_i582) (ka := .i64) (by kernel_rfl) h454.1 h454.2)) (.cons (len_ob (f := eS_twin_Room) (l := v_v583)) (.cons (bt h455) (.cons (ymv (L := v_s580) (C := v_C581) (P := Try.prog) (T := TT) (f := eS_twin_Room) (e := 112) (s := 2) (l := 0) (nl := 47) (x := (.tmp 0)) (by decide)) .nil))))
    · rw [if_neg h455] at h
      by_cases h458 : v_i582 = (v_s580.length : Int)
      · rw [if_pos h458] at h
        obtain ⟨v_a585, h459, h⟩ := bind_some h
        obtain rfl := Option.some.inj h
        exact pendH_sound TTok mix 21 (hs := [.e 17 [0] (.ssl 0 v_i582.toNat v_s580.length 2) [], .u (.d (.v (.int .i64 (v_v583.length : Int)))), .t false, .e 52 [0] (.d (.v (.int .i64 (v_s580.length : Int)))) [], .t true, .e 87 [0, 87] (.srf 87) [(0, .none), (87, .row 112 2 (v_a585.map eS_twin_Room))]]) [0, 87] (by kernel_rfl) (by kernel_rfl) (by kernel_rfl) (.cons (ext_same (yc10 (P := Try.prog) (T := TT) (f := eS_twin_Room) (t := 101) (e := 112) (s := 2) (l := 0) (L := v_s580) (x := (.tmp 10)) (C := v_C581) (lo := (.tmp 11)) (A := v_i582) (ka := .i64) (by kernel_rfl) h454.1 h454.2)) (.cons (len_ob (f := eS_twin_Room) (l := v_v583)) (.cons (bf h455) (.cons (ylen (P := Try.prog) (T := TT) (f := eS_twin_Room) (t := 101) (e := 112) (s := 2) (l := 0) (L := v_s580) (C := v_C581) (x := (.tmp 18)) (by kernel_rfl)) (.cons (bt h458) (.cons (yapp (P := Try.prog) (T := TT) (f := eS_twin_Room) (t := 101) (e := 112) (s := 2) (l := 0) (nl := 87) (C := v_C581) (x := (.tmp 23)) (y := (.tmp 24)) (ti := ⟨2, 16, .st [(0, 3), (1, 3)], [.i .i64, .i .i64]⟩) (by kernel_rfl) h459 (by kernel_rfl) (by kernel_rfl) (by decide) (fun _ => rfl) (by decide)) .nil))))))
      · rw [if_neg h458] at h
        by_cases h468 : (wi .i64 ((v_s580.length : Int) + (v_v583.length : Int))) > (v_C581 : Int)
        · rw [if_pos h468] at h
          by_cases h469 : (0 ≤ v_i582 ∧ v_i582 ≤ (v_s580.length : Int)) ∧ v_s580.length ≤ v_C581
          · rw [if_pos h469] at h
            by_cases h470 : (wi .i64 ((wi .i64 ((v_s580.length : Int) + (v_v583.length : Int))) - v_i582)) = (((v_s580.length + v_v583.length - v_i582.toNat) : Nat) : Int) ∧ v_i582.toNat ≤ v_s580.length ∧ 0 < (v_s580.length + v_v583.length - v_i582.toNat) ∧ v_C581 < v_i582.toNat + (v_s580.length + v_v583.length - v_i582.toNat) ∧ v_i582.toNat + (v_s580.length + v_v583.length - v_i582.toNat) ≤ maxLen ∧ (v_i582.toNat + (v_s580.length + v_v583.length - v_i582.toNat)) * 16 ≤ 140737488355328
            · rw [if_pos h470] at h
              by_cases h471 : ((0 : Int) ≤ v_i582 ∧ v_i582 ≤ ((v_s580.take v_i582.toNat ++ List.replicate (v_s580.length + v_v583.length - v_i582.toNat) (S_twin_Room.mk 0 0)).length : Int))
              · rw [if_pos h471] at h
                by_cases h472 : (v_s580.take v_i582.toNat ++ List.replicate (v_s580.length + v_v583.length - v_i582.toNat) (S_twin_Room.mk 0 0)).length ≤ (v_s580.take v_i582.toNat ++ List.replicate (v_s580.length + v_v583.length - v_i582.toNat) (S_twin_Room.mk 0 0)).length
                · rw [if_pos h472] at h
                  by_cases h473 : ((0 : Int) ≤ (wi .i64 (v_i582 + (v_v583.length : Int))) ∧ (wi .i64 (v_i582 + (v_v583.length : Int))) ≤ ((cpyR (v_s580.take v_i582.toNat ++ List.replicate (v_s580.length + v_v583.length - v_i582.toNat) (S_twin_Room.mk 0 0)) v_i582.toNat ((v_s580.take v_i582.toNat ++ List.replicate (v_s580.length + v_v583.length - v_i582.toNat) (S_twin_Room.mk 0 0)).length) v_v583).length : Int))
                  · rw [if_pos h473] at h
                    by_cases h474 : (0 ≤ v_i582 ∧ v_i582 ≤ (v_s580.length : Int)) ∧ v_s580.length ≤ v_C581
                    · rw [if_pos h474] at h
                      by_cases h475 : (cpyR (v_s580.take v_i582.toNat ++ List.replicate (v_s580.length + v_v583.length - v_i582.toNat) (S_twin_Room.mk 0 0)) v_i582.toNat ((v_s580.take v_i582.toNat ++ List.replicate (v_s580.length + v_v583.length - v_i582.toNat) (S_twin_Room.mk 0 0)).length) v_v583).length ≤ (cpyR (v_s580.take v_i582.toNat ++ List.replicate (v_s580.length + v_v583.length - v_i582.toNat) (S_twin_Room.mk 0 0)) v_i582.toNat ((v_s580.take v_i582.toNat ++ List.replicate (v_s580.length + v_v583.length - v_i582.toNat) (S_twin_Room.mk 0 0)).length) v_v583).length ∧ v_s580.length ≤ v_s580.length
                      · rw [if_pos h475] at h
                        obtain rfl := Option.some.inj h
                        exact pendH_sound TTok mix 32 (hs := [.e 17 [0] (.ssl 0 v_i582.toNat v_s580.length 2) [], .u (.d (.v (.int .i64 (v_v583.length : Int)))), .t false, .e 52 [0] (.d (.v (.int .i64 (v_s580.length : Int)))) [], .t false, .e 97 [0] (.d (.v (.int .i64 (v_C581 : Int)))) [], .t true, .e 117 [0] (.ssl 0 0 v_i582.toNat 2) [], .e 147 [0, 147] (.srf 147) [(147, .row 112 2 ((v_s580.take v_i582.toNat ++ List.replicate (v_s580.length + v_v583.length - v_i582.toNat) (S_twin_Room.mk 0 0)).map eS_twin_Room))], .e 167 [147] (.ssl 147 v_i582.toNat ((v_s580.take v_i582.toNat ++ List.replicate (v_s580.length + v_v583.length - v_i582.toNat) (S_twin_Room.mk 0 0)).length) 2) [], .e 177 [147] (.d (.v (.int .i64 ((Nat.min v_v583.length ((v_s580.take v_i582.toNat ++ List.replicate (v_s580.length + v_v583.length - v_i582.toNat) (S_twin_Room.mk 0 0)).length - v_i582.toNat) : Nat) : Int)))) [(147, .row 112 2 ((cpyR (v_s580.take v_i582.toNat ++ List.replicate (v_s580.length + v_v583.length - v_i582.toNat) (S_twin_Room.mk 0 0)) v_i582.toNat ((v_s580.take v_i582.toNat ++ List.replicate (v_s580.length + v_v583.length - v_i582.toNat) (S_twin_Room.mk 0 0)).length) v_v583).map eS_twin_Room))], .e 202 [147] (.ssl 147 ((wi .i64 (v_i582 + (v_v583.length : Int))).toNat) ((cpyR (v_s580.take v_i582.toNat ++ List.replicate (v_s580.length + v_v583.length - v_i582.toNat) (S_twin_Room.mk 0 0)) v_i582.toNat ((v_s580.take v_i582.toNat ++ List.replicate (v_s580.length + v_v583.length - v_i582.toNat) (S_twin_Room.mk 0 0)).length) v_v583).length) 2) [], .e 217 [0] (.ssl 0 v_i582.toNat v_s580.length 2) [], .e 222 [147, 0] (.d (.v (.int .i64 ((Nat.min ((v_s580.take v_s580.length).drop v_i582.toNat).length ((cpyR (v_s580.take v_i582.toNat ++ List.replicate (v_s580.length + v_v583.length - v_i582.toNat) (S_twin_Room.mk 0 0)) v_i582.toNat ((v_s580.take v_i582.toNat ++ List.replicate (v_s580.length + v_v583.length - v_i582.toNat) (S_twin_Room.mk 0 0)).length) v_v583).length - (wi .i64 (v_i582 + (v_v583.length : Int))).toNat) : Nat) : Int)))) [(147, .row 112 2 ((cpyR (cpyR (v_s580.take v_i582.toNat ++ List.replicate (v_s580.length + v_v583.length - v_i582.toNat) (S_twin_Room.mk 0 0)) v_i582.toNat ((v_s580.take v_i582.toNat ++ List.replicate (v_s580.length + v_v583.length - v_i582.toNat) (S_twin_Room.mk 0 0)).length) v_v583) ((wi .i64 (v_i582 + (v_v583.length : Int))).toNat) ((cpyR (v_s580.take v_i582.toNat ++ List.replicate (v_s580.length + v_v583.length - v_i582.toNat) (S_twin_Room.mk 0 0)) v_i582.toNat ((v_s580.take v_i582.toNat ++ List.replicate (v_s580.length + v_v583.length - v_i582.toNat) (S_twin_Room.mk 0 0)).length) v_v583).length) ((v_s580.take v_s580.length).drop v_i582.toNat)).map eS_twin_Room)), (0, .none)]]) [0, 147] (by kernel_rfl) (by kernel_rfl) (by kernel_rfl) (.cons (ext_same (yc10 (P := Try.prog) (T := TT) (f := eS_twin_Room) (t := 101) (e := 112) (s := 2) (l := 0) (L := v_s580) (x := (.tmp 10)) (C := v_C581) (lo := (.tmp 11)) (A := v_i582) (ka := .i64) (by kernel_rfl) h454.1 h454.2)) (.cons (len_ob (f := eS_twin_Room) (l := v_v583)) (.cons (bf h455) (.cons (ylen (P := Try.prog) (T := TT) (f := eS_twin_Room) (t := 101) (e := 112) (s := 2) (l := 0) (L := v_s580) (C := v_C581) (x := (.tmp 18)) (by kernel_rfl)) (.cons (bf h458) (.cons (ycap (P := Try.prog) (T := TT) (f := eS_twin_Room) (t := 101) (e := 112) (s := 2) (l := 0) (L := v_s580) (C := v_C581) (x := (.tmp 29)) (by kernel_rfl)) (.cons (dt h468) (.cons (ext_same (yc01 (P := Try.prog) (T := TT) (f := eS_twin_Room) (t := 101) (e := 112) (s := 2) (l := 0) (L := v_s580) (x := (.tmp 32)) (C := v_C581) (hi := (.tmp 33)) (B := v_i582) (kb := .i64) (by kernel_rfl) h469.1 h469.2)) (.cons (yapZ (P := Try.prog) (T := TT) (f := eS_twin_Room) (t := 101) (e := 112) (s := 2) (l := 0) (nl := 147) (C := v_C581) (i := v_i582.toNat) (k := (v_s580.length + v_v583.length - v_i582.toNat)) (L := v_s580) (x := (.tmp 34)) (y := (.tmp 39)) (ti := ⟨2, 16, .st [(0, 3), (1, 3)], [.i .i64, .i .i64]⟩) (tn := 3) (kn := .i64) (kq := .i64) (z := (S_twin_Room.mk 0 0)) (p := .agg [.v (.int .i64 0), .v (.int .i64 0)]) (B := (wi .i64 ((wi .i64 ((v_s580.length : Int) + (v_v583.length : Int))) - v_i582))) (by kernel_rfl) (by kernel_rfl) (by kernel_rfl) (by kernel_rfl) (by kernel_rfl) (by decide) rfl h470.1 h470.2.1 h470.2.2.1 h470.2.2.2.1 h470.2.2.2.2.1 h470.2.2.2.2.2 (by decide)) (.cons (xs10 (P := Try.prog) (T := TT) (f := eS_twin_Room) (t := 101) (e := 112) (s := 2) (l := 147) (L := (v_s580.take v_i582.toNat ++ List.replicate (v_s580.length + v_v583.length - v_i582.toNat) (S_twin_Room.mk 0 0))) (x := (.tmp 41)) (lo := (.tmp 42)) (a := v_i582) (ka := .i64) (by kernel_rfl) h471) (.cons (xcpD (P := Try.prog) (T := TT) (f := eS_twin_Room) (t := 101) (t' := 101) (e := 112) (s := 2) (l := 147) (x := (.tmp 43)) (y := (.tmp 44)) (ti := ⟨2, 16, .st [(0, 3), (1, 3)], [.i .i64, .i .i64]⟩) (L := (v_s580.take v_i582.toNat ++ List.replicate (v_s580.length + v_v583.length - v_i582.toNat) (S_twin_Room.mk 0 0))) (Y := v_v583) (i := v_i582.toNat) (j := (v_s580.take v_i582.toNat ++ List.replicate (v_s580.length + v_v583.length - v_i582.toNat) (S_twin_Room.mk 0 0)).length) (by kernel_rfl) (by kernel_rfl) h472 (fun _ => rfl)) (.cons (xs10 (P := Try.prog) (T := TT) (f := eS_twin_Room) (t := 101) (e := 112) (s := 2) (l := 147) (L := (cpyR (v_s580.take v_i582.toNat ++ List.replicate (v_s580.length + v_v583.length - v_i582.toNat) (S_twin_Room.mk 0 0)) v_i582.toNat ((v_s580.take v_i582.toNat ++ List.replicate (v_s580.length + v_v583.length - v_i582.toNat) (S_twin_Room.mk 0 0)).length) v_v583)) (x := (.tmp 46)) (lo := (.tmp 49)) (a := (wi .i64 (v_i582 + (v_v583.length : Int)))) (ka := .i64) (by kernel_rfl) h473) (.cons (ext_same (yc10 (P := Try.prog) (T := TT) (f := eS_twin_Room) (t := 101) (e := 112) (s := 2) (l := 0) (L := v_s580) (x := (.tmp 51)) (C := v_C581) (lo := (.tmp 52)) (A := v_i582) (ka := .i64) (by kernel_rfl) h474.1 h474.2)) (.cons (ext_kill (l := 0) (ycpC (P := Try.prog) (T := TT) (f := eS_twin_Room) (t := 101) (t' := 101) (e := 112) (s := 2) (l := 147) (x := (.tmp 50)) (y := (.tmp 53)) (ti := ⟨2, 16, .st [(0, 3), (1, 3)], [.i .i64, .i .i64]⟩) (L := (cpyR (v_s580.take v_i582.toNat ++ List.replicate (v_s580.length + v_v583.length - v_i582.toNat) (S_twin_Room.mk 0 0)) v_i582.toNat ((v_s580.take v_i582.toNat ++ List.replicate (v_s580.length + v_v583.length - v_i582.toNat) (S_twin_Room.mk 0 0)).length) v_v583)) (i := (wi .i64 (v_i582 + (v_v583.length : Int))).toNat) (j := (cpyR (v_s580.take v_i582.toNat ++ List.replicate (v_s580.length + v_v583.length - v_i582.toNat) (S_twin_Room.mk 0 0)) v_i582.toNat ((v_s580.take v_i582.toNat ++ List.replicate (v_s580.length + v_v583.length - v_i582.toNat) (S_twin_Room.mk 0 0)).length) v_v583).length) (p := v_i582.toNat) (q := v_s580.length) (Y := v_s580) (l' := 0) (C := v_C581) (by kernel_rfl) (by kernel_rfl) h475.1 h475.2)) .nil))))))))))))))
                      · rw [if_neg h475] at h; cases h
                    · rw [if_neg h474] at h; cases h
                  · rw [if_neg h473] at h; cases h
                · rw [if_neg h472] at h; cases h
              · rw [if_neg h471] at h; cases h
            · rw [if_neg h470] at h; cases h
          · rw [if_neg h469] at h; cases h
        · rw [if_neg h468] at h
          by_cases h476 : 0 < v_v583.length ∧ (v_s580.length + v_v583.length) ≤ v_C581 ∧ (wi .i64 ((v_s580.length : Int) + (v_v583.length : Int))) = (((v_s580.length + v_v583.length) : Nat) : Int)
          · rw [if_pos h476] at h
            by_cases h477 : (wi .i64 (v_i582 + (v_v583.length : Int))) = (((v_i582.toNat + v_v583.length) : Nat) : Int) ∧ (v_i582.toNat + v_v583.length) ≤ (v_s580.length + v_v583.length)
            · rw [if_pos h477] at h
              by_cases h481 : (wi .i64 (v_i582 + (v_v583.length : Int))) = (((v_i582.toNat + v_v583.length) : Nat) : Int) ∧ (v_i582.toNat + v_v583.length) ≤ (v_s580.length + v_v583.length)
              · rw [if_pos h481] at h
                by_cases h482 : 0 ≤ v_i582 ∧ v_i582 ≤ (((v_s580.length + v_v583.length) : Nat) : Int)
                · rw [if_pos h482] at h
                  by_cases h483 : 0 ≤ v_i582 ∧ v_i582 ≤ (((v_s580.length + v_v583.length) : Nat) : Int)
                  · rw [if_pos h483] at h
                    obtain rfl := Option.some.inj h
                    exact pendH_sound TTok mix 37 (hs := [.e 17 [0] (.ssl 0 v_i582.toNat v_s580.length 2) [], .u (.d (.v (.int .i64 (v_v583.length : Int)))), .t false, .e 52 [0] (.d (.v (.int .i64 (v_s580.length : Int)))) [], .t false, .e 97 [0] (.d (.v (.int .i64 (v_C581 : Int)))) [], .t false, .e 127 [0] (.ssl 0 0 (v_s580.length + v_v583.length) 2) [(0, .cu (rowH 112 2 v_C581 (v_s580.map eS_twin_Room) v_v583.length (([] : List S_twin_Room).map eS_twin_Room)) [])], .e 162 [0] (.ssl 0 (v_i582.toNat + v_v583.length) (v_s580.length + v_v583.length) 2) [], .e 167 [0] (.d (.v (.bool false))) [], .c, .e 197 [0] (.ssl 0 (v_i582.toNat + v_v583.length) (v_s580.length + v_v583.length) 2) [], .e 212 [0] (.ssl 0 v_i582.toNat (v_s580.length + v_v583.length) 2) [], .e 217 [0] (.d (.v (.int .i64 ((v_s580.length - v_i582.toNat : Nat) : Int)))) [(0, .cu (rowH 112 2 v_C581 ((v_s580.take v_i582.toNat).map eS_twin_Room) v_v583.length ((v_s580.drop v_i582.toNat).map eS_twin_Room)) [])], .e 232 [0] (.ssl 0 v_i582.toNat (v_s580.length + v_v583.length) 2) [], .e 242 [0] (.d (.v (.int .i64 (v_v583.length : Int)))) [(0, .cu (rowH 112 2 v_C581 (((v_s580.take v_i582.toNat) ++ v_v583 ++ (v_s580.drop v_i582.toNat)).map eS_twin_Room) 0 (([] : List S_twin_Room).map eS_twin_Room)) [])], .e 247 [0, 247] (.srf 247) [(0, .none), (247, .row 112 2 (((v_s580.take v_i582.toNat) ++ v_v583 ++ (v_s580.drop v_i582.toNat)).map eS_twin_Room))]]) [0, 247] (by kernel_rfl) (by kernel_rfl) (by kernel_rfl) (.cons (ext_same (yc10 (P := Try.prog) (T := TT) (f := eS_twin_Room) (t := 101) (e := 112) (s := 2) (l := 0) (L := v_s580) (x := (.tmp 10)) (C := v_C581) (lo := (.tmp 11)) (A := v_i582) (ka := .i64) (by kernel_rfl) h454.1 h454.2)) (.cons (len_ob (f := eS_twin_Room) (l := v_v583)) (.cons (bf h455) (.cons (ylen (P := Try.prog) (T := TT) (f := eS_twin_Room) (t := 101) (e := 112) (s := 2) (l := 0) (L := v_s580) (C := v_C581) (x := (.tmp 18)) (by kernel_rfl)) (.cons (bf h458) (.cons (ycap (P := Try.prog) (T := TT) (f := eS_twin_Room) (t := 101) (e := 112) (s := 2) (l := 0) (L := v_s580) (C := v_C581) (x := (.tmp 29)) (by kernel_rfl)) (.cons (df h468) (.cons (ycup (P := Try.prog) (T := TT) (f := eS_twin_Room) (t := 101) (e := 112) (s := 2) (l := 0) (L := v_s580) (x := (.tmp 56)) (C := v_C581) (m := v_v583.length) (hi := (.tmp 59)) (B := (wi .i64 ((v_s580.length : Int) + (v_v583.length : Int)))) (kb := .i64) (by kernel_rfl) h476.1 h476.2.1 h476.2.2) (.cons (ext_same (yh10q (P := Try.prog) (T := TT) (f := eS_twin_Room) (t := 101) (e := 112) (s := 2) (l := 0) (L := v_s580) (x := (.tmp 62)) (C := v_C581) (m := v_v583.length) (k := (v_s580.length + v_v583.length)) (Z := ([] : List S_twin_Room)) (q := (v_i582.toNat + v_v583.length)) (lo := (.tmp 65)) (A := (wi .i64 (v_i582 + (v_v583.length : Int)))) (ka := .i64) (by kernel_rfl) (by simp only [List.length_take, List.length_drop, List.length_nil]; omega) h477.1 h477.2)) (.cons (yov (P := Try.prog) (T := TT) (f := eS_twin_Room) (t := 101) (e := 112) (s := 2) (l := 0) (L := v_s580) (Y := v_v583) (Z := ([] : List S_twin_Room)) (m := v_v583.length) (C := v_C581) (i := (v_i582.toNat + v_v583.length)) (j := (v_s580.length + v_v583.length)) (x := (.tmp 61)) (y := (.tmp 66)) (g := 108) (fn := Try.f108) (tR := 4) (tys := #[101, 101]) (by kernel_rfl) (by kernel_rfl) (by kernel_rfl) (by kernel_rfl) (by kernel_rfl) (by kernel_rfl) (by decide) (fun _ => rfl)) (.cons (ext_same (yh10q (P := Try.prog) (T := TT) (f := eS_twin_Room) (t := 101) (e := 112) (s := 2) (l := 0) (L := v_s580) (x := (.tmp 69)) (C := v_C581) (m := v_v583.length) (k := (v_s580.length + v_v583.length)) (Z := ([] : List S_twin_Room)) (q := (v_i582.toNat + v_v583.length)) (lo := (.tmp 72)) (A := (wi .i64 (v_i582 + (v_v583.length : Int)))) (ka := .i64) (by kernel_rfl) (by simp only [List.length_take, List.length_drop, List.length_nil]; omega) h481.1 h481.2)) (.cons (ext_same (yh10 (P := Try.prog) (T := TT) (f := eS_twin_Room) (t := 101) (e := 112) (s := 2) (l := 0) (L := v_s580) (x := (.tmp 74)) (C := v_C581) (m := v_v583.length) (k := (v_s580.length + v_v583.length)) (Y := ([] : List S_twin_Room)) (lo := (.tmp 75)) (A := v_i582) (ka := .i64) (by kernel_rfl) (by simp only [List.length_take, List.length_drop, List.length_nil]; omega) h482)) (.cons (ycpS (P := Try.prog) (T := TT) (f := eS_twin_Room) (t := 101) (t' := 101) (e := 112) (s := 2) (l := 0) (x := (.tmp 73)) (y := (.tmp 76)) (ti := ⟨2, 16, .st [(0, 3), (1, 3)], [.i .i64, .i .i64]⟩) (L := v_s580) (i := v_i582.toNat) (m := v_v583.length) (C := v_C581) (by kernel_rfl) (by kernel_rfl) (by omega)) (.cons (ext_same (yh10 (P := Try.prog) (T := TT) (f := eS_twin_Room) (t := 101) (e := 112) (s := 2) (l := 0) (L := (v_s580.take v_i582.toNat)) (x := (.tmp 78)) (C := v_C581) (m := v_v583.length) (k := (v_s580.length + v_v583.length)) (Y := (v_s580.drop v_i582.toNat)) (lo := (.tmp 79)) (A := v_i582) (ka := .i64) (by kernel_rfl) (by simp only [List.length_take, List.length_drop, List.length_nil]; omega) h483)) (.cons (ycpD (P := Try.prog) (T := TT) (f := eS_twin_Room) (t := 101) (t' := 101) (e := 112) (s := 2) (l := 0) (x := (.tmp 80)) (y := (.tmp 81)) (ti := ⟨2, 16, .st [(0, 3), (1, 3)], [.i .i64, .i .i64]⟩) (L := (v_s580.take v_i582.toNat)) (Y := v_v583) (Z := (v_s580.drop v_i582.toNat)) (i := v_i582.toNat) (k := (v_s580.length + v_v583.length)) (m := v_v583.length) (C := v_C581) (by kernel_rfl) (by kernel_rfl) (by simp only [List.length_take, List.length_drop, List.length_nil]; omega) (by simp only [List.length_take, List.length_drop, List.length_nil]; omega) rfl (by omega) (fun _ => rfl)) (.cons (ymvH (L := ((v_s580.take v_i582.toNat) ++ v_v583 ++ (v_s580.drop v_i582.toNat))) (C := v_C581) (k := (v_s580.length + v_v583.length)) (P := Try.prog) (T := TT) (f := eS_twin_Room) (e := 112) (s := 2) (l := 0) (nl := 247) (x := (.tmp 0)) (by simp only [List.length_append, List.length_take, List.length_drop]; omega)) .nil))))))))))))))))
                  · rw [if_neg h483] at h; cases h
                · rw [if_neg h482] at h; cases h
              · rw [if_neg h481] at h; cases h
            · rw [if_neg h477] at h; cases h
          · rw [if_neg h476] at h; cases h
  · rw [if_neg h454] at h; cases h
def G_slices_Insert_twin_Room_twin_Room_h (n : Nat) (s : (List S_twin_Room)) (i : Int) (v : (List S_twin_Room)) : Option (List S_twin_Room) := insI 16 s i v
theorem G_slices_Insert_twin_Room_twin_Room_h_all (C n : Nat) (s : (List S_twin_Room)) (i : Int) (v r : (List S_twin_Room)) (h1 : s.length ≤ C) (h2 : C ≤ maxLen) (h : G_slices_Insert_twin_Room_twin_Room_h n s i v = some r) : G_slices_Insert_twin_Room_twin_Room_hC n C s i v = some r := by
  unfold G_slices_Insert_twin_Room_twin_Room_h insI at h
  split at h
  · rename_i c
    obtain ⟨c1, c2, c3, c4⟩ := c
    obtain rfl := Option.some.inj h
    obtain ⟨i, rfl⟩ := Int.eq_ofNat_of_zero_le c1
    simp only [Int.toNat_natCast]
    have hi : i ≤ s.length := by omega
    have w1 : wi .i64 ((s.length : Int) + (v.length : Int)) = ((s.length + v.length : Nat) : Int) := by rw [wi, IntKind.wrap_i64]; omega
    have w2 : wi .i64 ((i : Int) + (v.length : Int)) = ((i + v.length : Nat) : Int) := by rw [wi, IntKind.wrap_i64]; omega
    have w3 : wi .i64 (((s.length + v.length : Nat) : Int) - (i : Int)) = ((s.length + v.length - i : Nat) : Int) := by rw [wi, IntKind.wrap_i64]; omega
    unfold G_slices_Insert_twin_Room_twin_Room_hC
    rw [if_pos ⟨⟨by omega, by omega⟩, h1⟩]
    by_cases hm : (v.length : Int) = 0
    · rw [if_pos hm]
      have : v = [] := List.eq_nil_of_length_eq_zero (by omega)
      subst this; simp
    · rw [if_neg hm]
      by_cases he : (i : Int) = (s.length : Int)
      · rw [if_pos he]
        have e : i = s.length := by omega
        subst e
        unfold app
        rw [if_pos ⟨by unfold maxLen; omega, c4⟩]
        simp
      · rw [if_neg he, w1]
        by_cases hg : ((s.length + v.length : Nat) : Int) > (C : Int)
        · rw [if_pos hg, w3]
          simp only [Int.toNat_natCast]
          have hl : (s.take i ++ List.replicate (s.length + v.length - i) (S_twin_Room.mk 0 0)).length = s.length + v.length := by simp; omega
          rw [if_pos ⟨⟨by omega, by omega⟩, h1⟩, if_pos ⟨trivial, hi, by omega, by omega, by unfold maxLen; omega, by rw [show i + (s.length + v.length - i) = s.length + v.length by omega]; exact c4⟩, w2]
          simp only [Int.toNat_natCast]
          rw [if_pos ⟨by omega, by rw [hl]; omega⟩, if_pos (Nat.le_refl _)]
          have hl2 : (cpyR (s.take i ++ List.replicate (s.length + v.length - i) (S_twin_Room.mk 0 0)) i (s.take i ++ List.replicate (s.length + v.length - i) (S_twin_Room.mk 0 0)).length v).length = s.length + v.length := by
            unfold cpyR
            rw [hl]
            rcases Nat.le_total v.length (s.length + v.length - i) with h' | h'
            · rw [show Nat.min v.length (s.length + v.length - i) = v.length from Nat.min_eq_left h']; simp; omega
            · rw [show Nat.min v.length (s.length + v.length - i) = s.length + v.length - i from Nat.min_eq_right h']; simp; omega
          rw [if_pos ⟨by omega, by rw [hl2]; omega⟩, if_pos ⟨⟨by omega, by omega⟩, h1⟩, if_pos ⟨Nat.le_refl _, Nat.le_refl _⟩]
          rw [ins_grow hi rfl]
        · rw [if_neg hg, w2]
          simp only [Int.toNat_natCast]
          rw [if_pos ⟨by omega, by omega, trivial⟩, if_pos ⟨trivial, by omega⟩, if_pos ⟨trivial, by omega⟩, if_pos ⟨by omega, by omega⟩, if_pos ⟨by omega, by omega⟩]
  · cases h
theorem G_slices_Insert_twin_Room_twin_Room_h_ok (n : Nat) (s : (List S_twin_Room)) (i : Int) (v r : (List S_twin_Room)) (h : G_slices_Insert_twin_Room_twin_Room_h n s i v = some r) : RetH Try.prog 93 [.srf 0, .d (.v (.int .i64 i)), .d ((eL eS_twin_Room) v)] [.row 112 2 (s.map eS_twin_Room)] (.srf 1) [.none, .row 112 2 (r.map eS_twin_Room)] :=
  retH_cap ⟨Try.f93, by kernel_rfl, by kernel_rfl, by kernel_rfl⟩ (fun C h1 h2 => G_slices_Insert_twin_Room_twin_Room_hC_ok n C s i v r (G_slices_Insert_twin_Room_twin_Room_h_all C n s i v r (by simpa using h1) h2 h))
inductive G_twin_Give_L1_R where
  | x0 (v_b537 : S_twin_Room) (v_w538 : (List S_twin_Room))
def G_twin_Give_L1_ex : G_twin_Give_L1_R → Ex
  | .x0 _ _ => .exit 0
def G_twin_Give_L1_st (v_t406 : S_twin_Twin) : G_twin_Give_L1_R → PS
  | .x0 v_b537 v_w538 => ⟨[dd, dd, dd, .ref 0 0, dd, dd, .ref 1 0, dd, dd, .ref 2 0, .srf 3, dd, dd, dd, dd, dd, dd, dd, dd, dd, dd, dd, dd, dd, dd, dd, dd, dd, dd, dd, dd, dd, dd, dd, dd, dd, dd, dd, dd, dd, dd, dd, dd, dd, dd, dd, dd, dd, dd, dd, dd, dd, dd, dd, dd, dd, dd, dd, dd, dd, dd, dd, dd, dd, dd, dd, dd, dd, dd, dd, dd, dd, dd, dd, dd, dd, dd, dd, dd, dd, dd], [.box [.d (.v (.int .i64 v_t406.fOrder)), .d (.sl (v_t406.fFree.map eS_twin_Room))], .box [.d (.v (.int .i64 0)), .d (vnil)], .box [.d (.v (.int .i64 v_b537.fAt)), .d (.v (.int .i64 v_b537.fOrder))], .row 112 2 (v_w538.map eS_twin_Room)]⟩
def G_twin_Give_L1_hd (v_t406 : S_twin_Twin) (v_b531 : S_twin_Room) (v_w532 : (List S_twin_Room)) : PS := ⟨[dd, dd, dd, .ref 0 0, dd, dd, .ref 1 0, dd, dd, .ref 2 0, .srf 3, dd, dd, dd, dd, dd, dd, dd, dd, dd, dd, dd, dd, dd, dd, dd, dd, dd, dd, dd, dd, dd, dd, dd, dd, dd, dd, dd, dd, dd, dd, dd, dd, dd, dd, dd, dd, dd, dd, dd, dd, dd, dd, dd, dd, dd, dd, dd, dd, dd, dd, dd, dd, dd, dd, dd, dd, dd, dd, dd, dd, dd, dd, dd, dd, dd, dd, dd, dd, dd, dd], [.box [.d (.v (.int .i64 v_t406.fOrder)), .d (.sl (v_t406.fFree.map eS_twin_Room))], .box [.d (.v (.int .i64 0)), .d (vnil)], .box [.d (.v (.int .i64 v_b531.fAt)), .d (.v (.int .i64 v_b531.fOrder))], .row 112 2 (v_w532.map eS_twin_Room)]⟩
def G_twin_Give_L1 (n : Nat) (v_t406 : S_twin_Twin) : Nat → S_twin_Room → (List S_twin_Room) → Option G_twin_Give_L1_R
  | 0, _, _ => none
  | k + 1, v_b531, v_w532 =>
    if v_b531.fOrder < v_t406.fOrder then
     (G_slices_IndexFunc_twin_Room_twin_Room n v_w532 (fun (y0 : S_twin_Room) => G_twin_Give_1 n y0 v_b531)).bind fun (v_r536 : (Int)) =>
     if v_r536 < 0 then
      some (.x0 v_b531 v_w532)
     else
      if 0 ≤ v_r536 ∧ (v_r536).toNat < v_w532.length then
       (v_w532[(v_r536).toNat]?).bind fun (v_y539 : S_twin_Room) =>
       (G_slices_Delete_twin_Room_twin_Room_h n v_w532 v_r536 (wi .i64 (v_r536 + 1))).bind fun (v_r540 : ((List S_twin_Room))) =>
       G_twin_Give_L1 n v_t406 k (S_twin_Room.mk (minI v_b531.fAt v_y539.fAt) (wi .i64 (v_b531.fOrder + 1))) v_r540
      else none
    else
     some (.x0 v_b531 v_w532)
theorem G_twin_Give_L1_ok {Fi : Ex → PS → Prop} (hF : KC 81 Fi) (ks : List Fr) (n : Nat) (v_t406 : S_twin_Twin)  : ∀ (k : Nat) (v_b531 : S_twin_Room) (v_w532 : (List S_twin_Room)) (o : G_twin_Give_L1_R), G_twin_Give_L1 n v_t406 k v_b531 v_w532 = some o → RunE Try.prog 81 Fi ks (G_twin_Give_L1_ex o) (G_twin_Give_L1_st v_t406 o) → RunE Try.prog 81 Fi (.l k (cP (cB (cL (cR (cR (cR (cR (cR (bodyOf Try.f50))))))))) :: ks) .normal (G_twin_Give_L1_hd v_t406 v_b531 v_w532)
  | 0, v_b531, v_w532, o, h, q => by rw [G_twin_Give_L1] at h; cases h
  | k + 1, v_b531, v_w532, o, h, q => by
    rw [G_twin_Give_L1] at h
    by_cases h434 : v_b531.fOrder < v_t406.fOrder
    · rw [if_pos h434] at h
      obtain ⟨v_r536, h440, h⟩ := bind_some h
      by_cases h441 : v_r536 < 0
      · rw [if_pos h441] at h
        cases h
        exact pkk_sound TTok mix hF 17 (hs := [.c, .c, .t true, .c, .r ((eI .i64) v_r536), .t true]) (ts := []) (s := [0, 1, 2, 3]) (l := [3, 6, 9, 10]) (by kernel_rfl) (by kernel_rfl) (.cons (dt h434) (.cons (G_slices_IndexFunc_twin_Room_twin_Room_ok n v_w532 (fun (y0 : S_twin_Room) => G_twin_Give_1 n y0 v_b531) 90 [.iptr [.v (.int .i64 v_b531.fAt), .v (.int .i64 v_b531.fOrder)] 0] (fun y0 r h => G_twin_Give_1_ok n y0 v_b531 r h) _ h440) (.cons (dt h441) .nil))) q
      · rw [if_neg h441] at h
        by_cases h442 : 0 ≤ v_r536 ∧ (v_r536).toNat < v_w532.length
        · rw [if_pos h442] at h
          obtain ⟨v_y539, h443, h⟩ := bind_some h
          obtain ⟨v_r540, h444, h⟩ := bind_some h
          exact pkk_sound TTok mix hF 18 (hs := [.c, .c, .t true, .c, .r ((eI .i64) v_r536), .t false, .c, .y (eS_twin_Room v_y539), .c, .c, .h [3] [] [.none, .row 112 2 (v_r540.map eS_twin_Room)] (.srf 1)]) (ts := []) (s := [0, 1, 2, 144]) (l := [3, 6, 9, 10]) (by kernel_rfl) (by kernel_rfl) (.cons (dt h434) (.cons (G_slices_IndexFunc_twin_Room_twin_Room_ok n v_w532 (fun (y0 : S_twin_Room) => G_twin_Give_1 n y0 v_b531) 90 [.iptr [.v (.int .i64 v_b531.fAt), .v (.int .i64 v_b531.fOrder)] 0] (fun y0 r h => G_twin_Give_1_ok n y0 v_b531 r h) _ h440) (.cons (df h441) (.cons (idx_ob (f := eS_twin_Room) h442) (.cons (get_ob (f := eS_twin_Room) h443) (.cons (show 0 + 2 ≤ 2 by decide) (.cons (G_slices_Delete_twin_Room_twin_Room_h_ok n v_w532 v_r536 (wi .i64 (v_r536 + 1)) _ h444) .nil))))))) (G_twin_Give_L1_ok hF ks n v_t406 k (S_twin_Room.mk (minI v_b531.fAt v_y539.fAt) (wi .i64 (v_b531.fOrder + 1))) v_r540 _ h q)
        · rw [if_neg h442] at h; cases h
    · rw [if_neg h434] at h
      cases h
      exact pkk_sound TTok mix hF 8 (hs := [.c, .c, .t false]) (ts := []) (s := [0, 1, 2, 3]) (l := [3, 6, 9, 10]) (by kernel_rfl) (by kernel_rfl) (.cons (df h434) .nil) q
inductive G_twin_Give_L2_R where
  | x0 (v_i573 : Int) (v_w574 : (List S_twin_Room))
def G_twin_Give_L2_ex : G_twin_Give_L2_R → Ex
  | .x0 _ _ => .exit 2
def G_twin_Give_L2_st (v_t406 : S_twin_Twin) (v_z544 : S_twin_Room) : G_twin_Give_L2_R → PS
  | .x0 v_i573 v_w574 => ⟨[dd, dd, dd, .ref 0 0, dd, dd, .ref 1 0, dd, dd, .ref 2 0, .srf 3, dd, .d (.v (.int .i64 v_i573)), dd, dd, dd, dd, dd, dd, dd, dd, dd, dd, dd, dd, dd, dd, dd, dd, dd, dd, dd, dd, dd, dd, dd, dd, dd, dd, dd, dd, dd, dd, dd, dd, dd, dd, dd, dd, dd, dd, dd, dd, dd, dd, dd, dd, dd, dd, dd, dd, dd, dd, dd, dd, dd, dd, dd, dd, dd, dd, dd, dd, dd, dd, dd, dd, dd, dd, dd, dd], [.box [.d (.v (.int .i64 v_t406.fOrder)), .d (.sl (v_t406.fFree.map eS_twin_Room))], .box [.d (.v (.int .i64 0)), .d (vnil)], .box [.d (.v (.int .i64 v_z544.fAt)), .d (.v (.int .i64 v_z544.fOrder))], .row 112 2 (v_w574.map eS_twin_Room)]⟩
def G_twin_Give_L2_hd (v_t406 : S_twin_Twin) (v_z544 : S_twin_Room) (v_i569 : Int) (v_w570 : (List S_twin_Room)) : PS := ⟨[dd, dd, dd, .ref 0 0, dd, dd, .ref 1 0, dd, dd, .ref 2 0, .srf 3, dd, .d (.v (.int .i64 v_i569)), dd, dd, dd, dd, dd, dd, dd, dd, dd, dd, dd, dd, dd, dd, dd, dd, dd, dd, dd, dd, dd, dd, dd, dd, dd, dd, dd, dd, dd, dd, dd, dd, dd, dd, dd, dd, dd, dd, dd, dd, dd, dd, dd, dd, dd, dd, dd, dd, dd, dd, dd, dd, dd, dd, dd, dd, dd, dd, dd, dd, dd, dd, dd, dd, dd, dd, dd, dd], [.box [.d (.v (.int .i64 v_t406.fOrder)), .d (.sl (v_t406.fFree.map eS_twin_Room))], .box [.d (.v (.int .i64 0)), .d (vnil)], .box [.d (.v (.int .i64 v_z544.fAt)), .d (.v (.int .i64 v_z544.fOrder))], .row 112 2 (v_w570.map eS_twin_Room)]⟩
def G_twin_Give_L2 (n : Nat) (v_t406 : S_twin_Twin) (v_z544 : S_twin_Room) : Nat → Int → (List S_twin_Room) → Option G_twin_Give_L2_R
  | 0, _, _ => none
  | k + 1, v_i569, v_w570 =>
    if v_i569 < (v_w570.length : Int) then
     if 0 ≤ v_i569 ∧ (v_i569).toNat < v_w570.length then
      (v_w570[(v_i569).toNat]?).bind fun (v_y572 : S_twin_Room) =>
      if v_y572.fAt < v_z544.fAt then
       G_twin_Give_L2 n v_t406 v_z544 k (wi .i64 (v_i569 + 1)) v_w570
      else
       some (.x0 v_i569 v_w570)
     else none
    else
     some (.x0 v_i569 v_w570)
theorem G_twin_Give_L2_ok {Fi : Ex → PS → Prop} (hF : KC 81 Fi) (ks : List Fr) (n : Nat) (v_t406 : S_twin_Twin) (v_z544 : S_twin_Room)  : ∀ (k : Nat) (v_i569 : Int) (v_w570 : (List S_twin_Room)) (o : G_twin_Give_L2_R), G_twin_Give_L2 n v_t406 v_z544 k v_i569 v_w570 = some o → RunE Try.prog 81 Fi ks (G_twin_Give_L2_ex o) (G_twin_Give_L2_st v_t406 v_z544 o) → RunE Try.prog 81 Fi (.l k (cP (cB (cL (cR (cR (cR (cR (cR (cR (cR (bodyOf Try.f50))))))))))) :: ks) .normal (G_twin_Give_L2_hd v_t406 v_z544 v_i569 v_w570)
  | 0, v_i569, v_w570, o, h, q => by rw [G_twin_Give_L2] at h; cases h
  | k + 1, v_i569, v_w570, o, h, q => by
    rw [G_twin_Give_L2] at h
    by_cases h449 : v_i569 < (v_w570.length : Int)
    · rw [if_pos h449] at h
      by_cases h450 : 0 ≤ v_i569 ∧ (v_i569).toNat < v_w570.length
      · rw [if_pos h450] at h
        obtain ⟨v_y572, h451, h⟩ := bind_some h
        by_cases h452 : v_y572.fAt < v_z544.fAt
        · rw [if_pos h452] at h
          exact pkk_sound TTok mix hF 9 (hs := [.u (.d (.v (.int .i64 (v_w570.length : Int)))), .t true, .c, .c, .c, .c, .y (eS_twin_Room v_y572), .c, .c, .c, .c, .t true]) (ts := []) (s := [0, 1, 2, 3]) (l := [3, 6, 9, 10, 12]) (by kernel_rfl) (by kernel_rfl) (.cons (len_ob (f := eS_twin_Room) (l := v_w570)) (.cons (dt h449) (.cons (idx_ob (f := eS_twin_Room) h450) (.cons (get_ob (f := eS_twin_Room) h451) (.cons (dt h452) .nil))))) (G_twin_Give_L2_ok hF ks n v_t406 v_z544 k (wi .i64 (v_i569 + 1)) v_w570 _ h q)
        · rw [if_neg h452] at h
          cases h
          exact pkk_sound TTok mix hF 8 (hs := [.u (.d (.v (.int .i64 (v_w570.length : Int)))), .t true, .c, .c, .c, .c, .y (eS_twin_Room v_y572), .c, .c, .c, .c, .t false]) (ts := []) (s := [0, 1, 2, 3]) (l := [3, 6, 9, 10, 12]) (by kernel_rfl) (by kernel_rfl) (.cons (len_ob (f := eS_twin_Room) (l := v_w570)) (.cons (dt h449) (.cons (idx_ob (f := eS_twin_Room) h450) (.cons (get_ob (f := eS_twin_Room) h451) (.cons (df h452) .nil))))) q
      · rw [if_neg h450] at h; cases h
    · rw [if_neg h449] at h
      cases h
      exact pkk_sound TTok mix hF 8 (hs := [.u (.d (.v (.int .i64 (v_w570.length : Int)))), .t false, .c, .c, .c, .c, .c, .c, .c, .c]) (ts := []) (s := [0, 1, 2, 3]) (l := [3, 6, 9, 10, 12]) (by kernel_rfl) (by kernel_rfl) (.cons (len_ob (f := eS_twin_Room) (l := v_w570)) (.cons (df h449) .nil)) q
/- ringhall/twin.Give -/
def G_twin_Give (n : Nat) (v_t406 : S_twin_Twin) (v_at407 : Int) (v_order408 : Int) : Option (S_twin_Twin × Int) :=
  (G_twin_Check n v_t406).bind fun (v_r415 : (Int)) =>
  if v_r415 = 0 then
   (G_twin_apart n v_t406 (S_twin_Room.mk v_at407 v_order408)).bind fun (v_r486 : (Bool)) =>
   if v_r486 = true then
    (G_slices_Clone_twin_Room_twin_Room n v_t406.fFree).bind fun (v_r504 : ((List S_twin_Room))) =>
    (G_twin_Give_L1 n v_t406 n (S_twin_Room.mk v_at407 v_order408) v_r504).bind fun v_o543 => match v_o543 with
    | .x0 v_z544 v_z545 =>
      (G_twin_Give_L2 n v_t406 v_z544 n 0 v_z545).bind fun v_o577 => match v_o577 with
      | .x0 v_z578 v_z579 =>
        (G_slices_Insert_twin_Room_twin_Room_h n v_z579 v_z578 ([v_z544])).bind fun (v_r586 : ((List S_twin_Room))) =>
        some ((S_twin_Twin.mk v_t406.fOrder v_r586), 0)
   else
    some ((S_twin_Twin.mk 0 ([] : (List S_twin_Room))), 1)
  else
   some ((S_twin_Twin.mk 0 ([] : (List S_twin_Room))), v_r415)
theorem G_twin_Give_ok (n : Nat) (v_t406 : S_twin_Twin) (v_at407 : Int) (v_order408 : Int) (r : S_twin_Twin × Int) (h : G_twin_Give n v_t406 v_at407 v_order408 = some r) : Ret Try.prog 50 [eS_twin_Twin v_t406, (eI .i64) v_at407, (eI .i64) v_order408] (.tup [eS_twin_Twin r.1, (eI .i64) r.2]) := by
  refine ret_run (n := 81) (fn := Try.f50) (c := bodyOf Try.f50) (by kernel_rfl) (by kernel_rfl) (by kernel_rfl) (by kernel_rfl) ?_
  have hF : KC 81 (FinR Try.prog Try.f50 (.tup [eS_twin_Twin r.1, (eI .i64) r.2])) := FinR.kc' (by kernel_rfl)
  unfold G_twin_Give at h
  obtain ⟨v_r415, h371, h⟩ := bind_some h
  by_cases h373 : v_r415 = 0
  · rw [if_pos h373] at h
    obtain ⟨v_r486, h410, h⟩ := bind_some h
    by_cases h412 : v_r486 = true
    · rw [if_pos h412] at h
      obtain ⟨v_r504, h413, h⟩ := bind_some h
      obtain ⟨v_o543, h445, h⟩ := bind_some h
      refine pkk_sound TTok mix hF 21 (hs := [.c, .r ((eI .i64) v_r415), .t false, .c, .c, .c, .r (eB v_r486), .t false, .c, .h [] [] [.row 112 2 (v_r504.map eS_twin_Room)] (.srf 0), .n n]) (ts := []) (s := [0, 5, 55, 95]) (l := [3, 6, 9, 10]) (by kernel_rfl) (by kernel_rfl) (.cons (G_twin_Check_ok n v_t406 _ h371) (.cons (nf h373) (.cons (show 0 + 2 ≤ 2 by decide) (.cons (G_twin_apart_ok n v_t406 (S_twin_Room.mk v_at407 v_order408) _ h410) (.cons (bnf h412) (.cons (G_slices_Clone_twin_Room_twin_Room_ok n v_t406.fFree _ h413) .nil)))))) (G_twin_Give_L1_ok hF (.b 0 :: .s (cR (cR (cR (cR (cR (cR (bodyOf Try.f50))))))) :: []) n v_t406 n (S_twin_Room.mk v_at407 v_order408) v_r504 _ h445 ?_)
      cases v_o543 with
      | x0 v_z544 v_z545 =>
        try dsimp only at h
        obtain ⟨v_o577, h453, h⟩ := bind_some h
        refine pkk_sound TTok mix hF 6 (hs := [.n n]) (ts := []) (s := [0, 1, 2, 3]) (l := [3, 6, 9, 10, 12]) (by kernel_rfl) (by kernel_rfl) .nil (G_twin_Give_L2_ok hF (.b 2 :: .s (cR (cR (cR (cR (cR (cR (cR (cR (bodyOf Try.f50))))))))) :: []) n v_t406 v_z544 n 0 v_z545 _ h453 ?_)
        cases v_o577 with
        | x0 v_z578 v_z579 =>
          try dsimp only at h
          obtain ⟨v_r586, h484, h⟩ := bind_some h
          obtain rfl := Option.some.inj h
          exact pend_sound TTok mix 4 (hs := [.c, .c, .bd, .h [3] [] [.none, .row 112 2 (v_r586.map eS_twin_Room)] (.srf 1), .c]) (by kernel_rfl) (by kernel_rfl) (by kernel_rfl) (.cons (G_slices_Insert_twin_Room_twin_Room_h_ok n v_z579 v_z578 ([v_z544]) _ h484) (.cons (show 0 + 2 ≤ 2 by decide) .nil))
    · rw [if_neg h412] at h
      obtain rfl := Option.some.inj h
      exact pend_sound TTok mix 19 (hs := [.c, .r ((eI .i64) v_r415), .t false, .c, .c, .c, .r (eB v_r486), .t true, .c]) (by kernel_rfl) (by kernel_rfl) (by kernel_rfl) (.cons (G_twin_Check_ok n v_t406 _ h371) (.cons (nf h373) (.cons (show 0 + 2 ≤ 2 by decide) (.cons (G_twin_apart_ok n v_t406 (S_twin_Room.mk v_at407 v_order408) _ h410) (.cons (bnt (vf h412)) (.cons (show 0 + 2 ≤ 2 by decide) .nil))))))
  · rw [if_neg h373] at h
    obtain rfl := Option.some.inj h
    exact pend_sound TTok mix 12 (hs := [.c, .r ((eI .i64) v_r415), .t true, .c]) (by kernel_rfl) (by kernel_rfl) (by kernel_rfl) (.cons (G_twin_Check_ok n v_t406 _ h371) (.cons (nt h373) (.cons (show 0 + 2 ≤ 2 by decide) .nil)))
inductive G_twin_Most_L1_R where
  | x0 (v_best644 : Int) (v_n645 : Int)
def G_twin_Most_L1_ex : G_twin_Most_L1_R → Ex
  | .x0 _ _ => .exit 0
def G_twin_Most_L1_st (v_t604 : S_twin_Twin) : G_twin_Most_L1_R → PS
  | .x0 v_best644 v_n645 => ⟨[dd, dd, dd, dd, dd, dd, .d (.v (.int .i64 v_best644)), .d (.v (.int .i64 v_n645)), dd, dd, dd, dd, dd, dd, dd, dd, dd, dd, dd, dd, dd, dd, dd, dd, dd, dd, dd, dd, dd, dd, dd, dd, dd, dd], []⟩
def G_twin_Most_L1_hd (v_t604 : S_twin_Twin) (v_best639 : Int) (v_n640 : Int) (v_x641 : Int) : PS := ⟨[dd, dd, dd, dd, dd, dd, .d (.v (.int .i64 v_best639)), .d (.v (.int .i64 v_n640)), dd, dd, dd, dd, dd, dd, dd, dd, .d (.sl (v_t604.fFree.map eS_twin_Room)), .d (.v (.int .i64 (v_t604.fFree.length : Int))), .d (.v (.int .i64 v_x641)), dd, dd, dd, dd, dd, dd, dd, dd, dd, dd, dd, dd, dd, dd, dd], []⟩
def G_twin_Most_L1 (n : Nat) (v_t604 : S_twin_Twin) : Nat → Int → Int → Int → Option G_twin_Most_L1_R
  | 0, _, _, _ => none
  | k + 1, v_best639, v_n640, v_x641 =>
    if v_x641 < (v_t604.fFree.length : Int) then
     (getI v_t604.fFree v_x641).bind fun (v_y643 : S_twin_Room) =>
     if 0 ≤ v_y643.fOrder then
      G_twin_Most_L1 n v_t604 k (maxI v_best639 v_y643.fOrder) (wi .i64 (v_n640 + (shlI .i64 1 v_y643.fOrder))) (wi .i64 (v_x641 + 1))
     else none
    else
     some (.x0 v_best639 v_n640)
theorem G_twin_Most_L1_ok {Fi : Ex → PS → Prop} (hF : KC 34 Fi) (ks : List Fr) (n : Nat) (v_t604 : S_twin_Twin)  : ∀ (k : Nat) (v_best639 : Int) (v_n640 : Int) (v_x641 : Int) (o : G_twin_Most_L1_R), G_twin_Most_L1 n v_t604 k v_best639 v_n640 v_x641 = some o → RunE Try.prog 34 Fi ks (G_twin_Most_L1_ex o) (G_twin_Most_L1_st v_t604 o) → RunE Try.prog 34 Fi (.l k (cP (cB (cR (cL (cR (cR (cR (bodyOf Try.f51)))))))) :: ks) .normal (G_twin_Most_L1_hd v_t604 v_best639 v_n640 v_x641)
  | 0, v_best639, v_n640, v_x641, o, h, q => by rw [G_twin_Most_L1] at h; cases h
  | k + 1, v_best639, v_n640, v_x641, o, h, q => by
    rw [G_twin_Most_L1] at h
    by_cases h489 : v_x641 < (v_t604.fFree.length : Int)
    · rw [if_pos h489] at h
      obtain ⟨v_y643, h492, h⟩ := bind_some h
      by_cases h493 : 0 ≤ v_y643.fOrder
      · rw [if_pos h493] at h
        exact pkk_sound TTok mix hF 15 (hs := [.t true, .y (eS_twin_Room v_y643), .c, .c, .c]) (ts := []) (s := []) (l := [6, 7, 16, 17, 18]) (by kernel_rfl) (by kernel_rfl) (.cons (dt h489) (.cons (getI_ob (f := eS_twin_Room) h492) (.cons (show 0 + 2 ≤ 2 by decide) (.cons h493 .nil)))) (G_twin_Most_L1_ok hF ks n v_t604 k (maxI v_best639 v_y643.fOrder) (wi .i64 (v_n640 + (shlI .i64 1 v_y643.fOrder))) (wi .i64 (v_x641 + 1)) _ h q)
      · rw [if_neg h493] at h; cases h
    · rw [if_neg h489] at h
      cases h
      exact pkk_sound TTok mix hF 8 (hs := [.t false]) (ts := []) (s := []) (l := [6, 7]) (by kernel_rfl) (by kernel_rfl) (.cons (df h489) .nil) q
/- ringhall/twin.Most -/
def G_twin_Most (n : Nat) (v_t604 : S_twin_Twin) : Option (Int × Int × Int) :=
  (G_twin_Check n v_t604).bind fun (v_r608 : (Int)) =>
  if v_r608 = 0 then
   (G_twin_Most_L1 n v_t604 n (-1) 0 0).bind fun v_o646 => match v_o646 with
   | .x0 v_z647 v_z648 =>
     some (v_z647, v_z648, 0)
  else
   some (0, 0, v_r608)
theorem G_twin_Most_ok (n : Nat) (v_t604 : S_twin_Twin) (r : Int × Int × Int) (h : G_twin_Most n v_t604 = some r) : Ret Try.prog 51 [eS_twin_Twin v_t604] (.tup [(eI .i64) r.1, (eI .i64) r.2.1, (eI .i64) r.2.2]) := by
  refine ret_run (n := 34) (fn := Try.f51) (c := bodyOf Try.f51) (by kernel_rfl) (by kernel_rfl) (by kernel_rfl) (by kernel_rfl) ?_
  have hF : KC 34 (FinR Try.prog Try.f51 (.tup [(eI .i64) r.1, (eI .i64) r.2.1, (eI .i64) r.2.2])) := FinR.kc' (by kernel_rfl)
  unfold G_twin_Most at h
  obtain ⟨v_r608, h486, h⟩ := bind_some h
  by_cases h488 : v_r608 = 0
  · rw [if_pos h488] at h
    obtain ⟨v_o646, h494, h⟩ := bind_some h
    refine pkk_sound TTok mix hF 16 (hs := [.c, .r ((eI .i64) v_r608), .t false, .c, .u (.d (.v (.int .i64 (v_t604.fFree.length : Int)))), .n n]) (ts := []) (s := []) (l := [6, 7, 16, 17, 18]) (by kernel_rfl) (by kernel_rfl) (.cons (G_twin_Check_ok n v_t604 _ h486) (.cons (nf h488) (.cons (len_ob (f := eS_twin_Room) (l := v_t604.fFree)) .nil))) (G_twin_Most_L1_ok hF (.b 0 :: .s (cR (cR (cR (cR (bodyOf Try.f51))))) :: []) n v_t604 n (-1) 0 0 _ h494 ?_)
    cases v_o646 with
    | x0 v_z647 v_z648 =>
      try dsimp only at h
      obtain rfl := Option.some.inj h
      exact pend_sound TTok mix 4 (hs := []) (by kernel_rfl) (by kernel_rfl) (by kernel_rfl) .nil
  · rw [if_neg h488] at h
    obtain rfl := Option.some.inj h
    exact pend_sound TTok mix 12 (hs := [.c, .r ((eI .i64) v_r608), .t true]) (by kernel_rfl) (by kernel_rfl) (by kernel_rfl) (.cons (G_twin_Check_ok n v_t604 _ h486) (.cons (nt h488) .nil))
/- ringhall/ringref2.In -/
def G_ringref2_In (n : Nat) (v_n708 : Int) (v_least709 : Int) (v_most710 : Int) : Option (Bool) :=
  if v_n708 ≥ v_least709 then
   some (decide (v_n708 ≤ v_most710))
  else
   some false
theorem G_ringref2_In_ok (n : Nat) (v_n708 : Int) (v_least709 : Int) (v_most710 : Int) (r : Bool) (h : G_ringref2_In n v_n708 v_least709 v_most710 = some r) : Ret Try.prog 14 [(eI .i64) v_n708, (eI .i64) v_least709, (eI .i64) v_most710] (eB r) := by
  refine ret_run (n := 15) (fn := Try.f14) (c := bodyOf Try.f14) (by kernel_rfl) (by kernel_rfl) (by kernel_rfl) (by kernel_rfl) ?_
  have hF : KC 15 (FinR Try.prog Try.f14 (eB r)) := FinR.kc' (by kernel_rfl)
  unfold G_ringref2_In at h
  by_cases h496 : v_n708 ≥ v_least709
  · rw [if_pos h496] at h
    obtain rfl := Option.some.inj h
    exact pend_sound TTok mix 5 (hs := [.t true, .c, .c]) (by kernel_rfl) (by kernel_rfl) (by kernel_rfl) (.cons (dt h496) .nil)
  · rw [if_neg h496] at h
    obtain rfl := Option.some.inj h
    exact pend_sound TTok mix 5 (hs := [.t false, .c, .c]) (by kernel_rfl) (by kernel_rfl) (by kernel_rfl) (.cons (df h496) .nil)
inductive G_ringref2_TwinSame_C1_R where
  | x0 (v_x720 : Bool)
def G_ringref2_TwinSame_C1_ex : G_ringref2_TwinSame_C1_R → Ex
  | .x0 _ => .normal
def G_ringref2_TwinSame_C1_st (v_a712 : S_twin_Twin) (v_b713 : S_twin_Twin) : G_ringref2_TwinSame_C1_R → PS
  | .x0 v_x720 => ⟨[dd, dd, .ref 0 0, .ref 1 0, dd, dd, dd, dd, dd, dd, dd, dd, dd, dd, dd, dd, dd, dd, dd, .d (.v (.bool v_x720)), dd, dd, dd, dd, dd, dd, dd, dd, dd, dd, dd, dd, dd, dd, dd, dd, dd, dd], [.box [.d (.v (.int .i64 v_a712.fOrder)), .d (.sl (v_a712.fFree.map eS_twin_Room))], .box [.d (.v (.int .i64 v_b713.fOrder)), .d (.sl (v_b713.fFree.map eS_twin_Room))]]⟩
def G_ringref2_TwinSame_C1_hd (v_a712 : S_twin_Twin) (v_b713 : S_twin_Twin)  : PS := ⟨[dd, dd, .ref 0 0, .ref 1 0, dd, dd, dd, dd, dd, dd, dd, dd, dd, dd, dd, dd, dd, dd, dd, dd, dd, dd, dd, dd, dd, dd, dd, dd, dd, dd, dd, dd, dd, dd, dd, dd, dd, dd], [.box [.d (.v (.int .i64 v_a712.fOrder)), .d (.sl (v_a712.fFree.map eS_twin_Room))], .box [.d (.v (.int .i64 v_b713.fOrder)), .d (.sl (v_b713.fFree.map eS_twin_Room))]]⟩
def G_ringref2_TwinSame_C1 (n : Nat) (v_a712 : S_twin_Twin) (v_b713 : S_twin_Twin) : Option G_ringref2_TwinSame_C1_R :=
  if v_a712.fOrder = v_b713.fOrder then
   some (.x0 ((v_a712.fFree.length : Int) != (v_b713.fFree.length : Int)))
  else
   some (.x0 true)
theorem G_ringref2_TwinSame_C1_ok {Fi : Ex → PS → Prop} (hF : KC 38 Fi) (ks : List Fr) (n : Nat) (v_a712 : S_twin_Twin) (v_b713 : S_twin_Twin)  (o : G_ringref2_TwinSame_C1_R) (h : G_ringref2_TwinSame_C1 n v_a712 v_b713 = some o) (q : RunE Try.prog 38 Fi ks (G_ringref2_TwinSame_C1_ex o) (G_ringref2_TwinSame_C1_st v_a712 v_b713 o)) : RunE Try.prog 38 Fi (.s (cL (cL (cR (bodyOf Try.f52)))) :: ks) .normal (G_ringref2_TwinSame_C1_hd v_a712 v_b713) := by
  unfold G_ringref2_TwinSame_C1 at h
  by_cases h500 : v_a712.fOrder = v_b713.fOrder
  · rw [if_pos h500] at h
    cases h
    exact pkk_sound TTok mix hF 1 (hs := [.c, .c, .t false, .c, .c, .c, .u (.d (.v (.int .i64 (v_a712.fFree.length : Int)))), .c, .c, .c, .c, .u (.d (.v (.int .i64 (v_b713.fFree.length : Int)))), .c]) (ts := []) (s := [0, 1]) (l := [2, 3, 19]) (by kernel_rfl) (by kernel_rfl) (.cons (nf h500) (.cons (len_ob (f := eS_twin_Room) (l := v_a712.fFree)) (.cons (len_ob (f := eS_twin_Room) (l := v_b713.fFree)) .nil))) q
  · rw [if_neg h500] at h
    cases h
    exact pkk_sound TTok mix hF 1 (hs := [.c, .c, .t true, .c, .c, .c, .c, .c, .c]) (ts := []) (s := [0, 1]) (l := [2, 3, 19]) (by kernel_rfl) (by kernel_rfl) (.cons (nt h500) .nil) q
inductive G_ringref2_TwinSame_L2_R where
  | x0 (v_x747 : Bool)
  | x1 
def G_ringref2_TwinSame_L2_ex : G_ringref2_TwinSame_L2_R → Ex
  | .x0 _ => .ret
  | .x1  => .exit 0
def G_ringref2_TwinSame_L2_st (v_a712 : S_twin_Twin) (v_b713 : S_twin_Twin) : G_ringref2_TwinSame_L2_R → PS
  | .x0 v_x747 => ⟨[dd, dd, dd, dd, .d (.v (.bool v_x747)), dd, dd, dd, dd, dd, dd, dd, dd, dd, dd, dd, dd, dd, dd, dd, dd, dd, dd, dd, dd, dd, dd, dd, dd, dd, dd, dd, dd, dd, dd, dd, dd, dd], []⟩
  | .x1  => ⟨[dd, dd, dd, dd, dd, dd, dd, dd, dd, dd, dd, dd, dd, dd, dd, dd, dd, dd, dd, dd, dd, dd, dd, dd, dd, dd, dd, dd, dd, dd, dd, dd, dd, dd, dd, dd, dd, dd], []⟩
def G_ringref2_TwinSame_L2_hd (v_a712 : S_twin_Twin) (v_b713 : S_twin_Twin) (v_x742 : Int) : PS := ⟨[dd, dd, .ref 0 0, .ref 1 0, dd, dd, dd, dd, dd, dd, dd, dd, dd, dd, dd, dd, dd, dd, dd, dd, dd, dd, .d (.v (.int .i64 (v_a712.fFree.length : Int))), .d (.v (.int .i64 v_x742)), dd, dd, dd, dd, dd, dd, dd, dd, dd, dd, dd, dd, dd, dd], [.box [.d (.v (.int .i64 v_a712.fOrder)), .d (.sl (v_a712.fFree.map eS_twin_Room))], .box [.d (.v (.int .i64 v_b713.fOrder)), .d (.sl (v_b713.fFree.map eS_twin_Room))]]⟩
def G_ringref2_TwinSame_L2 (n : Nat) (v_a712 : S_twin_Twin) (v_b713 : S_twin_Twin) : Nat → Int → Option G_ringref2_TwinSame_L2_R
  | 0, _ => none
  | k + 1, v_x742 =>
    if v_x742 < (v_a712.fFree.length : Int) then
     (getI v_a712.fFree v_x742).bind fun (v_y745 : S_twin_Room) =>
     (getI v_b713.fFree v_x742).bind fun (v_y746 : S_twin_Room) =>
     if (eqRes .neq (eqS_twin_Room v_y745 v_y746)) = true then
      some (.x0 false)
     else
      G_ringref2_TwinSame_L2 n v_a712 v_b713 k (wi .i64 (v_x742 + 1))
    else
     some (.x1 )
theorem G_ringref2_TwinSame_L2_ok {Fi : Ex → PS → Prop} (hF : KC 38 Fi) (ks : List Fr) (n : Nat) (v_a712 : S_twin_Twin) (v_b713 : S_twin_Twin)  : ∀ (k : Nat) (v_x742 : Int) (o : G_ringref2_TwinSame_L2_R), G_ringref2_TwinSame_L2 n v_a712 v_b713 k v_x742 = some o → RunE Try.prog 38 Fi ks (G_ringref2_TwinSame_L2_ex o) (G_ringref2_TwinSame_L2_st v_a712 v_b713 o) → RunE Try.prog 38 Fi (.l k (cP (cB (cR (cL (cR (cR (bodyOf Try.f52))))))) :: ks) .normal (G_ringref2_TwinSame_L2_hd v_a712 v_b713 v_x742)
  | 0, v_x742, o, h, q => by rw [G_ringref2_TwinSame_L2] at h; cases h
  | k + 1, v_x742, o, h, q => by
    rw [G_ringref2_TwinSame_L2] at h
    by_cases h503 : v_x742 < (v_a712.fFree.length : Int)
    · rw [if_pos h503] at h
      obtain ⟨v_y745, h507, h⟩ := bind_some h
      obtain ⟨v_y746, h508, h⟩ := bind_some h
      by_cases h509 : (eqRes .neq (eqS_twin_Room v_y745 v_y746)) = true
      · rw [if_pos h509] at h
        cases h
        exact pkk_sound TTok mix hF 19 (hs := [.t true, .c, .y (eS_twin_Room v_y745), .c, .y (eS_twin_Room v_y746), .q (eqS_twin_Room v_y745 v_y746), .t true]) (ts := []) (s := []) (l := [4]) (by kernel_rfl) (by kernel_rfl) (.cons (dt h503) (.cons (getI_ob (f := eS_twin_Room) h507) (.cons (getI_ob (f := eS_twin_Room) h508) (.cons (eqS_twin_Room_ok v_y745 v_y746) (.cons h509 .nil))))) q
      · rw [if_neg h509] at h
        exact pkk_sound TTok mix hF 16 (hs := [.t true, .c, .y (eS_twin_Room v_y745), .c, .y (eS_twin_Room v_y746), .q (eqS_twin_Room v_y745 v_y746), .t false]) (ts := []) (s := [0, 1]) (l := [2, 3, 22, 23]) (by kernel_rfl) (by kernel_rfl) (.cons (dt h503) (.cons (getI_ob (f := eS_twin_Room) h507) (.cons (getI_ob (f := eS_twin_Room) h508) (.cons (eqS_twin_Room_ok v_y745 v_y746) (.cons (vf h509) .nil))))) (G_ringref2_TwinSame_L2_ok hF ks n v_a712 v_b713 k (wi .i64 (v_x742 + 1)) _ h q)
    · rw [if_neg h503] at h
      cases h
      exact pkk_sound TTok mix hF 8 (hs := [.t false]) (ts := []) (s := []) (l := []) (by kernel_rfl) (by kernel_rfl) (.cons (df h503) .nil) q
/- ringhall/ringref2.TwinSame -/
def G_ringref2_TwinSame (n : Nat) (v_a712 : S_twin_Twin) (v_b713 : S_twin_Twin) : Option (Bool) :=
  (G_ringref2_TwinSame_C1 n v_a712 v_b713).bind fun v_o722 => match v_o722 with
  | .x0 v_z723 =>
    if v_z723 = true then
     some false
    else
     (G_ringref2_TwinSame_L2 n v_a712 v_b713 n 0).bind fun v_o748 => match v_o748 with
     | .x0 v_z749 =>
       some v_z749
     | .x1  =>
       some true
theorem G_ringref2_TwinSame_ok (n : Nat) (v_a712 : S_twin_Twin) (v_b713 : S_twin_Twin) (r : Bool) (h : G_ringref2_TwinSame n v_a712 v_b713 = some r) : Ret Try.prog 52 [eS_twin_Twin v_a712, eS_twin_Twin v_b713] (eB r) := by
  refine ret_run (n := 38) (fn := Try.f52) (c := bodyOf Try.f52) (by kernel_rfl) (by kernel_rfl) (by kernel_rfl) (by kernel_rfl) ?_
  have hF : KC 38 (FinR Try.prog Try.f52 (eB r)) := FinR.kc' (by kernel_rfl)
  unfold G_ringref2_TwinSame at h
  obtain ⟨v_o722, h501, h⟩ := bind_some h
  refine pkk_sound TTok mix hF 4 (hs := []) (ts := []) (s := [0, 5]) (l := [2, 3]) (by kernel_rfl) (by kernel_rfl) .nil (G_ringref2_TwinSame_C1_ok hF (.s (cR (cL (cR (bodyOf Try.f52)))) :: .s (cR (cR (bodyOf Try.f52))) :: []) n v_a712 v_b713 _ h501 ?_)
  cases v_o722 with
  | x0 v_z723 =>
    try dsimp only at h
    by_cases h502 : v_z723 = true
    · rw [if_pos h502] at h
      obtain rfl := Option.some.inj h
      exact pend_sound TTok mix 5 (hs := [.t true]) (by kernel_rfl) (by kernel_rfl) (by kernel_rfl) (.cons h502 .nil)
    · rw [if_neg h502] at h
      obtain ⟨v_o748, h510, h⟩ := bind_some h
      refine pkk_sound TTok mix hF 7 (hs := [.t false, .c, .u (.d (.v (.int .i64 (v_a712.fFree.length : Int)))), .n n]) (ts := []) (s := [0, 1]) (l := [2, 3, 22, 23]) (by kernel_rfl) (by kernel_rfl) (.cons (vf h502) (.cons (len_ob (f := eS_twin_Room) (l := v_a712.fFree)) .nil)) (G_ringref2_TwinSame_L2_ok hF (.b 0 :: .s (cR (cR (cR (bodyOf Try.f52)))) :: []) n v_a712 v_b713 n 0 _ h510 ?_)
      cases v_o748 with
      | x0 v_z749 =>
        try dsimp only at h
        obtain rfl := Option.some.inj h
        exact pend_sound TTok mix 2 (hs := []) (by kernel_rfl) (by kernel_rfl) (by kernel_rfl) .nil
      | x1  =>
        try dsimp only at h
        obtain rfl := Option.some.inj h
        exact pend_sound TTok mix 4 (hs := []) (by kernel_rfl) (by kernel_rfl) (by kernel_rfl) .nil
inductive G_ringref2_Power_L1_R where
  | x0 (v_n863 : Int)
def G_ringref2_Power_L1_ex : G_ringref2_Power_L1_R → Ex
  | .x0 _ => .exit 0
def G_ringref2_Power_L1_st (v_k853 : Int) : G_ringref2_Power_L1_R → PS
  | .x0 v_n863 => ⟨[dd, dd, dd, .d (.v (.int .i64 v_n863)), dd, dd, dd, dd, dd, dd, dd], []⟩
def G_ringref2_Power_L1_hd (v_k853 : Int) (v_n861 : Int) (v_x862 : Int) : PS := ⟨[dd, dd, dd, .d (.v (.int .i64 v_n861)), .d (.v (.int .i64 v_k853)), .d (.v (.int .i64 v_x862)), dd, dd, dd, dd, dd], []⟩
def G_ringref2_Power_L1 (n : Nat) (v_k853 : Int) : Nat → Int → Int → Option G_ringref2_Power_L1_R
  | 0, _, _ => none
  | k + 1, v_n861, v_x862 =>
    if v_x862 < v_k853 then
     G_ringref2_Power_L1 n v_k853 k (wi .i64 (v_n861 * 2)) (wi .i64 (v_x862 + 1))
    else
     some (.x0 v_n861)
theorem G_ringref2_Power_L1_ok {Fi : Ex → PS → Prop} (hF : KC 11 Fi) (ks : List Fr) (n : Nat) (v_k853 : Int)  : ∀ (k : Nat) (v_n861 : Int) (v_x862 : Int) (o : G_ringref2_Power_L1_R), G_ringref2_Power_L1 n v_k853 k v_n861 v_x862 = some o → RunE Try.prog 11 Fi ks (G_ringref2_Power_L1_ex o) (G_ringref2_Power_L1_st v_k853 o) → RunE Try.prog 11 Fi (.l k (cP (cB (cR (cL (cR (cR (bodyOf Try.f57))))))) :: ks) .normal (G_ringref2_Power_L1_hd v_k853 v_n861 v_x862)
  | 0, v_n861, v_x862, o, h, q => by rw [G_ringref2_Power_L1] at h; cases h
  | k + 1, v_n861, v_x862, o, h, q => by
    rw [G_ringref2_Power_L1] at h
    by_cases h543 : v_x862 < v_k853
    · rw [if_pos h543] at h
      exact pkk_sound TTok mix hF 11 (hs := [.t true]) (ts := []) (s := []) (l := [3, 4, 5]) (by kernel_rfl) (by kernel_rfl) (.cons (dt h543) .nil) (G_ringref2_Power_L1_ok hF ks n v_k853 k (wi .i64 (v_n861 * 2)) (wi .i64 (v_x862 + 1)) _ h q)
    · rw [if_neg h543] at h
      cases h
      exact pkk_sound TTok mix hF 8 (hs := [.t false]) (ts := []) (s := []) (l := [3]) (by kernel_rfl) (by kernel_rfl) (.cons (df h543) .nil) q
/- ringhall/ringref2.Power -/
def G_ringref2_Power (n : Nat) (v_k853 : Int) : Option (Int) :=
  (G_ringref2_Power_L1 n v_k853 n 1 0).bind fun v_o864 => match v_o864 with
  | .x0 v_z865 =>
    some v_z865
theorem G_ringref2_Power_ok (n : Nat) (v_k853 : Int) (r : Int) (h : G_ringref2_Power n v_k853 = some r) : Ret Try.prog 57 [(eI .i64) v_k853] ((eI .i64) r) := by
  refine ret_run (n := 11) (fn := Try.f57) (c := bodyOf Try.f57) (by kernel_rfl) (by kernel_rfl) (by kernel_rfl) (by kernel_rfl) ?_
  have hF : KC 11 (FinR Try.prog Try.f57 ((eI .i64) r)) := FinR.kc' (by kernel_rfl)
  unfold G_ringref2_Power at h
  obtain ⟨v_o864, h544, h⟩ := bind_some h
  refine pkk_sound TTok mix hF 9 (hs := [.n n]) (ts := []) (s := []) (l := [3, 4, 5]) (by kernel_rfl) (by kernel_rfl) .nil (G_ringref2_Power_L1_ok hF (.b 0 :: .s (cR (cR (cR (bodyOf Try.f57)))) :: []) n v_k853 n 1 0 _ h544 ?_)
  cases v_o864 with
  | x0 v_z865 =>
    try dsimp only at h
    obtain rfl := Option.some.inj h
    exact pend_sound TTok mix 4 (hs := []) (by kernel_rfl) (by kernel_rfl) (by kernel_rfl) .nil
inductive G_ringref2_RoomIs_C1_R where
  | x0 (v_x875 : Bool)
def G_ringref2_RoomIs_C1_ex : G_ringref2_RoomIs_C1_R → Ex
  | .x0 _ => .normal
def G_ringref2_RoomIs_C1_st (v_order849 : Int) (v_r848 : S_twin_Room) : G_ringref2_RoomIs_C1_R → PS
  | .x0 v_x875 => ⟨[dd, dd, dd, dd, .d (.v (.bool v_x875)), dd, dd, dd, dd, dd, dd, dd, dd, dd, dd, dd, dd, dd, dd, dd, dd, dd, dd, dd, dd, dd, dd, dd, dd], []⟩
def G_ringref2_RoomIs_C1_hd (v_order849 : Int) (v_r848 : S_twin_Room)  : PS := ⟨[dd, .d (.v (.int .i64 v_order849)), .ref 0 0, dd, dd, dd, dd, dd, dd, dd, dd, dd, dd, dd, dd, dd, dd, dd, dd, dd, dd, dd, dd, dd, dd, dd, dd, dd, dd], [.box [.d (.v (.int .i64 v_r848.fAt)), .d (.v (.int .i64 v_r848.fOrder))]]⟩
def G_ringref2_RoomIs_C1 (n : Nat) (v_order849 : Int) (v_r848 : S_twin_Room) : Option G_ringref2_RoomIs_C1_R :=
  (G_ringref2_In n v_r848.fOrder 0 v_order849).bind fun (v_r870 : (Bool)) =>
  if v_r870 = true then
   (G_ringref2_Power n v_order849).bind fun (v_r871 : (Int)) =>
   (G_ringref2_Power n v_r848.fOrder).bind fun (v_r872 : (Int)) =>
   (G_ringref2_In n v_r848.fAt 0 (wi .i64 (v_r871 - v_r872))).bind fun (v_r873 : (Bool)) =>
   if v_r873 = true then
    (G_ringref2_Power n v_r848.fOrder).bind fun (v_r874 : (Int)) =>
    if v_r874 ≠ 0 then
     some (.x0 ((remI v_r848.fAt v_r874) == 0))
    else none
   else
    some (.x0 false)
  else
   some (.x0 false)
theorem G_ringref2_RoomIs_C1_ok {Fi : Ex → PS → Prop} (hF : KC 29 Fi) (ks : List Fr) (n : Nat) (v_order849 : Int) (v_r848 : S_twin_Room)  (o : G_ringref2_RoomIs_C1_R) (h : G_ringref2_RoomIs_C1 n v_order849 v_r848 = some o) (q : RunE Try.prog 29 Fi ks (G_ringref2_RoomIs_C1_ex o) (G_ringref2_RoomIs_C1_st v_order849 v_r848 o)) : RunE Try.prog 29 Fi (.s (cL (cR (bodyOf Try.f56))) :: ks) .normal (G_ringref2_RoomIs_C1_hd v_order849 v_r848) := by
  unfold G_ringref2_RoomIs_C1 at h
  obtain ⟨v_r870, h551, h⟩ := bind_some h
  by_cases h552 : v_r870 = true
  · rw [if_pos h552] at h
    obtain ⟨v_r871, h553, h⟩ := bind_some h
    obtain ⟨v_r872, h554, h⟩ := bind_some h
    obtain ⟨v_r873, h555, h⟩ := bind_some h
    by_cases h556 : v_r873 = true
    · rw [if_pos h556] at h
      obtain ⟨v_r874, h557, h⟩ := bind_some h
      by_cases h558 : v_r874 ≠ 0
      · rw [if_pos h558] at h
        cases h
        exact pkk_sound TTok mix hF 1 (hs := [.c, .r (eB v_r870), .t true, .c, .c, .c, .c, .r ((eI .i64) v_r871), .c, .c, .c, .c, .r ((eI .i64) v_r872), .c, .c, .r (eB v_r873), .t true, .c, .c, .c, .c, .c, .c, .r ((eI .i64) v_r874), .c, .c]) (ts := []) (s := []) (l := [4]) (by kernel_rfl) (by kernel_rfl) (.cons (G_ringref2_In_ok n v_r848.fOrder 0 v_order849 _ h551) (.cons h552 (.cons (G_ringref2_Power_ok n v_order849 _ h553) (.cons (G_ringref2_Power_ok n v_r848.fOrder _ h554) (.cons (G_ringref2_In_ok n v_r848.fAt 0 (wi .i64 (v_r871 - v_r872)) _ h555) (.cons h556 (.cons (G_ringref2_Power_ok n v_r848.fOrder _ h557) (.cons h558 .nil)))))))) q
      · rw [if_neg h558] at h; cases h
    · rw [if_neg h556] at h
      cases h
      exact pkk_sound TTok mix hF 1 (hs := [.c, .r (eB v_r870), .t true, .c, .c, .c, .c, .r ((eI .i64) v_r871), .c, .c, .c, .c, .r ((eI .i64) v_r872), .c, .c, .r (eB v_r873), .t false, .c, .c, .c, .c, .c, .c]) (ts := []) (s := []) (l := [4]) (by kernel_rfl) (by kernel_rfl) (.cons (G_ringref2_In_ok n v_r848.fOrder 0 v_order849 _ h551) (.cons h552 (.cons (G_ringref2_Power_ok n v_order849 _ h553) (.cons (G_ringref2_Power_ok n v_r848.fOrder _ h554) (.cons (G_ringref2_In_ok n v_r848.fAt 0 (wi .i64 (v_r871 - v_r872)) _ h555) (.cons (vf h556) .nil)))))) q
  · rw [if_neg h552] at h
    cases h
    exact pkk_sound TTok mix hF 1 (hs := [.c, .r (eB v_r870), .t false, .c, .c, .c, .c, .c, .c, .c, .c, .c, .c, .c, .c, .c, .c, .c]) (ts := []) (s := []) (l := [4]) (by kernel_rfl) (by kernel_rfl) (.cons (G_ringref2_In_ok n v_r848.fOrder 0 v_order849 _ h551) (.cons (vf h552) .nil)) q
/- ringhall/ringref2.RoomIs -/
def G_ringref2_RoomIs (n : Nat) (v_r848 : S_twin_Room) (v_order849 : Int) : Option (Bool) :=
  (G_ringref2_RoomIs_C1 n v_order849 v_r848).bind fun v_o878 => match v_o878 with
  | .x0 v_z879 =>
    some v_z879
theorem G_ringref2_RoomIs_ok (n : Nat) (v_r848 : S_twin_Room) (v_order849 : Int) (r : Bool) (h : G_ringref2_RoomIs n v_r848 v_order849 = some r) : Ret Try.prog 56 [eS_twin_Room v_r848, (eI .i64) v_order849] (eB r) := by
  refine ret_run (n := 29) (fn := Try.f56) (c := bodyOf Try.f56) (by kernel_rfl) (by kernel_rfl) (by kernel_rfl) (by kernel_rfl) ?_
  have hF : KC 29 (FinR Try.prog Try.f56 (eB r)) := FinR.kc' (by kernel_rfl)
  unfold G_ringref2_RoomIs at h
  obtain ⟨v_o878, h559, h⟩ := bind_some h
  refine pkk_sound TTok mix hF 3 (hs := []) (ts := []) (s := [0]) (l := [1, 2]) (by kernel_rfl) (by kernel_rfl) .nil (G_ringref2_RoomIs_C1_ok hF (.s (cR (cR (bodyOf Try.f56))) :: []) n v_order849 v_r848 _ h559 ?_)
  cases v_o878 with
  | x0 v_z879 =>
    try dsimp only at h
    obtain rfl := Option.some.inj h
    exact pend_sound TTok mix 1 (hs := []) (by kernel_rfl) (by kernel_rfl) (by kernel_rfl) .nil
inductive G_ringref2_Twins_C4_R where
  | x0 (v_x929 : Bool)
def G_ringref2_Twins_C4_ex : G_ringref2_Twins_C4_R → Ex
  | .x0 _ => .normal
def G_ringref2_Twins_C4_st (v_last923 : Int) (v_x924 : Int) (v_t813 : S_twin_Twin) (v_b925 : (Fin 64 → Bool)) (v_y926 : S_twin_Room) : G_ringref2_Twins_C4_R → PS
  | .x0 v_x929 => ⟨[dd, .ref 0 0, dd, .ref 1 0, dd, .d (.v (.int .i64 v_x924)), .ref 2 0, dd, dd, dd, dd, dd, dd, .d (.sl (v_t813.fFree.map eS_twin_Room)), .d (.v (.int .i64 (v_t813.fFree.length : Int))), .d (.v (.int .i64 v_x924)), dd, dd, dd, dd, dd, dd, dd, dd, dd, dd, dd, dd, dd, dd, .d (.v (.bool v_x929)), dd, dd, dd, dd, dd, dd, dd, dd, dd, dd, dd, dd, dd, dd, dd, dd, dd, dd, dd, dd, dd, dd, dd, dd, dd, dd, dd, dd, dd, dd, dd, dd, dd, dd, dd, dd, dd, dd, dd, dd, dd, dd, dd, dd, dd, dd, dd, dd, dd, dd, dd, dd, dd, dd, dd, dd, dd, dd, dd, dd, dd, dd, dd, dd, dd, dd, dd], [.box [.d (.v (.int .i64 v_t813.fOrder)), .d (.sl (v_t813.fFree.map eS_twin_Room))], .box ((cA_t114 v_b925).map FV.d), .box [.d (.v (.int .i64 v_y926.fAt)), .d (.v (.int .i64 v_y926.fOrder))]]⟩
def G_ringref2_Twins_C4_hd (v_last923 : Int) (v_x924 : Int) (v_t813 : S_twin_Twin) (v_b925 : (Fin 64 → Bool)) (v_y926 : S_twin_Room)  : PS := ⟨[dd, .ref 0 0, dd, .ref 1 0, .d (.v (.int .i64 v_last923)), .d (.v (.int .i64 v_x924)), .ref 2 0, dd, dd, dd, dd, dd, dd, .d (.sl (v_t813.fFree.map eS_twin_Room)), .d (.v (.int .i64 (v_t813.fFree.length : Int))), .d (.v (.int .i64 v_x924)), dd, dd, dd, dd, dd, dd, dd, dd, dd, dd, dd, dd, dd, dd, dd, dd, dd, dd, dd, dd, dd, dd, dd, dd, dd, dd, dd, dd, dd, dd, dd, dd, dd, dd, dd, dd, dd, dd, dd, dd, dd, dd, dd, dd, dd, dd, dd, dd, dd, dd, dd, dd, dd, dd, dd, dd, dd, dd, dd, dd, dd, dd, dd, dd, dd, dd, dd, dd, dd, dd, dd, dd, dd, dd, dd, dd, dd, dd, dd, dd, dd, dd], [.box [.d (.v (.int .i64 v_t813.fOrder)), .d (.sl (v_t813.fFree.map eS_twin_Room))], .box ((cA_t114 v_b925).map FV.d), .box [.d (.v (.int .i64 v_y926.fAt)), .d (.v (.int .i64 v_y926.fOrder))]]⟩
def G_ringref2_Twins_C4 (n : Nat) (v_last923 : Int) (v_x924 : Int) (v_t813 : S_twin_Twin) (v_b925 : (Fin 64 → Bool)) (v_y926 : S_twin_Room) : Option G_ringref2_Twins_C4_R :=
  (G_ringref2_RoomIs n v_y926 v_t813.fOrder).bind fun (v_r928 : (Bool)) =>
  if v_r928 = true then
   some (.x0 (decide (v_y926.fAt ≤ v_last923)))
  else
   some (.x0 true)
theorem G_ringref2_Twins_C4_ok {Fi : Ex → PS → Prop} (hF : KC 98 Fi) (ks : List Fr) (n : Nat) (v_last923 : Int) (v_x924 : Int) (v_t813 : S_twin_Twin) (v_b925 : (Fin 64 → Bool)) (v_y926 : S_twin_Room)  (o : G_ringref2_Twins_C4_R) (h : G_ringref2_Twins_C4 n v_last923 v_x924 v_t813 v_b925 v_y926 = some o) (q : RunE Try.prog 98 Fi ks (G_ringref2_Twins_C4_ex o) (G_ringref2_Twins_C4_st v_last923 v_x924 v_t813 v_b925 v_y926 o)) : RunE Try.prog 98 Fi (.s (cL (cL (cR (cB (cL (cR (cR (cP (cB (cR (cL (cR (cR (cR (cR (bodyOf Try.f53)))))))))))))))) :: ks) .normal (G_ringref2_Twins_C4_hd v_last923 v_x924 v_t813 v_b925 v_y926) := by
  unfold G_ringref2_Twins_C4 at h
  obtain ⟨v_r928, h612, h⟩ := bind_some h
  by_cases h613 : v_r928 = true
  · rw [if_pos h613] at h
    cases h
    exact pkk_sound TTok mix hF 1 (hs := [.c, .c, .r (eB v_r928), .t false, .c, .c, .c, .c]) (ts := []) (s := [0, 1, 2]) (l := [1, 3, 5, 6, 13, 14, 15, 30]) (by kernel_rfl) (by kernel_rfl) (.cons (G_ringref2_RoomIs_ok n v_y926 v_t813.fOrder _ h612) (.cons (bnf h613) .nil)) q
  · rw [if_neg h613] at h
    cases h
    exact pkk_sound TTok mix hF 1 (hs := [.c, .c, .r (eB v_r928), .t true, .c, .c, .c]) (ts := []) (s := [0, 1, 2]) (l := [1, 3, 5, 6, 13, 14, 15, 30]) (by kernel_rfl) (by kernel_rfl) (.cons (G_ringref2_RoomIs_ok n v_y926 v_t813.fOrder _ h612) (.cons (bnt (vf h613)) .nil)) q
inductive G_ringref2_Twins_L5_R where
  | x0 (v_x946 : Int)
  | x1 (v_b948 : (Fin 64 → Bool))
def G_ringref2_Twins_L5_ex : G_ringref2_Twins_L5_R → Ex
  | .x0 _ => .ret
  | .x1 _ => .exit 2
def G_ringref2_Twins_L5_st (v_x924 : Int) (v_t813 : S_twin_Twin) (v_r934 : (Int)) (v_y926 : S_twin_Room) : G_ringref2_Twins_L5_R → PS
  | .x0 v_x946 => ⟨[dd, dd, .d (.v (.int .i64 v_x946)), dd, dd, dd, dd, dd, dd, dd, dd, dd, dd, dd, dd, dd, dd, dd, dd, dd, dd, dd, dd, dd, dd, dd, dd, dd, dd, dd, dd, dd, dd, dd, dd, dd, dd, dd, dd, dd, dd, dd, dd, dd, dd, dd, dd, dd, dd, dd, dd, dd, dd, dd, dd, dd, dd, dd, dd, dd, dd, dd, dd, dd, dd, dd, dd, dd, dd, dd, dd, dd, dd, dd, dd, dd, dd, dd, dd, dd, dd, dd, dd, dd, dd, dd, dd, dd, dd, dd, dd, dd, dd, dd, dd, dd, dd, dd], []⟩
  | .x1 v_b948 => ⟨[dd, .ref 0 0, dd, .ref 1 0, dd, .d (.v (.int .i64 v_x924)), .ref 2 0, dd, dd, dd, dd, dd, dd, .d (.sl (v_t813.fFree.map eS_twin_Room)), .d (.v (.int .i64 (v_t813.fFree.length : Int))), .d (.v (.int .i64 v_x924)), dd, dd, dd, dd, dd, dd, dd, dd, dd, dd, dd, dd, dd, dd, dd, dd, dd, dd, dd, dd, dd, dd, dd, dd, dd, dd, dd, dd, dd, dd, dd, dd, dd, dd, dd, dd, dd, dd, dd, dd, dd, dd, dd, dd, dd, dd, dd, dd, dd, dd, dd, dd, dd, dd, dd, dd, dd, dd, dd, dd, dd, dd, dd, dd, dd, dd, dd, dd, dd, dd, dd, dd, dd, dd, dd, dd, dd, dd, dd, dd, dd, dd], [.box [.d (.v (.int .i64 v_t813.fOrder)), .d (.sl (v_t813.fFree.map eS_twin_Room))], .box ((cA_t114 v_b948).map FV.d), .box [.d (.v (.int .i64 v_y926.fAt)), .d (.v (.int .i64 v_y926.fOrder))]]⟩
def G_ringref2_Twins_L5_hd (v_x924 : Int) (v_t813 : S_twin_Twin) (v_r934 : (Int)) (v_y926 : S_twin_Room) (v_x941 : Int) (v_b942 : (Fin 64 → Bool)) : PS := ⟨[dd, .ref 0 0, dd, .ref 1 0, dd, .d (.v (.int .i64 v_x924)), .ref 2 0, dd, dd, dd, dd, dd, dd, .d (.sl (v_t813.fFree.map eS_twin_Room)), .d (.v (.int .i64 (v_t813.fFree.length : Int))), .d (.v (.int .i64 v_x924)), dd, dd, dd, dd, dd, dd, dd, dd, dd, dd, dd, dd, dd, dd, dd, dd, dd, .d (.v (.int .i64 v_r934)), .d (.v (.int .i64 v_x941)), dd, dd, dd, dd, dd, dd, dd, dd, dd, dd, dd, dd, dd, dd, dd, dd, dd, dd, dd, dd, dd, dd, dd, dd, dd, dd, dd, dd, dd, dd, dd, dd, dd, dd, dd, dd, dd, dd, dd, dd, dd, dd, dd, dd, dd, dd, dd, dd, dd, dd, dd, dd, dd, dd, dd, dd, dd, dd, dd, dd, dd, dd, dd], [.box [.d (.v (.int .i64 v_t813.fOrder)), .d (.sl (v_t813.fFree.map eS_twin_Room))], .box ((cA_t114 v_b942).map FV.d), .box [.d (.v (.int .i64 v_y926.fAt)), .d (.v (.int .i64 v_y926.fOrder))]]⟩
def G_ringref2_Twins_L5 (n : Nat) (v_x924 : Int) (v_t813 : S_twin_Twin) (v_r934 : (Int)) (v_y926 : S_twin_Room) : Nat → Int → (Fin 64 → Bool) → Option G_ringref2_Twins_L5_R
  | 0, _, _ => none
  | k + 1, v_x941, v_b942 =>
    if v_x941 < v_r934 then
     if 0 ≤ (wi .i64 (v_y926.fAt + v_x941)) ∧ (wi .i64 (v_y926.fAt + v_x941)) < (64 : Int) then
      (getA v_b942 (wi .i64 (v_y926.fAt + v_x941))).bind fun (v_y945 : Bool) =>
      if v_y945 = true then
       some (.x0 3)
      else
       if 0 ≤ (wi .i64 (v_y926.fAt + v_x941)) ∧ (wi .i64 (v_y926.fAt + v_x941)) < (64 : Int) then
        (getA v_b942 (wi .i64 (v_y926.fAt + v_x941))).bind fun (v_y947 : Bool) =>
        G_ringref2_Twins_L5 n v_x924 v_t813 v_r934 v_y926 k (wi .i64 (v_x941 + 1)) (setA v_b942 (wi .i64 (v_y926.fAt + v_x941)) true)
       else none
     else none
    else
     some (.x1 v_b942)
theorem G_ringref2_Twins_L5_ok {Fi : Ex → PS → Prop} (hF : KC 98 Fi) (ks : List Fr) (n : Nat) (v_x924 : Int) (v_t813 : S_twin_Twin) (v_r934 : (Int)) (v_y926 : S_twin_Room)  : ∀ (k : Nat) (v_x941 : Int) (v_b942 : (Fin 64 → Bool)) (o : G_ringref2_Twins_L5_R), G_ringref2_Twins_L5 n v_x924 v_t813 v_r934 v_y926 k v_x941 v_b942 = some o → RunE Try.prog 98 Fi ks (G_ringref2_Twins_L5_ex o) (G_ringref2_Twins_L5_st v_x924 v_t813 v_r934 v_y926 o) → RunE Try.prog 98 Fi (.l k (cP (cB (cR (cL (cR (cR (cB (cL (cR (cR (cP (cB (cR (cL (cR (cR (cR (cR (bodyOf Try.f53))))))))))))))))))) :: ks) .normal (G_ringref2_Twins_L5_hd v_x924 v_t813 v_r934 v_y926 v_x941 v_b942)
  | 0, v_x941, v_b942, o, h, q => by rw [G_ringref2_Twins_L5] at h; cases h
  | k + 1, v_x941, v_b942, o, h, q => by
    rw [G_ringref2_Twins_L5] at h
    by_cases h628 : v_x941 < v_r934
    · rw [if_pos h628] at h
      by_cases h634 : 0 ≤ (wi .i64 (v_y926.fAt + v_x941)) ∧ (wi .i64 (v_y926.fAt + v_x941)) < (64 : Int)
      · rw [if_pos h634] at h
        obtain ⟨v_y945, h635, h⟩ := bind_some h
        by_cases h636 : v_y945 = true
        · rw [if_pos h636] at h
          cases h
          exact pkk_sound TTok mix hF 21 (hs := [.t true, .c, .l (.d (.v (.bool v_y945))), .t true]) (ts := []) (s := []) (l := [2]) (by kernel_rfl) (by kernel_rfl) (.cons (dt h628) (.cons h634 (.cons (arr_cell (γ := FV) (sz := 1) (g := (fun x => [.d (.v (.bool x))])) (pre := []) (post := []) (o := 0) (fun _ => rfl) h635 rfl) (.cons h636 .nil)))) q
        · rw [if_neg h636] at h
          by_cases h637 : 0 ≤ (wi .i64 (v_y926.fAt + v_x941)) ∧ (wi .i64 (v_y926.fAt + v_x941)) < (64 : Int)
          · rw [if_pos h637] at h
            obtain ⟨v_y947, h638, h⟩ := bind_some h
            exact pkk_sound TTok mix hF 18 (hs := [.t true, .c, .l (.d (.v (.bool v_y945))), .t false, .c, .x ((cA_t114 (setA v_b942 (wi .i64 (v_y926.fAt + v_x941)) true)).map FV.d), .c]) (ts := []) (s := [0, 1, 2]) (l := [1, 3, 5, 6, 13, 14, 15, 33, 34]) (by kernel_rfl) (by kernel_rfl) (.cons (dt h628) (.cons h634 (.cons (arr_cell (γ := FV) (sz := 1) (g := (fun x => [.d (.v (.bool x))])) (pre := []) (post := []) (o := 0) (fun _ => rfl) h635 rfl) (.cons (vf h636) (.cons h637 (.cons (arr_store (γ := FV) (sz := 1) (g := (fun x => [.d (.v (.bool x))])) (pre := []) (post := []) (o := 0) (y := true) (zs := [.d (.v (.bool true))]) (fun _ => rfl) h638 rfl (Nat.le_of_ble_eq_true rfl)).1 (.cons (arr_store (γ := FV) (sz := 1) (g := (fun x => [.d (.v (.bool x))])) (pre := []) (post := []) (o := 0) (y := true) (zs := [.d (.v (.bool true))]) (fun _ => rfl) h638 rfl (Nat.le_of_ble_eq_true rfl)).2 .nil))))))) (G_ringref2_Twins_L5_ok hF ks n v_x924 v_t813 v_r934 v_y926 k (wi .i64 (v_x941 + 1)) (setA v_b942 (wi .i64 (v_y926.fAt + v_x941)) true) _ h q)
          · rw [if_neg h637] at h; cases h
      · rw [if_neg h634] at h; cases h
    · rw [if_neg h628] at h
      cases h
      exact pkk_sound TTok mix hF 8 (hs := [.t false]) (ts := []) (s := [0, 1, 2]) (l := [1, 3, 5, 6, 13, 14, 15]) (by kernel_rfl) (by kernel_rfl) (.cons (df h628) .nil) q
inductive G_ringref2_Twins_C6_R where
  | x0 (v_x963 : Bool)
def G_ringref2_Twins_C6_ex : G_ringref2_Twins_C6_R → Ex
  | .x0 _ => .normal
def G_ringref2_Twins_C6_st (v_y926 : S_twin_Room) (v_x924 : Int) (v_t813 : S_twin_Twin) (v_z952 : (Fin 64 → Bool)) : G_ringref2_Twins_C6_R → PS
  | .x0 v_x963 => ⟨[dd, .ref 0 0, dd, .ref 1 0, .d (.v (.int .i64 v_y926.fAt)), dd, dd, dd, dd, dd, dd, dd, dd, .d (.sl (v_t813.fFree.map eS_twin_Room)), .d (.v (.int .i64 (v_t813.fFree.length : Int))), .d (.v (.int .i64 v_x924)), dd, dd, dd, dd, dd, dd, dd, dd, dd, dd, dd, dd, dd, dd, dd, dd, dd, dd, dd, dd, dd, dd, dd, dd, dd, dd, dd, dd, dd, dd, dd, dd, dd, dd, dd, dd, dd, dd, dd, dd, dd, dd, dd, dd, dd, dd, dd, dd, dd, dd, dd, dd, dd, dd, dd, dd, dd, dd, dd, dd, dd, dd, dd, dd, dd, dd, dd, dd, dd, dd, dd, dd, dd, dd, dd, dd, dd, dd, dd, dd, .d (.v (.bool v_x963)), dd], [.box [.d (.v (.int .i64 v_t813.fOrder)), .d (.sl (v_t813.fFree.map eS_twin_Room))], .box ((cA_t114 v_z952).map FV.d)]⟩
def G_ringref2_Twins_C6_hd (v_y926 : S_twin_Room) (v_x924 : Int) (v_t813 : S_twin_Twin) (v_z952 : (Fin 64 → Bool))  : PS := ⟨[dd, .ref 0 0, dd, .ref 1 0, .d (.v (.int .i64 v_y926.fAt)), .d (.v (.int .i64 v_x924)), .ref 2 0, dd, dd, dd, dd, dd, dd, .d (.sl (v_t813.fFree.map eS_twin_Room)), .d (.v (.int .i64 (v_t813.fFree.length : Int))), .d (.v (.int .i64 v_x924)), dd, dd, dd, dd, dd, dd, dd, dd, dd, dd, dd, dd, dd, dd, dd, dd, dd, dd, dd, dd, dd, dd, dd, dd, dd, dd, dd, dd, dd, dd, dd, dd, dd, dd, dd, dd, dd, dd, dd, dd, dd, dd, dd, dd, dd, dd, dd, dd, dd, dd, dd, dd, dd, dd, dd, dd, dd, dd, dd, dd, dd, dd, dd, dd, dd, dd, dd, dd, dd, dd, dd, dd, dd, dd, dd, dd, dd, dd, dd, dd, dd, dd], [.box [.d (.v (.int .i64 v_t813.fOrder)), .d (.sl (v_t813.fFree.map eS_twin_Room))], .box ((cA_t114 v_z952).map FV.d), .box [.d (.v (.int .i64 v_y926.fAt)), .d (.v (.int .i64 v_y926.fOrder))]]⟩
def G_ringref2_Twins_C6 (n : Nat) (v_y926 : S_twin_Room) (v_x924 : Int) (v_t813 : S_twin_Twin) (v_z952 : (Fin 64 → Bool)) : Option G_ringref2_Twins_C6_R :=
  if v_x924 > 0 then
   (getI v_t813.fFree (wi .i64 (v_x924 - 1))).bind fun (v_y958 : S_twin_Room) =>
   if v_y958.fOrder = v_y926.fOrder then
    (getI v_t813.fFree (wi .i64 (v_x924 - 1))).bind fun (v_y959 : S_twin_Room) =>
    (G_ringref2_RoomIs n (S_twin_Room.mk v_y959.fAt (wi .i64 (v_y926.fOrder + 1))) v_t813.fOrder).bind fun (v_r960 : (Bool)) =>
    if v_r960 = true then
     (getI v_t813.fFree (wi .i64 (v_x924 - 1))).bind fun (v_y961 : S_twin_Room) =>
     (G_ringref2_Power n v_y926.fOrder).bind fun (v_r962 : (Int)) =>
     some (.x0 ((wi .i64 (v_y961.fAt + v_r962)) == v_y926.fAt))
    else
     some (.x0 false)
   else
    some (.x0 false)
  else
   some (.x0 false)
theorem G_ringref2_Twins_C6_ok {Fi : Ex → PS → Prop} (hF : KC 98 Fi) (ks : List Fr) (n : Nat) (v_y926 : S_twin_Room) (v_x924 : Int) (v_t813 : S_twin_Twin) (v_z952 : (Fin 64 → Bool))  (o : G_ringref2_Twins_C6_R) (h : G_ringref2_Twins_C6 n v_y926 v_x924 v_t813 v_z952 = some o) (q : RunE Try.prog 98 Fi ks (G_ringref2_Twins_C6_ex o) (G_ringref2_Twins_C6_st v_y926 v_x924 v_t813 v_z952 o)) : RunE Try.prog 98 Fi (.s (cL (cR (cR (cR (cR (cB (cL (cR (cR (cP (cB (cR (cL (cR (cR (cR (cR (bodyOf Try.f53)))))))))))))))))) :: ks) .normal (G_ringref2_Twins_C6_hd v_y926 v_x924 v_t813 v_z952) := by
  unfold G_ringref2_Twins_C6 at h
  by_cases h648 : v_x924 > 0
  · rw [if_pos h648] at h
    obtain ⟨v_y958, h649, h⟩ := bind_some h
    by_cases h650 : v_y958.fOrder = v_y926.fOrder
    · rw [if_pos h650] at h
      obtain ⟨v_y959, h651, h⟩ := bind_some h
      obtain ⟨v_r960, h652, h⟩ := bind_some h
      by_cases h653 : v_r960 = true
      · rw [if_pos h653] at h
        obtain ⟨v_y961, h654, h⟩ := bind_some h
        obtain ⟨v_r962, h655, h⟩ := bind_some h
        cases h
        exact pkk_sound TTok mix hF 1 (hs := [.t true, .c, .c, .c, .c, .c, .y (eS_twin_Room v_y958), .c, .c, .c, .c, .c, .c, .c, .t true, .c, .c, .c, .c, .c, .y (eS_twin_Room v_y959), .c, .c, .c, .c, .c, .c, .c, .c, .c, .c, .c, .c, .r (eB v_r960), .t true, .c, .c, .c, .c, .c, .y (eS_twin_Room v_y961), .c, .c, .c, .c, .c, .c, .c, .r ((eI .i64) v_r962), .c, .c, .c, .c, .c]) (ts := []) (s := [0, 1]) (l := [1, 3, 4, 13, 14, 15, 96]) (by kernel_rfl) (by kernel_rfl) (.cons (dt h648) (.cons (getI_ob (f := eS_twin_Room) h649) (.cons (bt h650) (.cons (getI_ob (f := eS_twin_Room) h651) (.cons (G_ringref2_RoomIs_ok n (S_twin_Room.mk v_y959.fAt (wi .i64 (v_y926.fOrder + 1))) v_t813.fOrder _ h652) (.cons h653 (.cons (getI_ob (f := eS_twin_Room) h654) (.cons (G_ringref2_Power_ok n v_y926.fOrder _ h655) .nil)))))))) q
      · rw [if_neg h653] at h
        cases h
        exact pkk_sound TTok mix hF 1 (hs := [.t true, .c, .c, .c, .c, .c, .y (eS_twin_Room v_y958), .c, .c, .c, .c, .c, .c, .c, .t true, .c, .c, .c, .c, .c, .y (eS_twin_Room v_y959), .c, .c, .c, .c, .c, .c, .c, .c, .c, .c, .c, .c, .r (eB v_r960), .t false, .c, .c, .c, .c, .c, .c, .c, .c, .c, .c, .c, .c, .c]) (ts := []) (s := [0, 1]) (l := [1, 3, 4, 13, 14, 15, 96]) (by kernel_rfl) (by kernel_rfl) (.cons (dt h648) (.cons (getI_ob (f := eS_twin_Room) h649) (.cons (bt h650) (.cons (getI_ob (f := eS_twin_Room) h651) (.cons (G_ringref2_RoomIs_ok n (S_twin_Room.mk v_y959.fAt (wi .i64 (v_y926.fOrder + 1))) v_t813.fOrder _ h652) (.cons (vf h653) .nil)))))) q
    · rw [if_neg h650] at h
      cases h
      exact pkk_sound TTok mix hF 1 (hs := [.t true, .c, .c, .c, .c, .c, .y (eS_twin_Room v_y958), .c, .c, .c, .c, .c, .c, .c, .t false, .c, .c, .c, .c, .c, .c, .c, .c, .c, .c, .c, .c, .c, .c, .c, .c, .c, .c, .c, .c, .c, .c, .c, .c, .c, .c, .c]) (ts := []) (s := [0, 1]) (l := [1, 3, 4, 13, 14, 15, 96]) (by kernel_rfl) (by kernel_rfl) (.cons (dt h648) (.cons (getI_ob (f := eS_twin_Room) h649) (.cons (bf h650) .nil))) q
  · rw [if_neg h648] at h
    cases h
    exact pkk_sound TTok mix hF 1 (hs := [.t false, .c, .c, .c, .c, .c, .c, .c, .c, .c, .c, .c, .c, .c, .c, .c, .c, .c, .c, .c, .c, .c, .c, .c, .c, .c, .c, .c, .c, .c, .c, .c, .c, .c, .c, .c, .c, .c]) (ts := []) (s := [0, 1]) (l := [1, 3, 4, 13, 14, 15, 96]) (by kernel_rfl) (by kernel_rfl) (.cons (df h648) .nil) q
inductive G_ringref2_Twins_L7_R where
  | x0 (v_x933 : Int)
  | x1 
def G_ringref2_Twins_L7_ex : G_ringref2_Twins_L7_R → Ex
  | .x0 _ => .ret
  | .x1  => .exit 0
def G_ringref2_Twins_L7_st (v_t813 : S_twin_Twin) : G_ringref2_Twins_L7_R → PS
  | .x0 v_x933 => ⟨[dd, dd, .d (.v (.int .i64 v_x933)), dd, dd, dd, dd, dd, dd, dd, dd, dd, dd, dd, dd, dd, dd, dd, dd, dd, dd, dd, dd, dd, dd, dd, dd, dd, dd, dd, dd, dd, dd, dd, dd, dd, dd, dd, dd, dd, dd, dd, dd, dd, dd, dd, dd, dd, dd, dd, dd, dd, dd, dd, dd, dd, dd, dd, dd, dd, dd, dd, dd, dd, dd, dd, dd, dd, dd, dd, dd, dd, dd, dd, dd, dd, dd, dd, dd, dd, dd, dd, dd, dd, dd, dd, dd, dd, dd, dd, dd, dd, dd, dd, dd, dd, dd, dd], []⟩
  | .x1  => ⟨[dd, dd, dd, dd, dd, dd, dd, dd, dd, dd, dd, dd, dd, dd, dd, dd, dd, dd, dd, dd, dd, dd, dd, dd, dd, dd, dd, dd, dd, dd, dd, dd, dd, dd, dd, dd, dd, dd, dd, dd, dd, dd, dd, dd, dd, dd, dd, dd, dd, dd, dd, dd, dd, dd, dd, dd, dd, dd, dd, dd, dd, dd, dd, dd, dd, dd, dd, dd, dd, dd, dd, dd, dd, dd, dd, dd, dd, dd, dd, dd, dd, dd, dd, dd, dd, dd, dd, dd, dd, dd, dd, dd, dd, dd, dd, dd, dd, dd], []⟩
def G_ringref2_Twins_L7_hd (v_t813 : S_twin_Twin) (v_last923 : Int) (v_x924 : Int) (v_b925 : (Fin 64 → Bool)) : PS := ⟨[dd, .ref 0 0, dd, .ref 1 0, .d (.v (.int .i64 v_last923)), dd, dd, dd, dd, dd, dd, dd, dd, .d (.sl (v_t813.fFree.map eS_twin_Room)), .d (.v (.int .i64 (v_t813.fFree.length : Int))), .d (.v (.int .i64 v_x924)), dd, dd, dd, dd, dd, dd, dd, dd, dd, dd, dd, dd, dd, dd, dd, dd, dd, dd, dd, dd, dd, dd, dd, dd, dd, dd, dd, dd, dd, dd, dd, dd, dd, dd, dd, dd, dd, dd, dd, dd, dd, dd, dd, dd, dd, dd, dd, dd, dd, dd, dd, dd, dd, dd, dd, dd, dd, dd, dd, dd, dd, dd, dd, dd, dd, dd, dd, dd, dd, dd, dd, dd, dd, dd, dd, dd, dd, dd, dd, dd, dd, dd], [.box [.d (.v (.int .i64 v_t813.fOrder)), .d (.sl (v_t813.fFree.map eS_twin_Room))], .box ((cA_t114 v_b925).map FV.d)]⟩
def G_ringref2_Twins_L7 (n : Nat) (v_t813 : S_twin_Twin) : Nat → Int → Int → (Fin 64 → Bool) → Option G_ringref2_Twins_L7_R
  | 0, _, _, _ => none
  | k + 1, v_last923, v_x924, v_b925 =>
    if v_x924 < (v_t813.fFree.length : Int) then
     (getI v_t813.fFree v_x924).bind fun (v_y926 : S_twin_Room) =>
     (G_ringref2_Twins_C4 n v_last923 v_x924 v_t813 v_b925 v_y926).bind fun v_o931 => match v_o931 with
     | .x0 v_z932 =>
       if v_z932 = true then
        some (.x0 3)
       else
        (G_ringref2_Power n v_y926.fOrder).bind fun (v_r934 : (Int)) =>
        (G_ringref2_Twins_L5 n v_x924 v_t813 v_r934 v_y926 n 0 v_b925).bind fun v_o949 => match v_o949 with
        | .x0 v_z950 =>
          some (.x0 v_z950)
        | .x1 v_z952 =>
          (G_ringref2_Twins_C6 n v_y926 v_x924 v_t813 v_z952).bind fun v_o967 => match v_o967 with
          | .x0 v_z968 =>
            if v_z968 = true then
             some (.x0 3)
            else
             G_ringref2_Twins_L7 n v_t813 k v_y926.fAt (wi .i64 (v_x924 + 1)) v_z952
    else
     some (.x1 )
theorem G_ringref2_Twins_L7_ok {Fi : Ex → PS → Prop} (hF : KC 98 Fi) (ks : List Fr) (n : Nat) (v_t813 : S_twin_Twin)  : ∀ (k : Nat) (v_last923 : Int) (v_x924 : Int) (v_b925 : (Fin 64 → Bool)) (o : G_ringref2_Twins_L7_R), G_ringref2_Twins_L7 n v_t813 k v_last923 v_x924 v_b925 = some o → RunE Try.prog 98 Fi ks (G_ringref2_Twins_L7_ex o) (G_ringref2_Twins_L7_st v_t813 o) → RunE Try.prog 98 Fi (.l k (cP (cB (cR (cL (cR (cR (cR (cR (bodyOf Try.f53))))))))) :: ks) .normal (G_ringref2_Twins_L7_hd v_t813 v_last923 v_x924 v_b925)
  | 0, v_last923, v_x924, v_b925, o, h, q => by rw [G_ringref2_Twins_L7] at h; cases h
  | k + 1, v_last923, v_x924, v_b925, o, h, q => by
    rw [G_ringref2_Twins_L7] at h
    by_cases h608 : v_x924 < (v_t813.fFree.length : Int)
    · rw [if_pos h608] at h
      obtain ⟨v_y926, h609, h⟩ := bind_some h
      obtain ⟨v_o931, h614, h⟩ := bind_some h
      refine pkk_sound TTok mix hF 12 (hs := [.t true, .y (eS_twin_Room v_y926), .c]) (ts := []) (s := [0, 1, 22]) (l := [1, 3, 4, 5, 6, 13, 14, 15]) (by kernel_rfl) (by kernel_rfl) (.cons (dt h608) (.cons (getI_ob (f := eS_twin_Room) h609) (.cons (show 0 + 2 ≤ 2 by decide) .nil))) (G_ringref2_Twins_C4_ok hF (.s (cR (cL (cR (cB (cL (cR (cR (cP (cB (cR (cL (cR (cR (cR (cR (bodyOf Try.f53)))))))))))))))) :: .s (cR (cR (cB (cL (cR (cR (cP (cB (cR (cL (cR (cR (cR (cR (bodyOf Try.f53))))))))))))))) :: .b 1 :: .s (cR (cR (cR (cP (cB (cR (cL (cR (cR (cR (cR (bodyOf Try.f53)))))))))))) :: .l k (cP (cB (cR (cL (cR (cR (cR (cR (bodyOf Try.f53))))))))) :: ks) n v_last923 v_x924 v_t813 v_b925 v_y926 _ h614 ?_)
      cases v_o931 with
      | x0 v_z932 =>
        try dsimp only at h
        by_cases h615 : v_z932 = true
        · rw [if_pos h615] at h
          cases h
          exact pkk_sound TTok mix hF 8 (hs := [.t true]) (ts := []) (s := []) (l := [2]) (by kernel_rfl) (by kernel_rfl) (.cons h615 .nil) q
        · rw [if_neg h615] at h
          obtain ⟨v_r934, h616, h⟩ := bind_some h
          obtain ⟨v_o949, h639, h⟩ := bind_some h
          refine pkk_sound TTok mix hF 7 (hs := [.t false, .c, .r ((eI .i64) v_r934), .n n]) (ts := []) (s := [0, 1, 2]) (l := [1, 3, 5, 6, 13, 14, 15, 33, 34]) (by kernel_rfl) (by kernel_rfl) (.cons (vf h615) (.cons (G_ringref2_Power_ok n v_y926.fOrder _ h616) .nil)) (G_ringref2_Twins_L5_ok hF (.b 2 :: .s (cR (cR (cR (cB (cL (cR (cR (cP (cB (cR (cL (cR (cR (cR (cR (bodyOf Try.f53)))))))))))))))) :: .b 1 :: .s (cR (cR (cR (cP (cB (cR (cL (cR (cR (cR (cR (bodyOf Try.f53)))))))))))) :: .l k (cP (cB (cR (cL (cR (cR (cR (cR (bodyOf Try.f53))))))))) :: ks) n v_x924 v_t813 v_r934 v_y926 n 0 v_b925 _ h639 ?_)
          cases v_o949 with
          | x0 v_z950 =>
            try dsimp only at h
            cases h
            exact pkk_sound TTok mix hF 5 (hs := []) (ts := []) (s := []) (l := [2]) (by kernel_rfl) (by kernel_rfl) .nil q
          | x1 v_z952 =>
            try dsimp only at h
            obtain ⟨v_o967, h656, h⟩ := bind_some h
            refine pkk_sound TTok mix hF 4 (hs := [.c]) (ts := []) (s := [0, 1, 2]) (l := [1, 3, 4, 5, 6, 13, 14, 15]) (by kernel_rfl) (by kernel_rfl) .nil (G_ringref2_Twins_C6_ok hF (.s (cR (cR (cR (cR (cR (cB (cL (cR (cR (cP (cB (cR (cL (cR (cR (cR (cR (bodyOf Try.f53)))))))))))))))))) :: .b 1 :: .s (cR (cR (cR (cP (cB (cR (cL (cR (cR (cR (cR (bodyOf Try.f53)))))))))))) :: .l k (cP (cB (cR (cL (cR (cR (cR (cR (bodyOf Try.f53))))))))) :: ks) n v_y926 v_x924 v_t813 v_z952 _ h656 ?_)
            cases v_o967 with
            | x0 v_z968 =>
              try dsimp only at h
              by_cases h657 : v_z968 = true
              · rw [if_pos h657] at h
                cases h
                exact pkk_sound TTok mix hF 7 (hs := [.t true]) (ts := []) (s := []) (l := [2]) (by kernel_rfl) (by kernel_rfl) (.cons h657 .nil) q
              · rw [if_neg h657] at h
                exact pkk_sound TTok mix hF 4 (hs := [.t false]) (ts := []) (s := [0, 1]) (l := [1, 3, 4, 13, 14, 15]) (by kernel_rfl) (by kernel_rfl) (.cons (vf h657) .nil) (G_ringref2_Twins_L7_ok hF ks n v_t813 k v_y926.fAt (wi .i64 (v_x924 + 1)) v_z952 _ h q)
    · rw [if_neg h608] at h
      cases h
      exact pkk_sound TTok mix hF 8 (hs := [.t false]) (ts := []) (s := []) (l := []) (by kernel_rfl) (by kernel_rfl) (.cons (df h608) .nil) q
/- ringhall/ringref2.Twins -/
def G_ringref2_Twins (n : Nat) (v_t813 : S_twin_Twin) : Option (Int) :=
  (G_ringref2_In n v_t813.fOrder 0 6).bind fun (v_r817 : (Bool)) =>
  if v_r817 = true then
   (G_ringref2_Twins_L7 n v_t813 n (-1) 0 (fun (_ : Fin 64) => false)).bind fun v_o970 => match v_o970 with
   | .x0 v_z971 =>
     some v_z971
   | .x1  =>
     some 0
  else
   some 1
theorem G_ringref2_Twins_ok (n : Nat) (v_t813 : S_twin_Twin) (r : Int) (h : G_ringref2_Twins n v_t813 = some r) : Ret Try.prog 53 [eS_twin_Twin v_t813] ((eI .i64) r) := by
  refine ret_run (n := 98) (fn := Try.f53) (c := bodyOf Try.f53) (by kernel_rfl) (by kernel_rfl) (by kernel_rfl) (by kernel_rfl) ?_
  have hF : KC 98 (FinR Try.prog Try.f53 ((eI .i64) r)) := FinR.kc' (by kernel_rfl)
  unfold G_ringref2_Twins at h
  obtain ⟨v_r817, h537, h⟩ := bind_some h
  by_cases h538 : v_r817 = true
  · rw [if_pos h538] at h
    obtain ⟨v_o970, h658, h⟩ := bind_some h
    refine pkk_sound TTok mix hF 16 (hs := [.c, .r (eB v_r817), .t false, .c, .u (.d (.v (.int .i64 (v_t813.fFree.length : Int)))), .n n]) (ts := []) (s := [0, 30]) (l := [1, 3, 4, 13, 14, 15]) (by kernel_rfl) (by kernel_rfl) (.cons (G_ringref2_In_ok n v_t813.fOrder 0 6 _ h537) (.cons (bnf h538) (.cons (len_ob (f := eS_twin_Room) (l := v_t813.fFree)) .nil))) (G_ringref2_Twins_L7_ok hF (.b 0 :: .s (cR (cR (cR (cR (cR (bodyOf Try.f53)))))) :: []) n v_t813 n (-1) 0 (fun (_ : Fin 64) => false) _ h658 ?_)
    cases v_o970 with
    | x0 v_z971 =>
      try dsimp only at h
      obtain rfl := Option.some.inj h
      exact pend_sound TTok mix 2 (hs := []) (by kernel_rfl) (by kernel_rfl) (by kernel_rfl) .nil
    | x1  =>
      try dsimp only at h
      obtain rfl := Option.some.inj h
      exact pend_sound TTok mix 4 (hs := []) (by kernel_rfl) (by kernel_rfl) (by kernel_rfl) .nil
  · rw [if_neg h538] at h
    obtain rfl := Option.some.inj h
    exact pend_sound TTok mix 10 (hs := [.c, .r (eB v_r817), .t true]) (by kernel_rfl) (by kernel_rfl) (by kernel_rfl) (.cons (G_ringref2_In_ok n v_t813.fOrder 0 6 _ h537) (.cons (bnt (vf h538)) .nil))
inductive G_ringref2_TwinFree_L2_R where
  | x0 (v_b1199 : (Fin 64 → Bool))
def G_ringref2_TwinFree_L2_ex : G_ringref2_TwinFree_L2_R → Ex
  | .x0 _ => .exit 2
def G_ringref2_TwinFree_L2_st (v_t1155 : S_twin_Twin) (v_x1188 : Int) (v_r1191 : (Int)) (v_y1190 : S_twin_Room) : G_ringref2_TwinFree_L2_R → PS
  | .x0 v_b1199 => ⟨[dd, dd, .ref 0 0, .ref 1 0, dd, dd, dd, dd, .d (.sl (v_t1155.fFree.map eS_twin_Room)), .d (.v (.int .i64 (v_t1155.fFree.length : Int))), .d (.v (.int .i64 v_x1188)), dd, dd, dd, dd, dd, dd, dd, dd, dd, dd, dd, dd, dd, dd, dd, dd, dd], [.box ((cA_t114 (fun (_ : Fin 64) => false)).map FV.d), .box ((cA_t114 v_b1199).map FV.d)]⟩
def G_ringref2_TwinFree_L2_hd (v_t1155 : S_twin_Twin) (v_x1188 : Int) (v_r1191 : (Int)) (v_y1190 : S_twin_Room) (v_x1195 : Int) (v_b1196 : (Fin 64 → Bool)) : PS := ⟨[dd, dd, .ref 0 0, .ref 1 0, dd, .ref 2 0, dd, dd, .d (.sl (v_t1155.fFree.map eS_twin_Room)), .d (.v (.int .i64 (v_t1155.fFree.length : Int))), .d (.v (.int .i64 v_x1188)), dd, dd, dd, dd, dd, .d (.v (.int .i64 v_r1191)), .d (.v (.int .i64 v_x1195)), dd, dd, dd, dd, dd, dd, dd, dd, dd, dd], [.box ((cA_t114 (fun (_ : Fin 64) => false)).map FV.d), .box ((cA_t114 v_b1196).map FV.d), .box [.d (.v (.int .i64 v_y1190.fAt)), .d (.v (.int .i64 v_y1190.fOrder))]]⟩
def G_ringref2_TwinFree_L2 (n : Nat) (v_t1155 : S_twin_Twin) (v_x1188 : Int) (v_r1191 : (Int)) (v_y1190 : S_twin_Room) : Nat → Int → (Fin 64 → Bool) → Option G_ringref2_TwinFree_L2_R
  | 0, _, _ => none
  | k + 1, v_x1195, v_b1196 =>
    if v_x1195 < v_r1191 then
     if 0 ≤ (wi .i64 (v_y1190.fAt + v_x1195)) ∧ (wi .i64 (v_y1190.fAt + v_x1195)) < (64 : Int) then
      (getA v_b1196 (wi .i64 (v_y1190.fAt + v_x1195))).bind fun (v_y1198 : Bool) =>
      G_ringref2_TwinFree_L2 n v_t1155 v_x1188 v_r1191 v_y1190 k (wi .i64 (v_x1195 + 1)) (setA v_b1196 (wi .i64 (v_y1190.fAt + v_x1195)) true)
     else none
    else
     some (.x0 v_b1196)
theorem G_ringref2_TwinFree_L2_ok {Fi : Ex → PS → Prop} (hF : KC 28 Fi) (ks : List Fr) (n : Nat) (v_t1155 : S_twin_Twin) (v_x1188 : Int) (v_r1191 : (Int)) (v_y1190 : S_twin_Room)  : ∀ (k : Nat) (v_x1195 : Int) (v_b1196 : (Fin 64 → Bool)) (o : G_ringref2_TwinFree_L2_R), G_ringref2_TwinFree_L2 n v_t1155 v_x1188 v_r1191 v_y1190 k v_x1195 v_b1196 = some o → RunE Try.prog 28 Fi ks (G_ringref2_TwinFree_L2_ex o) (G_ringref2_TwinFree_L2_st v_t1155 v_x1188 v_r1191 v_y1190 o) → RunE Try.prog 28 Fi (.l k (cP (cB (cR (cR (cB (cL (cR (cR (cP (cB (cR (cL (cR (cR (bodyOf Try.f55))))))))))))))) :: ks) .normal (G_ringref2_TwinFree_L2_hd v_t1155 v_x1188 v_r1191 v_y1190 v_x1195 v_b1196)
  | 0, v_x1195, v_b1196, o, h, q => by rw [G_ringref2_TwinFree_L2] at h; cases h
  | k + 1, v_x1195, v_b1196, o, h, q => by
    rw [G_ringref2_TwinFree_L2] at h
    by_cases h724 : v_x1195 < v_r1191
    · rw [if_pos h724] at h
      by_cases h727 : 0 ≤ (wi .i64 (v_y1190.fAt + v_x1195)) ∧ (wi .i64 (v_y1190.fAt + v_x1195)) < (64 : Int)
      · rw [if_pos h727] at h
        obtain ⟨v_y1198, h728, h⟩ := bind_some h
        exact pkk_sound TTok mix hF 13 (hs := [.t true, .c, .x ((cA_t114 (setA v_b1196 (wi .i64 (v_y1190.fAt + v_x1195)) true)).map FV.d), .c]) (ts := []) (s := [0, 1, 2]) (l := [2, 3, 5, 8, 9, 10, 16, 17]) (by kernel_rfl) (by kernel_rfl) (.cons (dt h724) (.cons h727 (.cons (arr_store (γ := FV) (sz := 1) (g := (fun x => [.d (.v (.bool x))])) (pre := []) (post := []) (o := 0) (y := true) (zs := [.d (.v (.bool true))]) (fun _ => rfl) h728 rfl (Nat.le_of_ble_eq_true rfl)).1 (.cons (arr_store (γ := FV) (sz := 1) (g := (fun x => [.d (.v (.bool x))])) (pre := []) (post := []) (o := 0) (y := true) (zs := [.d (.v (.bool true))]) (fun _ => rfl) h728 rfl (Nat.le_of_ble_eq_true rfl)).2 .nil)))) (G_ringref2_TwinFree_L2_ok hF ks n v_t1155 v_x1188 v_r1191 v_y1190 k (wi .i64 (v_x1195 + 1)) (setA v_b1196 (wi .i64 (v_y1190.fAt + v_x1195)) true) _ h q)
      · rw [if_neg h727] at h; cases h
    · rw [if_neg h724] at h
      cases h
      exact pkk_sound TTok mix hF 8 (hs := [.t false]) (ts := []) (s := [0, 1]) (l := [2, 3, 8, 9, 10]) (by kernel_rfl) (by kernel_rfl) (.cons (df h724) .nil) q
inductive G_ringref2_TwinFree_L3_R where
  | x0 (v_b1202 : (Fin 64 → Bool))
def G_ringref2_TwinFree_L3_ex : G_ringref2_TwinFree_L3_R → Ex
  | .x0 _ => .exit 0
def G_ringref2_TwinFree_L3_st (v_t1155 : S_twin_Twin) : G_ringref2_TwinFree_L3_R → PS
  | .x0 v_b1202 => ⟨[dd, dd, .ref 0 0, .ref 1 0, dd, dd, dd, dd, dd, dd, dd, dd, dd, dd, dd, dd, dd, dd, dd, dd, dd, dd, dd, dd, dd, dd, dd, dd], [.box ((cA_t114 (fun (_ : Fin 64) => false)).map FV.d), .box ((cA_t114 v_b1202).map FV.d)]⟩
def G_ringref2_TwinFree_L3_hd (v_t1155 : S_twin_Twin) (v_x1188 : Int) (v_b1189 : (Fin 64 → Bool)) : PS := ⟨[dd, dd, .ref 0 0, .ref 1 0, dd, dd, dd, dd, .d (.sl (v_t1155.fFree.map eS_twin_Room)), .d (.v (.int .i64 (v_t1155.fFree.length : Int))), .d (.v (.int .i64 v_x1188)), dd, dd, dd, dd, dd, dd, dd, dd, dd, dd, dd, dd, dd, dd, dd, dd, dd], [.box ((cA_t114 (fun (_ : Fin 64) => false)).map FV.d), .box ((cA_t114 v_b1189).map FV.d)]⟩
def G_ringref2_TwinFree_L3 (n : Nat) (v_t1155 : S_twin_Twin) : Nat → Int → (Fin 64 → Bool) → Option G_ringref2_TwinFree_L3_R
  | 0, _, _ => none
  | k + 1, v_x1188, v_b1189 =>
    if v_x1188 < (v_t1155.fFree.length : Int) then
     (getI v_t1155.fFree v_x1188).bind fun (v_y1190 : S_twin_Room) =>
     (G_ringref2_Power n v_y1190.fOrder).bind fun (v_r1191 : (Int)) =>
     (G_ringref2_TwinFree_L2 n v_t1155 v_x1188 v_r1191 v_y1190 n 0 v_b1189).bind fun v_o1200 => match v_o1200 with
     | .x0 v_z1201 =>
       G_ringref2_TwinFree_L3 n v_t1155 k (wi .i64 (v_x1188 + 1)) v_z1201
    else
     some (.x0 v_b1189)
theorem G_ringref2_TwinFree_L3_ok {Fi : Ex → PS → Prop} (hF : KC 28 Fi) (ks : List Fr) (n : Nat) (v_t1155 : S_twin_Twin)  : ∀ (k : Nat) (v_x1188 : Int) (v_b1189 : (Fin 64 → Bool)) (o : G_ringref2_TwinFree_L3_R), G_ringref2_TwinFree_L3 n v_t1155 k v_x1188 v_b1189 = some o → RunE Try.prog 28 Fi ks (G_ringref2_TwinFree_L3_ex o) (G_ringref2_TwinFree_L3_st v_t1155 o) → RunE Try.prog 28 Fi (.l k (cP (cB (cR (cL (cR (cR (bodyOf Try.f55))))))) :: ks) .normal (G_ringref2_TwinFree_L3_hd v_t1155 v_x1188 v_b1189)
  | 0, v_x1188, v_b1189, o, h, q => by rw [G_ringref2_TwinFree_L3] at h; cases h
  | k + 1, v_x1188, v_b1189, o, h, q => by
    rw [G_ringref2_TwinFree_L3] at h
    by_cases h716 : v_x1188 < (v_t1155.fFree.length : Int)
    · rw [if_pos h716] at h
      obtain ⟨v_y1190, h717, h⟩ := bind_some h
      obtain ⟨v_r1191, h718, h⟩ := bind_some h
      obtain ⟨v_o1200, h729, h⟩ := bind_some h
      refine pkk_sound TTok mix hF 14 (hs := [.t true, .y (eS_twin_Room v_y1190), .c, .c, .r ((eI .i64) v_r1191), .n n]) (ts := []) (s := [0, 1, 17]) (l := [2, 3, 5, 8, 9, 10, 16, 17]) (by kernel_rfl) (by kernel_rfl) (.cons (dt h716) (.cons (getI_ob (f := eS_twin_Room) h717) (.cons (show 0 + 2 ≤ 2 by decide) (.cons (G_ringref2_Power_ok n v_y1190.fOrder _ h718) .nil)))) (G_ringref2_TwinFree_L2_ok hF (.b 2 :: .b 1 :: .s (cR (cR (cR (cP (cB (cR (cL (cR (cR (bodyOf Try.f55)))))))))) :: .l k (cP (cB (cR (cL (cR (cR (bodyOf Try.f55))))))) :: ks) n v_t1155 v_x1188 v_r1191 v_y1190 n 0 v_b1189 _ h729 ?_)
      cases v_o1200 with
      | x0 v_z1201 =>
        try dsimp only at h
        exact pkk_sound TTok mix hF 3 (hs := []) (ts := []) (s := [0, 1]) (l := [2, 3, 8, 9, 10]) (by kernel_rfl) (by kernel_rfl) .nil (G_ringref2_TwinFree_L3_ok hF ks n v_t1155 k (wi .i64 (v_x1188 + 1)) v_z1201 _ h q)
    · rw [if_neg h716] at h
      cases h
      exact pkk_sound TTok mix hF 8 (hs := [.t false]) (ts := []) (s := [0, 1]) (l := [2, 3]) (by kernel_rfl) (by kernel_rfl) (.cons (df h716) .nil) q
/- ringhall/ringref2.TwinFree -/
def G_ringref2_TwinFree (n : Nat) (v_t1155 : S_twin_Twin) : Option ((Fin 64 → Bool)) :=
  (G_ringref2_TwinFree_L3 n v_t1155 n 0 (fun (_ : Fin 64) => false)).bind fun v_o1203 => match v_o1203 with
  | .x0 v_z1204 =>
    some v_z1204
theorem G_ringref2_TwinFree_ok (n : Nat) (v_t1155 : S_twin_Twin) (r : (Fin 64 → Bool)) (h : G_ringref2_TwinFree n v_t1155 = some r) : Ret Try.prog 55 [eS_twin_Twin v_t1155] ((fun x => PV.agg (cA_t114 x)) r) := by
  refine ret_run (n := 28) (fn := Try.f55) (c := bodyOf Try.f55) (by kernel_rfl) (by kernel_rfl) (by kernel_rfl) (by kernel_rfl) ?_
  have hF : KC 28 (FinR Try.prog Try.f55 ((fun x => PV.agg (cA_t114 x)) r)) := FinR.kc' (by kernel_rfl)
  unfold G_ringref2_TwinFree at h
  obtain ⟨v_o1203, h730, h⟩ := bind_some h
  refine pkk_sound TTok mix hF 9 (hs := [.c, .u (.d (.v (.int .i64 (v_t1155.fFree.length : Int)))), .n n]) (ts := []) (s := [5, 10]) (l := [2, 3, 8, 9, 10]) (by kernel_rfl) (by kernel_rfl) (.cons (len_ob (f := eS_twin_Room) (l := v_t1155.fFree)) .nil) (G_ringref2_TwinFree_L3_ok hF (.b 0 :: .s (cR (cR (cR (bodyOf Try.f55)))) :: []) n v_t1155 n 0 (fun (_ : Fin 64) => false) _ h730 ?_)
  cases v_o1203 with
  | x0 v_z1204 =>
    try dsimp only at h
    obtain rfl := Option.some.inj h
    exact pend_sound TTok mix 4 (hs := [.c, .c]) (by kernel_rfl) (by kernel_rfl) (by kernel_rfl) (.cons (show 0 + 64 ≤ 64 by decide) .nil)
inductive G_ringref2_TwinGive_C3_R where
  | x0 (v_x1719 : Bool) (v_w1720 : (List S_twin_Room))
def G_ringref2_TwinGive_C3_ex : G_ringref2_TwinGive_C3_R → Ex
  | .x0 _ _ => .normal
def G_ringref2_TwinGive_C3_st (v_again1677 : Bool) (v_x1678 : Int) (v_y1712 : S_twin_Room) (v_b1675 : S_twin_Room) (v_w1676 : (List S_twin_Room)) (v_t1565 : S_twin_Twin) (v_w1679 : (List S_twin_Room)) : G_ringref2_TwinGive_C3_R → PS
  | .x0 v_x1719 v_w1720 => ⟨[dd, dd, .ref 0 0, .ref 1 0, .ref 2 0, .srf 3, .d (.v (.bool v_again1677)), .d (.v (.int .i64 v_x1678)), dd, .d (.v (.int .i64 (minI v_y1712.fAt v_b1675.fAt))), dd, dd, dd, dd, dd, dd, dd, dd, .srf 3, .d (.v (.int .i64 (v_w1676.length : Int))), .d (.v (.int .i64 v_x1678)), dd, dd, dd, dd, dd, dd, dd, dd, dd, dd, dd, dd, dd, dd, dd, dd, dd, dd, dd, dd, dd, dd, dd, dd, dd, dd, dd, dd, dd, dd, dd, dd, dd, dd, dd, dd, dd, dd, dd, dd, dd, dd, dd, dd, dd, .d (.v (.bool v_x1719)), dd, dd, dd, dd, dd, dd, dd, dd, dd, dd, dd, dd, dd, dd, dd, dd, dd, dd, dd, dd, dd, dd, dd, dd, dd, dd, dd, dd, dd, dd, dd, dd, dd, dd, dd, dd, dd, dd, dd, dd, dd, dd, dd], [.box [.d (.v (.int .i64 v_t1565.fOrder)), .d (.sl (v_t1565.fFree.map eS_twin_Room))], .box [.d (.v (.int .i64 v_b1675.fAt)), .d (.v (.int .i64 v_b1675.fOrder))], .box [.d (.v (.int .i64 0)), .d (vnil)], .row 112 2 (v_w1720.map eS_twin_Room)]⟩
def G_ringref2_TwinGive_C3_hd (v_again1677 : Bool) (v_x1678 : Int) (v_y1712 : S_twin_Room) (v_b1675 : S_twin_Room) (v_w1676 : (List S_twin_Room)) (v_t1565 : S_twin_Twin) (v_w1679 : (List S_twin_Room))  : PS := ⟨[dd, dd, .ref 0 0, .ref 1 0, .ref 2 0, .srf 3, .d (.v (.bool v_again1677)), .d (.v (.int .i64 v_x1678)), .ref 4 0, .d (.v (.int .i64 (minI v_y1712.fAt v_b1675.fAt))), dd, dd, dd, dd, dd, dd, dd, dd, .srf 3, .d (.v (.int .i64 (v_w1676.length : Int))), .d (.v (.int .i64 v_x1678)), dd, dd, dd, dd, dd, dd, dd, dd, dd, dd, dd, dd, dd, dd, dd, dd, dd, dd, dd, dd, dd, dd, dd, dd, dd, dd, dd, dd, dd, dd, dd, dd, dd, dd, dd, dd, dd, dd, dd, dd, dd, dd, dd, dd, dd, dd, dd, dd, dd, dd, dd, dd, dd, dd, dd, dd, dd, dd, dd, dd, dd, dd, dd, dd, dd, dd, dd, dd, dd, dd, dd, dd, dd, dd, dd, dd, dd, dd, dd, dd, dd, dd, dd, dd, dd, dd, dd, dd, dd], [.box [.d (.v (.int .i64 v_t1565.fOrder)), .d (.sl (v_t1565.fFree.map eS_twin_Room))], .box [.d (.v (.int .i64 v_b1675.fAt)), .d (.v (.int .i64 v_b1675.fOrder))], .box [.d (.v (.int .i64 0)), .d (vnil)], .row 112 2 (v_w1679.map eS_twin_Room), .box [.d (.v (.int .i64 v_y1712.fAt)), .d (.v (.int .i64 v_y1712.fOrder))]]⟩
def G_ringref2_TwinGive_C3 (n : Nat) (v_again1677 : Bool) (v_x1678 : Int) (v_y1712 : S_twin_Room) (v_b1675 : S_twin_Room) (v_w1676 : (List S_twin_Room)) (v_t1565 : S_twin_Twin) (v_w1679 : (List S_twin_Room)) : Option G_ringref2_TwinGive_C3_R :=
  if v_y1712.fOrder = v_b1675.fOrder then
   (G_ringref2_Power n v_b1675.fOrder).bind fun (v_r1717 : (Int)) =>
   if v_y1712.fAt = (wi .i64 (v_b1675.fAt + v_r1717)) then
    (G_ringref2_RoomIs n (S_twin_Room.mk (minI v_y1712.fAt v_b1675.fAt) (wi .i64 (v_b1675.fOrder + 1))) v_t1565.fOrder).bind fun (v_r1718 : (Bool)) =>
    some (.x0 v_r1718 v_w1679)
   else
    (G_ringref2_Power n v_b1675.fOrder).bind fun (v_r1721 : (Int)) =>
    if v_b1675.fAt = (wi .i64 (v_y1712.fAt + v_r1721)) then
     (G_ringref2_RoomIs n (S_twin_Room.mk (minI v_y1712.fAt v_b1675.fAt) (wi .i64 (v_b1675.fOrder + 1))) v_t1565.fOrder).bind fun (v_r1722 : (Bool)) =>
     some (.x0 v_r1722 v_w1679)
    else
     some (.x0 false v_w1679)
  else
   some (.x0 false v_w1679)
theorem G_ringref2_TwinGive_C3_ok {Fi : Ex → PS → Prop} (hF : KC 110 Fi) (ks : List Fr) (n : Nat) (v_again1677 : Bool) (v_x1678 : Int) (v_y1712 : S_twin_Room) (v_b1675 : S_twin_Room) (v_w1676 : (List S_twin_Room)) (v_t1565 : S_twin_Twin) (v_w1679 : (List S_twin_Room))  (o : G_ringref2_TwinGive_C3_R) (h : G_ringref2_TwinGive_C3 n v_again1677 v_x1678 v_y1712 v_b1675 v_w1676 v_t1565 v_w1679 = some o) (q : RunE Try.prog 110 Fi ks (G_ringref2_TwinGive_C3_ex o) (G_ringref2_TwinGive_C3_st v_again1677 v_x1678 v_y1712 v_b1675 v_w1676 v_t1565 v_w1679 o)) : RunE Try.prog 110 Fi (.s (cL (cR (cR (cB (cL (cR (cR (cP (cB (cR (cR (cB (cR (cP (cB (cR (cL (cR (cR (bodyOf Try.f58)))))))))))))))))))) :: ks) .normal (G_ringref2_TwinGive_C3_hd v_again1677 v_x1678 v_y1712 v_b1675 v_w1676 v_t1565 v_w1679) := by
  unfold G_ringref2_TwinGive_C3 at h
  by_cases h873 : v_y1712.fOrder = v_b1675.fOrder
  · rw [if_pos h873] at h
    obtain ⟨v_r1717, h874, h⟩ := bind_some h
    by_cases h875 : v_y1712.fAt = (wi .i64 (v_b1675.fAt + v_r1717))
    · rw [if_pos h875] at h
      obtain ⟨v_r1718, h876, h⟩ := bind_some h
      cases h
      exact pkk_sound TTok mix hF 1 (hs := [.c, .c, .t true, .c, .c, .c, .c, .c, .c, .c, .c, .c, .r ((eI .i64) v_r1717), .c, .c, .c, .t true, .c, .c, .c, .c, .c, .c, .c, .c, .c, .c, .c, .c, .c, .c, .c, .c, .c, .c, .c, .r (eB v_r1718)]) (ts := []) (s := [0, 1, 2, 3]) (l := [2, 3, 4, 5, 6, 7, 9, 18, 19, 20, 66]) (by kernel_rfl) (by kernel_rfl) (.cons (bt h873) (.cons (G_ringref2_Power_ok n v_b1675.fOrder _ h874) (.cons (bt h875) (.cons (G_ringref2_RoomIs_ok n (S_twin_Room.mk (minI v_y1712.fAt v_b1675.fAt) (wi .i64 (v_b1675.fOrder + 1))) v_t1565.fOrder _ h876) .nil)))) q
    · rw [if_neg h875] at h
      obtain ⟨v_r1721, h877, h⟩ := bind_some h
      by_cases h878 : v_b1675.fAt = (wi .i64 (v_y1712.fAt + v_r1721))
      · rw [if_pos h878] at h
        obtain ⟨v_r1722, h879, h⟩ := bind_some h
        cases h
        exact pkk_sound TTok mix hF 1 (hs := [.c, .c, .t true, .c, .c, .c, .c, .c, .c, .c, .c, .c, .r ((eI .i64) v_r1717), .c, .c, .c, .t false, .c, .c, .c, .c, .c, .c, .c, .c, .c, .r ((eI .i64) v_r1721), .c, .c, .c, .t true, .c, .c, .c, .c, .c, .c, .c, .c, .c, .r (eB v_r1722)]) (ts := []) (s := [0, 1, 2, 3]) (l := [2, 3, 4, 5, 6, 7, 9, 18, 19, 20, 66]) (by kernel_rfl) (by kernel_rfl) (.cons (bt h873) (.cons (G_ringref2_Power_ok n v_b1675.fOrder _ h874) (.cons (bf h875) (.cons (G_ringref2_Power_ok n v_b1675.fOrder _ h877) (.cons (bt h878) (.cons (G_ringref2_RoomIs_ok n (S_twin_Room.mk (minI v_y1712.fAt v_b1675.fAt) (wi .i64 (v_b1675.fOrder + 1))) v_t1565.fOrder _ h879) .nil)))))) q
      · rw [if_neg h878] at h
        cases h
        exact pkk_sound TTok mix hF 1 (hs := [.c, .c, .t true, .c, .c, .c, .c, .c, .c, .c, .c, .c, .r ((eI .i64) v_r1717), .c, .c, .c, .t false, .c, .c, .c, .c, .c, .c, .c, .c, .c, .r ((eI .i64) v_r1721), .c, .c, .c, .t false, .c, .c, .c, .c, .c, .c, .c]) (ts := []) (s := [0, 1, 2, 3]) (l := [2, 3, 4, 5, 6, 7, 9, 18, 19, 20, 66]) (by kernel_rfl) (by kernel_rfl) (.cons (bt h873) (.cons (G_ringref2_Power_ok n v_b1675.fOrder _ h874) (.cons (bf h875) (.cons (G_ringref2_Power_ok n v_b1675.fOrder _ h877) (.cons (bf h878) .nil))))) q
  · rw [if_neg h873] at h
    cases h
    exact pkk_sound TTok mix hF 1 (hs := [.c, .c, .t false, .c, .c, .c, .c, .c, .c, .c, .c, .c, .c, .c, .c, .c, .c, .c, .c, .c, .c]) (ts := []) (s := [0, 1, 2, 3]) (l := [2, 3, 4, 5, 6, 7, 9, 18, 19, 20, 66]) (by kernel_rfl) (by kernel_rfl) (.cons (bf h873) .nil) q
inductive G_ringref2_TwinGive_L4_R where
  | x0 (v_again1744 : Bool) (v_b1745 : S_twin_Room) (v_w1746 : (List S_twin_Room))
  | x1 (v_again1747 : Bool) (v_w1748 : (List S_twin_Room))
def G_ringref2_TwinGive_L4_ex : G_ringref2_TwinGive_L4_R → Ex
  | .x0 _ _ _ => .exit 2
  | .x1 _ _ => .exit 2

end Go.Proofs.Ytpeakaeblibfmaa.pv
