/- What the functions compute, as functions over plain data, with their contracts: written by gen.py. -/
import Derived.Test.YtpeakaeblibfmaaProg
import Derived.Test.YtpeakaeblibfmaaQr
import Derived.Test.YtpeakaeblibfmaaSh
import Derived.Test.YtpeakaeblibfmaaSv
set_option maxRecDepth 100000
set_option linter.all false
namespace Go.Proofs.Ytpeakaeblibfmaa.pv
open Go.RowKit
def TT : List TI := [
⟨1, 0, .oth, []⟩,
⟨1, 8, .oth, [.nf]⟩,
⟨1, 8, .int .i64, [.i .i64]⟩,
⟨1, 8, .int .i64, [.i .i64]⟩,
⟨1, 1, .bool, [.b]⟩,
⟨1, 1, .int .u8, [.i .u8]⟩,
⟨1, 1, .int .u8, [.i .u8]⟩,
⟨4, 24, .st [(0, 2), (1, 3), (2, 4), (3, 6)], [.i .i64, .i .i64, .b, .i .u8]⟩,
⟨4, 24, .st [(0, 2), (1, 3), (2, 4), (3, 6)], [.i .i64, .i .i64, .b, .i .u8]⟩,
⟨1, 16, .str, [.s]⟩,
⟨1, 16, .str, [.s]⟩,
⟨1, 16, .str, [.s]⟩,
⟨1, 8, .int .u64, [.i .u64]⟩,
⟨2, 24, .st [(0, 9), (1, 12)], [.s, .i .u64]⟩,
⟨2, 24, .st [(0, 9), (1, 12)], [.s, .i .u64]⟩,
⟨1, 8, .ptr 176, [.np]⟩,
⟨1, 8, .ptr 179, [.np]⟩,
⟨1, 8, .ptr 188, [.np]⟩,
⟨1, 8, .st [(0, 17)], [.np]⟩,
⟨1, 8, .st [(0, 17)], [.np]⟩,
⟨1, 16, .oth, [.ni]⟩,
⟨1, 4, .int .i32, [.i .i32]⟩,
⟨1, 24, .sl 5, [.sl]⟩,
⟨1, 24, .sl 39, [.sl]⟩,
⟨2, 48, .st [(0, 22), (1, 23)], [.sl, .sl]⟩,
⟨2, 48, .st [(0, 22), (1, 23)], [.sl, .sl]⟩,
⟨1, 8, .int .i64, [.i .i64]⟩,
⟨1, 0, .oth, []⟩,
⟨1, 8, .oth, [.nf]⟩,
⟨1, 0, .oth, []⟩,
⟨1, 8, .oth, [.nf]⟩,
⟨1, 8, .oth, [.nf]⟩,
⟨1, 0, .oth, []⟩,
⟨1, 8, .oth, [.nf]⟩,
⟨1, 0, .oth, []⟩,
⟨1, 8, .oth, [.nf]⟩,
⟨1, 8, .oth, [.nf]⟩,
⟨1, 8, .oth, [.nf]⟩,
⟨1, 8, .oth, [.nf]⟩,
⟨1, 24, .sl 3, [.sl]⟩,
⟨1, 0, .oth, []⟩,
⟨1, 8, .oth, [.nf]⟩,
⟨1, 8, .oth, [.nf]⟩,
⟨1, 8, .oth, [.nf]⟩,
⟨1, 8, .oth, [.nf]⟩,
⟨1, 8, .oth, [.nf]⟩,
⟨1, 8, .oth, [.nf]⟩,
⟨1, 24, .sl 66, [.sl]⟩,
⟨1, 4, .int .u32, [.i .u32]⟩,
⟨2, 16, .st [(0, 3), (1, 3)], [.i .i64, .i .i64]⟩,
⟨2, 16, .st [(0, 3), (1, 3)], [.i .i64, .i .i64]⟩,
⟨1, 0, .oth, []⟩,
⟨1, 8, .oth, [.nf]⟩,
⟨1, 8, .oth, [.nf]⟩,
⟨1, 0, .oth, []⟩,
⟨1, 8, .oth, [.nf]⟩,
⟨1, 8, .oth, [.nf]⟩,
⟨1, 0, .oth, []⟩,
⟨1, 8, .oth, [.nf]⟩,
⟨1, 0, .oth, []⟩,
⟨1, 8, .oth, [.nf]⟩,
⟨1, 8, .oth, [.nf]⟩,
⟨1, 8, .oth, [.nf]⟩,
⟨1, 24, .sl 69, [.sl]⟩,
⟨1, 24, .sl 50, [.sl]⟩,
⟨2, 48, .st [(0, 63), (1, 64)], [.sl, .sl]⟩,
⟨2, 48, .st [(0, 63), (1, 64)], [.sl, .sl]⟩,
⟨1, 8, .oth, [.nf]⟩,
⟨3, 24, .st [(0, 3), (1, 3), (2, 48)], [.i .i64, .i .i64, .i .u32]⟩,
⟨3, 24, .st [(0, 3), (1, 3), (2, 48)], [.i .i64, .i .i64, .i .u32]⟩,
⟨1, 8, .oth, [.nf]⟩,
⟨1, 8, .oth, [.nf]⟩,
⟨1, 8, .oth, [.nf]⟩,
⟨1, 8, .oth, [.nf]⟩,
⟨1, 8, .oth, [.nf]⟩,
⟨1, 8, .oth, [.nf]⟩,
⟨1, 24, .sl 136, [.sl]⟩,
⟨2, 32, .st [(0, 3), (1, 76)], [.i .i64, .sl]⟩,
⟨2, 32, .st [(0, 3), (1, 76)], [.i .i64, .sl]⟩,
⟨2, 16, .st [(0, 3), (1, 3)], [.i .i64, .i .i64]⟩,
⟨2, 16, .st [(0, 3), (1, 3)], [.i .i64, .i .i64]⟩,
⟨1, 0, .oth, []⟩,
⟨1, 8, .oth, [.nf]⟩,
⟨1, 0, .oth, []⟩,
⟨1, 8, .oth, [.nf]⟩,
⟨1, 0, .oth, []⟩,
⟨1, 8, .oth, [.nf]⟩,
⟨1, 0, .oth, []⟩,
⟨1, 8, .oth, [.nf]⟩,
⟨1, 8, .oth, [.nf]⟩,
⟨1, 8, .oth, [.nf]⟩,
⟨16, 16, .arr 16 4, List.replicate 16 (.b)⟩,
⟨1024, 1024, .arr 64 91, List.replicate 1024 (.b)⟩,
⟨1, 8, .oth, [.nf]⟩,
⟨1, 8, .oth, [.nf]⟩,
⟨1, 24, .sl 4, [.sl]⟩,
⟨1, 8, .oth, [.nf]⟩,
⟨1, 8, .oth, [.nf]⟩,
⟨1, 0, .oth, []⟩,
⟨1, 8, .oth, [.nf]⟩,
⟨1, 8, .oth, [.nf]⟩,
⟨1, 24, .sl 112, [.sl]⟩,
⟨2, 32, .st [(0, 3), (1, 101)], [.i .i64, .sl]⟩,
⟨2, 32, .st [(0, 3), (1, 101)], [.i .i64, .sl]⟩,
⟨1, 0, .oth, []⟩,
⟨1, 8, .oth, [.nf]⟩,
⟨1, 0, .oth, []⟩,
⟨1, 8, .oth, [.nf]⟩,
⟨1, 8, .oth, [.nf]⟩,
⟨1, 8, .oth, [.nf]⟩,
⟨1, 8, .oth, [.nf]⟩,
⟨2, 16, .st [(0, 3), (1, 3)], [.i .i64, .i .i64]⟩,
⟨2, 16, .st [(0, 3), (1, 3)], [.i .i64, .i .i64]⟩,
⟨1, 8, .oth, [.nf]⟩,
⟨64, 64, .arr 64 4, List.replicate 64 (.b)⟩,
⟨1, 8, .oth, [.nf]⟩,
⟨1, 8, .oth, [.nf]⟩,
⟨1, 8, .oth, [.nf]⟩,
⟨1, 8, .oth, [.nf]⟩,
⟨1, 0, .oth, []⟩,
⟨1, 8, .oth, [.nf]⟩,
⟨1, 8, .oth, [.nf]⟩,
⟨1, 8, .oth, [.nf]⟩,
⟨1, 8, .oth, [.nf]⟩,
⟨1, 8, .oth, [.nf]⟩,
⟨1, 8, .oth, [.nf]⟩,
⟨1, 8, .oth, [.nf]⟩,
⟨1, 8, .oth, [.nf]⟩,
⟨1, 8, .oth, [.nf]⟩,
⟨1, 8, .ptr 66, [.np]⟩,
⟨1, 8, .oth, [.nf]⟩,
⟨1, 8, .oth, [.nf]⟩,
⟨1, 8, .oth, [.nf]⟩,
⟨1, 8, .oth, [.nf]⟩,
⟨1, 8, .oth, [.nf]⟩,
⟨2, 32, .st [(0, 3), (1, 39)], [.i .i64, .sl]⟩,
⟨2, 32, .st [(0, 3), (1, 39)], [.i .i64, .sl]⟩,
⟨1, 8, .oth, [.nf]⟩,
⟨1, 8, .oth, [.nf]⟩,
⟨1, 8, .oth, [.nf]⟩,
⟨1, 8, .oth, [.nf]⟩,
⟨1, 8, .oth, [.nf]⟩,
⟨1, 8, .oth, [.nf]⟩,
⟨1, 8, .oth, [.nf]⟩,
⟨1, 8, .oth, [.nf]⟩,
⟨1, 8, .oth, [.nf]⟩,
⟨1, 8, .oth, [.nf]⟩,
⟨1, 8, .oth, [.nf]⟩,
⟨1, 8, .oth, [.nf]⟩,
⟨1, 8, .oth, [.nf]⟩,
⟨1, 8, .oth, [.nf]⟩,
⟨1, 8, .oth, [.nf]⟩,
⟨1, 8, .oth, [.nf]⟩,
⟨1, 8, .oth, [.nf]⟩,
⟨1, 8, .oth, [.nf]⟩,
⟨1, 8, .oth, [.nf]⟩,
⟨1, 8, .oth, [.nf]⟩,
⟨1, 8, .oth, [.nf]⟩,
⟨1, 8, .oth, [.nf]⟩,
⟨1, 8, .oth, [.nf]⟩,
⟨1, 8, .oth, [.nf]⟩,
⟨1, 8, .oth, [.nf]⟩,
⟨1, 8, .oth, [.nf]⟩,
⟨1, 8, .oth, [.nf]⟩,
⟨1, 8, .oth, [.nf]⟩,
⟨1, 8, .oth, [.nf]⟩,
⟨1, 8, .oth, [.nf]⟩,
⟨1, 8, .oth, [.nf]⟩,
⟨1, 8, .oth, [.nf]⟩,
⟨1, 8, .oth, [.nf]⟩,
⟨1, 8, .ptr 112, [.np]⟩,
⟨1, 8, .oth, [.nf]⟩,
⟨1, 8, .oth, [.nf]⟩,
⟨1, 8, .oth, [.nf]⟩,
⟨1, 8, .oth, [.nf]⟩,
⟨4, 40, .st [(0, 17), (1, 17), (2, 17), (3, 9)], [.np, .np, .np, .s]⟩,
⟨4, 40, .st [(0, 17), (1, 17), (2, 17), (3, 9)], [.np, .np, .np, .s]⟩,
⟨0, 0, .arr 0 16, []⟩,
⟨0, 0, .st [(0, 177)], []⟩,
⟨0, 0, .st [(0, 177)], []⟩,
⟨1, 8, .oth, [.nf]⟩,
⟨1, 1, .int .u8, [.i .u8]⟩,
⟨1, 1, .int .u8, [.i .u8]⟩,
⟨1, 8, .oth, [.nf]⟩,
⟨1, 8, .ptr 5, [.np]⟩,
⟨1, 4, .int .i32, [.i .i32]⟩,
⟨1, 4, .int .i32, [.i .i32]⟩,
⟨11, 48, .st [(0, 12), (1, 12), (2, 48), (3, 181), (4, 5), (5, 5), (6, 182), (7, 183), (8, 184), (9, 185), (10, 186)], [.i .u64, .i .u64, .i .u32, .i .u8, .i .u8, .i .u8, .i .u8, .nf, .np, .i .i32, .i .i32]⟩,
⟨11, 48, .st [(0, 12), (1, 12), (2, 48), (3, 181), (4, 5), (5, 5), (6, 182), (7, 183), (8, 184), (9, 185), (10, 186)], [.i .u64, .i .u64, .i .u32, .i .u8, .i .u8, .i .u8, .i .u8, .nf, .np, .i .i32, .i .i32]⟩,
⟨1, 8, .oth, [.np]⟩]
theorem TTok : TOk Try.prog TT := by unfold TOk; kernel_rfl
theorem mix : Try.prog.follows .mixedOrders = true := by kernel_rfl
structure S_tlb_Line where
  fSpace : Int
  fPage : Int
  fWord : Int
def eS_tlb_Line (x : S_tlb_Line) : PV := .agg [.v (.int .i64 x.fSpace), .v (.int .i64 x.fPage), .v (.int .u32 x.fWord)]
structure S_tlb_Order where
  fSpace : Int
  fPage : Int
def eS_tlb_Order (x : S_tlb_Order) : PV := .agg [.v (.int .i64 x.fSpace), .v (.int .i64 x.fPage)]
structure S_tlb_Cpu where
  fLines : (List S_tlb_Line)
  fOrders : (List S_tlb_Order)
def eS_tlb_Cpu (x : S_tlb_Cpu) : PV := .agg [.sl (x.fLines.map eS_tlb_Line), .sl (x.fOrders.map eS_tlb_Order)]
def nq_S_tlb_Cpu (k : Nat) : Bool := decide (0 ≤ k)
def nct_S_tlb_Cpu (k : Nat) : Nat × Nat := if k % 2 = 0 then (69, 3) else (50, 2)
def eqS_tlb_Order (x y : S_tlb_Order) : Bool := ((x.fSpace == y.fSpace) && ((x.fPage == y.fPage) && true))
theorem eqS_tlb_Order_ok (x y : S_tlb_Order) : EqA Try.prog 50 [((.int .i64 x.fSpace)), ((.int .i64 x.fPage))] [((.int .i64 y.fSpace)), ((.int .i64 y.fPage))] (eqS_tlb_Order x y) := eqA_of TTok (by kernel_rfl) (by kernel_rfl) (by kernel_rfl)
def eqS_tlb_Line (x y : S_tlb_Line) : Bool := ((x.fSpace == y.fSpace) && ((x.fPage == y.fPage) && ((x.fWord == y.fWord) && true)))
theorem eqS_tlb_Line_ok (x y : S_tlb_Line) : EqA Try.prog 69 [((.int .i64 x.fSpace)), ((.int .i64 x.fPage)), ((.int .u32 x.fWord))] [((.int .i64 y.fSpace)), ((.int .i64 y.fPage)), ((.int .u32 y.fWord))] (eqS_tlb_Line x y) := eqA_of TTok (by kernel_rfl) (by kernel_rfl) (by kernel_rfl)
/- ringhall/tlb.New -/
def G_tlb_New (n : Nat) (v_cpus10 : Int) : Option ((List S_tlb_Cpu) × Int) :=
  if v_cpus10 < 1 then
   some (([] : (List S_tlb_Cpu)), 1)
  else
   if v_cpus10 > 4 then
    some (([] : (List S_tlb_Cpu)), 1)
   else
    (mkL 48 (S_tlb_Cpu.mk [] []) v_cpus10).bind fun (v_m11 : (List S_tlb_Cpu)) =>
    some (v_m11, 0)
theorem G_tlb_New_ok (n : Nat) (v_cpus10 : Int) (r : (List S_tlb_Cpu) × Int) (h : G_tlb_New n v_cpus10 = some r) : Ret Try.prog 21 [(eI .i64) v_cpus10] (.tup [(eL eS_tlb_Cpu) r.1, (eI .i64) r.2]) := by
  refine ret_run (n := 12) (fn := Try.f21) (c := bodyOf Try.f21) (by kernel_rfl) (by kernel_rfl) (by kernel_rfl) (by kernel_rfl) ?_
  have hF : KC 12 (FinR Try.prog Try.f21 (.tup [(eL eS_tlb_Cpu) r.1, (eI .i64) r.2])) := FinR.kc' (by kernel_rfl)
  unfold G_tlb_New at h
  by_cases h1 : v_cpus10 < 1
  · rw [if_pos h1] at h
    obtain rfl := Option.some.inj h
    exact pend_sound TTok mix 10 (hs := [.t true, .c, .c]) (by kernel_rfl) (by kernel_rfl) (by kernel_rfl) (.cons (dt h1) .nil)
  · rw [if_neg h1] at h
    by_cases h2 : v_cpus10 > 4
    · rw [if_pos h2] at h
      obtain rfl := Option.some.inj h
      exact pend_sound TTok mix 10 (hs := [.t false, .c, .t true]) (by kernel_rfl) (by kernel_rfl) (by kernel_rfl) (.cons (df h1) (.cons (dt h2) .nil))
    · rw [if_neg h2] at h
      obtain ⟨v_m11, h3, h⟩ := bind_some h
      obtain rfl := Option.some.inj h
      exact pend_sound TTok mix 10 (hs := [.t false, .c, .t false, .w (v_m11.map eS_tlb_Cpu)]) (by kernel_rfl) (by kernel_rfl) (by kernel_rfl) (.cons (df h1) (.cons (df h2) (.cons (mkL_ob (f := eS_tlb_Cpu) (p := .agg [.sl [], .sl []]) h3 rfl).1 (.cons (mkL_ob (f := eS_tlb_Cpu) (p := .agg [.sl [], .sl []]) h3 rfl).2.1 (.cons (mkL_ob (f := eS_tlb_Cpu) (p := .agg [.sl [], .sl []]) h3 rfl).2.2.1 (.cons (mkL_ob (f := eS_tlb_Cpu) (p := .agg [.sl [], .sl []]) h3 rfl).2.2.2.1 (.cons (mkL_ob (f := eS_tlb_Cpu) (p := .agg [.sl [], .sl []]) h3 rfl).2.2.2.2 .nil)))))))
inductive G_tlb_right_C1_R where
  | x0 (v_x56 : Bool)
def G_tlb_right_C1_ex : G_tlb_right_C1_R → Ex
  | .x0 _ => .normal
def G_tlb_right_C1_st (v_space53 : Int) (v_page54 : Int) : G_tlb_right_C1_R → PS
  | .x0 v_x56 => ⟨[dd, dd, dd, dd, .d (.v (.bool v_x56)), dd, dd, dd, dd, dd, dd, dd, dd, dd, dd, dd, dd, dd, dd], []⟩
def G_tlb_right_C1_hd (v_space53 : Int) (v_page54 : Int)  : PS := ⟨[.d (.v (.int .i64 v_space53)), .d (.v (.int .i64 v_page54)), dd, dd, dd, dd, dd, dd, dd, dd, dd, dd, dd, dd, dd, dd, dd, dd, dd], []⟩
def G_tlb_right_C1 (n : Nat) (v_space53 : Int) (v_page54 : Int) : Option G_tlb_right_C1_R :=
  if v_space53 ≥ 1 then
   if v_space53 ≤ 16 then
    if v_page54 ≥ 0 then
     some (.x0 (decide (v_page54 < 64)))
    else
     some (.x0 false)
   else
    some (.x0 false)
  else
   some (.x0 false)
theorem G_tlb_right_C1_ok {Fi : Ex → PS → Prop} (hF : KC 19 Fi) (ks : List Fr) (n : Nat) (v_space53 : Int) (v_page54 : Int)  (o : G_tlb_right_C1_R) (h : G_tlb_right_C1 n v_space53 v_page54 = some o) (q : RunE Try.prog 19 Fi ks (G_tlb_right_C1_ex o) (G_tlb_right_C1_st v_space53 v_page54 o)) : RunE Try.prog 19 Fi (.s (cL (cR (bodyOf Try.f65))) :: ks) .normal (G_tlb_right_C1_hd v_space53 v_page54) := by
  unfold G_tlb_right_C1 at h
  by_cases h18 : v_space53 ≥ 1
  · rw [if_pos h18] at h
    by_cases h19 : v_space53 ≤ 16
    · rw [if_pos h19] at h
      by_cases h20 : v_page54 ≥ 0
      · rw [if_pos h20] at h
        cases h
        exact pkk_sound TTok mix hF 1 (hs := [.t true, .c, .t true, .c, .t true, .c]) (ts := []) (s := []) (l := [4]) (by kernel_rfl) (by kernel_rfl) (.cons (dt h18) (.cons (dt h19) (.cons (dt h20) .nil))) q
      · rw [if_neg h20] at h
        cases h
        exact pkk_sound TTok mix hF 1 (hs := [.t true, .c, .t true, .c, .t false, .c]) (ts := []) (s := []) (l := [4]) (by kernel_rfl) (by kernel_rfl) (.cons (dt h18) (.cons (dt h19) (.cons (df h20) .nil))) q
    · rw [if_neg h19] at h
      cases h
      exact pkk_sound TTok mix hF 1 (hs := [.t true, .c, .t false, .c, .c, .c]) (ts := []) (s := []) (l := [4]) (by kernel_rfl) (by kernel_rfl) (.cons (dt h18) (.cons (df h19) .nil)) q
  · rw [if_neg h18] at h
    cases h
    exact pkk_sound TTok mix hF 1 (hs := [.t false, .c, .c, .c, .c, .c]) (ts := []) (s := []) (l := [4]) (by kernel_rfl) (by kernel_rfl) (.cons (df h18) .nil) q
/- ringhall/tlb.right -/
def G_tlb_right (n : Nat) (v_space53 : Int) (v_page54 : Int) : Option (Bool) :=
  (G_tlb_right_C1 n v_space53 v_page54).bind fun v_o60 => match v_o60 with
  | .x0 v_z61 =>
    some v_z61
theorem G_tlb_right_ok (n : Nat) (v_space53 : Int) (v_page54 : Int) (r : Bool) (h : G_tlb_right n v_space53 v_page54 = some r) : Ret Try.prog 65 [(eI .i64) v_space53, (eI .i64) v_page54] (eB r) := by
  refine ret_run (n := 19) (fn := Try.f65) (c := bodyOf Try.f65) (by kernel_rfl) (by kernel_rfl) (by kernel_rfl) (by kernel_rfl) ?_
  have hF : KC 19 (FinR Try.prog Try.f65 (eB r)) := FinR.kc' (by kernel_rfl)
  unfold G_tlb_right at h
  obtain ⟨v_o60, h21, h⟩ := bind_some h
  refine pkk_sound TTok mix hF 3 (hs := []) (ts := []) (s := []) (l := [0, 1]) (by kernel_rfl) (by kernel_rfl) .nil (G_tlb_right_C1_ok hF (.s (cR (cR (bodyOf Try.f65))) :: []) n v_space53 v_page54 _ h21 ?_)
  cases v_o60 with
  | x0 v_z61 =>
    try dsimp only at h
    obtain rfl := Option.some.inj h
    exact pend_sound TTok mix 1 (hs := []) (by kernel_rfl) (by kernel_rfl) (by kernel_rfl) .nil
inductive G_slices_IndexFunc_tlb_Line_tlb_Line_L1_R where
  | x0 (v_x77 : Int)
  | x1 
def G_slices_IndexFunc_tlb_Line_tlb_Line_L1_ex : G_slices_IndexFunc_tlb_Line_tlb_Line_L1_R → Ex
  | .x0 _ => .ret
  | .x1  => .exit 0
def G_slices_IndexFunc_tlb_Line_tlb_Line_L1_st (v_s67 : (List S_tlb_Line)) (v_f68 : (S_tlb_Line → Option (Bool))) (v_f68_g : FuncId) (v_f68_c : (List PV)) : G_slices_IndexFunc_tlb_Line_tlb_Line_L1_R → PS
  | .x0 v_x77 => ⟨[dd, dd, dd, dd, .d (.v (.int .i64 v_x77)), dd, dd, dd, dd, dd, dd, dd, dd, dd, dd, dd, dd, dd, dd], []⟩
  | .x1  => ⟨[dd, dd, dd, dd, dd, dd, dd, dd, dd, dd, dd, dd, dd, dd, dd, dd, dd, dd, dd], []⟩
def G_slices_IndexFunc_tlb_Line_tlb_Line_L1_hd (v_s67 : (List S_tlb_Line)) (v_f68 : (S_tlb_Line → Option (Bool))) (v_f68_g : FuncId) (v_f68_c : (List PV)) (v_x71 : Int) : PS := ⟨[.d (.sl (v_s67.map eS_tlb_Line)), .d (.clo v_f68_g v_f68_c), dd, dd, dd, dd, dd, .d (.v (.int .i64 (v_s67.length : Int))), .d (.v (.int .i64 v_x71)), dd, dd, dd, dd, dd, dd, dd, dd, dd, dd], []⟩
def G_slices_IndexFunc_tlb_Line_tlb_Line_L1 (n : Nat) (v_s67 : (List S_tlb_Line)) (v_f68 : (S_tlb_Line → Option (Bool))) : Nat → Int → Option G_slices_IndexFunc_tlb_Line_tlb_Line_L1_R
  | 0, _ => none
  | k + 1, v_x71 =>
    if v_x71 < (v_s67.length : Int) then
     (getI v_s67 v_x71).bind fun (v_y75 : S_tlb_Line) =>
     (v_f68 v_y75).bind fun (v_r76 : (Bool)) =>
     if v_r76 = true then
      some (.x0 v_x71)
     else
      G_slices_IndexFunc_tlb_Line_tlb_Line_L1 n v_s67 v_f68 k (wi .i64 (v_x71 + 1))
    else
     some (.x1 )
theorem G_slices_IndexFunc_tlb_Line_tlb_Line_L1_ok {Fi : Ex → PS → Prop} (hF : KC 19 Fi) (ks : List Fr) (n : Nat) (v_s67 : (List S_tlb_Line)) (v_f68 : (S_tlb_Line → Option (Bool))) (v_f68_g : FuncId) (v_f68_c : (List PV)) (v_f68_h : ∀ (x0 : S_tlb_Line) (r : Bool), v_f68 x0 = some r → Ret Try.prog v_f68_g ([eS_tlb_Line x0] ++ v_f68_c) (eB r)) : ∀ (k : Nat) (v_x71 : Int) (o : G_slices_IndexFunc_tlb_Line_tlb_Line_L1_R), G_slices_IndexFunc_tlb_Line_tlb_Line_L1 n v_s67 v_f68 k v_x71 = some o → RunE Try.prog 19 Fi ks (G_slices_IndexFunc_tlb_Line_tlb_Line_L1_ex o) (G_slices_IndexFunc_tlb_Line_tlb_Line_L1_st v_s67 v_f68 v_f68_g v_f68_c o) → RunE Try.prog 19 Fi (.l k (cP (cB (cR (cL (cR (bodyOf Try.f98)))))) :: ks) .normal (G_slices_IndexFunc_tlb_Line_tlb_Line_L1_hd v_s67 v_f68 v_f68_g v_f68_c v_x71)
  | 0, v_x71, o, h, q => by rw [G_slices_IndexFunc_tlb_Line_tlb_Line_L1] at h; cases h
  | k + 1, v_x71, o, h, q => by
    rw [G_slices_IndexFunc_tlb_Line_tlb_Line_L1] at h
    by_cases h25 : v_x71 < (v_s67.length : Int)
    · rw [if_pos h25] at h
      obtain ⟨v_y75, h29, h⟩ := bind_some h
      obtain ⟨v_r76, h30, h⟩ := bind_some h
      by_cases h31 : v_r76 = true
      · rw [if_pos h31] at h
        cases h
        exact pkk_sound TTok mix hF 19 (hs := [.t true, .y (eS_tlb_Line v_y75), .r (eB v_r76), .t true]) (ts := []) (s := []) (l := [4]) (by kernel_rfl) (by kernel_rfl) (.cons (dt h25) (.cons (getI_ob (f := eS_tlb_Line) h29) (.cons (v_f68_h v_y75 _ h30) (.cons h31 .nil)))) q
      · rw [if_neg h31] at h
        exact pkk_sound TTok mix hF 16 (hs := [.t true, .y (eS_tlb_Line v_y75), .r (eB v_r76), .t false]) (ts := []) (s := []) (l := [0, 1, 7, 8]) (by kernel_rfl) (by kernel_rfl) (.cons (dt h25) (.cons (getI_ob (f := eS_tlb_Line) h29) (.cons (v_f68_h v_y75 _ h30) (.cons (vf h31) .nil)))) (G_slices_IndexFunc_tlb_Line_tlb_Line_L1_ok hF ks n v_s67 v_f68 v_f68_g v_f68_c v_f68_h k (wi .i64 (v_x71 + 1)) _ h q)
    · rw [if_neg h25] at h
      cases h
      exact pkk_sound TTok mix hF 8 (hs := [.t false]) (ts := []) (s := []) (l := []) (by kernel_rfl) (by kernel_rfl) (.cons (df h25) .nil) q
/- slices.IndexFunc[[]ringhall/tlb.Line,ringhall/tlb.Line] -/
def G_slices_IndexFunc_tlb_Line_tlb_Line (n : Nat) (v_s67 : (List S_tlb_Line)) (v_f68 : (S_tlb_Line → Option (Bool))) : Option (Int) :=
  (G_slices_IndexFunc_tlb_Line_tlb_Line_L1 n v_s67 v_f68 n 0).bind fun v_o78 => match v_o78 with
  | .x0 v_z79 =>
    some v_z79
  | .x1  =>
    some (-1)
theorem G_slices_IndexFunc_tlb_Line_tlb_Line_ok (n : Nat) (v_s67 : (List S_tlb_Line)) (v_f68 : (S_tlb_Line → Option (Bool))) (v_f68_g : FuncId) (v_f68_c : List PV) (v_f68_h : ∀ (x0 : S_tlb_Line) (r : Bool), v_f68 x0 = some r → Ret Try.prog v_f68_g ([eS_tlb_Line x0] ++ v_f68_c) (eB r)) (r : Int) (h : G_slices_IndexFunc_tlb_Line_tlb_Line n v_s67 v_f68 = some r) : Ret Try.prog 98 [(eL eS_tlb_Line) v_s67, (.clo v_f68_g v_f68_c)] ((eI .i64) r) := by
  refine ret_run (n := 19) (fn := Try.f98) (c := bodyOf Try.f98) (by kernel_rfl) (by kernel_rfl) (by kernel_rfl) (by kernel_rfl) ?_
  have hF : KC 19 (FinR Try.prog Try.f98 ((eI .i64) r)) := FinR.kc' (by kernel_rfl)
  unfold G_slices_IndexFunc_tlb_Line_tlb_Line at h
  obtain ⟨v_o78, h32, h⟩ := bind_some h
  refine pkk_sound TTok mix hF 7 (hs := [.u (.d (.v (.int .i64 (v_s67.length : Int)))), .n n]) (ts := []) (s := []) (l := [0, 1, 7, 8]) (by kernel_rfl) (by kernel_rfl) (.cons (len_ob (f := eS_tlb_Line) (l := v_s67)) .nil) (G_slices_IndexFunc_tlb_Line_tlb_Line_L1_ok hF (.b 0 :: .s (cR (cR (bodyOf Try.f98))) :: []) n v_s67 v_f68 v_f68_g v_f68_c v_f68_h n 0 _ h32 ?_)
  cases v_o78 with
  | x0 v_z79 =>
    try dsimp only at h
    obtain rfl := Option.some.inj h
    exact pend_sound TTok mix 2 (hs := []) (by kernel_rfl) (by kernel_rfl) (by kernel_rfl) .nil
  | x1  =>
    try dsimp only at h
    obtain rfl := Option.some.inj h
    exact pend_sound TTok mix 4 (hs := []) (by kernel_rfl) (by kernel_rfl) (by kernel_rfl) .nil
/- ringhall/tlb.find$1 -/
def G_tlb_find_1 (n : Nat) (v_x80 : S_tlb_Line) (v_c81 : Int) (v_c82 : Int) : Option (Bool) :=
  if v_x80.fSpace = v_c81 then
   some (v_x80.fPage == v_c82)
  else
   some false
theorem G_tlb_find_1_ok (n : Nat) (v_x80 : S_tlb_Line) (v_c81 : Int) (v_c82 : Int) (r : Bool) (h : G_tlb_find_1 n v_x80 v_c81 v_c82 = some r) : Ret Try.prog 99 [eS_tlb_Line v_x80, .iptr [.v (.int .i64 v_c81)] 0, .iptr [.v (.int .i64 v_c82)] 0] (eB r) := by
  refine ret_run (n := 15) (fn := Try.f99) (c := bodyOf Try.f99) (by kernel_rfl) (by kernel_rfl) (by kernel_rfl) (by kernel_rfl) ?_
  have hF : KC 15 (FinR Try.prog Try.f99 (eB r)) := FinR.kc' (by kernel_rfl)
  unfold G_tlb_find_1 at h
  by_cases h34 : v_x80.fSpace = v_c81
  · rw [if_pos h34] at h
    obtain rfl := Option.some.inj h
    exact pend_sound TTok mix 5 (hs := [.c, .c, .t true, .c, .c, .c, .c, .c]) (by kernel_rfl) (by kernel_rfl) (by kernel_rfl) (.cons (bt h34) .nil)
  · rw [if_neg h34] at h
    obtain rfl := Option.some.inj h
    exact pend_sound TTok mix 5 (hs := [.c, .c, .t false, .c, .c, .c]) (by kernel_rfl) (by kernel_rfl) (by kernel_rfl) (.cons (bf h34) .nil)
/- ringhall/tlb.find -/
def G_tlb_find (n : Nat) (v_l64 : (List S_tlb_Line)) (v_space65 : Int) (v_page66 : Int) : Option (Int) :=
  (G_slices_IndexFunc_tlb_Line_tlb_Line n v_l64 (fun (y0 : S_tlb_Line) => G_tlb_find_1 n y0 v_space65 v_page66)).bind fun (v_r83 : (Int)) =>
  some v_r83
theorem G_tlb_find_ok (n : Nat) (v_l64 : (List S_tlb_Line)) (v_space65 : Int) (v_page66 : Int) (r : Int) (h : G_tlb_find n v_l64 v_space65 v_page66 = some r) : Ret Try.prog 69 [(eL eS_tlb_Line) v_l64, (eI .i64) v_space65, (eI .i64) v_page66] ((eI .i64) r) := by
  refine ret_run (n := 10) (fn := Try.f69) (c := bodyOf Try.f69) (by kernel_rfl) (by kernel_rfl) (by kernel_rfl) (by kernel_rfl) ?_
  have hF : KC 10 (FinR Try.prog Try.f69 ((eI .i64) r)) := FinR.kc' (by kernel_rfl)
  unfold G_tlb_find at h
  obtain ⟨v_r83, h35, h⟩ := bind_some h
  obtain rfl := Option.some.inj h
  exact pend_sound TTok mix 5 (hs := [.c, .r ((eI .i64) v_r83)]) (by kernel_rfl) (by kernel_rfl) (by kernel_rfl) (.cons (G_slices_IndexFunc_tlb_Line_tlb_Line_ok n v_l64 (fun (y0 : S_tlb_Line) => G_tlb_find_1 n y0 v_space65 v_page66) 99 [.iptr [.v (.int .i64 v_space65)] 0, .iptr [.v (.int .i64 v_page66)] 0] (fun y0 r h => G_tlb_find_1_ok n y0 v_space65 v_page66 r h) _ h35) .nil)
inductive G_tlb_Check_C1_R where
  | x0 (v_x45 : Bool)
def G_tlb_Check_C1_ex : G_tlb_Check_C1_R → Ex
  | .x0 _ => .normal
def G_tlb_Check_C1_st (v_l30 : (List S_tlb_Cpu)) (v_x41 : Int) (v_y43 : S_tlb_Cpu) : G_tlb_Check_C1_R → PS
  | .x0 v_x45 => ⟨[dd, dd, dd, dd, dd, dd, .ref 0 0, dd, dd, dd, dd, dd, dd, dd, dd, dd, dd, dd, dd, dd, .d (.sl (v_l30.map eS_tlb_Cpu)), .d (.v (.int .i64 (v_l30.length : Int))), .d (.v (.int .i64 v_x41)), dd, dd, dd, dd, dd, dd, dd, dd, dd, dd, dd, dd, .d (.v (.bool v_x45)), dd, dd, dd, dd, dd, dd, dd, dd, dd, dd, dd, dd, dd, dd, dd, dd, dd, dd, dd, dd, dd, dd, dd, dd, dd, dd, dd, dd, dd, dd, dd, dd, dd, dd, dd, dd, dd, dd, dd, dd, dd, dd, dd, dd, dd, dd, dd, dd], [.box [.d (.sl (v_y43.fLines.map eS_tlb_Line)), .d (.sl (v_y43.fOrders.map eS_tlb_Order))]]⟩
def G_tlb_Check_C1_hd (v_l30 : (List S_tlb_Cpu)) (v_x41 : Int) (v_y43 : S_tlb_Cpu)  : PS := ⟨[dd, dd, dd, dd, dd, dd, .ref 0 0, dd, dd, dd, dd, dd, dd, dd, dd, dd, dd, dd, dd, dd, .d (.sl (v_l30.map eS_tlb_Cpu)), .d (.v (.int .i64 (v_l30.length : Int))), .d (.v (.int .i64 v_x41)), dd, dd, dd, dd, dd, dd, dd, dd, dd, dd, dd, dd, dd, dd, dd, dd, dd, dd, dd, dd, dd, dd, dd, dd, dd, dd, dd, dd, dd, dd, dd, dd, dd, dd, dd, dd, dd, dd, dd, dd, dd, dd, dd, dd, dd, dd, dd, dd, dd, dd, dd, dd, dd, dd, dd, dd, dd, dd, dd, dd, dd], [.box [.d (.sl (v_y43.fLines.map eS_tlb_Line)), .d (.sl (v_y43.fOrders.map eS_tlb_Order))]]⟩
def G_tlb_Check_C1 (n : Nat) (v_l30 : (List S_tlb_Cpu)) (v_x41 : Int) (v_y43 : S_tlb_Cpu) : Option G_tlb_Check_C1_R :=
  if (v_y43.fLines.length : Int) > 8 then
   some (.x0 true)
  else
   some (.x0 (decide ((v_y43.fOrders.length : Int) > 4)))
theorem G_tlb_Check_C1_ok {Fi : Ex → PS → Prop} (hF : KC 84 Fi) (ks : List Fr) (n : Nat) (v_l30 : (List S_tlb_Cpu)) (v_x41 : Int) (v_y43 : S_tlb_Cpu)  (o : G_tlb_Check_C1_R) (h : G_tlb_Check_C1 n v_l30 v_x41 v_y43 = some o) (q : RunE Try.prog 84 Fi ks (G_tlb_Check_C1_ex o) (G_tlb_Check_C1_st v_l30 v_x41 v_y43 o)) : RunE Try.prog 84 Fi (.s (cL (cL (cR (cB (cL (cR (cR (cP (cB (cR (cL (cR (cR (bodyOf Try.f29)))))))))))))) :: ks) .normal (G_tlb_Check_C1_hd v_l30 v_x41 v_y43) := by
  unfold G_tlb_Check_C1 at h
  by_cases h10 : (v_y43.fLines.length : Int) > 8
  · rw [if_pos h10] at h
    cases h
    exact pkk_sound TTok mix hF 1 (hs := [.c, .u (.d (.v (.int .i64 (v_y43.fLines.length : Int)))), .t true, .c, .c, .c]) (ts := []) (s := [0]) (l := [6, 20, 21, 22, 35]) (by kernel_rfl) (by kernel_rfl) (.cons (len_ob (f := eS_tlb_Line) (l := v_y43.fLines)) (.cons (dt h10) .nil)) q
  · rw [if_neg h10] at h
    cases h
    exact pkk_sound TTok mix hF 1 (hs := [.c, .u (.d (.v (.int .i64 (v_y43.fLines.length : Int)))), .t false, .c, .c, .c, .u (.d (.v (.int .i64 (v_y43.fOrders.length : Int)))), .c]) (ts := []) (s := [0]) (l := [6, 20, 21, 22, 35]) (by kernel_rfl) (by kernel_rfl) (.cons (len_ob (f := eS_tlb_Line) (l := v_y43.fLines)) (.cons (df h10) (.cons (len_ob (f := eS_tlb_Order) (l := v_y43.fOrders)) .nil))) q
inductive G_tlb_Check_L2_R where
  | x0 (v_x93 : Int)
  | x1 
def G_tlb_Check_L2_ex : G_tlb_Check_L2_R → Ex
  | .x0 _ => .ret
  | .x1  => .exit 2
def G_tlb_Check_L2_st (v_l30 : (List S_tlb_Cpu)) (v_x41 : Int) (v_y43 : S_tlb_Cpu) : G_tlb_Check_L2_R → PS
  | .x0 v_x93 => ⟨[dd, dd, .d (.v (.int .i64 v_x93)), dd, dd, dd, dd, dd, dd, dd, dd, dd, dd, dd, dd, dd, dd, dd, dd, dd, dd, dd, dd, dd, dd, dd, dd, dd, dd, dd, dd, dd, dd, dd, dd, dd, dd, dd, dd, dd, dd, dd, dd, dd, dd, dd, dd, dd, dd, dd, dd, dd, dd, dd, dd, dd, dd, dd, dd, dd, dd, dd, dd, dd, dd, dd, dd, dd, dd, dd, dd, dd, dd, dd, dd, dd, dd, dd, dd, dd, dd, dd, dd, dd], []⟩
  | .x1  => ⟨[dd, dd, dd, dd, dd, dd, .ref 0 0, dd, dd, dd, dd, dd, dd, dd, dd, dd, dd, dd, dd, dd, .d (.sl (v_l30.map eS_tlb_Cpu)), .d (.v (.int .i64 (v_l30.length : Int))), .d (.v (.int .i64 v_x41)), dd, dd, dd, dd, dd, dd, dd, dd, dd, dd, dd, dd, dd, dd, dd, dd, dd, dd, dd, dd, dd, dd, dd, dd, dd, dd, dd, dd, dd, dd, dd, dd, dd, dd, dd, dd, dd, dd, dd, dd, dd, dd, dd, dd, dd, dd, dd, dd, dd, dd, dd, dd, dd, dd, dd, dd, dd, dd, dd, dd, dd], [.box [.d (.sl (v_y43.fLines.map eS_tlb_Line)), .d (.sl (v_y43.fOrders.map eS_tlb_Order))]]⟩
def G_tlb_Check_L2_hd (v_l30 : (List S_tlb_Cpu)) (v_x41 : Int) (v_y43 : S_tlb_Cpu) (v_x50 : Int) : PS := ⟨[dd, dd, dd, dd, dd, dd, .ref 0 0, dd, dd, dd, dd, dd, dd, dd, dd, dd, dd, dd, dd, dd, .d (.sl (v_l30.map eS_tlb_Cpu)), .d (.v (.int .i64 (v_l30.length : Int))), .d (.v (.int .i64 v_x41)), dd, dd, dd, dd, dd, dd, dd, dd, dd, dd, dd, dd, dd, dd, .d (.sl (v_y43.fLines.map eS_tlb_Line)), .d (.v (.int .i64 (v_y43.fLines.length : Int))), .d (.v (.int .i64 v_x50)), dd, dd, dd, dd, dd, dd, dd, dd, dd, dd, dd, dd, dd, dd, dd, dd, dd, dd, dd, dd, dd, dd, dd, dd, dd, dd, dd, dd, dd, dd, dd, dd, dd, dd, dd, dd, dd, dd, dd, dd, dd, dd, dd, dd], [.box [.d (.sl (v_y43.fLines.map eS_tlb_Line)), .d (.sl (v_y43.fOrders.map eS_tlb_Order))]]⟩
def G_tlb_Check_L2 (n : Nat) (v_l30 : (List S_tlb_Cpu)) (v_x41 : Int) (v_y43 : S_tlb_Cpu) : Nat → Int → Option G_tlb_Check_L2_R
  | 0, _ => none
  | k + 1, v_x50 =>
    if v_x50 < (v_y43.fLines.length : Int) then
     (getI v_y43.fLines v_x50).bind fun (v_y88 : S_tlb_Line) =>
     (G_tlb_right n v_y88.fSpace v_y88.fPage).bind fun (v_r92 : (Bool)) =>
     if v_r92 = true then
      (sub v_y43.fLines 0 v_x50).bind fun (v_s94 : (List S_tlb_Line)) =>
      (G_tlb_find n v_s94 v_y88.fSpace v_y88.fPage).bind fun (v_r95 : (Int)) =>
      if v_r95 ≥ 0 then
       some (.x0 3)
      else
       G_tlb_Check_L2 n v_l30 v_x41 v_y43 k (wi .i64 (v_x50 + 1))
     else
      some (.x0 3)
    else
     some (.x1 )
theorem G_tlb_Check_L2_ok {Fi : Ex → PS → Prop} (hF : KC 84 Fi) (ks : List Fr) (n : Nat) (v_l30 : (List S_tlb_Cpu)) (v_x41 : Int) (v_y43 : S_tlb_Cpu)  : ∀ (k : Nat) (v_x50 : Int) (o : G_tlb_Check_L2_R), G_tlb_Check_L2 n v_l30 v_x41 v_y43 k v_x50 = some o → RunE Try.prog 84 Fi ks (G_tlb_Check_L2_ex o) (G_tlb_Check_L2_st v_l30 v_x41 v_y43 o) → RunE Try.prog 84 Fi (.l k (cP (cB (cR (cL (cR (cR (cB (cL (cR (cR (cP (cB (cR (cL (cR (cR (bodyOf Try.f29))))))))))))))))) :: ks) .normal (G_tlb_Check_L2_hd v_l30 v_x41 v_y43 v_x50)
  | 0, v_x50, o, h, q => by rw [G_tlb_Check_L2] at h; cases h
  | k + 1, v_x50, o, h, q => by
    rw [G_tlb_Check_L2] at h
    by_cases h13 : v_x50 < (v_y43.fLines.length : Int)
    · rw [if_pos h13] at h
      obtain ⟨v_y88, h42, h⟩ := bind_some h
      obtain ⟨v_r92, h47, h⟩ := bind_some h
      by_cases h48 : v_r92 = true
      · rw [if_pos h48] at h
        obtain ⟨v_s94, h49, h⟩ := bind_some h
        obtain ⟨v_r95, h50, h⟩ := bind_some h
        by_cases h51 : v_r95 ≥ 0
        · rw [if_pos h51] at h
          cases h
          exact pkk_sound TTok mix hF 19 (hs := [.t true, .y (eS_tlb_Line v_y88), .c, .c, .c, .r (eB v_r92), .t false, .c, .c, .c, .c, .w (v_s94.map eS_tlb_Line), .c, .c, .c, .c, .c, .c, .c, .r ((eI .i64) v_r95), .c, .t true]) (ts := []) (s := []) (l := [2]) (by kernel_rfl) (by kernel_rfl) (.cons (dt h13) (.cons (getI_ob (f := eS_tlb_Line) h42) (.cons (show 0 + 3 ≤ 3 by decide) (.cons (G_tlb_right_ok n v_y88.fSpace v_y88.fPage _ h47) (.cons (bnf h48) (.cons (sub_ob (f := eS_tlb_Line) (s := 3) h49 (fun _ => rfl)).1 (.cons (sub_ob (f := eS_tlb_Line) (s := 3) h49 (fun _ => rfl)).2.1 (.cons (sub_ob (f := eS_tlb_Line) (s := 3) h49 (fun _ => rfl)).2.2.1 (.cons (sub_ob (f := eS_tlb_Line) (s := 3) h49 (fun _ => rfl)).2.2.2.1 (.cons (sub_ob (f := eS_tlb_Line) (s := 3) h49 (fun _ => rfl)).2.2.2.2 (.cons (G_tlb_find_ok n v_s94 v_y88.fSpace v_y88.fPage _ h50) (.cons (dt h51) .nil)))))))))))) q
        · rw [if_neg h51] at h
          exact pkk_sound TTok mix hF 16 (hs := [.t true, .y (eS_tlb_Line v_y88), .c, .c, .c, .r (eB v_r92), .t false, .c, .c, .c, .c, .w (v_s94.map eS_tlb_Line), .c, .c, .c, .c, .c, .c, .c, .r ((eI .i64) v_r95), .c, .t false]) (ts := []) (s := [0]) (l := [6, 20, 21, 22, 37, 38, 39]) (by kernel_rfl) (by kernel_rfl) (.cons (dt h13) (.cons (getI_ob (f := eS_tlb_Line) h42) (.cons (show 0 + 3 ≤ 3 by decide) (.cons (G_tlb_right_ok n v_y88.fSpace v_y88.fPage _ h47) (.cons (bnf h48) (.cons (sub_ob (f := eS_tlb_Line) (s := 3) h49 (fun _ => rfl)).1 (.cons (sub_ob (f := eS_tlb_Line) (s := 3) h49 (fun _ => rfl)).2.1 (.cons (sub_ob (f := eS_tlb_Line) (s := 3) h49 (fun _ => rfl)).2.2.1 (.cons (sub_ob (f := eS_tlb_Line) (s := 3) h49 (fun _ => rfl)).2.2.2.1 (.cons (sub_ob (f := eS_tlb_Line) (s := 3) h49 (fun _ => rfl)).2.2.2.2 (.cons (G_tlb_find_ok n v_s94 v_y88.fSpace v_y88.fPage _ h50) (.cons (df h51) .nil)))))))))))) (G_tlb_Check_L2_ok hF ks n v_l30 v_x41 v_y43 k (wi .i64 (v_x50 + 1)) _ h q)
      · rw [if_neg h48] at h
        cases h
        exact pkk_sound TTok mix hF 19 (hs := [.t true, .y (eS_tlb_Line v_y88), .c, .c, .c, .r (eB v_r92), .t true, .c, .c, .c, .c, .c, .c, .c, .c, .c, .c]) (ts := []) (s := []) (l := [2]) (by kernel_rfl) (by kernel_rfl) (.cons (dt h13) (.cons (getI_ob (f := eS_tlb_Line) h42) (.cons (show 0 + 3 ≤ 3 by decide) (.cons (G_tlb_right_ok n v_y88.fSpace v_y88.fPage _ h47) (.cons (bnt (vf h48)) .nil))))) q
    · rw [if_neg h13] at h
      cases h
      exact pkk_sound TTok mix hF 8 (hs := [.t false]) (ts := []) (s := [0]) (l := [6, 20, 21, 22]) (by kernel_rfl) (by kernel_rfl) (.cons (df h13) .nil) q
inductive G_tlb_Check_L3_R where
  | x0 (v_x106 : Int)
  | x1 
def G_tlb_Check_L3_ex : G_tlb_Check_L3_R → Ex
  | .x0 _ => .ret
  | .x1  => .exit 4
def G_tlb_Check_L3_st (v_l30 : (List S_tlb_Cpu)) (v_x41 : Int) (v_y43 : S_tlb_Cpu) : G_tlb_Check_L3_R → PS
  | .x0 v_x106 => ⟨[dd, dd, .d (.v (.int .i64 v_x106)), dd, dd, dd, dd, dd, dd, dd, dd, dd, dd, dd, dd, dd, dd, dd, dd, dd, dd, dd, dd, dd, dd, dd, dd, dd, dd, dd, dd, dd, dd, dd, dd, dd, dd, dd, dd, dd, dd, dd, dd, dd, dd, dd, dd, dd, dd, dd, dd, dd, dd, dd, dd, dd, dd, dd, dd, dd, dd, dd, dd, dd, dd, dd, dd, dd, dd, dd, dd, dd, dd, dd, dd, dd, dd, dd, dd, dd, dd, dd, dd, dd], []⟩
  | .x1  => ⟨[dd, dd, dd, dd, dd, dd, dd, dd, dd, dd, dd, dd, dd, dd, dd, dd, dd, dd, dd, dd, .d (.sl (v_l30.map eS_tlb_Cpu)), .d (.v (.int .i64 (v_l30.length : Int))), .d (.v (.int .i64 v_x41)), dd, dd, dd, dd, dd, dd, dd, dd, dd, dd, dd, dd, dd, dd, dd, dd, dd, dd, dd, dd, dd, dd, dd, dd, dd, dd, dd, dd, dd, dd, dd, dd, dd, dd, dd, dd, dd, dd, dd, dd, dd, dd, dd, dd, dd, dd, dd, dd, dd, dd, dd, dd, dd, dd, dd, dd, dd, dd, dd, dd, dd], []⟩
def G_tlb_Check_L3_hd (v_l30 : (List S_tlb_Cpu)) (v_x41 : Int) (v_y43 : S_tlb_Cpu) (v_x100 : Int) : PS := ⟨[dd, dd, dd, dd, dd, dd, dd, dd, dd, dd, dd, dd, dd, dd, dd, dd, dd, dd, dd, dd, .d (.sl (v_l30.map eS_tlb_Cpu)), .d (.v (.int .i64 (v_l30.length : Int))), .d (.v (.int .i64 v_x41)), dd, dd, dd, dd, dd, dd, dd, dd, dd, dd, dd, dd, dd, dd, dd, dd, dd, dd, dd, dd, dd, dd, dd, dd, dd, dd, dd, dd, dd, dd, dd, dd, dd, dd, dd, dd, dd, dd, dd, dd, dd, .d (.sl (v_y43.fOrders.map eS_tlb_Order)), .d (.v (.int .i64 (v_y43.fOrders.length : Int))), .d (.v (.int .i64 v_x100)), dd, dd, dd, dd, dd, dd, dd, dd, dd, dd, dd, dd, dd, dd, dd, dd, dd], []⟩
def G_tlb_Check_L3 (n : Nat) (v_l30 : (List S_tlb_Cpu)) (v_x41 : Int) (v_y43 : S_tlb_Cpu) : Nat → Int → Option G_tlb_Check_L3_R
  | 0, _ => none
  | k + 1, v_x100 =>
    if v_x100 < (v_y43.fOrders.length : Int) then
     (getI v_y43.fOrders v_x100).bind fun (v_y104 : S_tlb_Order) =>
     (G_tlb_right n v_y104.fSpace (maxI v_y104.fPage 0)).bind fun (v_r105 : (Bool)) =>
     if v_r105 = true then
      if v_y104.fPage < (-1) then
       some (.x0 3)
      else
       G_tlb_Check_L3 n v_l30 v_x41 v_y43 k (wi .i64 (v_x100 + 1))
     else
      some (.x0 3)
    else
     some (.x1 )
theorem G_tlb_Check_L3_ok {Fi : Ex → PS → Prop} (hF : KC 84 Fi) (ks : List Fr) (n : Nat) (v_l30 : (List S_tlb_Cpu)) (v_x41 : Int) (v_y43 : S_tlb_Cpu)  : ∀ (k : Nat) (v_x100 : Int) (o : G_tlb_Check_L3_R), G_tlb_Check_L3 n v_l30 v_x41 v_y43 k v_x100 = some o → RunE Try.prog 84 Fi ks (G_tlb_Check_L3_ex o) (G_tlb_Check_L3_st v_l30 v_x41 v_y43 o) → RunE Try.prog 84 Fi (.l k (cP (cB (cR (cR (cR (cR (cB (cL (cR (cR (cP (cB (cR (cL (cR (cR (bodyOf Try.f29))))))))))))))))) :: ks) .normal (G_tlb_Check_L3_hd v_l30 v_x41 v_y43 v_x100)
  | 0, v_x100, o, h, q => by rw [G_tlb_Check_L3] at h; cases h
  | k + 1, v_x100, o, h, q => by
    rw [G_tlb_Check_L3] at h
    by_cases h53 : v_x100 < (v_y43.fOrders.length : Int)
    · rw [if_pos h53] at h
      obtain ⟨v_y104, h58, h⟩ := bind_some h
      obtain ⟨v_r105, h59, h⟩ := bind_some h
      by_cases h60 : v_r105 = true
      · rw [if_pos h60] at h
        by_cases h61 : v_y104.fPage < (-1)
        · rw [if_pos h61] at h
          cases h
          exact pkk_sound TTok mix hF 19 (hs := [.t true, .y (eS_tlb_Order v_y104), .c, .c, .c, .r (eB v_r105), .t false, .c, .c, .c, .t true]) (ts := []) (s := []) (l := [2]) (by kernel_rfl) (by kernel_rfl) (.cons (dt h53) (.cons (getI_ob (f := eS_tlb_Order) h58) (.cons (show 0 + 2 ≤ 2 by decide) (.cons (G_tlb_right_ok n v_y104.fSpace (maxI v_y104.fPage 0) _ h59) (.cons (bnf h60) (.cons (dt h61) .nil)))))) q
        · rw [if_neg h61] at h
          exact pkk_sound TTok mix hF 16 (hs := [.t true, .y (eS_tlb_Order v_y104), .c, .c, .c, .r (eB v_r105), .t false, .c, .c, .c, .t false]) (ts := []) (s := []) (l := [20, 21, 22, 64, 65, 66]) (by kernel_rfl) (by kernel_rfl) (.cons (dt h53) (.cons (getI_ob (f := eS_tlb_Order) h58) (.cons (show 0 + 2 ≤ 2 by decide) (.cons (G_tlb_right_ok n v_y104.fSpace (maxI v_y104.fPage 0) _ h59) (.cons (bnf h60) (.cons (df h61) .nil)))))) (G_tlb_Check_L3_ok hF ks n v_l30 v_x41 v_y43 k (wi .i64 (v_x100 + 1)) _ h q)
      · rw [if_neg h60] at h
        cases h
        exact pkk_sound TTok mix hF 19 (hs := [.t true, .y (eS_tlb_Order v_y104), .c, .c, .c, .r (eB v_r105), .t true, .c, .c, .c]) (ts := []) (s := []) (l := [2]) (by kernel_rfl) (by kernel_rfl) (.cons (dt h53) (.cons (getI_ob (f := eS_tlb_Order) h58) (.cons (show 0 + 2 ≤ 2 by decide) (.cons (G_tlb_right_ok n v_y104.fSpace (maxI v_y104.fPage 0) _ h59) (.cons (bnt (vf h60)) .nil))))) q
    · rw [if_neg h53] at h
      cases h
      exact pkk_sound TTok mix hF 8 (hs := [.t false]) (ts := []) (s := []) (l := [20, 21, 22]) (by kernel_rfl) (by kernel_rfl) (.cons (df h53) .nil) q
inductive G_tlb_Check_L4_R where
  | x0 (v_x49 : Int)
  | x1 
def G_tlb_Check_L4_ex : G_tlb_Check_L4_R → Ex
  | .x0 _ => .ret
  | .x1  => .exit 0
def G_tlb_Check_L4_st (v_l30 : (List S_tlb_Cpu)) : G_tlb_Check_L4_R → PS
  | .x0 v_x49 => ⟨[dd, dd, .d (.v (.int .i64 v_x49)), dd, dd, dd, dd, dd, dd, dd, dd, dd, dd, dd, dd, dd, dd, dd, dd, dd, dd, dd, dd, dd, dd, dd, dd, dd, dd, dd, dd, dd, dd, dd, dd, dd, dd, dd, dd, dd, dd, dd, dd, dd, dd, dd, dd, dd, dd, dd, dd, dd, dd, dd, dd, dd, dd, dd, dd, dd, dd, dd, dd, dd, dd, dd, dd, dd, dd, dd, dd, dd, dd, dd, dd, dd, dd, dd, dd, dd, dd, dd, dd, dd], []⟩
  | .x1  => ⟨[dd, dd, dd, dd, dd, dd, dd, dd, dd, dd, dd, dd, dd, dd, dd, dd, dd, dd, dd, dd, dd, dd, dd, dd, dd, dd, dd, dd, dd, dd, dd, dd, dd, dd, dd, dd, dd, dd, dd, dd, dd, dd, dd, dd, dd, dd, dd, dd, dd, dd, dd, dd, dd, dd, dd, dd, dd, dd, dd, dd, dd, dd, dd, dd, dd, dd, dd, dd, dd, dd, dd, dd, dd, dd, dd, dd, dd, dd, dd, dd, dd, dd, dd, dd], []⟩
def G_tlb_Check_L4_hd (v_l30 : (List S_tlb_Cpu)) (v_x41 : Int) : PS := ⟨[dd, dd, dd, dd, dd, dd, dd, dd, dd, dd, dd, dd, dd, dd, dd, dd, dd, dd, dd, dd, .d (.sl (v_l30.map eS_tlb_Cpu)), .d (.v (.int .i64 (v_l30.length : Int))), .d (.v (.int .i64 v_x41)), dd, dd, dd, dd, dd, dd, dd, dd, dd, dd, dd, dd, dd, dd, dd, dd, dd, dd, dd, dd, dd, dd, dd, dd, dd, dd, dd, dd, dd, dd, dd, dd, dd, dd, dd, dd, dd, dd, dd, dd, dd, dd, dd, dd, dd, dd, dd, dd, dd, dd, dd, dd, dd, dd, dd, dd, dd, dd, dd, dd, dd], []⟩
def G_tlb_Check_L4 (n : Nat) (v_l30 : (List S_tlb_Cpu)) : Nat → Int → Option G_tlb_Check_L4_R
  | 0, _ => none
  | k + 1, v_x41 =>
    if v_x41 < (v_l30.length : Int) then
     (getI v_l30 v_x41).bind fun (v_y43 : S_tlb_Cpu) =>
     (G_tlb_Check_C1 n v_l30 v_x41 v_y43).bind fun v_o47 => match v_o47 with
     | .x0 v_z48 =>
       if v_z48 = true then
        some (.x0 2)
       else
        (G_tlb_Check_L2 n v_l30 v_x41 v_y43 n 0).bind fun v_o97 => match v_o97 with
        | .x0 v_z98 =>
          some (.x0 v_z98)
        | .x1  =>
          (G_tlb_Check_L3 n v_l30 v_x41 v_y43 n 0).bind fun v_o108 => match v_o108 with
          | .x0 v_z109 =>
            some (.x0 v_z109)
          | .x1  =>
            G_tlb_Check_L4 n v_l30 k (wi .i64 (v_x41 + 1))
    else
     some (.x1 )
theorem G_tlb_Check_L4_ok {Fi : Ex → PS → Prop} (hF : KC 84 Fi) (ks : List Fr) (n : Nat) (v_l30 : (List S_tlb_Cpu))  : ∀ (k : Nat) (v_x41 : Int) (o : G_tlb_Check_L4_R), G_tlb_Check_L4 n v_l30 k v_x41 = some o → RunE Try.prog 84 Fi ks (G_tlb_Check_L4_ex o) (G_tlb_Check_L4_st v_l30 o) → RunE Try.prog 84 Fi (.l k (cP (cB (cR (cL (cR (cR (bodyOf Try.f29))))))) :: ks) .normal (G_tlb_Check_L4_hd v_l30 v_x41)
  | 0, v_x41, o, h, q => by rw [G_tlb_Check_L4] at h; cases h
  | k + 1, v_x41, o, h, q => by
    rw [G_tlb_Check_L4] at h
    by_cases h7 : v_x41 < (v_l30.length : Int)
    · rw [if_pos h7] at h
      obtain ⟨v_y43, h8, h⟩ := bind_some h
      obtain ⟨v_o47, h11, h⟩ := bind_some h
      refine pkk_sound TTok mix hF 12 (hs := [.t true, .y (eS_tlb_Cpu v_y43), .c]) (ts := []) (s := [15]) (l := [6, 20, 21, 22]) (by kernel_rfl) (by kernel_rfl) (.cons (dt h7) (.cons (getI_ob (f := eS_tlb_Cpu) h8) (.cons (show 0 + 2 ≤ 2 by decide) .nil))) (G_tlb_Check_C1_ok hF (.s (cR (cL (cR (cB (cL (cR (cR (cP (cB (cR (cL (cR (cR (bodyOf Try.f29)))))))))))))) :: .s (cR (cR (cB (cL (cR (cR (cP (cB (cR (cL (cR (cR (bodyOf Try.f29))))))))))))) :: .b 1 :: .s (cR (cR (cR (cP (cB (cR (cL (cR (cR (bodyOf Try.f29)))))))))) :: .l k (cP (cB (cR (cL (cR (cR (bodyOf Try.f29))))))) :: ks) n v_l30 v_x41 v_y43 _ h11 ?_)
      cases v_o47 with
      | x0 v_z48 =>
        try dsimp only at h
        by_cases h12 : v_z48 = true
        · rw [if_pos h12] at h
          cases h
          exact pkk_sound TTok mix hF 8 (hs := [.t true]) (ts := []) (s := []) (l := [2]) (by kernel_rfl) (by kernel_rfl) (.cons h12 .nil) q
        · rw [if_neg h12] at h
          obtain ⟨v_o97, h52, h⟩ := bind_some h
          refine pkk_sound TTok mix hF 7 (hs := [.t false, .c, .u (.d (.v (.int .i64 (v_y43.fLines.length : Int)))), .n n]) (ts := []) (s := [0]) (l := [6, 20, 21, 22, 37, 38, 39]) (by kernel_rfl) (by kernel_rfl) (.cons (vf h12) (.cons (len_ob (f := eS_tlb_Line) (l := v_y43.fLines)) .nil)) (G_tlb_Check_L2_ok hF (.b 2 :: .s (cR (cR (cR (cB (cL (cR (cR (cP (cB (cR (cL (cR (cR (bodyOf Try.f29)))))))))))))) :: .b 1 :: .s (cR (cR (cR (cP (cB (cR (cL (cR (cR (bodyOf Try.f29)))))))))) :: .l k (cP (cB (cR (cL (cR (cR (bodyOf Try.f29))))))) :: ks) n v_l30 v_x41 v_y43 n 0 _ h52 ?_)
          cases v_o97 with
          | x0 v_z98 =>
            try dsimp only at h
            cases h
            exact pkk_sound TTok mix hF 5 (hs := []) (ts := []) (s := []) (l := [2]) (by kernel_rfl) (by kernel_rfl) .nil q
          | x1  =>
            try dsimp only at h
            obtain ⟨v_o108, h62, h⟩ := bind_some h
            refine pkk_sound TTok mix hF 5 (hs := [.c, .u (.d (.v (.int .i64 (v_y43.fOrders.length : Int)))), .n n]) (ts := []) (s := []) (l := [20, 21, 22, 64, 65, 66]) (by kernel_rfl) (by kernel_rfl) (.cons (len_ob (f := eS_tlb_Order) (l := v_y43.fOrders)) .nil) (G_tlb_Check_L3_ok hF (.b 4 :: .b 1 :: .s (cR (cR (cR (cP (cB (cR (cL (cR (cR (bodyOf Try.f29)))))))))) :: .l k (cP (cB (cR (cL (cR (cR (bodyOf Try.f29))))))) :: ks) n v_l30 v_x41 v_y43 n 0 _ h62 ?_)
            cases v_o108 with
            | x0 v_z109 =>
              try dsimp only at h
              cases h
              exact pkk_sound TTok mix hF 4 (hs := []) (ts := []) (s := []) (l := [2]) (by kernel_rfl) (by kernel_rfl) .nil q
            | x1  =>
              try dsimp only at h
              exact pkk_sound TTok mix hF 3 (hs := []) (ts := []) (s := []) (l := [20, 21, 22]) (by kernel_rfl) (by kernel_rfl) .nil (G_tlb_Check_L4_ok hF ks n v_l30 k (wi .i64 (v_x41 + 1)) _ h q)
    · rw [if_neg h7] at h
      cases h
      exact pkk_sound TTok mix hF 8 (hs := [.t false]) (ts := []) (s := []) (l := []) (by kernel_rfl) (by kernel_rfl) (.cons (df h7) .nil) q
/- ringhall/tlb.Check -/
def G_tlb_Check (n : Nat) (v_l30 : (List S_tlb_Cpu)) : Option (Int) :=
  (G_tlb_New n (v_l30.length : Int)).bind fun (v_r31 : ((List S_tlb_Cpu) × Int)) =>
  if v_r31.2 = 0 then
   (G_tlb_Check_L4 n v_l30 n 0).bind fun v_o111 => match v_o111 with
   | .x0 v_z112 =>
     some v_z112
   | .x1  =>
     some 0
  else
   some v_r31.2
theorem G_tlb_Check_ok (n : Nat) (v_l30 : (List S_tlb_Cpu)) (r : Int) (h : G_tlb_Check n v_l30 = some r) : Ret Try.prog 29 [(eL eS_tlb_Cpu) v_l30] ((eI .i64) r) := by
  refine ret_run (n := 84) (fn := Try.f29) (c := bodyOf Try.f29) (by kernel_rfl) (by kernel_rfl) (by kernel_rfl) (by kernel_rfl) ?_
  have hF : KC 84 (FinR Try.prog Try.f29 ((eI .i64) r)) := FinR.kc' (by kernel_rfl)
  unfold G_tlb_Check at h
  obtain ⟨v_r31, h5, h⟩ := bind_some h
  by_cases h6 : v_r31.2 = 0
  · rw [if_pos h6] at h
    obtain ⟨v_o111, h63, h⟩ := bind_some h
    refine pkk_sound TTok mix hF 14 (hs := [.u (.d (.v (.int .i64 (v_l30.length : Int)))), .r (.tup [(eL eS_tlb_Cpu) v_r31.1, (eI .i64) v_r31.2]), .t false, .u (.d (.v (.int .i64 (v_l30.length : Int)))), .n n]) (ts := []) (s := []) (l := [20, 21, 22]) (by kernel_rfl) (by kernel_rfl) (.cons (len_ob (f := eS_tlb_Cpu) (l := v_l30)) (.cons (G_tlb_New_ok n (v_l30.length : Int) _ h5) (.cons (nf h6) (.cons (len_ob (f := eS_tlb_Cpu) (l := v_l30)) .nil)))) (G_tlb_Check_L4_ok hF (.b 0 :: .s (cR (cR (cR (bodyOf Try.f29)))) :: []) n v_l30 n 0 _ h63 ?_)
    cases v_o111 with
    | x0 v_z112 =>
      try dsimp only at h
      obtain rfl := Option.some.inj h
      exact pend_sound TTok mix 2 (hs := []) (by kernel_rfl) (by kernel_rfl) (by kernel_rfl) .nil
    | x1  =>
      try dsimp only at h
      obtain rfl := Option.some.inj h
      exact pend_sound TTok mix 4 (hs := []) (by kernel_rfl) (by kernel_rfl) (by kernel_rfl) .nil
  · rw [if_neg h6] at h
    obtain rfl := Option.some.inj h
    exact pend_sound TTok mix 12 (hs := [.u (.d (.v (.int .i64 (v_l30.length : Int)))), .r (.tup [(eL eS_tlb_Cpu) v_r31.1, (eI .i64) v_r31.2]), .t true]) (by kernel_rfl) (by kernel_rfl) (by kernel_rfl) (.cons (len_ob (f := eS_tlb_Cpu) (l := v_l30)) (.cons (G_tlb_New_ok n (v_l30.length : Int) _ h5) (.cons (nt h6) .nil)))
inductive G_tlb_check_C1_R where
  | x0 (v_x118 : Bool)
def G_tlb_check_C1_ex : G_tlb_check_C1_R → Ex
  | .x0 _ => .normal
def G_tlb_check_C1_st (v_l28 : (List S_tlb_Cpu)) (v_cpu29 : Int) (v_r113 : (Int)) : G_tlb_check_C1_R → PS
  | .x0 v_x118 => ⟨[dd, dd, dd, dd, dd, .d (.v (.int .i64 v_r113)), dd, dd, dd, dd, dd, dd, dd, dd, dd, dd, dd, dd, dd, .d (.v (.bool v_x118)), dd], []⟩
def G_tlb_check_C1_hd (v_l28 : (List S_tlb_Cpu)) (v_cpu29 : Int) (v_r113 : (Int))  : PS := ⟨[.d (.sl (v_l28.map eS_tlb_Cpu)), .d (.v (.int .i64 v_cpu29)), dd, dd, dd, .d (.v (.int .i64 v_r113)), dd, dd, dd, dd, dd, dd, dd, dd, dd, dd, dd, dd, dd, dd, dd], []⟩
def G_tlb_check_C1 (n : Nat) (v_l28 : (List S_tlb_Cpu)) (v_cpu29 : Int) (v_r113 : (Int)) : Option G_tlb_check_C1_R :=
  if v_r113 = 0 then
   if v_cpu29 < 0 then
    some (.x0 true)
   else
    some (.x0 (decide (v_cpu29 ≥ (v_l28.length : Int))))
  else
   some (.x0 false)
theorem G_tlb_check_C1_ok {Fi : Ex → PS → Prop} (hF : KC 21 Fi) (ks : List Fr) (n : Nat) (v_l28 : (List S_tlb_Cpu)) (v_cpu29 : Int) (v_r113 : (Int))  (o : G_tlb_check_C1_R) (h : G_tlb_check_C1 n v_l28 v_cpu29 v_r113 = some o) (q : RunE Try.prog 21 Fi ks (G_tlb_check_C1_ex o) (G_tlb_check_C1_st v_l28 v_cpu29 v_r113 o)) : RunE Try.prog 21 Fi (.s (cL (cL (cR (cR (bodyOf Try.f64))))) :: ks) .normal (G_tlb_check_C1_hd v_l28 v_cpu29 v_r113) := by
  unfold G_tlb_check_C1 at h
  by_cases h67 : v_r113 = 0
  · rw [if_pos h67] at h
    by_cases h68 : v_cpu29 < 0
    · rw [if_pos h68] at h
      cases h
      exact pkk_sound TTok mix hF 1 (hs := [.t true, .c, .c, .t true, .c, .c, .c, .c]) (ts := []) (s := []) (l := [5, 19]) (by kernel_rfl) (by kernel_rfl) (.cons (bt h67) (.cons (dt h68) .nil)) q
    · rw [if_neg h68] at h
      cases h
      exact pkk_sound TTok mix hF 1 (hs := [.t true, .c, .c, .t false, .c, .c, .u (.d (.v (.int .i64 (v_l28.length : Int)))), .c, .c]) (ts := []) (s := []) (l := [5, 19]) (by kernel_rfl) (by kernel_rfl) (.cons (bt h67) (.cons (df h68) (.cons (len_ob (f := eS_tlb_Cpu) (l := v_l28)) .nil))) q
  · rw [if_neg h67] at h
    cases h
    exact pkk_sound TTok mix hF 1 (hs := [.t false, .c, .c, .c]) (ts := []) (s := []) (l := [5, 19]) (by kernel_rfl) (by kernel_rfl) (.cons (bf h67) .nil) q
/- ringhall/tlb.check -/
def G_tlb_check (n : Nat) (v_l28 : (List S_tlb_Cpu)) (v_cpu29 : Int) : Option (Int) :=
  (G_tlb_Check n v_l28).bind fun (v_r113 : (Int)) =>
  (G_tlb_check_C1 n v_l28 v_cpu29 v_r113).bind fun v_o121 => match v_o121 with
  | .x0 v_z122 =>
    if v_z122 = true then
     some 4
    else
     some v_r113
theorem G_tlb_check_ok (n : Nat) (v_l28 : (List S_tlb_Cpu)) (v_cpu29 : Int) (r : Int) (h : G_tlb_check n v_l28 v_cpu29 = some r) : Ret Try.prog 64 [(eL eS_tlb_Cpu) v_l28, (eI .i64) v_cpu29] ((eI .i64) r) := by
  refine ret_run (n := 21) (fn := Try.f64) (c := bodyOf Try.f64) (by kernel_rfl) (by kernel_rfl) (by kernel_rfl) (by kernel_rfl) ?_
  have hF : KC 21 (FinR Try.prog Try.f64 ((eI .i64) r)) := FinR.kc' (by kernel_rfl)
  unfold G_tlb_check at h
  obtain ⟨v_r113, h64, h⟩ := bind_some h
  obtain ⟨v_o121, h69, h⟩ := bind_some h
  refine pkk_sound TTok mix hF 6 (hs := [.r ((eI .i64) v_r113)]) (ts := []) (s := []) (l := [0, 1, 5]) (by kernel_rfl) (by kernel_rfl) (.cons (G_tlb_Check_ok n v_l28 _ h64) .nil) (G_tlb_check_C1_ok hF (.s (cR (cL (cR (cR (bodyOf Try.f64))))) :: .s (cR (cR (cR (bodyOf Try.f64)))) :: []) n v_l28 v_cpu29 v_r113 _ h69 ?_)
  cases v_o121 with
  | x0 v_z122 =>
    try dsimp only at h
    by_cases h70 : v_z122 = true
    · rw [if_pos h70] at h
      obtain rfl := Option.some.inj h
      exact pend_sound TTok mix 5 (hs := [.t true]) (by kernel_rfl) (by kernel_rfl) (by kernel_rfl) (.cons h70 .nil)
    · rw [if_neg h70] at h
      obtain rfl := Option.some.inj h
      exact pend_sound TTok mix 5 (hs := [.t false]) (by kernel_rfl) (by kernel_rfl) (by kernel_rfl) (.cons (vf h70) .nil)
/- slices.Clone[[]ringhall/tlb.Cpu,ringhall/tlb.Cpu] -/
def G_slices_Clone_tlb_Cpu_tlb_Cpu_A (n : Nat) (v_c162 : Nat) : Option ((List S_tlb_Cpu)) :=
  some ([] : List S_tlb_Cpu)
theorem G_slices_Clone_tlb_Cpu_tlb_Cpu_A_ok (n : Nat) (v_c162 : Nat) (r : (List S_tlb_Cpu)) (h : G_slices_Clone_tlb_Cpu_tlb_Cpu_A n v_c162 = some r) : RetH Try.prog 96 [.d (.v (.slice none 0 v_c162))] [] (.srf 0) [.row 66 2 (r.map eS_tlb_Cpu)] := by
  refine retH_run (n := 8) (fn := Try.f96) (c := bodyOf Try.f96) (by kernel_rfl) (by kernel_rfl) (by kernel_rfl) (by kernel_rfl) ?_
  have hF : KC 8 (FinH Try.prog Try.f96 [] (.srf 0) [.row 66 2 (r.map eS_tlb_Cpu)]) := FinH.kc' (by kernel_rfl)
  unfold G_slices_Clone_tlb_Cpu_tlb_Cpu_A at h
  obtain rfl := Option.some.inj h
  exact pendH_sound TTok mix 11 (hs := [.c, .dl 4, .th 2 66 2]) [20] (by kernel_rfl) (by kernel_rfl) (by kernel_rfl) .nil
/- slices.Clone[[]ringhall/tlb.Cpu,ringhall/tlb.Cpu] -/
def G_slices_Clone_tlb_Cpu_tlb_Cpu_B (n : Nat) (v_a163 : Addr) (v_c164 : Nat) : Option ((List S_tlb_Cpu)) :=
  (app 48 ([] : List S_tlb_Cpu) ([] : (List S_tlb_Cpu))).bind fun (v_a165 : (List S_tlb_Cpu)) =>
  some v_a165
theorem G_slices_Clone_tlb_Cpu_tlb_Cpu_B_ok (n : Nat) (v_a163 : Addr) (v_c164 : Nat) (r : (List S_tlb_Cpu)) (h : G_slices_Clone_tlb_Cpu_tlb_Cpu_B n v_a163 v_c164 = some r) : RetH Try.prog 96 [.d (.v (.slice (some v_a163) 0 v_c164))] [] (.srf 0) [.row 66 2 (r.map eS_tlb_Cpu)] := by
  refine retH_run (n := 8) (fn := Try.f96) (c := bodyOf Try.f96) (by kernel_rfl) (by kernel_rfl) (by kernel_rfl) (by kernel_rfl) ?_
  have hF : KC 8 (FinH Try.prog Try.f96 [] (.srf 0) [.row 66 2 (r.map eS_tlb_Cpu)]) := FinH.kc' (by kernel_rfl)
  unfold G_slices_Clone_tlb_Cpu_tlb_Cpu_B at h
  obtain ⟨v_a165, h84, h⟩ := bind_some h
  obtain rfl := Option.some.inj h
  exact pendH_sound TTok mix 10 (hs := [.c, .w (([] : List S_tlb_Cpu).map eS_tlb_Cpu), .w (v_a165.map eS_tlb_Cpu)]) [25] (by kernel_rfl) (by kernel_rfl) (by kernel_rfl) (.cons (Eq.refl (([] : List S_tlb_Cpu).map eS_tlb_Cpu)) (.cons (app_ob (f := eS_tlb_Cpu) (s := 2) h84 (fun _ => rfl)).1 (.cons (app_ob (f := eS_tlb_Cpu) (s := 2) h84 (fun _ => rfl)).2.1 (.cons (app_ob (f := eS_tlb_Cpu) (s := 2) h84 (fun _ => rfl)).2.2.1 (.cons (app_ob (f := eS_tlb_Cpu) (s := 2) h84 (fun _ => rfl)).2.2.2 .nil)))))
/- slices.Clone[[]ringhall/tlb.Cpu,ringhall/tlb.Cpu] -/
def G_slices_Clone_tlb_Cpu_tlb_Cpu_C (n : Nat) (v_y166 : S_tlb_Cpu) (v_ys167 : (List S_tlb_Cpu)) : Option ((List S_tlb_Cpu)) :=
  (app 48 ([] : List S_tlb_Cpu) (v_y166 :: v_ys167)).bind fun (v_a168 : (List S_tlb_Cpu)) =>
  some v_a168
theorem G_slices_Clone_tlb_Cpu_tlb_Cpu_C_ok (n : Nat) (v_y166 : S_tlb_Cpu) (v_ys167 : (List S_tlb_Cpu)) (r : (List S_tlb_Cpu)) (h : G_slices_Clone_tlb_Cpu_tlb_Cpu_C n v_y166 v_ys167 = some r) : RetH Try.prog 96 [.d (.sl (eS_tlb_Cpu v_y166 :: v_ys167.map eS_tlb_Cpu))] [] (.srf 0) [.row 66 2 (r.map eS_tlb_Cpu)] := by
  refine retH_run (n := 8) (fn := Try.f96) (c := bodyOf Try.f96) (by kernel_rfl) (by kernel_rfl) (by kernel_rfl) (by kernel_rfl) ?_
  have hF : KC 8 (FinH Try.prog Try.f96 [] (.srf 0) [.row 66 2 (r.map eS_tlb_Cpu)]) := FinH.kc' (by kernel_rfl)
  unfold G_slices_Clone_tlb_Cpu_tlb_Cpu_C at h
  obtain ⟨v_a168, h85, h⟩ := bind_some h
  obtain rfl := Option.some.inj h
  exact pendH_sound TTok mix 10 (hs := [.c, .w (([] : List S_tlb_Cpu).map eS_tlb_Cpu), .w (v_a168.map eS_tlb_Cpu)]) [25] (by kernel_rfl) (by kernel_rfl) (by kernel_rfl) (.cons (Eq.refl (([] : List S_tlb_Cpu).map eS_tlb_Cpu)) (.cons (app_ob (f := eS_tlb_Cpu) (s := 2) h85 (fun _ => rfl)).1 (.cons (app_ob (f := eS_tlb_Cpu) (s := 2) h85 (fun _ => rfl)).2.1 (.cons (app_ob (f := eS_tlb_Cpu) (s := 2) h85 (fun _ => rfl)).2.2.1 (.cons (app_ob (f := eS_tlb_Cpu) (s := 2) h85 (fun _ => rfl)).2.2.2 .nil)))))
def G_slices_Clone_tlb_Cpu_tlb_Cpu (n : Nat) (xs : (List S_tlb_Cpu)) : Option (List S_tlb_Cpu) := app 48 [] xs
theorem G_slices_Clone_tlb_Cpu_tlb_Cpu_ok (n : Nat) (xs : (List S_tlb_Cpu)) (r : (List S_tlb_Cpu)) (h : G_slices_Clone_tlb_Cpu_tlb_Cpu n xs = some r) : RetH Try.prog 96 [.d (.sl (xs.map eS_tlb_Cpu))] [] (.srf 0) [.row 66 2 (r.map eS_tlb_Cpu)] := by
  unfold G_slices_Clone_tlb_Cpu_tlb_Cpu at h
  have e : app 48 ([] : (List S_tlb_Cpu)) [] = some [] := by simp [app]
  cases xs with
  | nil =>
    rw [e] at h; obtain rfl := Option.some.inj h
    exact clone_nil (fun c => G_slices_Clone_tlb_Cpu_tlb_Cpu_A_ok n c _ (by unfold G_slices_Clone_tlb_Cpu_tlb_Cpu_A; rfl)) (fun a c => G_slices_Clone_tlb_Cpu_tlb_Cpu_B_ok n a c _ (by unfold G_slices_Clone_tlb_Cpu_tlb_Cpu_B; rw [e]; rfl))
  | cons y ys => exact G_slices_Clone_tlb_Cpu_tlb_Cpu_C_ok n y ys _ (by unfold G_slices_Clone_tlb_Cpu_tlb_Cpu_C; rw [h]; rfl)
/- slices.Clone[[]ringhall/tlb.Line,ringhall/tlb.Line] -/
def G_slices_Clone_tlb_Line_tlb_Line_A (n : Nat) (v_c173 : Nat) : Option ((List S_tlb_Line)) :=
  some ([] : List S_tlb_Line)
theorem G_slices_Clone_tlb_Line_tlb_Line_A_ok (n : Nat) (v_c173 : Nat) (r : (List S_tlb_Line)) (h : G_slices_Clone_tlb_Line_tlb_Line_A n v_c173 = some r) : RetH Try.prog 97 [.d (.v (.slice none 0 v_c173))] [] (.srf 0) [.row 69 3 (r.map eS_tlb_Line)] := by
  refine retH_run (n := 8) (fn := Try.f97) (c := bodyOf Try.f97) (by kernel_rfl) (by kernel_rfl) (by kernel_rfl) (by kernel_rfl) ?_
  have hF : KC 8 (FinH Try.prog Try.f97 [] (.srf 0) [.row 69 3 (r.map eS_tlb_Line)]) := FinH.kc' (by kernel_rfl)
  unfold G_slices_Clone_tlb_Line_tlb_Line_A at h
  obtain rfl := Option.some.inj h
  exact pendH_sound TTok mix 11 (hs := [.c, .dl 4, .th 2 69 3]) [20] (by kernel_rfl) (by kernel_rfl) (by kernel_rfl) .nil
/- slices.Clone[[]ringhall/tlb.Line,ringhall/tlb.Line] -/
def G_slices_Clone_tlb_Line_tlb_Line_B (n : Nat) (v_a174 : Addr) (v_c175 : Nat) : Option ((List S_tlb_Line)) :=
  (app 24 ([] : List S_tlb_Line) ([] : (List S_tlb_Line))).bind fun (v_a176 : (List S_tlb_Line)) =>
  some v_a176
theorem G_slices_Clone_tlb_Line_tlb_Line_B_ok (n : Nat) (v_a174 : Addr) (v_c175 : Nat) (r : (List S_tlb_Line)) (h : G_slices_Clone_tlb_Line_tlb_Line_B n v_a174 v_c175 = some r) : RetH Try.prog 97 [.d (.v (.slice (some v_a174) 0 v_c175))] [] (.srf 0) [.row 69 3 (r.map eS_tlb_Line)] := by
  refine retH_run (n := 8) (fn := Try.f97) (c := bodyOf Try.f97) (by kernel_rfl) (by kernel_rfl) (by kernel_rfl) (by kernel_rfl) ?_
  have hF : KC 8 (FinH Try.prog Try.f97 [] (.srf 0) [.row 69 3 (r.map eS_tlb_Line)]) := FinH.kc' (by kernel_rfl)
  unfold G_slices_Clone_tlb_Line_tlb_Line_B at h
  obtain ⟨v_a176, h90, h⟩ := bind_some h
  obtain rfl := Option.some.inj h
  exact pendH_sound TTok mix 10 (hs := [.c, .w (([] : List S_tlb_Line).map eS_tlb_Line), .w (v_a176.map eS_tlb_Line)]) [25] (by kernel_rfl) (by kernel_rfl) (by kernel_rfl) (.cons (Eq.refl (([] : List S_tlb_Line).map eS_tlb_Line)) (.cons (app_ob (f := eS_tlb_Line) (s := 3) h90 (fun _ => rfl)).1 (.cons (app_ob (f := eS_tlb_Line) (s := 3) h90 (fun _ => rfl)).2.1 (.cons (app_ob (f := eS_tlb_Line) (s := 3) h90 (fun _ => rfl)).2.2.1 (.cons (app_ob (f := eS_tlb_Line) (s := 3) h90 (fun _ => rfl)).2.2.2 .nil)))))
/- slices.Clone[[]ringhall/tlb.Line,ringhall/tlb.Line] -/
def G_slices_Clone_tlb_Line_tlb_Line_C (n : Nat) (v_y177 : S_tlb_Line) (v_ys178 : (List S_tlb_Line)) : Option ((List S_tlb_Line)) :=
  (app 24 ([] : List S_tlb_Line) (v_y177 :: v_ys178)).bind fun (v_a179 : (List S_tlb_Line)) =>
  some v_a179
theorem G_slices_Clone_tlb_Line_tlb_Line_C_ok (n : Nat) (v_y177 : S_tlb_Line) (v_ys178 : (List S_tlb_Line)) (r : (List S_tlb_Line)) (h : G_slices_Clone_tlb_Line_tlb_Line_C n v_y177 v_ys178 = some r) : RetH Try.prog 97 [.d (.sl (eS_tlb_Line v_y177 :: v_ys178.map eS_tlb_Line))] [] (.srf 0) [.row 69 3 (r.map eS_tlb_Line)] := by
  refine retH_run (n := 8) (fn := Try.f97) (c := bodyOf Try.f97) (by kernel_rfl) (by kernel_rfl) (by kernel_rfl) (by kernel_rfl) ?_
  have hF : KC 8 (FinH Try.prog Try.f97 [] (.srf 0) [.row 69 3 (r.map eS_tlb_Line)]) := FinH.kc' (by kernel_rfl)
  unfold G_slices_Clone_tlb_Line_tlb_Line_C at h
  obtain ⟨v_a179, h91, h⟩ := bind_some h
  obtain rfl := Option.some.inj h
  exact pendH_sound TTok mix 10 (hs := [.c, .w (([] : List S_tlb_Line).map eS_tlb_Line), .w (v_a179.map eS_tlb_Line)]) [25] (by kernel_rfl) (by kernel_rfl) (by kernel_rfl) (.cons (Eq.refl (([] : List S_tlb_Line).map eS_tlb_Line)) (.cons (app_ob (f := eS_tlb_Line) (s := 3) h91 (fun _ => rfl)).1 (.cons (app_ob (f := eS_tlb_Line) (s := 3) h91 (fun _ => rfl)).2.1 (.cons (app_ob (f := eS_tlb_Line) (s := 3) h91 (fun _ => rfl)).2.2.1 (.cons (app_ob (f := eS_tlb_Line) (s := 3) h91 (fun _ => rfl)).2.2.2 .nil)))))
def G_slices_Clone_tlb_Line_tlb_Line (n : Nat) (xs : (List S_tlb_Line)) : Option (List S_tlb_Line) := app 24 [] xs
theorem G_slices_Clone_tlb_Line_tlb_Line_ok (n : Nat) (xs : (List S_tlb_Line)) (r : (List S_tlb_Line)) (h : G_slices_Clone_tlb_Line_tlb_Line n xs = some r) : RetH Try.prog 97 [.d (.sl (xs.map eS_tlb_Line))] [] (.srf 0) [.row 69 3 (r.map eS_tlb_Line)] := by
  unfold G_slices_Clone_tlb_Line_tlb_Line at h
  have e : app 24 ([] : (List S_tlb_Line)) [] = some [] := by simp [app]
  cases xs with
  | nil =>
    rw [e] at h; obtain rfl := Option.some.inj h
    exact clone_nil (fun c => G_slices_Clone_tlb_Line_tlb_Line_A_ok n c _ (by unfold G_slices_Clone_tlb_Line_tlb_Line_A; rfl)) (fun a c => G_slices_Clone_tlb_Line_tlb_Line_B_ok n a c _ (by unfold G_slices_Clone_tlb_Line_tlb_Line_B; rw [e]; rfl))
  | cons y ys => exact G_slices_Clone_tlb_Line_tlb_Line_C_ok n y ys _ (by unfold G_slices_Clone_tlb_Line_tlb_Line_C; rw [h]; rfl)
/- slices.Clone[[]ringhall/tlb.Order,ringhall/tlb.Order] -/
def G_slices_Clone_tlb_Order_tlb_Order_A (n : Nat) (v_c182 : Nat) : Option ((List S_tlb_Order)) :=
  some ([] : List S_tlb_Order)
theorem G_slices_Clone_tlb_Order_tlb_Order_A_ok (n : Nat) (v_c182 : Nat) (r : (List S_tlb_Order)) (h : G_slices_Clone_tlb_Order_tlb_Order_A n v_c182 = some r) : RetH Try.prog 34 [.d (.v (.slice none 0 v_c182))] [] (.srf 0) [.row 50 2 (r.map eS_tlb_Order)] := by
  refine retH_run (n := 8) (fn := Try.f34) (c := bodyOf Try.f34) (by kernel_rfl) (by kernel_rfl) (by kernel_rfl) (by kernel_rfl) ?_
  have hF : KC 8 (FinH Try.prog Try.f34 [] (.srf 0) [.row 50 2 (r.map eS_tlb_Order)]) := FinH.kc' (by kernel_rfl)
  unfold G_slices_Clone_tlb_Order_tlb_Order_A at h
  obtain rfl := Option.some.inj h
  exact pendH_sound TTok mix 11 (hs := [.c, .dl 4, .th 2 50 2]) [20] (by kernel_rfl) (by kernel_rfl) (by kernel_rfl) .nil
/- slices.Clone[[]ringhall/tlb.Order,ringhall/tlb.Order] -/
def G_slices_Clone_tlb_Order_tlb_Order_B (n : Nat) (v_a183 : Addr) (v_c184 : Nat) : Option ((List S_tlb_Order)) :=
  (app 16 ([] : List S_tlb_Order) ([] : (List S_tlb_Order))).bind fun (v_a185 : (List S_tlb_Order)) =>
  some v_a185
theorem G_slices_Clone_tlb_Order_tlb_Order_B_ok (n : Nat) (v_a183 : Addr) (v_c184 : Nat) (r : (List S_tlb_Order)) (h : G_slices_Clone_tlb_Order_tlb_Order_B n v_a183 v_c184 = some r) : RetH Try.prog 34 [.d (.v (.slice (some v_a183) 0 v_c184))] [] (.srf 0) [.row 50 2 (r.map eS_tlb_Order)] := by
  refine retH_run (n := 8) (fn := Try.f34) (c := bodyOf Try.f34) (by kernel_rfl) (by kernel_rfl) (by kernel_rfl) (by kernel_rfl) ?_
  have hF : KC 8 (FinH Try.prog Try.f34 [] (.srf 0) [.row 50 2 (r.map eS_tlb_Order)]) := FinH.kc' (by kernel_rfl)
  unfold G_slices_Clone_tlb_Order_tlb_Order_B at h
  obtain ⟨v_a185, h95, h⟩ := bind_some h
  obtain rfl := Option.some.inj h
  exact pendH_sound TTok mix 10 (hs := [.c, .w (([] : List S_tlb_Order).map eS_tlb_Order), .w (v_a185.map eS_tlb_Order)]) [25] (by kernel_rfl) (by kernel_rfl) (by kernel_rfl) (.cons (Eq.refl (([] : List S_tlb_Order).map eS_tlb_Order)) (.cons (app_ob (f := eS_tlb_Order) (s := 2) h95 (fun _ => rfl)).1 (.cons (app_ob (f := eS_tlb_Order) (s := 2) h95 (fun _ => rfl)).2.1 (.cons (app_ob (f := eS_tlb_Order) (s := 2) h95 (fun _ => rfl)).2.2.1 (.cons (app_ob (f := eS_tlb_Order) (s := 2) h95 (fun _ => rfl)).2.2.2 .nil)))))
/- slices.Clone[[]ringhall/tlb.Order,ringhall/tlb.Order] -/
def G_slices_Clone_tlb_Order_tlb_Order_C (n : Nat) (v_y186 : S_tlb_Order) (v_ys187 : (List S_tlb_Order)) : Option ((List S_tlb_Order)) :=
  (app 16 ([] : List S_tlb_Order) (v_y186 :: v_ys187)).bind fun (v_a188 : (List S_tlb_Order)) =>
  some v_a188
theorem G_slices_Clone_tlb_Order_tlb_Order_C_ok (n : Nat) (v_y186 : S_tlb_Order) (v_ys187 : (List S_tlb_Order)) (r : (List S_tlb_Order)) (h : G_slices_Clone_tlb_Order_tlb_Order_C n v_y186 v_ys187 = some r) : RetH Try.prog 34 [.d (.sl (eS_tlb_Order v_y186 :: v_ys187.map eS_tlb_Order))] [] (.srf 0) [.row 50 2 (r.map eS_tlb_Order)] := by
  refine retH_run (n := 8) (fn := Try.f34) (c := bodyOf Try.f34) (by kernel_rfl) (by kernel_rfl) (by kernel_rfl) (by kernel_rfl) ?_
  have hF : KC 8 (FinH Try.prog Try.f34 [] (.srf 0) [.row 50 2 (r.map eS_tlb_Order)]) := FinH.kc' (by kernel_rfl)
  unfold G_slices_Clone_tlb_Order_tlb_Order_C at h
  obtain ⟨v_a188, h96, h⟩ := bind_some h
  obtain rfl := Option.some.inj h
  exact pendH_sound TTok mix 10 (hs := [.c, .w (([] : List S_tlb_Order).map eS_tlb_Order), .w (v_a188.map eS_tlb_Order)]) [25] (by kernel_rfl) (by kernel_rfl) (by kernel_rfl) (.cons (Eq.refl (([] : List S_tlb_Order).map eS_tlb_Order)) (.cons (app_ob (f := eS_tlb_Order) (s := 2) h96 (fun _ => rfl)).1 (.cons (app_ob (f := eS_tlb_Order) (s := 2) h96 (fun _ => rfl)).2.1 (.cons (app_ob (f := eS_tlb_Order) (s := 2) h96 (fun _ => rfl)).2.2.1 (.cons (app_ob (f := eS_tlb_Order) (s := 2) h96 (fun _ => rfl)).2.2.2 .nil)))))
def G_slices_Clone_tlb_Order_tlb_Order (n : Nat) (xs : (List S_tlb_Order)) : Option (List S_tlb_Order) := app 16 [] xs
theorem G_slices_Clone_tlb_Order_tlb_Order_ok (n : Nat) (xs : (List S_tlb_Order)) (r : (List S_tlb_Order)) (h : G_slices_Clone_tlb_Order_tlb_Order n xs = some r) : RetH Try.prog 34 [.d (.sl (xs.map eS_tlb_Order))] [] (.srf 0) [.row 50 2 (r.map eS_tlb_Order)] := by
  unfold G_slices_Clone_tlb_Order_tlb_Order at h
  have e : app 16 ([] : (List S_tlb_Order)) [] = some [] := by simp [app]
  cases xs with
  | nil =>
    rw [e] at h; obtain rfl := Option.some.inj h
    exact clone_nil (fun c => G_slices_Clone_tlb_Order_tlb_Order_A_ok n c _ (by unfold G_slices_Clone_tlb_Order_tlb_Order_A; rfl)) (fun a c => G_slices_Clone_tlb_Order_tlb_Order_B_ok n a c _ (by unfold G_slices_Clone_tlb_Order_tlb_Order_B; rw [e]; rfl))
  | cons y ys => exact G_slices_Clone_tlb_Order_tlb_Order_C_ok n y ys _ (by unfold G_slices_Clone_tlb_Order_tlb_Order_C; rw [h]; rfl)
inductive G_tlb_copied_h_L1_R where
  | x0 (v_w199 : (List S_tlb_Cpu))
def G_tlb_copied_h_L1_ex : G_tlb_copied_h_L1_R → Ex
  | .x0 _ => .exit 0
def G_tlb_copied_h_L1_st (v_r169 : ((List S_tlb_Cpu))) : G_tlb_copied_h_L1_R → PS
  | .x0 v_w199 => ⟨[dd, dd, dd, .srf 0, dd, dd, dd, dd, dd, dd, dd, dd, dd, dd, dd, dd, dd, dd, dd, dd, dd, dd, dd, dd, dd, dd, dd, dd, dd, dd, dd, dd, dd, dd], [.cu (outC 66 2 nq_S_tlb_Cpu [none, none] (v_w199.map eS_tlb_Cpu)) [.srf 1, .d (.v noB), .d (.v noB)], .cu (bagC nct_S_tlb_Cpu nq_S_tlb_Cpu (v_w199.map eS_tlb_Cpu)) []]⟩
def G_tlb_copied_h_L1_hd (v_r169 : ((List S_tlb_Cpu))) (v_x191 : Int) (v_w192 : (List S_tlb_Cpu)) : PS := ⟨[dd, dd, dd, .srf 0, dd, dd, dd, dd, .d (.v (.int .i64 (v_r169.length : Int))), .d (.v (.int .i64 v_x191)), dd, dd, dd, dd, dd, dd, dd, dd, dd, dd, dd, dd, dd, dd, dd, dd, dd, dd, dd, dd, dd, dd, dd, dd], [.cu (outC 66 2 (qpre nq_S_tlb_Cpu (((v_x191).toNat) * 2)) [none, none] (v_w192.map eS_tlb_Cpu)) [.srf 1, .d (.v noB), .d (.v noB)], .cu (bagC nct_S_tlb_Cpu (qpre nq_S_tlb_Cpu (((v_x191).toNat) * 2)) (v_w192.map eS_tlb_Cpu)) []]⟩
def G_tlb_copied_h_L1 (n : Nat) (v_r169 : ((List S_tlb_Cpu))) : Nat → Int → (List S_tlb_Cpu) → Option G_tlb_copied_h_L1_R
  | 0, _, _ => none
  | k + 1, v_x191, v_w192 =>
    if v_x191 < (v_r169.length : Int) then
     if 0 ≤ v_x191 ∧ (v_x191).toNat < v_w192.length then
      (v_w192[(v_x191).toNat]?).bind fun (v_y194 : S_tlb_Cpu) =>
      (G_slices_Clone_tlb_Line_tlb_Line n v_y194.fLines).bind fun (v_r195 : ((List S_tlb_Line))) =>
      if 0 ≤ v_x191 ∧ (v_x191).toNat < v_w192.length then
       (v_w192[(v_x191).toNat]?).bind fun (v_y196 : S_tlb_Cpu) =>
       (G_slices_Clone_tlb_Order_tlb_Order n v_y196.fOrders).bind fun (v_r197 : ((List S_tlb_Order))) =>
       if 0 ≤ v_x191 ∧ (v_x191).toNat < v_w192.length then
        if (v_x191).toNat < v_w192.length then
         if 0 ≤ v_x191 ∧ (v_x191).toNat < v_w192.length then
          if (v_x191).toNat < v_w192.length then
           (v_w192[(v_x191).toNat]?).bind fun (v_y198 : S_tlb_Cpu) =>
           if ((wi .i64 (v_x191 + 1))).toNat = (v_x191).toNat + 1 then
            G_tlb_copied_h_L1 n v_r169 k (wi .i64 (v_x191 + 1)) ((v_w192.set ((v_x191).toNat) (S_tlb_Cpu.mk v_r195 v_y198.fOrders)).set ((v_x191).toNat) (S_tlb_Cpu.mk ((S_tlb_Cpu.mk v_r195 v_y198.fOrders).fLines) v_r197))
           else none
          else none
         else none
        else none
       else none
      else none
     else none
    else
     if v_w192.length ≤ (v_x191).toNat then
      some (.x0 v_w192)
     else none
theorem G_tlb_copied_h_L1_ok {Fi : Ex → PS → Prop} (hF : KC 34 Fi) (ks : List Fr) (n : Nat) (v_r169 : ((List S_tlb_Cpu)))  : ∀ (k : Nat) (v_x191 : Int) (v_w192 : (List S_tlb_Cpu)) (o : G_tlb_copied_h_L1_R), G_tlb_copied_h_L1 n v_r169 k v_x191 v_w192 = some o → RunE Try.prog 34 Fi ks (G_tlb_copied_h_L1_ex o) (G_tlb_copied_h_L1_st v_r169 o) → RunE Try.prog 34 Fi (.l k (cP (cB (cR (cL (cR (cR (bodyOf Try.f66))))))) :: ks) .normal (G_tlb_copied_h_L1_hd v_r169 v_x191 v_w192)
  | 0, v_x191, v_w192, o, h, q => by rw [G_tlb_copied_h_L1] at h; cases h
  | k + 1, v_x191, v_w192, o, h, q => by
    rw [G_tlb_copied_h_L1] at h
    by_cases h104 : v_x191 < (v_r169.length : Int)
    · rw [if_pos h104] at h
      by_cases h105 : 0 ≤ v_x191 ∧ (v_x191).toNat < v_w192.length
      · rw [if_pos h105] at h
        obtain ⟨v_y194, h106, h⟩ := bind_some h
        obtain ⟨v_r195, h107, h⟩ := bind_some h
        by_cases h108 : 0 ≤ v_x191 ∧ (v_x191).toNat < v_w192.length
        · rw [if_pos h108] at h
          obtain ⟨v_y196, h109, h⟩ := bind_some h
          obtain ⟨v_r197, h110, h⟩ := bind_some h
          by_cases h111 : 0 ≤ v_x191 ∧ (v_x191).toNat < v_w192.length
          · rw [if_pos h111] at h
            by_cases h112 : (v_x191).toNat < v_w192.length
            · rw [if_pos h112] at h
              by_cases h113 : 0 ≤ v_x191 ∧ (v_x191).toNat < v_w192.length
              · rw [if_pos h113] at h
                by_cases h114 : (v_x191).toNat < v_w192.length
                · rw [if_pos h114] at h
                  obtain ⟨v_y198, h115, h⟩ := bind_some h
                  by_cases h116 : ((wi .i64 (v_x191 + 1))).toNat = (v_x191).toNat + 1
                  · rw [if_pos h116] at h
                    exact pkk_sound TTok mix hF 16 (hs := [.t true, .e 47 [0] (.ept 0 2 ((v_x191).toNat) 0) [], .e 57 [0] (.d (.sl (v_y194.fLines.map eS_tlb_Line))) [], .h [] [] [.row 69 3 (v_r195.map eS_tlb_Line)] (.srf 0), .e 77 [0] (.ept 0 2 ((v_x191).toNat) 0) [], .e 87 [0] (.d (.sl (v_y196.fOrders.map eS_tlb_Order))) [], .h [] [] [.row 50 2 (v_r197.map eS_tlb_Order)] (.srf 0), .e 97 [0] (.ept 0 2 ((v_x191).toNat) 0) [], .e 107 [0] (dd) [(0, .cu (outC 66 2 (qpre nq_S_tlb_Cpu (((v_x191).toNat) * 2)) [some (((v_x191).toNat) * 2 + 0), none] (v_w192.map eS_tlb_Cpu)) [.srf 1, .srf 62, .d (.v noB)])], .e 112 [0] (.ept 0 2 ((v_x191).toNat) 0) [], .e 122 [0] (dd) [(0, .cu (outC 66 2 (qpre nq_S_tlb_Cpu (((v_x191).toNat) * 2)) [some (((v_x191).toNat) * 2 + 0), some (((v_x191).toNat) * 2 + 1)] (v_w192.map eS_tlb_Cpu)) [.srf 1, .srf 62, .srf 92])], .dl 2, .sx [0, 1, 62] (nClose 0 1 62 66 2 nct_S_tlb_Cpu (plus (qpre nq_S_tlb_Cpu (((v_x191).toNat) * 2)) (((v_x191).toNat) * 2 + 0)) [none, some (((v_x191).toNat) * 2 + 1)] ((v_w192.set ((v_x191).toNat) (S_tlb_Cpu.mk v_r195 v_y198.fOrders)).map eS_tlb_Cpu) [.srf 1, .srf 62, .srf 92] 0), .sx [0, 137, 92] (nClose 0 137 92 66 2 nct_S_tlb_Cpu (plus (plus (qpre nq_S_tlb_Cpu (((v_x191).toNat) * 2)) (((v_x191).toNat) * 2 + 0)) (((v_x191).toNat) * 2 + 1)) [none, none] (((v_w192.set ((v_x191).toNat) (S_tlb_Cpu.mk v_r195 v_y198.fOrders)).set ((v_x191).toNat) (S_tlb_Cpu.mk ((S_tlb_Cpu.mk v_r195 v_y198.fOrders).fLines) v_r197)).map eS_tlb_Cpu) [.srf 137, .d (.v noB), .srf 92] 1), .sx [0, 138] (nSame 0 138 66 2 nct_S_tlb_Cpu (qpre nq_S_tlb_Cpu ((((wi .i64 (v_x191 + 1))).toNat) * 2)) [none, none] (((v_w192.set ((v_x191).toNat) (S_tlb_Cpu.mk v_r195 v_y198.fOrders)).set ((v_x191).toNat) (S_tlb_Cpu.mk ((S_tlb_Cpu.mk v_r195 v_y198.fOrders).fLines) v_r197)).map eS_tlb_Cpu) [.srf 138, .d (.v noB), .d (.v noB)])]) (ts := []) (s := [0, 138]) (l := [3, 8, 9]) (by kernel_rfl) (by kernel_rfl) (.cons (dt h104) (.cons (nidx (P := Try.prog) (T := TT) (t := 47) (l := 0) (ty := 66) (sz := 2) (q := (qpre nq_S_tlb_Cpu (((v_x191).toNat) * 2))) (hs := [none, none]) (xs := (v_w192.map eS_tlb_Cpu)) (fs := [.srf 1, .d (.v noB), .d (.v noB)]) (x := (.tmp 16)) (i := (.tmp 17)) (ik := .i64) (j := v_x191) (by kernel_rfl) h105.1 (by rw [List.length_map]; exact h105.2)) (.cons (nload (P := Try.prog) (T := TT) (t := 63) (l := 0) (ty := 66) (sz := 2) (i := (v_x191).toNat) (off := 0) (q := (qpre nq_S_tlb_Cpu (((v_x191).toNat) * 2))) (hs := [none, none]) (xs := (v_w192.map eS_tlb_Cpu)) (fs := [.srf 1, .d (.v noB), .d (.v noB)]) (x := (.tmp 19)) (y := (eS_tlb_Cpu v_y194)) (p := (.sl (v_y194.fLines.map eS_tlb_Line))) (by kernel_rfl) (all_fits (fun _ => rfl)) (get_ob (f := eS_tlb_Cpu) h106) rfl (by rw [Bool.eq_false_iff, ne_eq]; simp only [nq_S_tlb_Cpu, minus, plus, qpre, Bool.and_eq_true, Bool.or_eq_true, Bool.not_eq_true', decide_eq_true_eq, decide_eq_false_iff_not, and_true, and_false, true_and, false_and, or_true, or_false, true_or, false_or, not_true_eq_false, not_false_eq_true] <;> omega) (by intro j h; rcases j with _ | _ | j <;> simp at h <;> omega)) (.cons (G_slices_Clone_tlb_Line_tlb_Line_ok n v_y194.fLines _ h107) (.cons (nidx (P := Try.prog) (T := TT) (t := 47) (l := 0) (ty := 66) (sz := 2) (q := (qpre nq_S_tlb_Cpu (((v_x191).toNat) * 2))) (hs := [none, none]) (xs := (v_w192.map eS_tlb_Cpu)) (fs := [.srf 1, .d (.v noB), .d (.v noB)]) (x := (.tmp 22)) (i := (.tmp 23)) (ik := .i64) (j := v_x191) (by kernel_rfl) h108.1 (by rw [List.length_map]; exact h108.2)) (.cons (nload (P := Try.prog) (T := TT) (t := 64) (l := 0) (ty := 66) (sz := 2) (i := (v_x191).toNat) (off := 1) (q := (qpre nq_S_tlb_Cpu (((v_x191).toNat) * 2))) (hs := [none, none]) (xs := (v_w192.map eS_tlb_Cpu)) (fs := [.srf 1, .d (.v noB), .d (.v noB)]) (x := (.tmp 25)) (y := (eS_tlb_Cpu v_y196)) (p := (.sl (v_y196.fOrders.map eS_tlb_Order))) (by kernel_rfl) (all_fits (fun _ => rfl)) (get_ob (f := eS_tlb_Cpu) h109) rfl (by rw [Bool.eq_false_iff, ne_eq]; simp only [nq_S_tlb_Cpu, minus, plus, qpre, Bool.and_eq_true, Bool.or_eq_true, Bool.not_eq_true', decide_eq_true_eq, decide_eq_false_iff_not, and_true, and_false, true_and, false_and, or_true, or_false, true_or, false_or, not_true_eq_false, not_false_eq_true] <;> omega) (by intro j h; rcases j with _ | _ | j <;> simp at h <;> omega)) (.cons (G_slices_Clone_tlb_Order_tlb_Order_ok n v_y196.fOrders _ h110) (.cons (nidx (P := Try.prog) (T := TT) (t := 47) (l := 0) (ty := 66) (sz := 2) (q := (qpre nq_S_tlb_Cpu (((v_x191).toNat) * 2))) (hs := [none, none]) (xs := (v_w192.map eS_tlb_Cpu)) (fs := [.srf 1, .d (.v noB), .d (.v noB)]) (x := (.tmp 12)) (i := (.tmp 13)) (ik := .i64) (j := v_x191) (by kernel_rfl) h111.1 (by rw [List.length_map]; exact h111.2)) (.cons (nput (P := Try.prog) (T := TT) (t := 63) (l := 0) (L := 62) (ty := 66) (sz := 2) (i := (v_x191).toNat) (off := 0) (j := 0) (q := (qpre nq_S_tlb_Cpu (((v_x191).toNat) * 2))) (hs := [none, none]) (xs := (v_w192.map eS_tlb_Cpu)) (fs := [.srf 1, .d (.v noB), .d (.v noB)]) (x := (.tmp 29)) (z := (.tmp 21)) (by kernel_rfl) (by rw [List.length_map]; exact h112) (by decide) (all_fits (fun _ => rfl)) (by rw [Bool.eq_false_iff, ne_eq]; simp only [nq_S_tlb_Cpu, minus, plus, qpre, Bool.and_eq_true, Bool.or_eq_true, Bool.not_eq_true', decide_eq_true_eq, decide_eq_false_iff_not, and_true, and_false, true_and, false_and, or_true, or_false, true_or, false_or, not_true_eq_false, not_false_eq_true] <;> omega) (.inl rfl) (by intro j' hj' h; rcases j' with _ | _ | j' <;> simp at h hj' <;> omega) ⟨_, rfl⟩ (by decide)) (.cons (nidx (P := Try.prog) (T := TT) (t := 47) (l := 0) (ty := 66) (sz := 2) (q := (qpre nq_S_tlb_Cpu (((v_x191).toNat) * 2))) (hs := [some (((v_x191).toNat) * 2 + 0), none]) (xs := (v_w192.map eS_tlb_Cpu)) (fs := [.srf 1, .srf 62, .d (.v noB)]) (x := (.tmp 14)) (i := (.tmp 15)) (ik := .i64) (j := v_x191) (by kernel_rfl) h113.1 (by rw [List.length_map]; exact h113.2)) (.cons (nput (P := Try.prog) (T := TT) (t := 64) (l := 0) (L := 92) (ty := 66) (sz := 2) (i := (v_x191).toNat) (off := 1) (j := 1) (q := (qpre nq_S_tlb_Cpu (((v_x191).toNat) * 2))) (hs := [some (((v_x191).toNat) * 2 + 0), none]) (xs := (v_w192.map eS_tlb_Cpu)) (fs := [.srf 1, .srf 62, .d (.v noB)]) (x := (.tmp 31)) (z := (.tmp 27)) (by kernel_rfl) (by rw [List.length_map]; exact h114) (by decide) (all_fits (fun _ => rfl)) (by rw [Bool.eq_false_iff, ne_eq]; simp only [nq_S_tlb_Cpu, minus, plus, qpre, Bool.and_eq_true, Bool.or_eq_true, Bool.not_eq_true', decide_eq_true_eq, decide_eq_false_iff_not, and_true, and_false, true_and, false_and, or_true, or_false, true_or, false_or, not_true_eq_false, not_false_eq_true] <;> omega) (.inl rfl) (by intro j' hj' h; rcases j' with _ | _ | j' <;> simp at h hj' <;> omega) ⟨_, rfl⟩ (by decide)) (.cons (nclose' (l := 0) (B := 1) (L := 62) (ty := 66) (sz := 2) (i := (v_x191).toNat) (off := 0) (j := 0) (e := 69) (s := 3) (ct := nct_S_tlb_Cpu) (q := (qpre nq_S_tlb_Cpu (((v_x191).toNat) * 2))) (q' := (plus (qpre nq_S_tlb_Cpu (((v_x191).toNat) * 2)) (((v_x191).toNat) * 2 + 0))) (hs := [some (((v_x191).toNat) * 2 + 0), some (((v_x191).toNat) * 2 + 1)]) (xs := (v_w192.map eS_tlb_Cpu)) (ys := (v_r195.map eS_tlb_Line)) (fs := [.srf 1, .srf 62, .srf 92]) (y := (eS_tlb_Cpu v_y198)) (y' := (.agg [.sl (v_r195.map eS_tlb_Line), .sl (v_y198.fOrders.map eS_tlb_Order)])) (set_ob (f := eS_tlb_Cpu) (l := v_w192) (k := (v_x191).toNat) (z := (S_tlb_Cpu.mk v_r195 v_y198.fOrders)) (p := .agg [.sl (v_r195.map eS_tlb_Line), .sl (v_y198.fOrders.map eS_tlb_Order)]) rfl) (by decide) (by decide) (by decide) (all_fits (fun _ => rfl)) (get_ob (f := eS_tlb_Cpu) h115) (by decide) rfl rfl (by rw [Bool.eq_false_iff, ne_eq]; simp only [nq_S_tlb_Cpu, minus, plus, qpre, Bool.and_eq_true, Bool.or_eq_true, Bool.not_eq_true', decide_eq_true_eq, decide_eq_false_iff_not, and_true, and_false, true_and, false_and, or_true, or_false, true_or, false_or, not_true_eq_false, not_false_eq_true] <;> omega) rfl (by intro j' hj' h; rcases j' with _ | _ | j' <;> simp at h hj' <;> omega) rfl rfl (by unfold nct_S_tlb_Cpu; rw [if_pos (by omega)]) (by intro k hk; rw [Bool.eq_iff_iff]; simp only [nq_S_tlb_Cpu, minus, plus, qpre, Bool.and_eq_true, Bool.or_eq_true, Bool.not_eq_true', decide_eq_true_eq, decide_eq_false_iff_not, and_true, and_false, true_and, false_and, or_true, or_false, true_or, false_or, not_true_eq_false, not_false_eq_true] <;> omega)) (.cons (nclose' (l := 0) (B := 137) (L := 92) (ty := 66) (sz := 2) (i := (v_x191).toNat) (off := 1) (j := 1) (e := 50) (s := 2) (ct := nct_S_tlb_Cpu) (q := (plus (qpre nq_S_tlb_Cpu (((v_x191).toNat) * 2)) (((v_x191).toNat) * 2 + 0))) (q' := (plus (plus (qpre nq_S_tlb_Cpu (((v_x191).toNat) * 2)) (((v_x191).toNat) * 2 + 0)) (((v_x191).toNat) * 2 + 1))) (hs := [none, some (((v_x191).toNat) * 2 + 1)]) (xs := ((v_w192.set ((v_x191).toNat) (S_tlb_Cpu.mk v_r195 v_y198.fOrders)).map eS_tlb_Cpu)) (ys := (v_r197.map eS_tlb_Order)) (fs := [.srf 137, .d (.v noB), .srf 92]) (y := (eS_tlb_Cpu (S_tlb_Cpu.mk v_r195 v_y198.fOrders))) (y' := (.agg [.sl (((S_tlb_Cpu.mk v_r195 v_y198.fOrders).fLines).map eS_tlb_Line), .sl (v_r197.map eS_tlb_Order)])) (set_ob (f := eS_tlb_Cpu) (l := (v_w192.set ((v_x191).toNat) (S_tlb_Cpu.mk v_r195 v_y198.fOrders))) (k := (v_x191).toNat) (z := (S_tlb_Cpu.mk ((S_tlb_Cpu.mk v_r195 v_y198.fOrders).fLines) v_r197)) (p := .agg [.sl (((S_tlb_Cpu.mk v_r195 v_y198.fOrders).fLines).map eS_tlb_Line), .sl (v_r197.map eS_tlb_Order)]) rfl) (by decide) (by decide) (by decide) (all_fits (fun _ => rfl)) (get_ob (f := eS_tlb_Cpu) (get_set h115)) (by decide) rfl rfl (by rw [Bool.eq_false_iff, ne_eq]; simp only [nq_S_tlb_Cpu, minus, plus, qpre, Bool.and_eq_true, Bool.or_eq_true, Bool.not_eq_true', decide_eq_true_eq, decide_eq_false_iff_not, and_true, and_false, true_and, false_and, or_true, or_false, true_or, false_or, not_true_eq_false, not_false_eq_true] <;> omega) rfl (by intro j' hj' h; rcases j' with _ | _ | j' <;> simp at h hj' <;> omega) rfl rfl (by unfold nct_S_tlb_Cpu; rw [if_neg (by omega)]) (by intro k hk; rw [Bool.eq_iff_iff]; simp only [nq_S_tlb_Cpu, minus, plus, qpre, Bool.and_eq_true, Bool.or_eq_true, Bool.not_eq_true', decide_eq_true_eq, decide_eq_false_iff_not, and_true, and_false, true_and, false_and, or_true, or_false, true_or, false_or, not_true_eq_false, not_false_eq_true] <;> omega)) (.cons (nsame (l := 0) (B := 138) (ty := 66) (sz := 2) (ct := nct_S_tlb_Cpu) (q := (plus (plus (qpre nq_S_tlb_Cpu (((v_x191).toNat) * 2)) (((v_x191).toNat) * 2 + 0)) (((v_x191).toNat) * 2 + 1))) (q' := (qpre nq_S_tlb_Cpu ((((wi .i64 (v_x191 + 1))).toNat) * 2))) (hs := [none, none]) (xs := (((v_w192.set ((v_x191).toNat) (S_tlb_Cpu.mk v_r195 v_y198.fOrders)).set ((v_x191).toNat) (S_tlb_Cpu.mk ((S_tlb_Cpu.mk v_r195 v_y198.fOrders).fLines) v_r197)).map eS_tlb_Cpu)) (fs := [.srf 138, .d (.v noB), .d (.v noB)]) (by decide) (all_fits (fun _ => rfl)) (by intro k hk; have hg := h116; rw [Bool.eq_iff_iff]; simp only [nq_S_tlb_Cpu, minus, plus, qpre, Bool.and_eq_true, Bool.or_eq_true, Bool.not_eq_true', decide_eq_true_eq, decide_eq_false_iff_not, and_true, and_false, true_and, false_and, or_true, or_false, true_or, false_or, not_true_eq_false, not_false_eq_true] <;> omega)) .nil)))))))))))))) (G_tlb_copied_h_L1_ok hF ks n v_r169 k (wi .i64 (v_x191 + 1)) ((v_w192.set ((v_x191).toNat) (S_tlb_Cpu.mk v_r195 v_y198.fOrders)).set ((v_x191).toNat) (S_tlb_Cpu.mk ((S_tlb_Cpu.mk v_r195 v_y198.fOrders).fLines) v_r197)) _ h q)
                  · rw [if_neg h116] at h; cases h
                · rw [if_neg h114] at h; cases h
              · rw [if_neg h113] at h; cases h
            · rw [if_neg h112] at h; cases h
          · rw [if_neg h111] at h; cases h
        · rw [if_neg h108] at h; cases h
      · rw [if_neg h105] at h; cases h
    · rw [if_neg h104] at h
      by_cases h117 : v_w192.length ≤ (v_x191).toNat
      · rw [if_pos h117] at h
        cases h
        exact pkk_sound TTok mix hF 9 (hs := [.t false, .dl 3, .sx [0, 1] (nSame 0 1 66 2 nct_S_tlb_Cpu nq_S_tlb_Cpu [none, none] (v_w192.map eS_tlb_Cpu) [.srf 1, .d (.v noB), .d (.v noB)])]) (ts := []) (s := [0, 1]) (l := [3]) (by kernel_rfl) (by kernel_rfl) (.cons (df h104) (.cons (nsame (l := 0) (B := 1) (ty := 66) (sz := 2) (ct := nct_S_tlb_Cpu) (q := (qpre nq_S_tlb_Cpu (((v_x191).toNat) * 2))) (q' := nq_S_tlb_Cpu) (hs := [none, none]) (xs := (v_w192.map eS_tlb_Cpu)) (fs := [.srf 1, .d (.v noB), .d (.v noB)]) (by decide) (all_fits (fun _ => rfl)) (by intro k hk; rw [List.length_map] at hk; have hg := h117; rw [Bool.eq_iff_iff]; simp only [nq_S_tlb_Cpu, minus, plus, qpre, Bool.and_eq_true, Bool.or_eq_true, Bool.not_eq_true', decide_eq_true_eq, decide_eq_false_iff_not, and_true, and_false, true_and, false_and, or_true, or_false, true_or, false_or, not_true_eq_false, not_false_eq_true] <;> omega)) .nil)) q
      · rw [if_neg h117] at h; cases h
/- ringhall/tlb.copied -/
def G_tlb_copied_h (n : Nat) (v_l161 : (List S_tlb_Cpu)) : Option ((List S_tlb_Cpu)) :=
  (G_slices_Clone_tlb_Cpu_tlb_Cpu n v_l161).bind fun (v_r169 : ((List S_tlb_Cpu))) =>
  (G_tlb_copied_h_L1 n v_r169 n 0 v_r169).bind fun v_o200 => match v_o200 with
  | .x0 v_z201 =>
    some v_z201
theorem G_tlb_copied_h_ok (n : Nat) (v_l161 : (List S_tlb_Cpu)) (r : (List S_tlb_Cpu)) (h : G_tlb_copied_h n v_l161 = some r) : RetH Try.prog 66 [.d ((eL eS_tlb_Cpu) v_l161)] [] (.srf 0) [.cu (outC 66 2 nq_S_tlb_Cpu [none, none] (r.map eS_tlb_Cpu)) [.srf 1, .d (.v noB), .d (.v noB)], .cu (bagC nct_S_tlb_Cpu nq_S_tlb_Cpu (r.map eS_tlb_Cpu)) []] := by
  refine retH_run (n := 34) (fn := Try.f66) (c := bodyOf Try.f66) (by kernel_rfl) (by kernel_rfl) (by kernel_rfl) (by kernel_rfl) ?_
  have hF : KC 34 (FinH Try.prog Try.f66 [] (.srf 0) [.cu (outC 66 2 nq_S_tlb_Cpu [none, none] (r.map eS_tlb_Cpu)) [.srf 1, .d (.v noB), .d (.v noB)], .cu (bagC nct_S_tlb_Cpu nq_S_tlb_Cpu (r.map eS_tlb_Cpu)) []]) := FinH.kc' (by kernel_rfl)
  unfold G_tlb_copied_h at h
  obtain ⟨v_r169, h86, h⟩ := bind_some h
  obtain ⟨v_o200, h118, h⟩ := bind_some h
  refine pkk_sound TTok mix hF 10 (hs := [.h [] [] [.row 66 2 (v_r169.map eS_tlb_Cpu)] (.srf 0), .u (.d (.v (.int .i64 (v_r169.length : Int)))), .dl 1, .sx [10] (nThaw 10 66 2 nct_S_tlb_Cpu (qpre nq_S_tlb_Cpu (0 * 2)) [none, none] (v_r169.map eS_tlb_Cpu)), .n n]) (ts := []) (s := [10, 35]) (l := [3, 8, 9]) (by kernel_rfl) (by kernel_rfl) (.cons (G_slices_Clone_tlb_Cpu_tlb_Cpu_ok n v_l161 _ h86) (.cons (len_ob (f := eS_tlb_Cpu) (l := v_r169)) (.cons (nthaw (l := 10) (ty := 66) (sz := 2) (ct := nct_S_tlb_Cpu) (q := (qpre nq_S_tlb_Cpu (0 * 2))) (hs := [none, none]) (xs := (v_r169.map eS_tlb_Cpu)) (all_fits (fun _ => rfl)) (by intro j k h; rcases j with _ | _ | j <;> simp at h) (by intro k hk; rw [Bool.eq_false_iff, ne_eq]; simp only [nq_S_tlb_Cpu, minus, plus, qpre, Bool.and_eq_true, Bool.or_eq_true, Bool.not_eq_true', decide_eq_true_eq, decide_eq_false_iff_not, and_true, and_false, true_and, false_and, or_true, or_false, true_or, false_or, not_true_eq_false, not_false_eq_true] <;> omega)) .nil))) (G_tlb_copied_h_L1_ok hF (.b 0 :: .s (cR (cR (cR (bodyOf Try.f66)))) :: []) n v_r169 n 0 v_r169 _ h118 ?_)
  cases v_o200 with
  | x0 v_z201 =>
    try dsimp only at h
    obtain rfl := Option.some.inj h
    exact pendH_sound TTok mix 4 (hs := []) [0, 1] (by kernel_rfl) (by kernel_rfl) (by kernel_rfl) .nil
/- ringhall/tlb.Fill$1 -/
def G_tlb_Fill_1 (n : Nat) (v_x206 : S_tlb_Line) (v_c207 : Int) (v_c208 : Int) : Option (Bool) :=
  if v_x206.fSpace = v_c207 then
   some (v_x206.fPage == v_c208)
  else
   some false
theorem G_tlb_Fill_1_ok (n : Nat) (v_x206 : S_tlb_Line) (v_c207 : Int) (v_c208 : Int) (r : Bool) (h : G_tlb_Fill_1 n v_x206 v_c207 v_c208 = some r) : Ret Try.prog 68 [eS_tlb_Line v_x206, .iptr [.v (.int .i64 v_c207)] 0, .iptr [.v (.int .i64 v_c208)] 0] (eB r) := by
  refine ret_run (n := 15) (fn := Try.f68) (c := bodyOf Try.f68) (by kernel_rfl) (by kernel_rfl) (by kernel_rfl) (by kernel_rfl) ?_
  have hF : KC 15 (FinR Try.prog Try.f68 (eB r)) := FinR.kc' (by kernel_rfl)
  unfold G_tlb_Fill_1 at h
  by_cases h127 : v_x206.fSpace = v_c207
  · rw [if_pos h127] at h
    obtain rfl := Option.some.inj h
    exact pend_sound TTok mix 5 (hs := [.c, .c, .t true, .c, .c, .c, .c, .c]) (by kernel_rfl) (by kernel_rfl) (by kernel_rfl) (.cons (bt h127) .nil)
  · rw [if_neg h127] at h
    obtain rfl := Option.some.inj h
    exact pend_sound TTok mix 5 (hs := [.c, .c, .t false, .c, .c, .c]) (by kernel_rfl) (by kernel_rfl) (by kernel_rfl) (.cons (bf h127) .nil)
inductive G_slices_DeleteFunc_tlb_Line_tlb_Line_h_L1_R where
  | x0 (v_i224 : Int) (v_w225 : (List S_tlb_Line))
def G_slices_DeleteFunc_tlb_Line_tlb_Line_h_L1_ex : G_slices_DeleteFunc_tlb_Line_tlb_Line_h_L1_R → Ex
  | .x0 _ _ => .exit 0
def G_slices_DeleteFunc_tlb_Line_tlb_Line_h_L1_st (v_del210 : (S_tlb_Line → Option (Bool))) (v_del210_g : FuncId) (v_del210_c : (List PV)) : G_slices_DeleteFunc_tlb_Line_tlb_Line_h_L1_R → PS
  | .x0 v_i224 v_w225 => ⟨[.srf 1, dd, dd, dd, dd, .d (.v (.int .i64 v_i224)), dd, dd, dd, dd, dd, dd, dd, dd, dd, dd, dd, dd, dd, dd, dd, dd, dd, dd, dd, dd, dd, dd, dd, dd, dd, dd, dd, dd, dd, dd, dd, dd, dd, dd, dd, dd], [.gh 0 (.srf 1), .row 69 3 (v_w225.map eS_tlb_Line)]⟩
def G_slices_DeleteFunc_tlb_Line_tlb_Line_h_L1_hd (v_del210 : (S_tlb_Line → Option (Bool))) (v_del210_g : FuncId) (v_del210_c : (List PV)) (v_i212 : Int) (v_j213 : Int) (v_w214 : (List S_tlb_Line)) : PS := ⟨[.srf 1, .d (.clo v_del210_g v_del210_c), dd, dd, dd, .d (.v (.int .i64 v_i212)), .d (.v (.int .i64 v_j213)), dd, dd, dd, dd, dd, dd, dd, dd, dd, dd, dd, dd, dd, dd, dd, dd, dd, dd, dd, dd, dd, dd, dd, dd, dd, dd, dd, dd, dd, dd, dd, dd, dd, dd, dd], [.gh 0 (.srf 1), .row 69 3 (v_w214.map eS_tlb_Line)]⟩
def G_slices_DeleteFunc_tlb_Line_tlb_Line_h_L1 (n : Nat) (v_del210 : (S_tlb_Line → Option (Bool))) : Nat → Int → Int → (List S_tlb_Line) → Option G_slices_DeleteFunc_tlb_Line_tlb_Line_h_L1_R
  | 0, _, _, _ => none
  | k + 1, v_i212, v_j213, v_w214 =>
    if v_j213 < (v_w214.length : Int) then
     if 0 ≤ v_j213 ∧ (v_j213).toNat < v_w214.length then
      (v_w214[(v_j213).toNat]?).bind fun (v_y220 : S_tlb_Line) =>
      (v_del210 v_y220).bind fun (v_r221 : (Bool)) =>
      if v_r221 = true then
       G_slices_DeleteFunc_tlb_Line_tlb_Line_h_L1 n v_del210 k v_i212 (wi .i64 (v_j213 + 1)) v_w214
      else
       if 0 ≤ v_i212 ∧ (v_i212).toNat < v_w214.length then
        (v_w214[(v_i212).toNat]?).bind fun (v_y223 : S_tlb_Line) =>
        G_slices_DeleteFunc_tlb_Line_tlb_Line_h_L1 n v_del210 k (wi .i64 (v_i212 + 1)) (wi .i64 (v_j213 + 1)) (v_w214.set (v_i212).toNat v_y220)
       else none
     else none
    else
     some (.x0 v_i212 v_w214)
theorem G_slices_DeleteFunc_tlb_Line_tlb_Line_h_L1_ok {Fi : Ex → PS → Prop} (hF : KC 42 Fi) (ks : List Fr) (n : Nat) (v_del210 : (S_tlb_Line → Option (Bool))) (v_del210_g : FuncId) (v_del210_c : (List PV)) (v_del210_h : ∀ (x0 : S_tlb_Line) (r : Bool), v_del210 x0 = some r → Ret Try.prog v_del210_g ([eS_tlb_Line x0] ++ v_del210_c) (eB r)) : ∀ (k : Nat) (v_i212 : Int) (v_j213 : Int) (v_w214 : (List S_tlb_Line)) (o : G_slices_DeleteFunc_tlb_Line_tlb_Line_h_L1_R), G_slices_DeleteFunc_tlb_Line_tlb_Line_h_L1 n v_del210 k v_i212 v_j213 v_w214 = some o → RunE Try.prog 42 Fi ks (G_slices_DeleteFunc_tlb_Line_tlb_Line_h_L1_ex o) (G_slices_DeleteFunc_tlb_Line_tlb_Line_h_L1_st v_del210 v_del210_g v_del210_c o) → RunE Try.prog 42 Fi (.l k (cP (cB (cR (cL (cR (cR (cR (bodyOf Try.f67)))))))) :: ks) .normal (G_slices_DeleteFunc_tlb_Line_tlb_Line_h_L1_hd v_del210 v_del210_g v_del210_c v_i212 v_j213 v_w214)
  | 0, v_i212, v_j213, v_w214, o, h, q => by rw [G_slices_DeleteFunc_tlb_Line_tlb_Line_h_L1] at h; cases h
  | k + 1, v_i212, v_j213, v_w214, o, h, q => by
    rw [G_slices_DeleteFunc_tlb_Line_tlb_Line_h_L1] at h
    by_cases h130 : v_j213 < (v_w214.length : Int)
    · rw [if_pos h130] at h
      by_cases h140 : 0 ≤ v_j213 ∧ (v_j213).toNat < v_w214.length
      · rw [if_pos h140] at h
        obtain ⟨v_y220, h141, h⟩ := bind_some h
        obtain ⟨v_r221, h142, h⟩ := bind_some h
        by_cases h146 : v_r221 = true
        · rw [if_pos h146] at h
          exact pkk_sound TTok mix hF 16 (hs := [.u (.d (.v (.int .i64 (v_w214.length : Int)))), .t true, .y (eS_tlb_Line v_y220), .c, .c, .r (eB v_r221), .t false]) (ts := []) (s := [0, 1]) (l := [0, 1, 5, 6]) (by kernel_rfl) (by kernel_rfl) (.cons (len_ob (f := eS_tlb_Line) (l := v_w214)) (.cons (dt h130) (.cons (idx_ob (f := eS_tlb_Line) h140) (.cons (get_ob (f := eS_tlb_Line) h141) (.cons (show 0 + 3 ≤ 3 by decide) (.cons (v_del210_h v_y220 _ h142) (.cons (bnf h146) .nil))))))) (G_slices_DeleteFunc_tlb_Line_tlb_Line_h_L1_ok hF ks n v_del210 v_del210_g v_del210_c v_del210_h k v_i212 (wi .i64 (v_j213 + 1)) v_w214 _ h q)
        · rw [if_neg h146] at h
          by_cases h147 : 0 ≤ v_i212 ∧ (v_i212).toNat < v_w214.length
          · rw [if_pos h147] at h
            obtain ⟨v_y223, h148, h⟩ := bind_some h
            exact pkk_sound TTok mix hF 18 (hs := [.u (.d (.v (.int .i64 (v_w214.length : Int)))), .t true, .y (eS_tlb_Line v_y220), .c, .c, .r (eB v_r221), .t true, .c, .w ((v_w214.set (v_i212).toNat v_y220).map eS_tlb_Line), .y (eS_tlb_Line v_y223)]) (ts := []) (s := [0, 1]) (l := [0, 1, 5, 6]) (by kernel_rfl) (by kernel_rfl) (.cons (len_ob (f := eS_tlb_Line) (l := v_w214)) (.cons (dt h130) (.cons (idx_ob (f := eS_tlb_Line) h140) (.cons (get_ob (f := eS_tlb_Line) h141) (.cons (show 0 + 3 ≤ 3 by decide) (.cons (v_del210_h v_y220 _ h142) (.cons (bnt (vf h146)) (.cons (idx_ob (f := eS_tlb_Line) h147) (.cons (get_ob (f := eS_tlb_Line) h148) (.cons (Eq.refl (pcells (.agg [.v (.int .i64 v_y220.fSpace), .v (.int .i64 v_y220.fPage), .v (.int .u32 v_y220.fWord)]))) (.cons (set_ob (f := eS_tlb_Line) (l := v_w214) (k := (v_i212).toNat) (z := v_y220) (p := .agg [.v (.int .i64 v_y220.fSpace), .v (.int .i64 v_y220.fPage), .v (.int .u32 v_y220.fWord)]) rfl) .nil))))))))))) (G_slices_DeleteFunc_tlb_Line_tlb_Line_h_L1_ok hF ks n v_del210 v_del210_g v_del210_c v_del210_h k (wi .i64 (v_i212 + 1)) (wi .i64 (v_j213 + 1)) (v_w214.set (v_i212).toNat v_y220) _ h q)
          · rw [if_neg h147] at h; cases h
      · rw [if_neg h140] at h; cases h
    · rw [if_neg h130] at h
      cases h
      exact pkk_sound TTok mix hF 8 (hs := [.u (.d (.v (.int .i64 (v_w214.length : Int)))), .t false]) (ts := []) (s := [0, 1]) (l := [0, 5]) (by kernel_rfl) (by kernel_rfl) (.cons (len_ob (f := eS_tlb_Line) (l := v_w214)) (.cons (df h130) .nil)) q
/- slices.DeleteFunc[[]ringhall/tlb.Line,ringhall/tlb.Line] -/
def G_slices_DeleteFunc_tlb_Line_tlb_Line_h (n : Nat) (v_s209 : (List S_tlb_Line)) (v_del210 : (S_tlb_Line → Option (Bool))) : Option ((List S_tlb_Line)) :=
  (G_slices_IndexFunc_tlb_Line_tlb_Line n v_s209 v_del210).bind fun (v_r211 : (Int)) =>
  if v_r211 = (-1) then
   some v_s209
  else
   (G_slices_DeleteFunc_tlb_Line_tlb_Line_h_L1 n v_del210 n v_r211 (wi .i64 (v_r211 + 1)) v_s209).bind fun v_o226 => match v_o226 with
   | .x0 v_z227 v_z228 =>
     if ((0 : Int) ≤ v_z227 ∧ v_z227 ≤ (v_z228.length : Int)) then
      if v_z227.toNat ≤ v_z228.length ∧ v_z228.length ≤ v_z228.length then
       (sub (clrR v_z228 v_z227.toNat v_z228.length (S_tlb_Line.mk 0 0 0)) 0 v_z227).bind fun (v_s229 : (List S_tlb_Line)) =>
       some v_s229
      else none
     else none
theorem G_slices_DeleteFunc_tlb_Line_tlb_Line_h_ok (n : Nat) (v_s209 : (List S_tlb_Line)) (v_del210 : (S_tlb_Line → Option (Bool))) (v_del210_g : FuncId) (v_del210_c : List PV) (v_del210_h : ∀ (x0 : S_tlb_Line) (r : Bool), v_del210 x0 = some r → Ret Try.prog v_del210_g ([eS_tlb_Line x0] ++ v_del210_c) (eB r)) (r : (List S_tlb_Line)) (h : G_slices_DeleteFunc_tlb_Line_tlb_Line_h n v_s209 v_del210 = some r) : RetH Try.prog 67 [.srf 0, .d ((.clo v_del210_g v_del210_c))] [.row 69 3 (v_s209.map eS_tlb_Line)] (.srf 1) [.none, .row 69 3 (r.map eS_tlb_Line)] := by
  refine retH_run (n := 42) (fn := Try.f67) (c := bodyOf Try.f67) (by kernel_rfl) (by kernel_rfl) (by kernel_rfl) (by kernel_rfl) ?_
  have hF : KC 42 (FinH Try.prog Try.f67 [.row 69 3 (v_s209.map eS_tlb_Line)] (.srf 1) [.none, .row 69 3 (r.map eS_tlb_Line)]) := FinH.kc' (by kernel_rfl)
  unfold G_slices_DeleteFunc_tlb_Line_tlb_Line_h at h
  obtain ⟨v_r211, h128, h⟩ := bind_some h
  by_cases h129 : v_r211 = (-1)
  · rw [if_pos h129] at h
    obtain rfl := Option.some.inj h
    exact pendH_sound TTok mix 13 (hs := [.c, .r ((eI .i64) v_r211), .t true, .dl 4, .mv 0]) [0, 47] (by kernel_rfl) (by kernel_rfl) (by kernel_rfl) (.cons (G_slices_IndexFunc_tlb_Line_tlb_Line_ok n v_s209 v_del210 v_del210_g v_del210_c v_del210_h _ h128) (.cons (bt h129) .nil))
  · rw [if_neg h129] at h
    obtain ⟨v_o226, h149, h⟩ := bind_some h
    refine pkk_sound TTok mix hF 14 (hs := [.c, .r ((eI .i64) v_r211), .t false, .n n]) (ts := []) (s := [1, 0]) (l := [0, 1, 5, 6]) (by kernel_rfl) (by kernel_rfl) (.cons (G_slices_IndexFunc_tlb_Line_tlb_Line_ok n v_s209 v_del210 v_del210_g v_del210_c v_del210_h _ h128) (.cons (bf h129) .nil)) (G_slices_DeleteFunc_tlb_Line_tlb_Line_h_L1_ok hF (.b 0 :: .s (cR (cR (cR (cR (bodyOf Try.f67))))) :: []) n v_del210 v_del210_g v_del210_c v_del210_h n v_r211 (wi .i64 (v_r211 + 1)) v_s209 _ h149 ?_)
    cases v_o226 with
    | x0 v_z227 v_z228 =>
      try dsimp only at h
      by_cases h150 : ((0 : Int) ≤ v_z227 ∧ v_z227 ≤ (v_z228.length : Int))
      · rw [if_pos h150] at h
        by_cases h151 : v_z227.toNat ≤ v_z228.length ∧ v_z228.length ≤ v_z228.length
        · rw [if_pos h151] at h
          obtain ⟨v_s229, h152, h⟩ := bind_some h
          obtain rfl := Option.some.inj h
          exact pendH_sound TTok mix 6 (hs := [.e 12 [1] (.ssl 1 v_z227.toNat v_z228.length 3) [], .e 17 [1] (dd) [(1, .row 69 3 ((clrR v_z228 v_z227.toNat v_z228.length (S_tlb_Line.mk 0 0 0)).map eS_tlb_Line))], .w (v_s229.map eS_tlb_Line)]) [1, 32] (by kernel_rfl) (by kernel_rfl) (by kernel_rfl) (.cons (xs10 (P := Try.prog) (T := TT) (f := eS_tlb_Line) (t := 63) (e := 69) (s := 3) (l := 1) (L := v_z228) (x := (.tmp 36)) (lo := (.tmp 37)) (a := v_z227) (ka := .i64) (by kernel_rfl) h150) (.cons (xclr (ti := ⟨3, 24, .st [(0, 3), (1, 3), (2, 48)], [.i .i64, .i .i64, .i .u32]⟩) (P := Try.prog) (T := TT) (f := eS_tlb_Line) (t := 63) (e := 69) (s := 3) (l := 1) (i := v_z227.toNat) (j := v_z228.length) (z := (S_tlb_Line.mk 0 0 0)) (L := v_z228) (x := (.tmp 38)) (p := .agg [.v (.int .i64 0), .v (.int .i64 0), .v (.int .u32 0)]) (by kernel_rfl) (by kernel_rfl) (by kernel_rfl) (by kernel_rfl) (by decide) rfl h151) (.cons (Eq.refl (0 : Int)) (.cons (subR_ob (f := eS_tlb_Line) h152).1 (.cons (subR_ob (f := eS_tlb_Line) h152).2.1 (.cons (subR_ob (f := eS_tlb_Line) h152).2.2 .nil))))))
        · rw [if_neg h151] at h; cases h
      · rw [if_neg h150] at h; cases h
/- ringhall/tlb.Fill -/
def G_tlb_Fill (n : Nat) (v_l19 : (List S_tlb_Cpu)) (v_cpu20 : Int) (v_space21 : Int) (v_page22 : Int) (v_word23 : Int) : Option ((List S_tlb_Cpu) × Int) :=
  (G_tlb_check n v_l19 v_cpu20).bind fun (v_r123 : (Int)) =>
  if v_r123 = 0 then
   (G_tlb_right n v_space21 v_page22).bind fun (v_r150 : (Bool)) =>
   if v_r150 = true then
    (G_tlb_copied_h n v_l19).bind fun (v_r202 : ((List S_tlb_Cpu))) =>
    if 0 ≤ v_cpu20 ∧ (v_cpu20).toNat < v_r202.length then
     (v_r202[(v_cpu20).toNat]?).bind fun (v_y205 : S_tlb_Cpu) =>
     (G_slices_DeleteFunc_tlb_Line_tlb_Line_h n v_y205.fLines (fun (y0 : S_tlb_Line) => G_tlb_Fill_1 n y0 v_space21 v_page22)).bind fun (v_r230 : ((List S_tlb_Line))) =>
     if (v_r230.length : Int) = 8 then
      if ((0 : Int) ≤ 1 ∧ 1 ≤ (v_r230.length : Int)) then
       if 1 < v_r230.length ∧ (v_r230.length + [(S_tlb_Line.mk v_space21 v_page22 v_word23)].length) ≤ maxLen ∧ (v_r230.length + [(S_tlb_Line.mk v_space21 v_page22 v_word23)].length) * 24 ≤ 140737488355328 then
        if 0 ≤ v_cpu20 ∧ (v_cpu20).toNat < v_r202.length then
         (v_r202[(v_cpu20).toNat]?).bind fun (v_y231 : S_tlb_Cpu) =>
         some ((v_r202.set ((v_cpu20).toNat) (S_tlb_Cpu.mk ((v_r230.drop 1) ++ [(S_tlb_Line.mk v_space21 v_page22 v_word23)]) v_y231.fOrders)), 0)
        else none
       else none
      else none
     else
      (app 24 v_r230 ([(S_tlb_Line.mk v_space21 v_page22 v_word23)])).bind fun (v_a232 : (List S_tlb_Line)) =>
      if 0 ≤ v_cpu20 ∧ (v_cpu20).toNat < v_r202.length then
       if (v_cpu20).toNat < v_r202.length then
        some ((v_r202.set ((v_cpu20).toNat) (S_tlb_Cpu.mk v_a232 v_y205.fOrders)), 0)
       else none
      else none
    else none
   else
    some (([] : (List S_tlb_Cpu)), 1)
  else
   some (([] : (List S_tlb_Cpu)), v_r123)
theorem G_tlb_Fill_ok (n : Nat) (v_l19 : (List S_tlb_Cpu)) (v_cpu20 : Int) (v_space21 : Int) (v_page22 : Int) (v_word23 : Int) (r : (List S_tlb_Cpu) × Int) (h : G_tlb_Fill n v_l19 v_cpu20 v_space21 v_page22 v_word23 = some r) : Ret Try.prog 22 [(eL eS_tlb_Cpu) v_l19, (eI .i64) v_cpu20, (eI .i64) v_space21, (eI .i64) v_page22, (eI .u32) v_word23] (.tup [(eL eS_tlb_Cpu) r.1, (eI .i64) r.2]) := by
  refine ret_run (n := 52) (fn := Try.f22) (c := bodyOf Try.f22) (by kernel_rfl) (by kernel_rfl) (by kernel_rfl) (by kernel_rfl) ?_
  have hF : KC 52 (FinR Try.prog Try.f22 (.tup [(eL eS_tlb_Cpu) r.1, (eI .i64) r.2])) := FinR.kc' (by kernel_rfl)
  unfold G_tlb_Fill at h
  obtain ⟨v_r123, h71, h⟩ := bind_some h
  by_cases h81 : v_r123 = 0
  · rw [if_pos h81] at h
    obtain ⟨v_r150, h82, h⟩ := bind_some h
    by_cases h83 : v_r150 = true
    · rw [if_pos h83] at h
      obtain ⟨v_r202, h119, h⟩ := bind_some h
      by_cases h124 : 0 ≤ v_cpu20 ∧ (v_cpu20).toNat < v_r202.length
      · rw [if_pos h124] at h
        obtain ⟨v_y205, h125, h⟩ := bind_some h
        obtain ⟨v_r230, h153, h⟩ := bind_some h
        by_cases h154 : (v_r230.length : Int) = 8
        · rw [if_pos h154] at h
          by_cases h155 : ((0 : Int) ≤ 1 ∧ 1 ≤ (v_r230.length : Int))
          · rw [if_pos h155] at h
            by_cases h156 : 1 < v_r230.length ∧ (v_r230.length + [(S_tlb_Line.mk v_space21 v_page22 v_word23)].length) ≤ maxLen ∧ (v_r230.length + [(S_tlb_Line.mk v_space21 v_page22 v_word23)].length) * 24 ≤ 140737488355328
            · rw [if_pos h156] at h
              by_cases h157 : 0 ≤ v_cpu20 ∧ (v_cpu20).toNat < v_r202.length
              · rw [if_pos h157] at h
                obtain ⟨v_y231, h159, h⟩ := bind_some h
                obtain rfl := Option.some.inj h
                exact pend_sound TTok mix 31 (hs := [.r ((eI .i64) v_r123), .t false, .c, .c, .r (eB v_r150), .t false, .h [] [] [.cu (outC 66 2 nq_S_tlb_Cpu [none, none] (v_r202.map eS_tlb_Cpu)) [.srf 1, .d (.v noB), .d (.v noB)], .cu (bagC nct_S_tlb_Cpu nq_S_tlb_Cpu (v_r202.map eS_tlb_Cpu)) []] (.srf 0), .dl 1, .fb 5, .fb 0, .e 105 [85] (.ept 85 2 ((v_cpu20).toNat) 0) [], .e 115 [85, 86, 115, 116] (.srf 115) [(86, .none), (115, .row 69 3 (v_y205.fLines.map eS_tlb_Line)), (116, .cu (bagC nct_S_tlb_Cpu (minus nq_S_tlb_Cpu (((v_cpu20).toNat) * 2 + 0)) (v_r202.map eS_tlb_Cpu)) []), (85, .cu (outC 66 2 (minus nq_S_tlb_Cpu (((v_cpu20).toNat) * 2 + 0)) [some (((v_cpu20).toNat) * 2 + 0), none] (v_r202.map eS_tlb_Cpu)) [.srf 116, .srf 115, .d (.v noB)])], .h [115] [] [.none, .row 69 3 (v_r230.map eS_tlb_Line)] (.srf 1), .u (.d (.v (.int .i64 (v_r230.length : Int)))), .t true, .e 155 [125] (.ssl 125 1 v_r230.length 3) [], .c, .c, .bd, .e 205 [125] (.d (.sl (((v_r230.drop 1) ++ [(S_tlb_Line.mk v_space21 v_page22 v_word23)]).map eS_tlb_Line))) [(125, .none)], .e 210 [85] (.ept 85 2 ((v_cpu20).toNat) 0) [], .e 220 [85, 116] (dd) [(85, .cu (outC 66 2 (minus nq_S_tlb_Cpu (((v_cpu20).toNat) * 2 + 0)) [none, none] ((v_r202.set ((v_cpu20).toNat) (S_tlb_Cpu.mk ((v_r230.drop 1) ++ [(S_tlb_Line.mk v_space21 v_page22 v_word23)]) v_y231.fOrders)).map eS_tlb_Cpu)) [.srf 116, .srf 115, .d (.v noB)]), (116, .cu (bagC nct_S_tlb_Cpu (minus nq_S_tlb_Cpu (((v_cpu20).toNat) * 2 + 0)) ((v_r202.set ((v_cpu20).toNat) (S_tlb_Cpu.mk ((v_r230.drop 1) ++ [(S_tlb_Line.mk v_space21 v_page22 v_word23)]) v_y231.fOrders)).map eS_tlb_Cpu)) [])], .dl 3, .sx [85, 116] (nFrz 85 116 66 2 ((v_r202.set ((v_cpu20).toNat) (S_tlb_Cpu.mk ((v_r230.drop 1) ++ [(S_tlb_Line.mk v_space21 v_page22 v_word23)]) v_y231.fOrders)).map eS_tlb_Cpu))]) (by kernel_rfl) (by kernel_rfl) (by kernel_rfl) (.cons (G_tlb_check_ok n v_l19 v_cpu20 _ h71) (.cons (nf h81) (.cons (G_tlb_right_ok n v_space21 v_page22 _ h82) (.cons (bnf h83) (.cons (G_tlb_copied_h_ok n v_l19 _ h119) (.cons (nidx (P := Try.prog) (T := TT) (t := 47) (l := 85) (ty := 66) (sz := 2) (q := nq_S_tlb_Cpu) (hs := [none, none]) (xs := (v_r202.map eS_tlb_Cpu)) (fs := [.srf 86, .d (.v noB), .d (.v noB)]) (x := (.tmp 28)) (i := (.tmp 29)) (ik := .i64) (j := v_cpu20) (by kernel_rfl) h124.1 (by rw [List.length_map]; exact h124.2)) (.cons (ntake (P := Try.prog) (T := TT) (t := 63) (l := 85) (ty := 66) (sz := 2) (i := (v_cpu20).toNat) (off := 0) (q := nq_S_tlb_Cpu) (hs := [none, none]) (xs := (v_r202.map eS_tlb_Cpu)) (fs := [.srf 86, .d (.v noB), .d (.v noB)]) (x := (.tmp 31)) (B := 86) (nl := 115) (j := 0) (e := 69) (s := 3) (ct := nct_S_tlb_Cpu) (ys := (v_y205.fLines.map eS_tlb_Line)) (y := (eS_tlb_Cpu v_y205)) (by kernel_rfl) (all_fits (fun _ => rfl)) (get_ob (f := eS_tlb_Cpu) h125) rfl (by simp only [nq_S_tlb_Cpu, minus, plus, qpre, Bool.and_eq_true, Bool.or_eq_true, Bool.not_eq_true', decide_eq_true_eq, decide_eq_false_iff_not, and_true, and_false, true_and, false_and, or_true, or_false, true_or, false_or, not_true_eq_false, not_false_eq_true] <;> omega) rfl rfl (by decide) (by unfold nct_S_tlb_Cpu; rw [if_pos (by omega)]) (by decide)) (.cons (G_slices_DeleteFunc_tlb_Line_tlb_Line_h_ok n v_y205.fLines (fun (y0 : S_tlb_Line) => G_tlb_Fill_1 n y0 v_space21 v_page22) 68 [.iptr [.v (.int .i64 v_space21)] 0, .iptr [.v (.int .i64 v_page22)] 0] (fun y0 r h => G_tlb_Fill_1_ok n y0 v_space21 v_page22 r h) _ h153) (.cons (len_ob (f := eS_tlb_Line) (l := v_r230)) (.cons (bt h154) (.cons (xs10 (P := Try.prog) (T := TT) (f := eS_tlb_Line) (t := 63) (e := 69) (s := 3) (l := 125) (L := v_r230) (x := (.tmp 38)) (lo := (.const (.int .i64 1))) (a := 1) (ka := .i64) (by kernel_rfl) h155) (.cons (nappD (P := Try.prog) (T := TT) (t := 63) (L := 125) (e := 69) (s := 3) (i := 1) (N := v_r230.length) (ti := ⟨3, 24, .st [(0, 3), (1, 3), (2, 48)], [.i .i64, .i .i64, .i .u32]⟩) (xs := (v_r230.map eS_tlb_Line)) (ys := ([(S_tlb_Line.mk v_space21 v_page22 v_word23)].map eS_tlb_Line)) (zs := (((v_r230.drop 1) ++ [(S_tlb_Line.mk v_space21 v_page22 v_word23)]).map eS_tlb_Line)) (x := (.tmp 42)) (y := (.tmp 47)) (by rw [List.map_append, List.map_drop]) (by kernel_rfl) (by kernel_rfl) (by kernel_rfl) (by decide) (by rw [List.length_map]) (by rw [List.length_map]; exact h156.1) (all_fits (fun _ => rfl)) (by simp) (by rw [List.length_map, List.length_map]; exact h156.2.1) (by rw [List.length_map, List.length_map]; exact h156.2.2)) (.cons (nidx (P := Try.prog) (T := TT) (t := 47) (l := 85) (ty := 66) (sz := 2) (q := (minus nq_S_tlb_Cpu (((v_cpu20).toNat) * 2 + 0))) (hs := [some (((v_cpu20).toNat) * 2 + 0), none]) (xs := (v_r202.map eS_tlb_Cpu)) (fs := [.srf 116, .srf 115, .d (.v noB)]) (x := (.tmp 40)) (i := (.tmp 41)) (ik := .i64) (j := v_cpu20) (by kernel_rfl) h157.1 (by rw [List.length_map]; exact h157.2)) (.cons (nputD (P := Try.prog) (T := TT) (t := 63) (l := 85) (B := 116) (ty := 66) (sz := 2) (i := (v_cpu20).toNat) (off := 0) (ct := nct_S_tlb_Cpu) (q := (minus nq_S_tlb_Cpu (((v_cpu20).toNat) * 2 + 0))) (hs := [some (((v_cpu20).toNat) * 2 + 0), none]) (hs' := [none, none]) (xs := (v_r202.map eS_tlb_Cpu)) (xs' := ((v_r202.set ((v_cpu20).toNat) (S_tlb_Cpu.mk ((v_r230.drop 1) ++ [(S_tlb_Line.mk v_space21 v_page22 v_word23)]) v_y231.fOrders)).map eS_tlb_Cpu)) (fs := [.srf 116, .srf 115, .d (.v noB)]) (x := (.tmp 50)) (z := (.tmp 48)) (y := (eS_tlb_Cpu v_y231)) (y' := (.agg [.sl (((v_r230.drop 1) ++ [(S_tlb_Line.mk v_space21 v_page22 v_word23)]).map eS_tlb_Line), .sl (v_y231.fOrders.map eS_tlb_Order)])) (p := (.sl (((v_r230.drop 1) ++ [(S_tlb_Line.mk v_space21 v_page22 v_word23)]).map eS_tlb_Line))) (set_ob (f := eS_tlb_Cpu) (l := v_r202) (k := (v_cpu20).toNat) (z := (S_tlb_Cpu.mk ((v_r230.drop 1) ++ [(S_tlb_Line.mk v_space21 v_page22 v_word23)]) v_y231.fOrders)) (p := .agg [.sl (((v_r230.drop 1) ++ [(S_tlb_Line.mk v_space21 v_page22 v_word23)]).map eS_tlb_Line), .sl (v_y231.fOrders.map eS_tlb_Order)]) rfl) (by kernel_rfl) rfl rfl (by decide) (get_ob (f := eS_tlb_Cpu) h159) (by decide) rfl rfl rfl (all_fits (fun _ => rfl)) (by rw [Bool.eq_false_iff, ne_eq]; simp only [nq_S_tlb_Cpu, minus, plus, qpre, Bool.and_eq_true, Bool.or_eq_true, Bool.not_eq_true', decide_eq_true_eq, decide_eq_false_iff_not, and_true, and_false, true_and, false_and, or_true, or_false, true_or, false_or, not_true_eq_false, not_false_eq_true] <;> omega) (by intro j h; rcases j with _ | _ | j <;> simp at h <;> omega) (by intro j k hk; rcases j with _ | _ | j <;> simp <;> omega)) (.cons (nfrz (l := 85) (B := 116) (ty := 66) (sz := 2) (ct := nct_S_tlb_Cpu) (q := (minus nq_S_tlb_Cpu (((v_cpu20).toNat) * 2 + 0))) (hs := [none, none]) (xs := ((v_r202.set ((v_cpu20).toNat) (S_tlb_Cpu.mk ((v_r230.drop 1) ++ [(S_tlb_Line.mk v_space21 v_page22 v_word23)]) v_y231.fOrders)).map eS_tlb_Cpu)) (fs := [.srf 116, .srf 115, .d (.v noB)]) (by decide) (all_fits (fun _ => rfl)) (by intro j k h; rcases j with _ | _ | j <;> simp at h) rfl) .nil)))))))))))))))
              · rw [if_neg h157] at h; cases h
            · rw [if_neg h156] at h; cases h
          · rw [if_neg h155] at h; cases h
        · rw [if_neg h154] at h
          obtain ⟨v_a232, h160, h⟩ := bind_some h
          by_cases h161 : 0 ≤ v_cpu20 ∧ (v_cpu20).toNat < v_r202.length
          · rw [if_pos h161] at h
            by_cases h162 : (v_cpu20).toNat < v_r202.length
            · rw [if_pos h162] at h
              obtain rfl := Option.some.inj h
              exact pend_sound TTok mix 32 (hs := [.r ((eI .i64) v_r123), .t false, .c, .c, .r (eB v_r150), .t false, .h [] [] [.cu (outC 66 2 nq_S_tlb_Cpu [none, none] (v_r202.map eS_tlb_Cpu)) [.srf 1, .d (.v noB), .d (.v noB)], .cu (bagC nct_S_tlb_Cpu nq_S_tlb_Cpu (v_r202.map eS_tlb_Cpu)) []] (.srf 0), .dl 1, .fb 5, .fb 0, .e 105 [85] (.ept 85 2 ((v_cpu20).toNat) 0) [], .e 115 [85, 86, 115, 116] (.srf 115) [(86, .none), (115, .row 69 3 (v_y205.fLines.map eS_tlb_Line)), (116, .cu (bagC nct_S_tlb_Cpu (minus nq_S_tlb_Cpu (((v_cpu20).toNat) * 2 + 0)) (v_r202.map eS_tlb_Cpu)) []), (85, .cu (outC 66 2 (minus nq_S_tlb_Cpu (((v_cpu20).toNat) * 2 + 0)) [some (((v_cpu20).toNat) * 2 + 0), none] (v_r202.map eS_tlb_Cpu)) [.srf 116, .srf 115, .d (.v noB)])], .h [115] [] [.none, .row 69 3 (v_r230.map eS_tlb_Line)] (.srf 1), .u (.d (.v (.int .i64 (v_r230.length : Int)))), .t false, .c, .c, .bd, .w (v_a232.map eS_tlb_Line), .e 195 [85] (.ept 85 2 ((v_cpu20).toNat) 0) [], .e 205 [85] (dd) [(85, .cu (outC 66 2 (minus nq_S_tlb_Cpu (((v_cpu20).toNat) * 2 + 0)) [some (((v_cpu20).toNat) * 2 + 0), none] (v_r202.map eS_tlb_Cpu)) [.srf 116, .srf 190, .d (.v noB)])], .dl 3, .sx [85, 116, 190] (nClose 85 116 190 66 2 nct_S_tlb_Cpu nq_S_tlb_Cpu [none, none] ((v_r202.set ((v_cpu20).toNat) (S_tlb_Cpu.mk v_a232 v_y205.fOrders)).map eS_tlb_Cpu) [.srf 116, .srf 190, .d (.v noB)] 0), .sx [85, 225] (nFrz 85 225 66 2 ((v_r202.set ((v_cpu20).toNat) (S_tlb_Cpu.mk v_a232 v_y205.fOrders)).map eS_tlb_Cpu))]) (by kernel_rfl) (by kernel_rfl) (by kernel_rfl) (.cons (G_tlb_check_ok n v_l19 v_cpu20 _ h71) (.cons (nf h81) (.cons (G_tlb_right_ok n v_space21 v_page22 _ h82) (.cons (bnf h83) (.cons (G_tlb_copied_h_ok n v_l19 _ h119) (.cons (nidx (P := Try.prog) (T := TT) (t := 47) (l := 85) (ty := 66) (sz := 2) (q := nq_S_tlb_Cpu) (hs := [none, none]) (xs := (v_r202.map eS_tlb_Cpu)) (fs := [.srf 86, .d (.v noB), .d (.v noB)]) (x := (.tmp 28)) (i := (.tmp 29)) (ik := .i64) (j := v_cpu20) (by kernel_rfl) h124.1 (by rw [List.length_map]; exact h124.2)) (.cons (ntake (P := Try.prog) (T := TT) (t := 63) (l := 85) (ty := 66) (sz := 2) (i := (v_cpu20).toNat) (off := 0) (q := nq_S_tlb_Cpu) (hs := [none, none]) (xs := (v_r202.map eS_tlb_Cpu)) (fs := [.srf 86, .d (.v noB), .d (.v noB)]) (x := (.tmp 31)) (B := 86) (nl := 115) (j := 0) (e := 69) (s := 3) (ct := nct_S_tlb_Cpu) (ys := (v_y205.fLines.map eS_tlb_Line)) (y := (eS_tlb_Cpu v_y205)) (by kernel_rfl) (all_fits (fun _ => rfl)) (get_ob (f := eS_tlb_Cpu) h125) rfl (by simp only [nq_S_tlb_Cpu, minus, plus, qpre, Bool.and_eq_true, Bool.or_eq_true, Bool.not_eq_true', decide_eq_true_eq, decide_eq_false_iff_not, and_true, and_false, true_and, false_and, or_true, or_false, true_or, false_or, not_true_eq_false, not_false_eq_true] <;> omega) rfl rfl (by decide) (by unfold nct_S_tlb_Cpu; rw [if_pos (by omega)]) (by decide)) (.cons (G_slices_DeleteFunc_tlb_Line_tlb_Line_h_ok n v_y205.fLines (fun (y0 : S_tlb_Line) => G_tlb_Fill_1 n y0 v_space21 v_page22) 68 [.iptr [.v (.int .i64 v_space21)] 0, .iptr [.v (.int .i64 v_page22)] 0] (fun y0 r h => G_tlb_Fill_1_ok n y0 v_space21 v_page22 r h) _ h153) (.cons (len_ob (f := eS_tlb_Line) (l := v_r230)) (.cons (bf h154) (.cons (app_ob (f := eS_tlb_Line) (s := 3) h160 (fun _ => rfl)).1 (.cons (app_ob (f := eS_tlb_Line) (s := 3) h160 (fun _ => rfl)).2.1 (.cons (app_ob (f := eS_tlb_Line) (s := 3) h160 (fun _ => rfl)).2.2.1 (.cons (app_ob (f := eS_tlb_Line) (s := 3) h160 (fun _ => rfl)).2.2.2 (.cons (nidx (P := Try.prog) (T := TT) (t := 47) (l := 85) (ty := 66) (sz := 2) (q := (minus nq_S_tlb_Cpu (((v_cpu20).toNat) * 2 + 0))) (hs := [some (((v_cpu20).toNat) * 2 + 0), none]) (xs := (v_r202.map eS_tlb_Cpu)) (fs := [.srf 116, .srf 115, .d (.v noB)]) (x := (.tmp 40)) (i := (.tmp 41)) (ik := .i64) (j := v_cpu20) (by kernel_rfl) h161.1 (by rw [List.length_map]; exact h161.2)) (.cons (nput (P := Try.prog) (T := TT) (t := 63) (l := 85) (L := 190) (ty := 66) (sz := 2) (i := (v_cpu20).toNat) (off := 0) (j := 0) (q := (minus nq_S_tlb_Cpu (((v_cpu20).toNat) * 2 + 0))) (hs := [some (((v_cpu20).toNat) * 2 + 0), none]) (xs := (v_r202.map eS_tlb_Cpu)) (fs := [.srf 116, .srf 115, .d (.v noB)]) (x := (.tmp 50)) (z := (.tmp 48)) (by kernel_rfl) (by rw [List.length_map]; exact h162) (by decide) (all_fits (fun _ => rfl)) (by rw [Bool.eq_false_iff, ne_eq]; simp only [nq_S_tlb_Cpu, minus, plus, qpre, Bool.and_eq_true, Bool.or_eq_true, Bool.not_eq_true', decide_eq_true_eq, decide_eq_false_iff_not, and_true, and_false, true_and, false_and, or_true, or_false, true_or, false_or, not_true_eq_false, not_false_eq_true] <;> omega) (.inr rfl) (by intro j' hj' h; rcases j' with _ | _ | j' <;> simp at h hj' <;> omega) ⟨_, rfl⟩ (by decide)) (.cons (nclose' (l := 85) (B := 116) (L := 190) (ty := 66) (sz := 2) (i := (v_cpu20).toNat) (off := 0) (j := 0) (e := 69) (s := 3) (ct := nct_S_tlb_Cpu) (q := (minus nq_S_tlb_Cpu (((v_cpu20).toNat) * 2 + 0))) (q' := nq_S_tlb_Cpu) (hs := [some (((v_cpu20).toNat) * 2 + 0), none]) (xs := (v_r202.map eS_tlb_Cpu)) (ys := (v_a232.map eS_tlb_Line)) (fs := [.srf 116, .srf 190, .d (.v noB)]) (y := (eS_tlb_Cpu v_y205)) (y' := (.agg [.sl (v_a232.map eS_tlb_Line), .sl (v_y205.fOrders.map eS_tlb_Order)])) (set_ob (f := eS_tlb_Cpu) (l := v_r202) (k := (v_cpu20).toNat) (z := (S_tlb_Cpu.mk v_a232 v_y205.fOrders)) (p := .agg [.sl (v_a232.map eS_tlb_Line), .sl (v_y205.fOrders.map eS_tlb_Order)]) rfl) (by decide) (by decide) (by decide) (all_fits (fun _ => rfl)) (get_ob (f := eS_tlb_Cpu) h125) (by decide) rfl rfl (by rw [Bool.eq_false_iff, ne_eq]; simp only [nq_S_tlb_Cpu, minus, plus, qpre, Bool.and_eq_true, Bool.or_eq_true, Bool.not_eq_true', decide_eq_true_eq, decide_eq_false_iff_not, and_true, and_false, true_and, false_and, or_true, or_false, true_or, false_or, not_true_eq_false, not_false_eq_true] <;> omega) rfl (by intro j' hj' h; rcases j' with _ | _ | j' <;> simp at h hj' <;> omega) rfl rfl (by unfold nct_S_tlb_Cpu; rw [if_pos (by omega)]) (by intro k hk; rw [Bool.eq_iff_iff]; simp only [nq_S_tlb_Cpu, minus, plus, qpre, Bool.and_eq_true, Bool.or_eq_true, Bool.not_eq_true', decide_eq_true_eq, decide_eq_false_iff_not, and_true, and_false, true_and, false_and, or_true, or_false, true_or, false_or, not_true_eq_false, not_false_eq_true] <;> omega)) (.cons (nfrz (l := 85) (B := 225) (ty := 66) (sz := 2) (ct := nct_S_tlb_Cpu) (q := nq_S_tlb_Cpu) (hs := [none, none]) (xs := ((v_r202.set ((v_cpu20).toNat) (S_tlb_Cpu.mk v_a232 v_y205.fOrders)).map eS_tlb_Cpu)) (fs := [.srf 225, .d (.v noB), .d (.v noB)]) (by decide) (all_fits (fun _ => rfl)) (by intro j k h; rcases j with _ | _ | j <;> simp at h) rfl) .nil))))))))))))))))))
            · rw [if_neg h162] at h; cases h
          · rw [if_neg h161] at h; cases h
      · rw [if_neg h124] at h; cases h
    · rw [if_neg h83] at h
      obtain rfl := Option.some.inj h
      exact pend_sound TTok mix 17 (hs := [.r ((eI .i64) v_r123), .t false, .c, .c, .r (eB v_r150), .t true]) (by kernel_rfl) (by kernel_rfl) (by kernel_rfl) (.cons (G_tlb_check_ok n v_l19 v_cpu20 _ h71) (.cons (nf h81) (.cons (G_tlb_right_ok n v_space21 v_page22 _ h82) (.cons (bnt (vf h83)) .nil))))
  · rw [if_neg h81] at h
    obtain rfl := Option.some.inj h
    exact pend_sound TTok mix 14 (hs := [.r ((eI .i64) v_r123), .t true]) (by kernel_rfl) (by kernel_rfl) (by kernel_rfl) (.cons (G_tlb_check_ok n v_l19 v_cpu20 _ h71) (.cons (nt h81) .nil))
/- ringhall/tlb.Look -/
def G_tlb_Look (n : Nat) (v_l244 : (List S_tlb_Cpu)) (v_cpu245 : Int) (v_space246 : Int) (v_page247 : Int) : Option (Int × Bool × Int) :=
  (G_tlb_check n v_l244 v_cpu245).bind fun (v_r248 : (Int)) =>
  if v_r248 = 0 then
   (getI v_l244 v_cpu245).bind fun (v_y258 : S_tlb_Cpu) =>
   (G_tlb_find n v_y258.fLines v_space246 v_page247).bind fun (v_r259 : (Int)) =>
   if v_r259 < 0 then
    some (0, false, 0)
   else
    (getI v_l244 v_cpu245).bind fun (v_y271 : S_tlb_Cpu) =>
    (getI v_y271.fLines v_r259).bind fun (v_y272 : S_tlb_Line) =>
    some (v_y272.fWord, true, 0)
  else
   some (0, false, v_r248)
theorem G_tlb_Look_ok (n : Nat) (v_l244 : (List S_tlb_Cpu)) (v_cpu245 : Int) (v_space246 : Int) (v_page247 : Int) (r : Int × Bool × Int) (h : G_tlb_Look n v_l244 v_cpu245 v_space246 v_page247 = some r) : Ret Try.prog 23 [(eL eS_tlb_Cpu) v_l244, (eI .i64) v_cpu245, (eI .i64) v_space246, (eI .i64) v_page247] (.tup [(eI .u32) r.1, eB r.2.1, (eI .i64) r.2.2]) := by
  refine ret_run (n := 38) (fn := Try.f23) (c := bodyOf Try.f23) (by kernel_rfl) (by kernel_rfl) (by kernel_rfl) (by kernel_rfl) ?_
  have hF : KC 38 (FinR Try.prog Try.f23 (.tup [(eI .u32) r.1, eB r.2.1, (eI .i64) r.2.2])) := FinR.kc' (by kernel_rfl)
  unfold G_tlb_Look at h
  obtain ⟨v_r248, h164, h⟩ := bind_some h
  by_cases h166 : v_r248 = 0
  · rw [if_pos h166] at h
    obtain ⟨v_y258, h167, h⟩ := bind_some h
    obtain ⟨v_r259, h168, h⟩ := bind_some h
    by_cases h170 : v_r259 < 0
    · rw [if_pos h170] at h
      obtain rfl := Option.some.inj h
      exact pend_sound TTok mix 19 (hs := [.r ((eI .i64) v_r248), .t false, .y (eS_tlb_Cpu v_y258), .c, .r ((eI .i64) v_r259), .t true]) (by kernel_rfl) (by kernel_rfl) (by kernel_rfl) (.cons (G_tlb_check_ok n v_l244 v_cpu245 _ h164) (.cons (nf h166) (.cons (getI_ob (f := eS_tlb_Cpu) h167) (.cons (G_tlb_find_ok n v_y258.fLines v_space246 v_page247 _ h168) (.cons (dt h170) .nil)))))
    · rw [if_neg h170] at h
      obtain ⟨v_y271, h171, h⟩ := bind_some h
      obtain ⟨v_y272, h172, h⟩ := bind_some h
      obtain rfl := Option.some.inj h
      exact pend_sound TTok mix 19 (hs := [.r ((eI .i64) v_r248), .t false, .y (eS_tlb_Cpu v_y258), .c, .r ((eI .i64) v_r259), .t false, .y (eS_tlb_Cpu v_y271), .c, .y (eS_tlb_Line v_y272), .c]) (by kernel_rfl) (by kernel_rfl) (by kernel_rfl) (.cons (G_tlb_check_ok n v_l244 v_cpu245 _ h164) (.cons (nf h166) (.cons (getI_ob (f := eS_tlb_Cpu) h167) (.cons (G_tlb_find_ok n v_y258.fLines v_space246 v_page247 _ h168) (.cons (df h170) (.cons (getI_ob (f := eS_tlb_Cpu) h171) (.cons (getI_ob (f := eS_tlb_Line) h172) .nil)))))))
  · rw [if_neg h166] at h
    obtain rfl := Option.some.inj h
    exact pend_sound TTok mix 12 (hs := [.r ((eI .i64) v_r248), .t true]) (by kernel_rfl) (by kernel_rfl) (by kernel_rfl) (.cons (G_tlb_check_ok n v_l244 v_cpu245 _ h164) (.cons (nt h166) .nil))
inductive G_tlb_forget_1_C1_R where
  | x0 (v_x335 : Bool)
def G_tlb_forget_1_C1_ex : G_tlb_forget_1_C1_R → Ex
  | .x0 _ => .normal
def G_tlb_forget_1_C1_st (v_c331 : S_tlb_Order) (v_x330 : S_tlb_Line) : G_tlb_forget_1_C1_R → PS
  | .x0 v_x335 => ⟨[dd, dd, dd, .d (.v (.bool v_x335)), dd, dd, dd, dd, dd, dd, dd, dd, dd, dd, dd, dd, dd, dd, dd, dd, dd], []⟩
def G_tlb_forget_1_C1_hd (v_c331 : S_tlb_Order) (v_x330 : S_tlb_Line)  : PS := ⟨[dd, .d (.iptr [.v (.int .i64 v_c331.fSpace), .v (.int .i64 v_c331.fPage)] 0), .ref 0 0, dd, dd, dd, dd, dd, dd, dd, dd, dd, dd, dd, dd, dd, dd, dd, dd, dd, dd], [.box [.d (.v (.int .i64 v_x330.fSpace)), .d (.v (.int .i64 v_x330.fPage)), .d (.v (.int .u32 v_x330.fWord))]]⟩
def G_tlb_forget_1_C1 (n : Nat) (v_c331 : S_tlb_Order) (v_x330 : S_tlb_Line) : Option G_tlb_forget_1_C1_R :=
  if v_x330.fSpace = v_c331.fSpace then
   if v_c331.fPage < 0 then
    some (.x0 true)
   else
    some (.x0 (v_x330.fPage == v_c331.fPage))
  else
   some (.x0 false)
theorem G_tlb_forget_1_C1_ok {Fi : Ex → PS → Prop} (hF : KC 21 Fi) (ks : List Fr) (n : Nat) (v_c331 : S_tlb_Order) (v_x330 : S_tlb_Line)  (o : G_tlb_forget_1_C1_R) (h : G_tlb_forget_1_C1 n v_c331 v_x330 = some o) (q : RunE Try.prog 21 Fi ks (G_tlb_forget_1_C1_ex o) (G_tlb_forget_1_C1_st v_c331 v_x330 o)) : RunE Try.prog 21 Fi (.s (cL (cR (bodyOf Try.f100))) :: ks) .normal (G_tlb_forget_1_C1_hd v_c331 v_x330) := by
  unfold G_tlb_forget_1_C1 at h
  by_cases h200 : v_x330.fSpace = v_c331.fSpace
  · rw [if_pos h200] at h
    by_cases h201 : v_c331.fPage < 0
    · rw [if_pos h201] at h
      cases h
      exact pkk_sound TTok mix hF 1 (hs := [.c, .c, .t true, .c, .c, .c, .c, .t true, .c, .c, .c, .c, .c]) (ts := []) (s := []) (l := [3]) (by kernel_rfl) (by kernel_rfl) (.cons (bt h200) (.cons (dt h201) .nil)) q
    · rw [if_neg h201] at h
      cases h
      exact pkk_sound TTok mix hF 1 (hs := [.c, .c, .t true, .c, .c, .c, .c, .t false, .c, .c, .c, .c, .c, .c, .c]) (ts := []) (s := []) (l := [3]) (by kernel_rfl) (by kernel_rfl) (.cons (bt h200) (.cons (df h201) .nil)) q
  · rw [if_neg h200] at h
    cases h
    exact pkk_sound TTok mix hF 1 (hs := [.c, .c, .t false, .c, .c, .c, .c]) (ts := []) (s := []) (l := [3]) (by kernel_rfl) (by kernel_rfl) (.cons (bf h200) .nil) q
/- ringhall/tlb.forget$1 -/
def G_tlb_forget_1 (n : Nat) (v_x330 : S_tlb_Line) (v_c331 : S_tlb_Order) : Option (Bool) :=
  (G_tlb_forget_1_C1 n v_c331 v_x330).bind fun v_o338 => match v_o338 with
  | .x0 v_z339 =>
    some v_z339
theorem G_tlb_forget_1_ok (n : Nat) (v_x330 : S_tlb_Line) (v_c331 : S_tlb_Order) (r : Bool) (h : G_tlb_forget_1 n v_x330 v_c331 = some r) : Ret Try.prog 100 [eS_tlb_Line v_x330, .iptr [.v (.int .i64 v_c331.fSpace), .v (.int .i64 v_c331.fPage)] 0] (eB r) := by
  refine ret_run (n := 21) (fn := Try.f100) (c := bodyOf Try.f100) (by kernel_rfl) (by kernel_rfl) (by kernel_rfl) (by kernel_rfl) ?_
  have hF : KC 21 (FinR Try.prog Try.f100 (eB r)) := FinR.kc' (by kernel_rfl)
  unfold G_tlb_forget_1 at h
  obtain ⟨v_o338, h202, h⟩ := bind_some h
  refine pkk_sound TTok mix hF 3 (hs := []) (ts := []) (s := [0]) (l := [1, 2]) (by kernel_rfl) (by kernel_rfl) .nil (G_tlb_forget_1_C1_ok hF (.s (cR (cR (bodyOf Try.f100))) :: []) n v_c331 v_x330 _ h202 ?_)
  cases v_o338 with
  | x0 v_z339 =>
    try dsimp only at h
    obtain rfl := Option.some.inj h
    exact pend_sound TTok mix 1 (hs := []) (by kernel_rfl) (by kernel_rfl) (by kernel_rfl) .nil
/- ringhall/tlb.forget -/
def G_tlb_forget_h (n : Nat) (v_l328 : (List S_tlb_Line)) (v_o329 : S_tlb_Order) : Option ((List S_tlb_Line)) :=
  (G_slices_DeleteFunc_tlb_Line_tlb_Line_h n v_l328 (fun (y0 : S_tlb_Line) => G_tlb_forget_1 n y0 v_o329)).bind fun (v_r340 : ((List S_tlb_Line))) =>
  some v_r340
theorem G_tlb_forget_h_ok (n : Nat) (v_l328 : (List S_tlb_Line)) (v_o329 : S_tlb_Order) (r : (List S_tlb_Line)) (h : G_tlb_forget_h n v_l328 v_o329 = some r) : RetH Try.prog 70 [.srf 0, .d (eS_tlb_Order v_o329)] [.row 69 3 (v_l328.map eS_tlb_Line)] (.srf 1) [.none, .row 69 3 (r.map eS_tlb_Line)] := by
  refine retH_run (n := 8) (fn := Try.f70) (c := bodyOf Try.f70) (by kernel_rfl) (by kernel_rfl) (by kernel_rfl) (by kernel_rfl) ?_
  have hF : KC 8 (FinH Try.prog Try.f70 [.row 69 3 (v_l328.map eS_tlb_Line)] (.srf 1) [.none, .row 69 3 (r.map eS_tlb_Line)]) := FinH.kc' (by kernel_rfl)
  unfold G_tlb_forget_h at h
  obtain ⟨v_r340, h203, h⟩ := bind_some h
  obtain rfl := Option.some.inj h
  exact pendH_sound TTok mix 6 (hs := [.dl 3, .fb 2, .h [0] [] [.none, .row 69 3 (v_r340.map eS_tlb_Line)] (.srf 1)]) [0, 22] (by kernel_rfl) (by kernel_rfl) (by kernel_rfl) (.cons (G_slices_DeleteFunc_tlb_Line_tlb_Line_h_ok n v_l328 (fun (y0 : S_tlb_Line) => G_tlb_forget_1 n y0 v_o329) 100 [.iptr [.v (.int .i64 v_o329.fSpace), .v (.int .i64 v_o329.fPage)] 0] (fun y0 r h => G_tlb_forget_1_ok n y0 v_o329 r h) _ h203) .nil)
def G_tlb_Shoot_J1 (n : Nat)   : Option ((List S_tlb_Cpu) × Int) :=
  some (([] : (List S_tlb_Cpu)), 1)
theorem G_tlb_Shoot_J1_ok (n : Nat)    (r : (List S_tlb_Cpu) × Int) (h : G_tlb_Shoot_J1 n   = some r) : RunE Try.prog 74 (FinR Try.prog Try.f24 (.tup [(eL eS_tlb_Cpu) r.1, (eI .i64) r.2])) (.s (cT (cR (cF (cR (cB (cL (cR (cR (bodyOf Try.f24))))))))) :: .b 0 :: .s (cR (cR (cR (bodyOf Try.f24)))) :: []) .normal ⟨[dd, dd, dd, dd, dd, dd, dd, dd, dd, dd, dd, dd, dd, dd, dd, dd, dd, dd, dd, dd, dd, dd, dd, dd, dd, dd, dd, dd, dd, dd, dd, dd, dd, dd, dd, dd, dd, dd, dd, dd, dd, dd, dd, dd, dd, dd, dd, dd, dd, dd, dd, dd, dd, dd, dd, dd, dd, dd, dd, dd, dd, dd, dd, dd, dd, dd, dd, dd, dd, dd, dd, dd, dd, dd], []⟩ := by
  have hF : KC 74 (FinR Try.prog Try.f24 (.tup [(eL eS_tlb_Cpu) r.1, (eI .i64) r.2])) := FinR.kc' (by kernel_rfl)
  unfold G_tlb_Shoot_J1 at h
  obtain rfl := Option.some.inj h
  exact pend_sound TTok mix 5 (hs := []) (by kernel_rfl) (by kernel_rfl) (by kernel_rfl) .nil
inductive G_tlb_Shoot_L1_R where
  | x0 (v_x443 : Int)
  | x1 (v_w445 : (List S_tlb_Cpu))
def G_tlb_Shoot_L1_ex : G_tlb_Shoot_L1_R → Ex
  | .x0 _ => .ret
  | .x1 _ => .exit 1
def G_tlb_Shoot_L1_st (v_by291 : Int) (v_r432 : ((List S_tlb_Cpu))) (v_o292 : S_tlb_Order) : G_tlb_Shoot_L1_R → PS
  | .x0 v_x443 => ⟨[dd, dd, dd, dd, dd, dd, .d (vnil), .d (.v (.int .i64 v_x443)), dd, dd, dd, dd, dd, dd, dd, dd, dd, dd, dd, dd, dd, dd, dd, dd, dd, dd, dd, dd, dd, dd, dd, dd, dd, dd, dd, dd, dd, dd, dd, dd, dd, dd, dd, dd, dd, dd, dd, dd, dd, dd, dd, dd, dd, dd, dd, dd, dd, dd, dd, dd, dd, dd, dd, dd, dd, dd, dd, dd, dd, dd, dd, dd, dd, dd], []⟩
  | .x1 v_w445 => ⟨[.srf 0, dd, dd, dd, dd, dd, dd, dd, dd, dd, dd, dd, dd, dd, dd, dd, dd, dd, dd, dd, dd, dd, dd, dd, dd, dd, dd, dd, dd, dd, dd, dd, dd, dd, dd, dd, dd, dd, dd, dd, dd, dd, dd, dd, dd, dd, dd, dd, dd, dd, dd, dd, dd, dd, dd, dd, dd, dd, dd, dd, dd, dd, dd, dd, dd, dd, dd, dd, dd, dd, dd, dd, dd, dd], [.cu (outC 66 2 nq_S_tlb_Cpu [none, none] (v_w445.map eS_tlb_Cpu)) [.srf 1, .d (.v noB), .d (.v noB)], .cu (bagC nct_S_tlb_Cpu nq_S_tlb_Cpu (v_w445.map eS_tlb_Cpu)) []]⟩
def G_tlb_Shoot_L1_hd (v_by291 : Int) (v_r432 : ((List S_tlb_Cpu))) (v_o292 : S_tlb_Order) (v_x437 : Int) (v_w438 : (List S_tlb_Cpu)) : PS := ⟨[.srf 0, .d (.v (.int .i64 v_by291)), dd, dd, dd, .ref 2 0, dd, dd, dd, dd, dd, dd, dd, dd, dd, dd, dd, dd, dd, dd, dd, dd, dd, dd, dd, dd, dd, dd, dd, dd, dd, dd, dd, .d (.v (.int .i64 (v_r432.length : Int))), .d (.v (.int .i64 v_x437)), dd, dd, dd, dd, dd, dd, dd, dd, dd, dd, dd, dd, dd, dd, dd, dd, dd, dd, dd, dd, dd, dd, dd, dd, dd, dd, dd, dd, dd, dd, dd, dd, dd, dd, dd, dd, dd, dd, dd], [.cu (outC 66 2 nq_S_tlb_Cpu [none, none] (v_w438.map eS_tlb_Cpu)) [.srf 1, .d (.v noB), .d (.v noB)], .cu (bagC nct_S_tlb_Cpu nq_S_tlb_Cpu (v_w438.map eS_tlb_Cpu)) [], .box [.d (.v (.int .i64 v_o292.fSpace)), .d (.v (.int .i64 v_o292.fPage))]]⟩
def G_tlb_Shoot_L1 (n : Nat) (v_by291 : Int) (v_r432 : ((List S_tlb_Cpu))) (v_o292 : S_tlb_Order) : Nat → Int → (List S_tlb_Cpu) → Option G_tlb_Shoot_L1_R
  | 0, _, _ => none
  | k + 1, v_x437, v_w438 =>
    if v_x437 < (v_r432.length : Int) then
     if v_x437 = v_by291 then
      (v_w438[(v_x437).toNat]?).bind fun (v_y440 : S_tlb_Cpu) =>
      if 0 ≤ v_x437 ∧ (v_x437).toNat < v_w438.length then
       if (v_x437).toNat < v_w438.length then
        (G_tlb_forget_h n v_y440.fLines v_o292).bind fun (v_r441 : ((List S_tlb_Line))) =>
        if 0 ≤ v_x437 ∧ (v_x437).toNat < v_w438.length then
         if (v_x437).toNat < v_w438.length then
          G_tlb_Shoot_L1 n v_by291 v_r432 v_o292 k (wi .i64 (v_x437 + 1)) (v_w438.set ((v_x437).toNat) (S_tlb_Cpu.mk v_r441 v_y440.fOrders))
         else none
        else none
       else none
      else none
     else
      if 0 ≤ v_x437 ∧ (v_x437).toNat < v_w438.length then
       (v_w438[(v_x437).toNat]?).bind fun (v_y442 : S_tlb_Cpu) =>
       if (v_y442.fOrders.length : Int) = 4 then
        some (.x0 9)
       else
        if 0 ≤ v_x437 ∧ (v_x437).toNat < v_w438.length then
         if (v_x437).toNat < v_w438.length then
          (app 16 v_y442.fOrders ([v_o292])).bind fun (v_a444 : (List S_tlb_Order)) =>
          if 0 ≤ v_x437 ∧ (v_x437).toNat < v_w438.length then
           if (v_x437).toNat < v_w438.length then
            G_tlb_Shoot_L1 n v_by291 v_r432 v_o292 k (wi .i64 (v_x437 + 1)) (v_w438.set ((v_x437).toNat) (S_tlb_Cpu.mk v_y442.fLines v_a444))
           else none
          else none
         else none
        else none
      else none
    else
     some (.x1 v_w438)
theorem G_tlb_Shoot_L1_ok {Fi : Ex → PS → Prop} (hF : KC 74 Fi) (ks : List Fr) (n : Nat) (v_by291 : Int) (v_r432 : ((List S_tlb_Cpu))) (v_o292 : S_tlb_Order)  : ∀ (k : Nat) (v_x437 : Int) (v_w438 : (List S_tlb_Cpu)) (o : G_tlb_Shoot_L1_R), G_tlb_Shoot_L1 n v_by291 v_r432 v_o292 k v_x437 v_w438 = some o → RunE Try.prog 74 Fi ks (G_tlb_Shoot_L1_ex o) (G_tlb_Shoot_L1_st v_by291 v_r432 v_o292 o) → RunE Try.prog 74 Fi (.l k (cP (cB (cR (cL (cR (cR (cR (cR (bodyOf Try.f24))))))))) :: ks) .normal (G_tlb_Shoot_L1_hd v_by291 v_r432 v_o292 v_x437 v_w438)
  | 0, v_x437, v_w438, o, h, q => by rw [G_tlb_Shoot_L1] at h; cases h
  | k + 1, v_x437, v_w438, o, h, q => by
    rw [G_tlb_Shoot_L1] at h
    by_cases h297 : v_x437 < (v_r432.length : Int)
    · rw [if_pos h297] at h
      by_cases h298 : v_x437 = v_by291
      · rw [if_pos h298] at h
        obtain ⟨v_y440, h300, h⟩ := bind_some h
        by_cases h301 : 0 ≤ v_x437 ∧ (v_x437).toNat < v_w438.length
        · rw [if_pos h301] at h
          by_cases h302 : (v_x437).toNat < v_w438.length
          · rw [if_pos h302] at h
            obtain ⟨v_r441, h303, h⟩ := bind_some h
            by_cases h304 : 0 ≤ v_x437 ∧ (v_x437).toNat < v_w438.length
            · rw [if_pos h304] at h
              by_cases h305 : (v_x437).toNat < v_w438.length
              · rw [if_pos h305] at h
                exact pkk_sound TTok mix hF 20 (hs := [.t true, .t true, .sx [0, 1] (nTakeS 0 1 66 2 (((v_x437).toNat) * 2 + 0) 0 69 3 nct_S_tlb_Cpu nq_S_tlb_Cpu [none, none] (v_w438.map eS_tlb_Cpu) (v_y440.fLines.map eS_tlb_Line) [.srf 1, .d (.v noB), .d (.v noB)]), .e 60 [0] (.ept 0 2 ((v_x437).toNat) 0) [], .e 70 [0] (.srf 38) [], .c, .h [38] [] [.none, .row 69 3 (v_r441.map eS_tlb_Line)] (.srf 1), .e 85 [0] (.ept 0 2 ((v_x437).toNat) 0) [], .e 95 [0] (dd) [(0, .cu (outC 66 2 (minus nq_S_tlb_Cpu (((v_x437).toNat) * 2 + 0)) [some (((v_x437).toNat) * 2 + 0), none] (v_w438.map eS_tlb_Cpu)) [.srf 39, .srf 80, .d (.v noB)])], .dl 3, .sx [0, 39, 80] (nClose 0 39 80 66 2 nct_S_tlb_Cpu nq_S_tlb_Cpu [none, none] ((v_w438.set ((v_x437).toNat) (S_tlb_Cpu.mk v_r441 v_y440.fOrders)).map eS_tlb_Cpu) [.srf 39, .srf 80, .d (.v noB)] 0)]) (ts := []) (s := [0, 110, 2]) (l := [0, 1, 5, 33, 34]) (by kernel_rfl) (by kernel_rfl) (.cons (dt h297) (.cons (bt h298) (.cons (ntakeS (l := 0) (B := 1) (ty := 66) (sz := 2) (i := (v_x437).toNat) (off := 0) (j := 0) (e := 69) (s := 3) (ct := nct_S_tlb_Cpu) (q := nq_S_tlb_Cpu) (hs := [none, none]) (xs := (v_w438.map eS_tlb_Cpu)) (ys := (v_y440.fLines.map eS_tlb_Line)) (fs := [.srf 1, .d (.v noB), .d (.v noB)]) (y := (eS_tlb_Cpu v_y440)) (all_fits (fun _ => rfl)) (get_ob (f := eS_tlb_Cpu) h300) rfl (by simp only [nq_S_tlb_Cpu, minus, plus, qpre, Bool.and_eq_true, Bool.or_eq_true, Bool.not_eq_true', decide_eq_true_eq, decide_eq_false_iff_not, and_true, and_false, true_and, false_and, or_true, or_false, true_or, false_or, not_true_eq_false, not_false_eq_true] <;> omega) rfl rfl (by decide) (by unfold nct_S_tlb_Cpu; rw [if_pos (by omega)]) (by decide)) (.cons (nidx (P := Try.prog) (T := TT) (t := 47) (l := 0) (ty := 66) (sz := 2) (q := (minus nq_S_tlb_Cpu (((v_x437).toNat) * 2 + 0))) (hs := [some (((v_x437).toNat) * 2 + 0), none]) (xs := (v_w438.map eS_tlb_Cpu)) (fs := [.srf 39, .srf 38, .d (.v noB)]) (x := (.tmp 55)) (i := (.tmp 56)) (ik := .i64) (j := v_x437) (by kernel_rfl) h301.1 (by rw [List.length_map]; exact h301.2)) (.cons (nloadH (P := Try.prog) (T := TT) (t := 63) (l := 0) (ty := 66) (sz := 2) (i := (v_x437).toNat) (off := 0) (q := (minus nq_S_tlb_Cpu (((v_x437).toNat) * 2 + 0))) (hs := [some (((v_x437).toNat) * 2 + 0), none]) (xs := (v_w438.map eS_tlb_Cpu)) (fs := [.srf 39, .srf 38, .d (.v noB)]) (x := (.tmp 58)) (j := 0) (f := .srf 38) (by kernel_rfl) (by rw [List.length_map]; omega) (all_fits (fun _ => rfl)) rfl rfl) (.cons (G_tlb_forget_h_ok n v_y440.fLines v_o292 _ h303) (.cons (nidx (P := Try.prog) (T := TT) (t := 47) (l := 0) (ty := 66) (sz := 2) (q := (minus nq_S_tlb_Cpu (((v_x437).toNat) * 2 + 0))) (hs := [some (((v_x437).toNat) * 2 + 0), none]) (xs := (v_w438.map eS_tlb_Cpu)) (fs := [.srf 39, .srf 38, .d (.v noB)]) (x := (.tmp 53)) (i := (.tmp 54)) (ik := .i64) (j := v_x437) (by kernel_rfl) h304.1 (by rw [List.length_map]; exact h304.2)) (.cons (nput (P := Try.prog) (T := TT) (t := 63) (l := 0) (L := 80) (ty := 66) (sz := 2) (i := (v_x437).toNat) (off := 0) (j := 0) (q := (minus nq_S_tlb_Cpu (((v_x437).toNat) * 2 + 0))) (hs := [some (((v_x437).toNat) * 2 + 0), none]) (xs := (v_w438.map eS_tlb_Cpu)) (fs := [.srf 39, .srf 38, .d (.v noB)]) (x := (.tmp 63)) (z := (.tmp 61)) (by kernel_rfl) (by rw [List.length_map]; exact h305) (by decide) (all_fits (fun _ => rfl)) (by rw [Bool.eq_false_iff, ne_eq]; simp only [nq_S_tlb_Cpu, minus, plus, qpre, Bool.and_eq_true, Bool.or_eq_true, Bool.not_eq_true', decide_eq_true_eq, decide_eq_false_iff_not, and_true, and_false, true_and, false_and, or_true, or_false, true_or, false_or, not_true_eq_false, not_false_eq_true] <;> omega) (.inr rfl) (by intro j' hj' h; rcases j' with _ | _ | j' <;> simp at h hj' <;> omega) ⟨_, rfl⟩ (by decide)) (.cons (nclose' (l := 0) (B := 39) (L := 80) (ty := 66) (sz := 2) (i := (v_x437).toNat) (off := 0) (j := 0) (e := 69) (s := 3) (ct := nct_S_tlb_Cpu) (q := (minus nq_S_tlb_Cpu (((v_x437).toNat) * 2 + 0))) (q' := nq_S_tlb_Cpu) (hs := [some (((v_x437).toNat) * 2 + 0), none]) (xs := (v_w438.map eS_tlb_Cpu)) (ys := (v_r441.map eS_tlb_Line)) (fs := [.srf 39, .srf 80, .d (.v noB)]) (y := (eS_tlb_Cpu v_y440)) (y' := (.agg [.sl (v_r441.map eS_tlb_Line), .sl (v_y440.fOrders.map eS_tlb_Order)])) (set_ob (f := eS_tlb_Cpu) (l := v_w438) (k := (v_x437).toNat) (z := (S_tlb_Cpu.mk v_r441 v_y440.fOrders)) (p := .agg [.sl (v_r441.map eS_tlb_Line), .sl (v_y440.fOrders.map eS_tlb_Order)]) rfl) (by decide) (by decide) (by decide) (all_fits (fun _ => rfl)) (get_ob (f := eS_tlb_Cpu) h300) (by decide) rfl rfl (by rw [Bool.eq_false_iff, ne_eq]; simp only [nq_S_tlb_Cpu, minus, plus, qpre, Bool.and_eq_true, Bool.or_eq_true, Bool.not_eq_true', decide_eq_true_eq, decide_eq_false_iff_not, and_true, and_false, true_and, false_and, or_true, or_false, true_or, false_or, not_true_eq_false, not_false_eq_true] <;> omega) rfl (by intro j' hj' h; rcases j' with _ | _ | j' <;> simp at h hj' <;> omega) rfl rfl (by unfold nct_S_tlb_Cpu; rw [if_pos (by omega)]) (by intro k hk; rw [Bool.eq_iff_iff]; simp only [nq_S_tlb_Cpu, minus, plus, qpre, Bool.and_eq_true, Bool.or_eq_true, Bool.not_eq_true', decide_eq_true_eq, decide_eq_false_iff_not, and_true, and_false, true_and, false_and, or_true, or_false, true_or, false_or, not_true_eq_false, not_false_eq_true] <;> omega)) .nil))))))))) (G_tlb_Shoot_L1_ok hF ks n v_by291 v_r432 v_o292 k (wi .i64 (v_x437 + 1)) (v_w438.set ((v_x437).toNat) (S_tlb_Cpu.mk v_r441 v_y440.fOrders)) _ h q)
              · rw [if_neg h305] at h; cases h
            · rw [if_neg h304] at h; cases h
          · rw [if_neg h302] at h; cases h
        · rw [if_neg h301] at h; cases h
      · rw [if_neg h298] at h
        by_cases h306 : 0 ≤ v_x437 ∧ (v_x437).toNat < v_w438.length
        · rw [if_pos h306] at h
          obtain ⟨v_y442, h307, h⟩ := bind_some h
          by_cases h308 : (v_y442.fOrders.length : Int) = 4
          · rw [if_pos h308] at h
            cases h
            exact pkk_sound TTok mix hF 25 (hs := [.t true, .t false, .e 48 [0] (.ept 0 2 ((v_x437).toNat) 0) [], .e 58 [0, 1, 58, 59] (.srf 58) [(1, .none), (58, .row 50 2 (v_y442.fOrders.map eS_tlb_Order)), (59, .cu (bagC nct_S_tlb_Cpu (minus nq_S_tlb_Cpu (((v_x437).toNat) * 2 + 1)) (v_w438.map eS_tlb_Cpu)) []), (0, .cu (outC 66 2 (minus nq_S_tlb_Cpu (((v_x437).toNat) * 2 + 1)) [some (((v_x437).toNat) * 2 + 1), none] (v_w438.map eS_tlb_Cpu)) [.srf 59, .srf 58, .d (.v noB)])], .u (.d (.v (.int .i64 (v_y442.fOrders.length : Int)))), .t true, .dl 7, .sx [0, 59, 58] (nClose 0 59 58 66 2 nct_S_tlb_Cpu nq_S_tlb_Cpu [none, none] (v_w438.map eS_tlb_Cpu) [.srf 59, .srf 58, .d (.v noB)] 0)]) (ts := []) (s := []) (l := [6, 7]) (by kernel_rfl) (by kernel_rfl) (.cons (dt h297) (.cons (bf h298) (.cons (nidx (P := Try.prog) (T := TT) (t := 47) (l := 0) (ty := 66) (sz := 2) (q := nq_S_tlb_Cpu) (hs := [none, none]) (xs := (v_w438.map eS_tlb_Cpu)) (fs := [.srf 1, .d (.v noB), .d (.v noB)]) (x := (.tmp 65)) (i := (.tmp 66)) (ik := .i64) (j := v_x437) (by kernel_rfl) h306.1 (by rw [List.length_map]; exact h306.2)) (.cons (ntake (P := Try.prog) (T := TT) (t := 64) (l := 0) (ty := 66) (sz := 2) (i := (v_x437).toNat) (off := 1) (q := nq_S_tlb_Cpu) (hs := [none, none]) (xs := (v_w438.map eS_tlb_Cpu)) (fs := [.srf 1, .d (.v noB), .d (.v noB)]) (x := (.tmp 68)) (B := 1) (nl := 58) (j := 0) (e := 50) (s := 2) (ct := nct_S_tlb_Cpu) (ys := (v_y442.fOrders.map eS_tlb_Order)) (y := (eS_tlb_Cpu v_y442)) (by kernel_rfl) (all_fits (fun _ => rfl)) (get_ob (f := eS_tlb_Cpu) h307) rfl (by simp only [nq_S_tlb_Cpu, minus, plus, qpre, Bool.and_eq_true, Bool.or_eq_true, Bool.not_eq_true', decide_eq_true_eq, decide_eq_false_iff_not, and_true, and_false, true_and, false_and, or_true, or_false, true_or, false_or, not_true_eq_false, not_false_eq_true] <;> omega) rfl rfl (by decide) (by unfold nct_S_tlb_Cpu; rw [if_neg (by omega)]) (by decide)) (.cons (len_ob (f := eS_tlb_Order) (l := v_y442.fOrders)) (.cons (bt h308) (.cons (nclose_same (l := 0) (B := 59) (L := 58) (ty := 66) (sz := 2) (i := (v_x437).toNat) (off := 1) (j := 0) (e := 50) (s := 2) (ct := nct_S_tlb_Cpu) (q := (minus nq_S_tlb_Cpu (((v_x437).toNat) * 2 + 1))) (q' := nq_S_tlb_Cpu) (hs := [some (((v_x437).toNat) * 2 + 1), none]) (xs := (v_w438.map eS_tlb_Cpu)) (ys := (v_y442.fOrders.map eS_tlb_Order)) (fs := [.srf 59, .srf 58, .d (.v noB)]) (y := (eS_tlb_Cpu v_y442)) (by decide) (by decide) (by decide) (all_fits (fun _ => rfl)) (get_ob (f := eS_tlb_Cpu) h307) (by decide) rfl (by rw [Bool.eq_false_iff, ne_eq]; simp only [nq_S_tlb_Cpu, minus, plus, qpre, Bool.and_eq_true, Bool.or_eq_true, Bool.not_eq_true', decide_eq_true_eq, decide_eq_false_iff_not, and_true, and_false, true_and, false_and, or_true, or_false, true_or, false_or, not_true_eq_false, not_false_eq_true] <;> omega) rfl (by intro j' hj' h; rcases j' with _ | _ | j' <;> simp at h hj' <;> omega) rfl rfl (by unfold nct_S_tlb_Cpu; rw [if_neg (by omega)]) (by intro k hk; rw [Bool.eq_iff_iff]; simp only [nq_S_tlb_Cpu, minus, plus, qpre, Bool.and_eq_true, Bool.or_eq_true, Bool.not_eq_true', decide_eq_true_eq, decide_eq_false_iff_not, and_true, and_false, true_and, false_and, or_true, or_false, true_or, false_or, not_true_eq_false, not_false_eq_true] <;> omega)) .nil))))))) q
          · rw [if_neg h308] at h
            by_cases h309 : 0 ≤ v_x437 ∧ (v_x437).toNat < v_w438.length
            · rw [if_pos h309] at h
              by_cases h310 : (v_x437).toNat < v_w438.length
              · rw [if_pos h310] at h
                obtain ⟨v_a444, h311, h⟩ := bind_some h
                by_cases h312 : 0 ≤ v_x437 ∧ (v_x437).toNat < v_w438.length
                · rw [if_pos h312] at h
                  by_cases h313 : (v_x437).toNat < v_w438.length
                  · rw [if_pos h313] at h
                    exact pkk_sound TTok mix hF 22 (hs := [.t true, .t false, .e 48 [0] (.ept 0 2 ((v_x437).toNat) 0) [], .e 58 [0, 1, 58, 59] (.srf 58) [(1, .none), (58, .row 50 2 (v_y442.fOrders.map eS_tlb_Order)), (59, .cu (bagC nct_S_tlb_Cpu (minus nq_S_tlb_Cpu (((v_x437).toNat) * 2 + 1)) (v_w438.map eS_tlb_Cpu)) []), (0, .cu (outC 66 2 (minus nq_S_tlb_Cpu (((v_x437).toNat) * 2 + 1)) [some (((v_x437).toNat) * 2 + 1), none] (v_w438.map eS_tlb_Cpu)) [.srf 59, .srf 58, .d (.v noB)])], .u (.d (.v (.int .i64 (v_y442.fOrders.length : Int)))), .t false, .e 98 [0] (.ept 0 2 ((v_x437).toNat) 0) [], .e 108 [0] (.srf 58) [], .c, .bd, .w (v_a444.map eS_tlb_Order), .e 128 [0] (.ept 0 2 ((v_x437).toNat) 0) [], .e 138 [0] (dd) [(0, .cu (outC 66 2 (minus nq_S_tlb_Cpu (((v_x437).toNat) * 2 + 1)) [some (((v_x437).toNat) * 2 + 1), none] (v_w438.map eS_tlb_Cpu)) [.srf 59, .srf 123, .d (.v noB)])], .dl 3, .sx [0, 59, 123] (nClose 0 59 123 66 2 nct_S_tlb_Cpu nq_S_tlb_Cpu [none, none] ((v_w438.set ((v_x437).toNat) (S_tlb_Cpu.mk v_y442.fLines v_a444)).map eS_tlb_Cpu) [.srf 59, .srf 123, .d (.v noB)] 0)]) (ts := []) (s := [0, 153, 2]) (l := [0, 1, 5, 33, 34]) (by kernel_rfl) (by kernel_rfl) (.cons (dt h297) (.cons (bf h298) (.cons (nidx (P := Try.prog) (T := TT) (t := 47) (l := 0) (ty := 66) (sz := 2) (q := nq_S_tlb_Cpu) (hs := [none, none]) (xs := (v_w438.map eS_tlb_Cpu)) (fs := [.srf 1, .d (.v noB), .d (.v noB)]) (x := (.tmp 65)) (i := (.tmp 66)) (ik := .i64) (j := v_x437) (by kernel_rfl) h306.1 (by rw [List.length_map]; exact h306.2)) (.cons (ntake (P := Try.prog) (T := TT) (t := 64) (l := 0) (ty := 66) (sz := 2) (i := (v_x437).toNat) (off := 1) (q := nq_S_tlb_Cpu) (hs := [none, none]) (xs := (v_w438.map eS_tlb_Cpu)) (fs := [.srf 1, .d (.v noB), .d (.v noB)]) (x := (.tmp 68)) (B := 1) (nl := 58) (j := 0) (e := 50) (s := 2) (ct := nct_S_tlb_Cpu) (ys := (v_y442.fOrders.map eS_tlb_Order)) (y := (eS_tlb_Cpu v_y442)) (by kernel_rfl) (all_fits (fun _ => rfl)) (get_ob (f := eS_tlb_Cpu) h307) rfl (by simp only [nq_S_tlb_Cpu, minus, plus, qpre, Bool.and_eq_true, Bool.or_eq_true, Bool.not_eq_true', decide_eq_true_eq, decide_eq_false_iff_not, and_true, and_false, true_and, false_and, or_true, or_false, true_or, false_or, not_true_eq_false, not_false_eq_true] <;> omega) rfl rfl (by decide) (by unfold nct_S_tlb_Cpu; rw [if_neg (by omega)]) (by decide)) (.cons (len_ob (f := eS_tlb_Order) (l := v_y442.fOrders)) (.cons (bf h308) (.cons (nidx (P := Try.prog) (T := TT) (t := 47) (l := 0) (ty := 66) (sz := 2) (q := (minus nq_S_tlb_Cpu (((v_x437).toNat) * 2 + 1))) (hs := [some (((v_x437).toNat) * 2 + 1), none]) (xs := (v_w438.map eS_tlb_Cpu)) (fs := [.srf 59, .srf 58, .d (.v noB)]) (x := (.tmp 39)) (i := (.tmp 40)) (ik := .i64) (j := v_x437) (by kernel_rfl) h309.1 (by rw [List.length_map]; exact h309.2)) (.cons (nloadH (P := Try.prog) (T := TT) (t := 64) (l := 0) (ty := 66) (sz := 2) (i := (v_x437).toNat) (off := 1) (q := (minus nq_S_tlb_Cpu (((v_x437).toNat) * 2 + 1))) (hs := [some (((v_x437).toNat) * 2 + 1), none]) (xs := (v_w438.map eS_tlb_Cpu)) (fs := [.srf 59, .srf 58, .d (.v noB)]) (x := (.tmp 42)) (j := 0) (f := .srf 58) (by kernel_rfl) (by rw [List.length_map]; omega) (all_fits (fun _ => rfl)) rfl rfl) (.cons (app_ob (f := eS_tlb_Order) (s := 2) h311 (fun _ => rfl)).1 (.cons (app_ob (f := eS_tlb_Order) (s := 2) h311 (fun _ => rfl)).2.1 (.cons (app_ob (f := eS_tlb_Order) (s := 2) h311 (fun _ => rfl)).2.2.1 (.cons (app_ob (f := eS_tlb_Order) (s := 2) h311 (fun _ => rfl)).2.2.2 (.cons (nidx (P := Try.prog) (T := TT) (t := 47) (l := 0) (ty := 66) (sz := 2) (q := (minus nq_S_tlb_Cpu (((v_x437).toNat) * 2 + 1))) (hs := [some (((v_x437).toNat) * 2 + 1), none]) (xs := (v_w438.map eS_tlb_Cpu)) (fs := [.srf 59, .srf 58, .d (.v noB)]) (x := (.tmp 37)) (i := (.tmp 38)) (ik := .i64) (j := v_x437) (by kernel_rfl) h312.1 (by rw [List.length_map]; exact h312.2)) (.cons (nput (P := Try.prog) (T := TT) (t := 64) (l := 0) (L := 123) (ty := 66) (sz := 2) (i := (v_x437).toNat) (off := 1) (j := 0) (q := (minus nq_S_tlb_Cpu (((v_x437).toNat) * 2 + 1))) (hs := [some (((v_x437).toNat) * 2 + 1), none]) (xs := (v_w438.map eS_tlb_Cpu)) (fs := [.srf 59, .srf 58, .d (.v noB)]) (x := (.tmp 48)) (z := (.tmp 46)) (by kernel_rfl) (by rw [List.length_map]; exact h313) (by decide) (all_fits (fun _ => rfl)) (by rw [Bool.eq_false_iff, ne_eq]; simp only [nq_S_tlb_Cpu, minus, plus, qpre, Bool.and_eq_true, Bool.or_eq_true, Bool.not_eq_true', decide_eq_true_eq, decide_eq_false_iff_not, and_true, and_false, true_and, false_and, or_true, or_false, true_or, false_or, not_true_eq_false, not_false_eq_true] <;> omega) (.inr rfl) (by intro j' hj' h; rcases j' with _ | _ | j' <;> simp at h hj' <;> omega) ⟨_, rfl⟩ (by decide)) (.cons (nclose' (l := 0) (B := 59) (L := 123) (ty := 66) (sz := 2) (i := (v_x437).toNat) (off := 1) (j := 0) (e := 50) (s := 2) (ct := nct_S_tlb_Cpu) (q := (minus nq_S_tlb_Cpu (((v_x437).toNat) * 2 + 1))) (q' := nq_S_tlb_Cpu) (hs := [some (((v_x437).toNat) * 2 + 1), none]) (xs := (v_w438.map eS_tlb_Cpu)) (ys := (v_a444.map eS_tlb_Order)) (fs := [.srf 59, .srf 123, .d (.v noB)]) (y := (eS_tlb_Cpu v_y442)) (y' := (.agg [.sl (v_y442.fLines.map eS_tlb_Line), .sl (v_a444.map eS_tlb_Order)])) (set_ob (f := eS_tlb_Cpu) (l := v_w438) (k := (v_x437).toNat) (z := (S_tlb_Cpu.mk v_y442.fLines v_a444)) (p := .agg [.sl (v_y442.fLines.map eS_tlb_Line), .sl (v_a444.map eS_tlb_Order)]) rfl) (by decide) (by decide) (by decide) (all_fits (fun _ => rfl)) (get_ob (f := eS_tlb_Cpu) h307) (by decide) rfl rfl (by rw [Bool.eq_false_iff, ne_eq]; simp only [nq_S_tlb_Cpu, minus, plus, qpre, Bool.and_eq_true, Bool.or_eq_true, Bool.not_eq_true', decide_eq_true_eq, decide_eq_false_iff_not, and_true, and_false, true_and, false_and, or_true, or_false, true_or, false_or, not_true_eq_false, not_false_eq_true] <;> omega) rfl (by intro j' hj' h; rcases j' with _ | _ | j' <;> simp at h hj' <;> omega) rfl rfl (by unfold nct_S_tlb_Cpu; rw [if_neg (by omega)]) (by intro k hk; rw [Bool.eq_iff_iff]; simp only [nq_S_tlb_Cpu, minus, plus, qpre, Bool.and_eq_true, Bool.or_eq_true, Bool.not_eq_true', decide_eq_true_eq, decide_eq_false_iff_not, and_true, and_false, true_and, false_and, or_true, or_false, true_or, false_or, not_true_eq_false, not_false_eq_true] <;> omega)) .nil))))))))))))))) (G_tlb_Shoot_L1_ok hF ks n v_by291 v_r432 v_o292 k (wi .i64 (v_x437 + 1)) (v_w438.set ((v_x437).toNat) (S_tlb_Cpu.mk v_y442.fLines v_a444)) _ h q)
                  · rw [if_neg h313] at h; cases h
                · rw [if_neg h312] at h; cases h
              · rw [if_neg h310] at h; cases h
            · rw [if_neg h309] at h; cases h
        · rw [if_neg h306] at h; cases h
    · rw [if_neg h297] at h
      cases h
      exact pkk_sound TTok mix hF 8 (hs := [.t false]) (ts := []) (s := [0, 1]) (l := [0]) (by kernel_rfl) (by kernel_rfl) (.cons (df h297) .nil) q
/- ringhall/tlb.Shoot -/
def G_tlb_Shoot (n : Nat) (v_l290 : (List S_tlb_Cpu)) (v_by291 : Int) (v_o292 : S_tlb_Order) : Option ((List S_tlb_Cpu) × Int) :=
  (G_tlb_check n v_l290 v_by291).bind fun (v_r404 : (Int)) =>
  if v_r404 = 0 then
   (G_tlb_right n v_o292.fSpace (maxI v_o292.fPage 0)).bind fun (v_r424 : (Bool)) =>
   if v_r424 = true then
    if v_o292.fPage < (-1) then
     G_tlb_Shoot_J1 n  
    else
     (G_tlb_copied_h n v_l290).bind fun (v_r432 : ((List S_tlb_Cpu))) =>
     (G_tlb_Shoot_L1 n v_by291 v_r432 v_o292 n 0 v_r432).bind fun v_o446 => match v_o446 with
     | .x0 v_z447 =>
       some (([] : (List S_tlb_Cpu)), v_z447)
     | .x1 v_z448 =>
       some (v_z448, 0)
   else
    G_tlb_Shoot_J1 n  
  else
   some (([] : (List S_tlb_Cpu)), v_r404)
theorem G_tlb_Shoot_ok (n : Nat) (v_l290 : (List S_tlb_Cpu)) (v_by291 : Int) (v_o292 : S_tlb_Order) (r : (List S_tlb_Cpu) × Int) (h : G_tlb_Shoot n v_l290 v_by291 v_o292 = some r) : Ret Try.prog 24 [(eL eS_tlb_Cpu) v_l290, (eI .i64) v_by291, eS_tlb_Order v_o292] (.tup [(eL eS_tlb_Cpu) r.1, (eI .i64) r.2]) := by
  refine ret_run (n := 74) (fn := Try.f24) (c := bodyOf Try.f24) (by kernel_rfl) (by kernel_rfl) (by kernel_rfl) (by kernel_rfl) ?_
  have hF : KC 74 (FinR Try.prog Try.f24 (.tup [(eL eS_tlb_Cpu) r.1, (eI .i64) r.2])) := FinR.kc' (by kernel_rfl)
  unfold G_tlb_Shoot at h
  obtain ⟨v_r404, h270, h⟩ := bind_some h
  by_cases h283 : v_r404 = 0
  · rw [if_pos h283] at h
    obtain ⟨v_r424, h284, h⟩ := bind_some h
    by_cases h285 : v_r424 = true
    · rw [if_pos h285] at h
      by_cases h286 : v_o292.fPage < (-1)
      · rw [if_pos h286] at h
        exact pkk_sound TTok mix hF 12 (hs := [.r ((eI .i64) v_r404), .t false, .c, .c, .r (eB v_r424), .t false, .c, .c, .c, .t true]) (ts := []) (s := []) (l := []) (by kernel_rfl) (by kernel_rfl) (.cons (G_tlb_check_ok n v_l290 v_by291 _ h270) (.cons (nf h283) (.cons (G_tlb_right_ok n v_o292.fSpace (maxI v_o292.fPage 0) _ h284) (.cons (bnf h285) (.cons (dt h286) .nil))))) (G_tlb_Shoot_J1_ok n   _ h)
      · rw [if_neg h286] at h
        obtain ⟨v_r432, h287, h⟩ := bind_some h
        obtain ⟨v_o446, h314, h⟩ := bind_some h
        refine pkk_sound TTok mix hF 21 (hs := [.r ((eI .i64) v_r404), .t false, .c, .c, .r (eB v_r424), .t false, .c, .c, .c, .t false, .h [] [] [.cu (outC 66 2 nq_S_tlb_Cpu [none, none] (v_r432.map eS_tlb_Cpu)) [.srf 1, .d (.v noB), .d (.v noB)], .cu (bagC nct_S_tlb_Cpu nq_S_tlb_Cpu (v_r432.map eS_tlb_Cpu)) []] (.srf 0), .e 135 [120] (.d (.v (.int .i64 (v_r432.length : Int)))) [], .n n]) (ts := []) (s := [120, 121, 0]) (l := [0, 1, 5, 33, 34]) (by kernel_rfl) (by kernel_rfl) (.cons (G_tlb_check_ok n v_l290 v_by291 _ h270) (.cons (nf h283) (.cons (G_tlb_right_ok n v_o292.fSpace (maxI v_o292.fPage 0) _ h284) (.cons (bnf h285) (.cons (df h286) (.cons (G_tlb_copied_h_ok n v_l290 _ h287) (.cons (nlen' (P := Try.prog) (T := TT) (t := 47) (l := 120) (ty := 66) (sz := 2) (N := v_r432.length) (q := nq_S_tlb_Cpu) (hs := [none, none]) (xs := (v_r432.map eS_tlb_Cpu)) (fs := [.srf 121, .d (.v noB), .d (.v noB)]) (x := (.tmp 32)) (by simp) (by kernel_rfl)) .nil))))))) (G_tlb_Shoot_L1_ok hF (.b 1 :: .s (cR (cR (cR (cR (cR (bodyOf Try.f24)))))) :: []) n v_by291 v_r432 v_o292 n 0 v_r432 _ h314 ?_)
        cases v_o446 with
        | x0 v_z447 =>
          try dsimp only at h
          obtain rfl := Option.some.inj h
          exact pend_sound TTok mix 2 (hs := []) (by kernel_rfl) (by kernel_rfl) (by kernel_rfl) .nil
        | x1 v_z448 =>
          try dsimp only at h
          obtain rfl := Option.some.inj h
          exact pend_sound TTok mix 5 (hs := [.dl 4, .sx [0, 1] (nFrz 0 1 66 2 (v_z448.map eS_tlb_Cpu))]) (by kernel_rfl) (by kernel_rfl) (by kernel_rfl) (.cons (nfrz (l := 0) (B := 1) (ty := 66) (sz := 2) (ct := nct_S_tlb_Cpu) (q := nq_S_tlb_Cpu) (hs := [none, none]) (xs := (v_z448.map eS_tlb_Cpu)) (fs := [.srf 1, .d (.v noB), .d (.v noB)]) (by decide) (all_fits (fun _ => rfl)) (by intro j k h; rcases j with _ | _ | j <;> simp at h) rfl) .nil)
    · rw [if_neg h285] at h
      exact pkk_sound TTok mix hF 12 (hs := [.r ((eI .i64) v_r404), .t false, .c, .c, .r (eB v_r424), .t true, .c, .c, .c]) (ts := []) (s := []) (l := []) (by kernel_rfl) (by kernel_rfl) (.cons (G_tlb_check_ok n v_l290 v_by291 _ h270) (.cons (nf h283) (.cons (G_tlb_right_ok n v_o292.fSpace (maxI v_o292.fPage 0) _ h284) (.cons (bnt (vf h285)) .nil)))) (G_tlb_Shoot_J1_ok n   _ h)
  · rw [if_neg h283] at h
    obtain rfl := Option.some.inj h
    exact pend_sound TTok mix 14 (hs := [.r ((eI .i64) v_r404), .t true]) (by kernel_rfl) (by kernel_rfl) (by kernel_rfl) (.cons (G_tlb_check_ok n v_l290 v_by291 _ h270) (.cons (nt h283) .nil))
/- slices.Delete[[]ringhall/tlb.Order,ringhall/tlb.Order] -/
def G_slices_Delete_tlb_Order_tlb_Order_h (n : Nat) (v_s486 : (List S_tlb_Order)) (v_i487 : Int) (v_j488 : Int) : Option ((List S_tlb_Order)) :=
  if ((0 : Int) ≤ v_i487 ∧ v_i487 ≤ v_j488 ∧ v_j488 ≤ (v_s486.length : Int) ∧ (v_s486.length : Int) ≤ (v_s486.length : Int)) then
   if v_i487 = v_j488 then
    some v_s486
   else
    if ((0 : Int) ≤ v_i487 ∧ v_i487 ≤ (v_s486.length : Int)) then
     if ((0 : Int) ≤ v_j488 ∧ v_j488 ≤ (v_s486.length : Int)) then
      if v_i487.toNat ≤ v_j488.toNat ∧ v_j488.toNat ≤ v_s486.length ∧ v_s486.length ≤ v_s486.length then
       if ((0 : Int) ≤ (((v_i487.toNat + (v_s486.length - v_j488.toNat)) : Nat) : Int) ∧ (((v_i487.toNat + (v_s486.length - v_j488.toNat)) : Nat) : Int) ≤ (v_s486.length : Int) ∧ (v_s486.length : Int) ≤ ((delR v_s486 v_i487.toNat v_j488.toNat v_s486.length).length : Int)) then
        if ((v_i487.toNat + (v_s486.length - v_j488.toNat)) : Nat) ≤ v_s486.length ∧ v_s486.length ≤ (delR v_s486 v_i487.toNat v_j488.toNat v_s486.length).length then
         if (v_i487.toNat + (v_s486.length - v_j488.toNat)) ≤ (clrR (delR v_s486 v_i487.toNat v_j488.toNat v_s486.length) ((v_i487.toNat + (v_s486.length - v_j488.toNat)) : Nat) v_s486.length (S_tlb_Order.mk 0 0)).length then
          some ((clrR (delR v_s486 v_i487.toNat v_j488.toNat v_s486.length) ((v_i487.toNat + (v_s486.length - v_j488.toNat)) : Nat) v_s486.length (S_tlb_Order.mk 0 0)).take (v_i487.toNat + (v_s486.length - v_j488.toNat)))
         else none
        else none
       else none
      else none
     else none
    else none
  else none
theorem G_slices_Delete_tlb_Order_tlb_Order_h_ok (n : Nat) (v_s486 : (List S_tlb_Order)) (v_i487 : Int) (v_j488 : Int) (r : (List S_tlb_Order)) (h : G_slices_Delete_tlb_Order_tlb_Order_h n v_s486 v_i487 v_j488 = some r) : RetH Try.prog 71 [.srf 0, .d ((eI .i64) v_i487), .d ((eI .i64) v_j488)] [.row 50 2 (v_s486.map eS_tlb_Order)] (.srf 1) [.none, .row 50 2 (r.map eS_tlb_Order)] := by
  refine retH_run (n := 33) (fn := Try.f71) (c := bodyOf Try.f71) (by kernel_rfl) (by kernel_rfl) (by kernel_rfl) (by kernel_rfl) ?_
  have hF : KC 33 (FinH Try.prog Try.f71 [.row 50 2 (v_s486.map eS_tlb_Order)] (.srf 1) [.none, .row 50 2 (r.map eS_tlb_Order)]) := FinH.kc' (by kernel_rfl)
  unfold G_slices_Delete_tlb_Order_tlb_Order_h at h
  by_cases h331 : ((0 : Int) ≤ v_i487 ∧ v_i487 ≤ v_j488 ∧ v_j488 ≤ (v_s486.length : Int) ∧ (v_s486.length : Int) ≤ (v_s486.length : Int))
  · rw [if_pos h331] at h
    by_cases h332 : v_i487 = v_j488
    · rw [if_pos h332] at h
      obtain rfl := Option.some.inj h
      exact pendH_sound TTok mix 13 (hs := [.u (.d (.v (.int .i64 (v_s486.length : Int)))), .e 32 [0] (dd) [], .t true, .dl 4, .mv 0]) [0, 62] (by kernel_rfl) (by kernel_rfl) (by kernel_rfl) (.cons (len_ob (f := eS_tlb_Order) (l := v_s486)) (.cons (xs111 (P := Try.prog) (T := TT) (f := eS_tlb_Order) (t := 64) (e := 50) (s := 2) (l := 0) (L := v_s486) (x := (.tmp 8)) (lo := (.tmp 9)) (hi := (.tmp 10)) (mx := (.tmp 12)) (a := v_i487) (ka := .i64) (b := v_j488) (kb := .i64) (c := (v_s486.length : Int)) (kc := .i64) (by kernel_rfl) h331) (.cons (bt h332) .nil)))
    · rw [if_neg h332] at h
      by_cases h333 : ((0 : Int) ≤ v_i487 ∧ v_i487 ≤ (v_s486.length : Int))
      · rw [if_pos h333] at h
        by_cases h334 : ((0 : Int) ≤ v_j488 ∧ v_j488 ≤ (v_s486.length : Int))
        · rw [if_pos h334] at h
          by_cases h335 : v_i487.toNat ≤ v_j488.toNat ∧ v_j488.toNat ≤ v_s486.length ∧ v_s486.length ≤ v_s486.length
          · rw [if_pos h335] at h
            by_cases h336 : ((0 : Int) ≤ (((v_i487.toNat + (v_s486.length - v_j488.toNat)) : Nat) : Int) ∧ (((v_i487.toNat + (v_s486.length - v_j488.toNat)) : Nat) : Int) ≤ (v_s486.length : Int) ∧ (v_s486.length : Int) ≤ ((delR v_s486 v_i487.toNat v_j488.toNat v_s486.length).length : Int))
            · rw [if_pos h336] at h
              by_cases h337 : ((v_i487.toNat + (v_s486.length - v_j488.toNat)) : Nat) ≤ v_s486.length ∧ v_s486.length ≤ (delR v_s486 v_i487.toNat v_j488.toNat v_s486.length).length
              · rw [if_pos h337] at h
                by_cases h338 : (v_i487.toNat + (v_s486.length - v_j488.toNat)) ≤ (clrR (delR v_s486 v_i487.toNat v_j488.toNat v_s486.length) ((v_i487.toNat + (v_s486.length - v_j488.toNat)) : Nat) v_s486.length (S_tlb_Order.mk 0 0)).length
                · rw [if_pos h338] at h
                  obtain rfl := Option.some.inj h
                  exact pendH_sound TTok mix 18 (hs := [.u (.d (.v (.int .i64 (v_s486.length : Int)))), .e 32 [0] (dd) [], .t false, .u (.d (.v (.int .i64 (v_s486.length : Int)))), .e 77 [0] (.ssl 0 0 v_i487.toNat 2) [], .e 92 [0] (.ssl 0 v_j488.toNat v_s486.length 2) [], .e 97 [0] (.ssl 0 0 (v_i487.toNat + (v_s486.length - v_j488.toNat)) 2) [(0, .row 50 2 ((delR v_s486 v_i487.toNat v_j488.toNat v_s486.length).map eS_tlb_Order))], .e 117 [] (.d (.v (.int .i64 (((v_i487.toNat + (v_s486.length - v_j488.toNat)) : Nat) : Int)))) [], .e 127 [0] (.ssl 0 ((v_i487.toNat + (v_s486.length - v_j488.toNat)) : Nat) v_s486.length 2) [], .e 132 [0] (dd) [(0, .row 50 2 ((clrR (delR v_s486 v_i487.toNat v_j488.toNat v_s486.length) ((v_i487.toNat + (v_s486.length - v_j488.toNat)) : Nat) v_s486.length (S_tlb_Order.mk 0 0)).map eS_tlb_Order))], .e 137 [0, 137] (.srf 137) [(0, .none), (137, .row 50 2 (((clrR (delR v_s486 v_i487.toNat v_j488.toNat v_s486.length) ((v_i487.toNat + (v_s486.length - v_j488.toNat)) : Nat) v_s486.length (S_tlb_Order.mk 0 0)).take (v_i487.toNat + (v_s486.length - v_j488.toNat))).map eS_tlb_Order))]]) [0, 137] (by kernel_rfl) (by kernel_rfl) (by kernel_rfl) (.cons (len_ob (f := eS_tlb_Order) (l := v_s486)) (.cons (xs111 (P := Try.prog) (T := TT) (f := eS_tlb_Order) (t := 64) (e := 50) (s := 2) (l := 0) (L := v_s486) (x := (.tmp 8)) (lo := (.tmp 9)) (hi := (.tmp 10)) (mx := (.tmp 12)) (a := v_i487) (ka := .i64) (b := v_j488) (kb := .i64) (c := (v_s486.length : Int)) (kc := .i64) (by kernel_rfl) h331) (.cons (bf h332) (.cons (len_ob (f := eS_tlb_Order) (l := v_s486)) (.cons (xs01 (P := Try.prog) (T := TT) (f := eS_tlb_Order) (t := 64) (e := 50) (s := 2) (l := 0) (L := v_s486) (x := (.tmp 20)) (hi := (.tmp 21)) (b := v_i487) (kb := .i64) (by kernel_rfl) h333) (.cons (xs10 (P := Try.prog) (T := TT) (f := eS_tlb_Order) (t := 64) (e := 50) (s := 2) (l := 0) (L := v_s486) (x := (.tmp 23)) (lo := (.tmp 24)) (a := v_j488) (ka := .i64) (by kernel_rfl) h334) (.cons (xapp (ti := ⟨2, 16, .st [(0, 3), (1, 3)], [.i .i64, .i .i64]⟩) (P := Try.prog) (T := TT) (f := eS_tlb_Order) (t := 64) (e := 50) (s := 2) (l := 0) (i := v_i487.toNat) (j := v_j488.toNat) (q := v_s486.length) (L := v_s486) (x := (.tmp 22)) (y := (.tmp 25)) (by kernel_rfl) (by kernel_rfl) h335) (.cons (xlen (P := Try.prog) (T := TT) (t := 64) (e := 50) (s := 2) (l := 0) (i := 0) (j := (v_i487.toNat + (v_s486.length - v_j488.toNat))) (x := (.tmp 28)) (by kernel_rfl)) (.cons (xt11 (P := Try.prog) (T := TT) (f := eS_tlb_Order) (t := 64) (e := 50) (s := 2) (l := 0) (L := (delR v_s486 v_i487.toNat v_j488.toNat v_s486.length)) (x := (.tmp 27)) (lo := (.tmp 29)) (hi := (.tmp 30)) (a := (((v_i487.toNat + (v_s486.length - v_j488.toNat)) : Nat) : Int)) (ka := .i64) (b := (v_s486.length : Int)) (kb := .i64) (i := (v_i487.toNat + (v_s486.length - v_j488.toNat))) (by kernel_rfl) h336) (.cons (xclr (ti := ⟨2, 16, .st [(0, 3), (1, 3)], [.i .i64, .i .i64]⟩) (P := Try.prog) (T := TT) (f := eS_tlb_Order) (t := 64) (e := 50) (s := 2) (l := 0) (i := ((v_i487.toNat + (v_s486.length - v_j488.toNat)) : Nat)) (j := v_s486.length) (z := (S_tlb_Order.mk 0 0)) (L := (delR v_s486 v_i487.toNat v_j488.toNat v_s486.length)) (x := (.tmp 31)) (p := .agg [.v (.int .i64 0), .v (.int .i64 0)]) (by kernel_rfl) (by kernel_rfl) (by kernel_rfl) (by kernel_rfl) (by decide) rfl h337) (.cons (xmv (P := Try.prog) (T := TT) (f := eS_tlb_Order) (e := 50) (s := 2) (l := 0) (nl := 137) (L := (clrR (delR v_s486 v_i487.toNat v_j488.toNat v_s486.length) ((v_i487.toNat + (v_s486.length - v_j488.toNat)) : Nat) v_s486.length (S_tlb_Order.mk 0 0))) (i := (v_i487.toNat + (v_s486.length - v_j488.toNat))) (x := (.tmp 0)) h338) .nil)))))))))))
                · rw [if_neg h338] at h; cases h
              · rw [if_neg h337] at h; cases h
            · rw [if_neg h336] at h; cases h
          · rw [if_neg h335] at h; cases h
        · rw [if_neg h334] at h; cases h
      · rw [if_neg h333] at h; cases h
  · rw [if_neg h331] at h; cases h
/- ringhall/tlb.Serve -/
def G_tlb_Serve (n : Nat) (v_l470 : (List S_tlb_Cpu)) (v_cpu471 : Int) : Option ((List S_tlb_Cpu) × Bool × Int) :=
  (G_tlb_check n v_l470 v_cpu471).bind fun (v_r472 : (Int)) =>
  if v_r472 = 0 then
   (G_tlb_copied_h n v_l470).bind fun (v_r481 : ((List S_tlb_Cpu))) =>
   if 0 ≤ v_cpu471 ∧ (v_cpu471).toNat < v_r481.length then
    (v_r481[(v_cpu471).toNat]?).bind fun (v_y482 : S_tlb_Cpu) =>
    if (v_y482.fOrders.length : Int) = 0 then
     some (v_r481, false, 0)
    else
     (v_r481[(v_cpu471).toNat]?).bind fun (v_y483 : S_tlb_Cpu) =>
     if (v_cpu471).toNat < v_r481.length then
      if (v_cpu471).toNat < v_r481.length then
       if 0 ≤ (0 : Int) ∧ ((0 : Int)).toNat < v_y482.fOrders.length then
        (v_y482.fOrders[((0 : Int)).toNat]?).bind fun (v_y484 : S_tlb_Order) =>
        (G_tlb_forget_h n v_y483.fLines v_y484).bind fun (v_r485 : ((List S_tlb_Line))) =>
        if (v_cpu471).toNat < v_r481.length then
         if (v_cpu471).toNat < v_r481.length then
          (G_slices_Delete_tlb_Order_tlb_Order_h n v_y482.fOrders 0 1).bind fun (v_r489 : ((List S_tlb_Order))) =>
          if (v_cpu471).toNat < v_r481.length then
           some (((v_r481.set ((v_cpu471).toNat) (S_tlb_Cpu.mk v_y482.fLines v_r489)).set ((v_cpu471).toNat) (S_tlb_Cpu.mk v_r485 ((S_tlb_Cpu.mk v_y482.fLines v_r489).fOrders))), true, 0)
          else none
         else none
        else none
       else none
      else none
     else none
   else none
  else
   some (([] : (List S_tlb_Cpu)), false, v_r472)
theorem G_tlb_Serve_ok (n : Nat) (v_l470 : (List S_tlb_Cpu)) (v_cpu471 : Int) (r : (List S_tlb_Cpu) × Bool × Int) (h : G_tlb_Serve n v_l470 v_cpu471 = some r) : Ret Try.prog 25 [(eL eS_tlb_Cpu) v_l470, (eI .i64) v_cpu471] (.tup [(eL eS_tlb_Cpu) r.1, eB r.2.1, (eI .i64) r.2.2]) := by
  refine ret_run (n := 50) (fn := Try.f25) (c := bodyOf Try.f25) (by kernel_rfl) (by kernel_rfl) (by kernel_rfl) (by kernel_rfl) ?_
  have hF : KC 50 (FinR Try.prog Try.f25 (.tup [(eL eS_tlb_Cpu) r.1, eB r.2.1, (eI .i64) r.2.2])) := FinR.kc' (by kernel_rfl)
  unfold G_tlb_Serve at h
  obtain ⟨v_r472, h316, h⟩ := bind_some h
  by_cases h318 : v_r472 = 0
  · rw [if_pos h318] at h
    obtain ⟨v_r481, h319, h⟩ := bind_some h
    by_cases h320 : 0 ≤ v_cpu471 ∧ (v_cpu471).toNat < v_r481.length
    · rw [if_pos h320] at h
      obtain ⟨v_y482, h321, h⟩ := bind_some h
      by_cases h322 : (v_y482.fOrders.length : Int) = 0
      · rw [if_pos h322] at h
        obtain rfl := Option.some.inj h
        exact pend_sound TTok mix 23 (hs := [.r ((eI .i64) v_r472), .t false, .h [] [] [.cu (outC 66 2 nq_S_tlb_Cpu [none, none] (v_r481.map eS_tlb_Cpu)) [.srf 1, .d (.v noB), .d (.v noB)], .cu (bagC nct_S_tlb_Cpu nq_S_tlb_Cpu (v_r481.map eS_tlb_Cpu)) []] (.srf 0), .e 70 [50] (.ept 50 2 ((v_cpu471).toNat) 0) [], .e 95 [50, 51, 95, 96] (.srf 95) [(51, .none), (95, .row 50 2 (v_y482.fOrders.map eS_tlb_Order)), (96, .cu (bagC nct_S_tlb_Cpu (minus nq_S_tlb_Cpu (((v_cpu471).toNat) * 2 + 1)) (v_r481.map eS_tlb_Cpu)) []), (50, .cu (outC 66 2 (minus nq_S_tlb_Cpu (((v_cpu471).toNat) * 2 + 1)) [some (((v_cpu471).toNat) * 2 + 1), none] (v_r481.map eS_tlb_Cpu)) [.srf 96, .srf 95, .d (.v noB)])], .u (.d (.v (.int .i64 (v_y482.fOrders.length : Int)))), .t true, .dl 4, .sx [50, 96, 95] (nClose 50 96 95 66 2 nct_S_tlb_Cpu nq_S_tlb_Cpu [none, none] (v_r481.map eS_tlb_Cpu) [.srf 96, .srf 95, .d (.v noB)] 0), .sx [50, 130] (nFrz 50 130 66 2 (v_r481.map eS_tlb_Cpu))]) (by kernel_rfl) (by kernel_rfl) (by kernel_rfl) (.cons (G_tlb_check_ok n v_l470 v_cpu471 _ h316) (.cons (nf h318) (.cons (G_tlb_copied_h_ok n v_l470 _ h319) (.cons (nidx (P := Try.prog) (T := TT) (t := 47) (l := 50) (ty := 66) (sz := 2) (q := nq_S_tlb_Cpu) (hs := [none, none]) (xs := (v_r481.map eS_tlb_Cpu)) (fs := [.srf 51, .d (.v noB), .d (.v noB)]) (x := (.tmp 17)) (i := (.tmp 18)) (ik := .i64) (j := v_cpu471) (by kernel_rfl) h320.1 (by rw [List.length_map]; exact h320.2)) (.cons (ntake (P := Try.prog) (T := TT) (t := 64) (l := 50) (ty := 66) (sz := 2) (i := (v_cpu471).toNat) (off := 1) (q := nq_S_tlb_Cpu) (hs := [none, none]) (xs := (v_r481.map eS_tlb_Cpu)) (fs := [.srf 51, .d (.v noB), .d (.v noB)]) (x := (.tmp 22)) (B := 51) (nl := 95) (j := 0) (e := 50) (s := 2) (ct := nct_S_tlb_Cpu) (ys := (v_y482.fOrders.map eS_tlb_Order)) (y := (eS_tlb_Cpu v_y482)) (by kernel_rfl) (all_fits (fun _ => rfl)) (get_ob (f := eS_tlb_Cpu) h321) rfl (by simp only [nq_S_tlb_Cpu, minus, plus, qpre, Bool.and_eq_true, Bool.or_eq_true, Bool.not_eq_true', decide_eq_true_eq, decide_eq_false_iff_not, and_true, and_false, true_and, false_and, or_true, or_false, true_or, false_or, not_true_eq_false, not_false_eq_true] <;> omega) rfl rfl (by decide) (by unfold nct_S_tlb_Cpu; rw [if_neg (by omega)]) (by decide)) (.cons (len_ob (f := eS_tlb_Order) (l := v_y482.fOrders)) (.cons (bt h322) (.cons (nclose_same (l := 50) (B := 96) (L := 95) (ty := 66) (sz := 2) (i := (v_cpu471).toNat) (off := 1) (j := 0) (e := 50) (s := 2) (ct := nct_S_tlb_Cpu) (q := (minus nq_S_tlb_Cpu (((v_cpu471).toNat) * 2 + 1))) (q' := nq_S_tlb_Cpu) (hs := [some (((v_cpu471).toNat) * 2 + 1), none]) (xs := (v_r481.map eS_tlb_Cpu)) (ys := (v_y482.fOrders.map eS_tlb_Order)) (fs := [.srf 96, .srf 95, .d (.v noB)]) (y := (eS_tlb_Cpu v_y482)) (by decide) (by decide) (by decide) (all_fits (fun _ => rfl)) (get_ob (f := eS_tlb_Cpu) h321) (by decide) rfl (by rw [Bool.eq_false_iff, ne_eq]; simp only [nq_S_tlb_Cpu, minus, plus, qpre, Bool.and_eq_true, Bool.or_eq_true, Bool.not_eq_true', decide_eq_true_eq, decide_eq_false_iff_not, and_true, and_false, true_and, false_and, or_true, or_false, true_or, false_or, not_true_eq_false, not_false_eq_true] <;> omega) rfl (by intro j' hj' h; rcases j' with _ | _ | j' <;> simp at h hj' <;> omega) rfl rfl (by unfold nct_S_tlb_Cpu; rw [if_neg (by omega)]) (by intro k hk; rw [Bool.eq_iff_iff]; simp only [nq_S_tlb_Cpu, minus, plus, qpre, Bool.and_eq_true, Bool.or_eq_true, Bool.not_eq_true', decide_eq_true_eq, decide_eq_false_iff_not, and_true, and_false, true_and, false_and, or_true, or_false, true_or, false_or, not_true_eq_false, not_false_eq_true] <;> omega)) (.cons (nfrz (l := 50) (B := 130) (ty := 66) (sz := 2) (ct := nct_S_tlb_Cpu) (q := nq_S_tlb_Cpu) (hs := [none, none]) (xs := (v_r481.map eS_tlb_Cpu)) (fs := [.srf 130, .d (.v noB), .d (.v noB)]) (by decide) (all_fits (fun _ => rfl)) (by intro j k h; rcases j with _ | _ | j <;> simp at h) rfl) .nil)))))))))
      · rw [if_neg h322] at h
        obtain ⟨v_y483, h323, h⟩ := bind_some h
        by_cases h324 : (v_cpu471).toNat < v_r481.length
        · rw [if_pos h324] at h
          by_cases h325 : (v_cpu471).toNat < v_r481.length
          · rw [if_pos h325] at h
            by_cases h326 : 0 ≤ (0 : Int) ∧ ((0 : Int)).toNat < v_y482.fOrders.length
            · rw [if_pos h326] at h
              obtain ⟨v_y484, h327, h⟩ := bind_some h
              obtain ⟨v_r485, h328, h⟩ := bind_some h
              by_cases h329 : (v_cpu471).toNat < v_r481.length
              · rw [if_pos h329] at h
                by_cases h330 : (v_cpu471).toNat < v_r481.length
                · rw [if_pos h330] at h
                  obtain ⟨v_r489, h339, h⟩ := bind_some h
                  by_cases h340 : (v_cpu471).toNat < v_r481.length
                  · rw [if_pos h340] at h
                    obtain rfl := Option.some.inj h
                    exact pend_sound TTok mix 29 (hs := [.r ((eI .i64) v_r472), .t false, .h [] [] [.cu (outC 66 2 nq_S_tlb_Cpu [none, none] (v_r481.map eS_tlb_Cpu)) [.srf 1, .d (.v noB), .d (.v noB)], .cu (bagC nct_S_tlb_Cpu nq_S_tlb_Cpu (v_r481.map eS_tlb_Cpu)) []] (.srf 0), .e 70 [50] (.ept 50 2 ((v_cpu471).toNat) 0) [], .e 95 [50, 51, 95, 96] (.srf 95) [(51, .none), (95, .row 50 2 (v_y482.fOrders.map eS_tlb_Order)), (96, .cu (bagC nct_S_tlb_Cpu (minus nq_S_tlb_Cpu (((v_cpu471).toNat) * 2 + 1)) (v_r481.map eS_tlb_Cpu)) []), (50, .cu (outC 66 2 (minus nq_S_tlb_Cpu (((v_cpu471).toNat) * 2 + 1)) [some (((v_cpu471).toNat) * 2 + 1), none] (v_r481.map eS_tlb_Cpu)) [.srf 96, .srf 95, .d (.v noB)])], .u (.d (.v (.int .i64 (v_y482.fOrders.length : Int)))), .t false, .dl 2, .sx [50, 96] (nTakeS 50 96 66 2 (((v_cpu471).toNat) * 2 + 0) 1 69 3 nct_S_tlb_Cpu (minus nq_S_tlb_Cpu (((v_cpu471).toNat) * 2 + 1)) [some (((v_cpu471).toNat) * 2 + 1), none] (v_r481.map eS_tlb_Cpu) (v_y483.fLines.map eS_tlb_Line) [.srf 96, .srf 95, .d (.v noB)]), .e 132 [50] (.srf 110) [], .e 152 [50] (.srf 95) [], .y (eS_tlb_Order v_y484), .h [110] [] [.none, .row 69 3 (v_r485.map eS_tlb_Line)] (.srf 1), .e 182 [50] (dd) [(50, .cu (outC 66 2 (minus (minus nq_S_tlb_Cpu (((v_cpu471).toNat) * 2 + 1)) (((v_cpu471).toNat) * 2 + 0)) [some (((v_cpu471).toNat) * 2 + 1), some (((v_cpu471).toNat) * 2 + 0)] (v_r481.map eS_tlb_Cpu)) [.srf 111, .srf 95, .srf 167])], .e 207 [50] (.srf 95) [], .h [95] [] [.none, .row 50 2 (v_r489.map eS_tlb_Order)] (.srf 1), .e 227 [50] (dd) [(50, .cu (outC 66 2 (minus (minus nq_S_tlb_Cpu (((v_cpu471).toNat) * 2 + 1)) (((v_cpu471).toNat) * 2 + 0)) [some (((v_cpu471).toNat) * 2 + 1), some (((v_cpu471).toNat) * 2 + 0)] (v_r481.map eS_tlb_Cpu)) [.srf 111, .srf 212, .srf 167])], .dl 3, .sx [50, 111, 212] (nClose 50 111 212 66 2 nct_S_tlb_Cpu (minus nq_S_tlb_Cpu (((v_cpu471).toNat) * 2 + 0)) [none, some (((v_cpu471).toNat) * 2 + 0)] ((v_r481.set ((v_cpu471).toNat) (S_tlb_Cpu.mk v_y482.fLines v_r489)).map eS_tlb_Cpu) [.srf 111, .srf 212, .srf 167] 0), .sx [50, 252, 167] (nClose 50 252 167 66 2 nct_S_tlb_Cpu nq_S_tlb_Cpu [none, none] (((v_r481.set ((v_cpu471).toNat) (S_tlb_Cpu.mk v_y482.fLines v_r489)).set ((v_cpu471).toNat) (S_tlb_Cpu.mk v_r485 ((S_tlb_Cpu.mk v_y482.fLines v_r489).fOrders))).map eS_tlb_Cpu) [.srf 252, .d (.v noB), .srf 167] 1), .sx [50, 253] (nFrz 50 253 66 2 (((v_r481.set ((v_cpu471).toNat) (S_tlb_Cpu.mk v_y482.fLines v_r489)).set ((v_cpu471).toNat) (S_tlb_Cpu.mk v_r485 ((S_tlb_Cpu.mk v_y482.fLines v_r489).fOrders))).map eS_tlb_Cpu))]) (by kernel_rfl) (by kernel_rfl) (by kernel_rfl) (.cons (G_tlb_check_ok n v_l470 v_cpu471 _ h316) (.cons (nf h318) (.cons (G_tlb_copied_h_ok n v_l470 _ h319) (.cons (nidx (P := Try.prog) (T := TT) (t := 47) (l := 50) (ty := 66) (sz := 2) (q := nq_S_tlb_Cpu) (hs := [none, none]) (xs := (v_r481.map eS_tlb_Cpu)) (fs := [.srf 51, .d (.v noB), .d (.v noB)]) (x := (.tmp 17)) (i := (.tmp 18)) (ik := .i64) (j := v_cpu471) (by kernel_rfl) h320.1 (by rw [List.length_map]; exact h320.2)) (.cons (ntake (P := Try.prog) (T := TT) (t := 64) (l := 50) (ty := 66) (sz := 2) (i := (v_cpu471).toNat) (off := 1) (q := nq_S_tlb_Cpu) (hs := [none, none]) (xs := (v_r481.map eS_tlb_Cpu)) (fs := [.srf 51, .d (.v noB), .d (.v noB)]) (x := (.tmp 22)) (B := 51) (nl := 95) (j := 0) (e := 50) (s := 2) (ct := nct_S_tlb_Cpu) (ys := (v_y482.fOrders.map eS_tlb_Order)) (y := (eS_tlb_Cpu v_y482)) (by kernel_rfl) (all_fits (fun _ => rfl)) (get_ob (f := eS_tlb_Cpu) h321) rfl (by simp only [nq_S_tlb_Cpu, minus, plus, qpre, Bool.and_eq_true, Bool.or_eq_true, Bool.not_eq_true', decide_eq_true_eq, decide_eq_false_iff_not, and_true, and_false, true_and, false_and, or_true, or_false, true_or, false_or, not_true_eq_false, not_false_eq_true] <;> omega) rfl rfl (by decide) (by unfold nct_S_tlb_Cpu; rw [if_neg (by omega)]) (by decide)) (.cons (len_ob (f := eS_tlb_Order) (l := v_y482.fOrders)) (.cons (bf h322) (.cons (ntakeS (l := 50) (B := 96) (ty := 66) (sz := 2) (i := (v_cpu471).toNat) (off := 0) (j := 1) (e := 69) (s := 3) (ct := nct_S_tlb_Cpu) (q := (minus nq_S_tlb_Cpu (((v_cpu471).toNat) * 2 + 1))) (hs := [some (((v_cpu471).toNat) * 2 + 1), none]) (xs := (v_r481.map eS_tlb_Cpu)) (ys := (v_y483.fLines.map eS_tlb_Line)) (fs := [.srf 96, .srf 95, .d (.v noB)]) (y := (eS_tlb_Cpu v_y483)) (all_fits (fun _ => rfl)) (get_ob (f := eS_tlb_Cpu) h323) rfl (by simp only [nq_S_tlb_Cpu, minus, plus, qpre, Bool.and_eq_true, Bool.or_eq_true, Bool.not_eq_true', decide_eq_true_eq, decide_eq_false_iff_not, and_true, and_false, true_and, false_and, or_true, or_false, true_or, false_or, not_true_eq_false, not_false_eq_true] <;> omega) rfl rfl (by decide) (by unfold nct_S_tlb_Cpu; rw [if_pos (by omega)]) (by decide)) (.cons (nloadH (P := Try.prog) (T := TT) (t := 63) (l := 50) (ty := 66) (sz := 2) (i := (v_cpu471).toNat) (off := 0) (q := (minus (minus nq_S_tlb_Cpu (((v_cpu471).toNat) * 2 + 1)) (((v_cpu471).toNat) * 2 + 0))) (hs := [some (((v_cpu471).toNat) * 2 + 1), some (((v_cpu471).toNat) * 2 + 0)]) (xs := (v_r481.map eS_tlb_Cpu)) (fs := [.srf 111, .srf 95, .srf 110]) (x := (.tmp 30)) (j := 1) (f := .srf 110) (by kernel_rfl) (by rw [List.length_map]; omega) (all_fits (fun _ => rfl)) rfl rfl) (.cons (nloadH (P := Try.prog) (T := TT) (t := 64) (l := 50) (ty := 66) (sz := 2) (i := (v_cpu471).toNat) (off := 1) (q := (minus (minus nq_S_tlb_Cpu (((v_cpu471).toNat) * 2 + 1)) (((v_cpu471).toNat) * 2 + 0))) (hs := [some (((v_cpu471).toNat) * 2 + 1), some (((v_cpu471).toNat) * 2 + 0)]) (xs := (v_r481.map eS_tlb_Cpu)) (fs := [.srf 111, .srf 95, .srf 110]) (x := (.tmp 34)) (j := 0) (f := .srf 95) (by kernel_rfl) (by rw [List.length_map]; omega) (all_fits (fun _ => rfl)) rfl rfl) (.cons (idx_ob (f := eS_tlb_Order) h326) (.cons (get_ob (f := eS_tlb_Order) h327) (.cons (G_tlb_forget_h_ok n v_y483.fLines v_y484 _ h328) (.cons (nput (P := Try.prog) (T := TT) (t := 63) (l := 50) (L := 167) (ty := 66) (sz := 2) (i := (v_cpu471).toNat) (off := 0) (j := 1) (q := (minus (minus nq_S_tlb_Cpu (((v_cpu471).toNat) * 2 + 1)) (((v_cpu471).toNat) * 2 + 0))) (hs := [some (((v_cpu471).toNat) * 2 + 1), some (((v_cpu471).toNat) * 2 + 0)]) (xs := (v_r481.map eS_tlb_Cpu)) (fs := [.srf 111, .srf 95, .srf 110]) (x := (.tmp 40)) (z := (.tmp 38)) (by kernel_rfl) (by rw [List.length_map]; exact h329) (by decide) (all_fits (fun _ => rfl)) (by rw [Bool.eq_false_iff, ne_eq]; simp only [nq_S_tlb_Cpu, minus, plus, qpre, Bool.and_eq_true, Bool.or_eq_true, Bool.not_eq_true', decide_eq_true_eq, decide_eq_false_iff_not, and_true, and_false, true_and, false_and, or_true, or_false, true_or, false_or, not_true_eq_false, not_false_eq_true] <;> omega) (.inr rfl) (by intro j' hj' h; rcases j' with _ | _ | j' <;> simp at h hj' <;> omega) ⟨_, rfl⟩ (by decide)) (.cons (nloadH (P := Try.prog) (T := TT) (t := 64) (l := 50) (ty := 66) (sz := 2) (i := (v_cpu471).toNat) (off := 1) (q := (minus (minus nq_S_tlb_Cpu (((v_cpu471).toNat) * 2 + 1)) (((v_cpu471).toNat) * 2 + 0))) (hs := [some (((v_cpu471).toNat) * 2 + 1), some (((v_cpu471).toNat) * 2 + 0)]) (xs := (v_r481.map eS_tlb_Cpu)) (fs := [.srf 111, .srf 95, .srf 167]) (x := (.tmp 44)) (j := 0) (f := .srf 95) (by kernel_rfl) (by rw [List.length_map]; omega) (all_fits (fun _ => rfl)) rfl rfl) (.cons (G_slices_Delete_tlb_Order_tlb_Order_h_ok n v_y482.fOrders 0 1 _ h339) (.cons (nput (P := Try.prog) (T := TT) (t := 64) (l := 50) (L := 212) (ty := 66) (sz := 2) (i := (v_cpu471).toNat) (off := 1) (j := 0) (q := (minus (minus nq_S_tlb_Cpu (((v_cpu471).toNat) * 2 + 1)) (((v_cpu471).toNat) * 2 + 0))) (hs := [some (((v_cpu471).toNat) * 2 + 1), some (((v_cpu471).toNat) * 2 + 0)]) (xs := (v_r481.map eS_tlb_Cpu)) (fs := [.srf 111, .srf 95, .srf 167]) (x := (.tmp 48)) (z := (.tmp 46)) (by kernel_rfl) (by rw [List.length_map]; exact h340) (by decide) (all_fits (fun _ => rfl)) (by rw [Bool.eq_false_iff, ne_eq]; simp only [nq_S_tlb_Cpu, minus, plus, qpre, Bool.and_eq_true, Bool.or_eq_true, Bool.not_eq_true', decide_eq_true_eq, decide_eq_false_iff_not, and_true, and_false, true_and, false_and, or_true, or_false, true_or, false_or, not_true_eq_false, not_false_eq_true] <;> omega) (.inr rfl) (by intro j' hj' h; rcases j' with _ | _ | j' <;> simp at h hj' <;> omega) ⟨_, rfl⟩ (by decide)) (.cons (nclose' (l := 50) (B := 111) (L := 212) (ty := 66) (sz := 2) (i := (v_cpu471).toNat) (off := 1) (j := 0) (e := 50) (s := 2) (ct := nct_S_tlb_Cpu) (q := (minus (minus nq_S_tlb_Cpu (((v_cpu471).toNat) * 2 + 1)) (((v_cpu471).toNat) * 2 + 0))) (q' := (minus nq_S_tlb_Cpu (((v_cpu471).toNat) * 2 + 0))) (hs := [some (((v_cpu471).toNat) * 2 + 1), some (((v_cpu471).toNat) * 2 + 0)]) (xs := (v_r481.map eS_tlb_Cpu)) (ys := (v_r489.map eS_tlb_Order)) (fs := [.srf 111, .srf 212, .srf 167]) (y := (eS_tlb_Cpu v_y482)) (y' := (.agg [.sl (v_y482.fLines.map eS_tlb_Line), .sl (v_r489.map eS_tlb_Order)])) (set_ob (f := eS_tlb_Cpu) (l := v_r481) (k := (v_cpu471).toNat) (z := (S_tlb_Cpu.mk v_y482.fLines v_r489)) (p := .agg [.sl (v_y482.fLines.map eS_tlb_Line), .sl (v_r489.map eS_tlb_Order)]) rfl) (by decide) (by decide) (by decide) (all_fits (fun _ => rfl)) (get_ob (f := eS_tlb_Cpu) h321) (by decide) rfl rfl (by rw [Bool.eq_false_iff, ne_eq]; simp only [nq_S_tlb_Cpu, minus, plus, qpre, Bool.and_eq_true, Bool.or_eq_true, Bool.not_eq_true', decide_eq_true_eq, decide_eq_false_iff_not, and_true, and_false, true_and, false_and, or_true, or_false, true_or, false_or, not_true_eq_false, not_false_eq_true] <;> omega) rfl (by intro j' hj' h; rcases j' with _ | _ | j' <;> simp at h hj' <;> omega) rfl rfl (by unfold nct_S_tlb_Cpu; rw [if_neg (by omega)]) (by intro k hk; rw [Bool.eq_iff_iff]; simp only [nq_S_tlb_Cpu, minus, plus, qpre, Bool.and_eq_true, Bool.or_eq_true, Bool.not_eq_true', decide_eq_true_eq, decide_eq_false_iff_not, and_true, and_false, true_and, false_and, or_true, or_false, true_or, false_or, not_true_eq_false, not_false_eq_true] <;> omega)) (.cons (nclose' (l := 50) (B := 252) (L := 167) (ty := 66) (sz := 2) (i := (v_cpu471).toNat) (off := 0) (j := 1) (e := 69) (s := 3) (ct := nct_S_tlb_Cpu) (q := (minus nq_S_tlb_Cpu (((v_cpu471).toNat) * 2 + 0))) (q' := nq_S_tlb_Cpu) (hs := [none, some (((v_cpu471).toNat) * 2 + 0)]) (xs := ((v_r481.set ((v_cpu471).toNat) (S_tlb_Cpu.mk v_y482.fLines v_r489)).map eS_tlb_Cpu)) (ys := (v_r485.map eS_tlb_Line)) (fs := [.srf 252, .d (.v noB), .srf 167]) (y := (eS_tlb_Cpu (S_tlb_Cpu.mk v_y482.fLines v_r489))) (y' := (.agg [.sl (v_r485.map eS_tlb_Line), .sl (((S_tlb_Cpu.mk v_y482.fLines v_r489).fOrders).map eS_tlb_Order)])) (set_ob (f := eS_tlb_Cpu) (l := (v_r481.set ((v_cpu471).toNat) (S_tlb_Cpu.mk v_y482.fLines v_r489))) (k := (v_cpu471).toNat) (z := (S_tlb_Cpu.mk v_r485 ((S_tlb_Cpu.mk v_y482.fLines v_r489).fOrders))) (p := .agg [.sl (v_r485.map eS_tlb_Line), .sl (((S_tlb_Cpu.mk v_y482.fLines v_r489).fOrders).map eS_tlb_Order)]) rfl) (by decide) (by decide) (by decide) (all_fits (fun _ => rfl)) (get_ob (f := eS_tlb_Cpu) (get_set h321)) (by decide) rfl rfl (by rw [Bool.eq_false_iff, ne_eq]; simp only [nq_S_tlb_Cpu, minus, plus, qpre, Bool.and_eq_true, Bool.or_eq_true, Bool.not_eq_true', decide_eq_true_eq, decide_eq_false_iff_not, and_true, and_false, true_and, false_and, or_true, or_false, true_or, false_or, not_true_eq_false, not_false_eq_true] <;> omega) rfl (by intro j' hj' h; rcases j' with _ | _ | j' <;> simp at h hj' <;> omega) rfl rfl (by unfold nct_S_tlb_Cpu; rw [if_pos (by omega)]) (by intro k hk; rw [Bool.eq_iff_iff]; simp only [nq_S_tlb_Cpu, minus, plus, qpre, Bool.and_eq_true, Bool.or_eq_true, Bool.not_eq_true', decide_eq_true_eq, decide_eq_false_iff_not, and_true, and_false, true_and, false_and, or_true, or_false, true_or, false_or, not_true_eq_false, not_false_eq_true] <;> omega)) (.cons (nfrz (l := 50) (B := 253) (ty := 66) (sz := 2) (ct := nct_S_tlb_Cpu) (q := nq_S_tlb_Cpu) (hs := [none, none]) (xs := (((v_r481.set ((v_cpu471).toNat) (S_tlb_Cpu.mk v_y482.fLines v_r489)).set ((v_cpu471).toNat) (S_tlb_Cpu.mk v_r485 ((S_tlb_Cpu.mk v_y482.fLines v_r489).fOrders))).map eS_tlb_Cpu)) (fs := [.srf 253, .d (.v noB), .d (.v noB)]) (by decide) (all_fits (fun _ => rfl)) (by intro j k h; rcases j with _ | _ | j <;> simp at h) rfl) .nil))))))))))))))))))))
                  · rw [if_neg h340] at h; cases h
                · rw [if_neg h330] at h; cases h
              · rw [if_neg h329] at h; cases h
            · rw [if_neg h326] at h; cases h
          · rw [if_neg h325] at h; cases h
        · rw [if_neg h324] at h; cases h
    · rw [if_neg h320] at h; cases h
  · rw [if_neg h318] at h
    obtain rfl := Option.some.inj h
    exact pend_sound TTok mix 12 (hs := [.r ((eI .i64) v_r472), .t true]) (by kernel_rfl) (by kernel_rfl) (by kernel_rfl) (.cons (G_tlb_check_ok n v_l470 v_cpu471 _ h316) (.cons (nt h318) .nil))
inductive G_slices_IndexFunc_tlb_Cpu_tlb_Cpu_L1_R where
  | x0 (v_x539 : Int)
  | x1 
def G_slices_IndexFunc_tlb_Cpu_tlb_Cpu_L1_ex : G_slices_IndexFunc_tlb_Cpu_tlb_Cpu_L1_R → Ex
  | .x0 _ => .ret
  | .x1  => .exit 0
def G_slices_IndexFunc_tlb_Cpu_tlb_Cpu_L1_st (v_s529 : (List S_tlb_Cpu)) (v_f530 : (S_tlb_Cpu → Option (Bool))) (v_f530_g : FuncId) (v_f530_c : (List PV)) : G_slices_IndexFunc_tlb_Cpu_tlb_Cpu_L1_R → PS
  | .x0 v_x539 => ⟨[dd, dd, dd, dd, .d (.v (.int .i64 v_x539)), dd, dd, dd, dd, dd, dd, dd, dd, dd, dd, dd, dd, dd, dd], []⟩
  | .x1  => ⟨[dd, dd, dd, dd, dd, dd, dd, dd, dd, dd, dd, dd, dd, dd, dd, dd, dd, dd, dd], []⟩
def G_slices_IndexFunc_tlb_Cpu_tlb_Cpu_L1_hd (v_s529 : (List S_tlb_Cpu)) (v_f530 : (S_tlb_Cpu → Option (Bool))) (v_f530_g : FuncId) (v_f530_c : (List PV)) (v_x533 : Int) : PS := ⟨[.d (.sl (v_s529.map eS_tlb_Cpu)), .d (.clo v_f530_g v_f530_c), dd, dd, dd, dd, dd, .d (.v (.int .i64 (v_s529.length : Int))), .d (.v (.int .i64 v_x533)), dd, dd, dd, dd, dd, dd, dd, dd, dd, dd], []⟩
def G_slices_IndexFunc_tlb_Cpu_tlb_Cpu_L1 (n : Nat) (v_s529 : (List S_tlb_Cpu)) (v_f530 : (S_tlb_Cpu → Option (Bool))) : Nat → Int → Option G_slices_IndexFunc_tlb_Cpu_tlb_Cpu_L1_R
  | 0, _ => none
  | k + 1, v_x533 =>
    if v_x533 < (v_s529.length : Int) then
     (getI v_s529 v_x533).bind fun (v_y537 : S_tlb_Cpu) =>
     (v_f530 v_y537).bind fun (v_r538 : (Bool)) =>
     if v_r538 = true then
      some (.x0 v_x533)
     else
      G_slices_IndexFunc_tlb_Cpu_tlb_Cpu_L1 n v_s529 v_f530 k (wi .i64 (v_x533 + 1))
    else
     some (.x1 )
theorem G_slices_IndexFunc_tlb_Cpu_tlb_Cpu_L1_ok {Fi : Ex → PS → Prop} (hF : KC 19 Fi) (ks : List Fr) (n : Nat) (v_s529 : (List S_tlb_Cpu)) (v_f530 : (S_tlb_Cpu → Option (Bool))) (v_f530_g : FuncId) (v_f530_c : (List PV)) (v_f530_h : ∀ (x0 : S_tlb_Cpu) (r : Bool), v_f530 x0 = some r → Ret Try.prog v_f530_g ([eS_tlb_Cpu x0] ++ v_f530_c) (eB r)) : ∀ (k : Nat) (v_x533 : Int) (o : G_slices_IndexFunc_tlb_Cpu_tlb_Cpu_L1_R), G_slices_IndexFunc_tlb_Cpu_tlb_Cpu_L1 n v_s529 v_f530 k v_x533 = some o → RunE Try.prog 19 Fi ks (G_slices_IndexFunc_tlb_Cpu_tlb_Cpu_L1_ex o) (G_slices_IndexFunc_tlb_Cpu_tlb_Cpu_L1_st v_s529 v_f530 v_f530_g v_f530_c o) → RunE Try.prog 19 Fi (.l k (cP (cB (cR (cL (cR (bodyOf Try.f101)))))) :: ks) .normal (G_slices_IndexFunc_tlb_Cpu_tlb_Cpu_L1_hd v_s529 v_f530 v_f530_g v_f530_c v_x533)
  | 0, v_x533, o, h, q => by rw [G_slices_IndexFunc_tlb_Cpu_tlb_Cpu_L1] at h; cases h
  | k + 1, v_x533, o, h, q => by
    rw [G_slices_IndexFunc_tlb_Cpu_tlb_Cpu_L1] at h
    by_cases h345 : v_x533 < (v_s529.length : Int)
    · rw [if_pos h345] at h
      obtain ⟨v_y537, h349, h⟩ := bind_some h
      obtain ⟨v_r538, h350, h⟩ := bind_some h
      by_cases h351 : v_r538 = true
      · rw [if_pos h351] at h
        cases h
        exact pkk_sound TTok mix hF 19 (hs := [.t true, .y (eS_tlb_Cpu v_y537), .r (eB v_r538), .t true]) (ts := []) (s := []) (l := [4]) (by kernel_rfl) (by kernel_rfl) (.cons (dt h345) (.cons (getI_ob (f := eS_tlb_Cpu) h349) (.cons (v_f530_h v_y537 _ h350) (.cons h351 .nil)))) q
      · rw [if_neg h351] at h
        exact pkk_sound TTok mix hF 16 (hs := [.t true, .y (eS_tlb_Cpu v_y537), .r (eB v_r538), .t false]) (ts := []) (s := []) (l := [0, 1, 7, 8]) (by kernel_rfl) (by kernel_rfl) (.cons (dt h345) (.cons (getI_ob (f := eS_tlb_Cpu) h349) (.cons (v_f530_h v_y537 _ h350) (.cons (vf h351) .nil)))) (G_slices_IndexFunc_tlb_Cpu_tlb_Cpu_L1_ok hF ks n v_s529 v_f530 v_f530_g v_f530_c v_f530_h k (wi .i64 (v_x533 + 1)) _ h q)
    · rw [if_neg h345] at h
      cases h
      exact pkk_sound TTok mix hF 8 (hs := [.t false]) (ts := []) (s := []) (l := []) (by kernel_rfl) (by kernel_rfl) (.cons (df h345) .nil) q
/- slices.IndexFunc[[]ringhall/tlb.Cpu,ringhall/tlb.Cpu] -/
def G_slices_IndexFunc_tlb_Cpu_tlb_Cpu (n : Nat) (v_s529 : (List S_tlb_Cpu)) (v_f530 : (S_tlb_Cpu → Option (Bool))) : Option (Int) :=
  (G_slices_IndexFunc_tlb_Cpu_tlb_Cpu_L1 n v_s529 v_f530 n 0).bind fun v_o540 => match v_o540 with
  | .x0 v_z541 =>
    some v_z541
  | .x1  =>
    some (-1)
theorem G_slices_IndexFunc_tlb_Cpu_tlb_Cpu_ok (n : Nat) (v_s529 : (List S_tlb_Cpu)) (v_f530 : (S_tlb_Cpu → Option (Bool))) (v_f530_g : FuncId) (v_f530_c : List PV) (v_f530_h : ∀ (x0 : S_tlb_Cpu) (r : Bool), v_f530 x0 = some r → Ret Try.prog v_f530_g ([eS_tlb_Cpu x0] ++ v_f530_c) (eB r)) (r : Int) (h : G_slices_IndexFunc_tlb_Cpu_tlb_Cpu n v_s529 v_f530 = some r) : Ret Try.prog 101 [(eL eS_tlb_Cpu) v_s529, (.clo v_f530_g v_f530_c)] ((eI .i64) r) := by
  refine ret_run (n := 19) (fn := Try.f101) (c := bodyOf Try.f101) (by kernel_rfl) (by kernel_rfl) (by kernel_rfl) (by kernel_rfl) ?_
  have hF : KC 19 (FinR Try.prog Try.f101 ((eI .i64) r)) := FinR.kc' (by kernel_rfl)
  unfold G_slices_IndexFunc_tlb_Cpu_tlb_Cpu at h
  obtain ⟨v_o540, h352, h⟩ := bind_some h
  refine pkk_sound TTok mix hF 7 (hs := [.u (.d (.v (.int .i64 (v_s529.length : Int)))), .n n]) (ts := []) (s := []) (l := [0, 1, 7, 8]) (by kernel_rfl) (by kernel_rfl) (.cons (len_ob (f := eS_tlb_Cpu) (l := v_s529)) .nil) (G_slices_IndexFunc_tlb_Cpu_tlb_Cpu_L1_ok hF (.b 0 :: .s (cR (cR (bodyOf Try.f101))) :: []) n v_s529 v_f530 v_f530_g v_f530_c v_f530_h n 0 _ h352 ?_)
  cases v_o540 with
  | x0 v_z541 =>
    try dsimp only at h
    obtain rfl := Option.some.inj h
    exact pend_sound TTok mix 2 (hs := []) (by kernel_rfl) (by kernel_rfl) (by kernel_rfl) .nil
  | x1  =>
    try dsimp only at h
    obtain rfl := Option.some.inj h
    exact pend_sound TTok mix 4 (hs := []) (by kernel_rfl) (by kernel_rfl) (by kernel_rfl) .nil
/- slices.ContainsFunc[[]ringhall/tlb.Cpu,ringhall/tlb.Cpu] -/
def G_slices_ContainsFunc_tlb_Cpu_tlb_Cpu (n : Nat) (v_s527 : (List S_tlb_Cpu)) (v_f528 : (S_tlb_Cpu → Option (Bool))) : Option (Bool) :=
  (G_slices_IndexFunc_tlb_Cpu_tlb_Cpu n v_s527 v_f528).bind fun (v_r542 : (Int)) =>
  some (decide (v_r542 ≥ 0))
theorem G_slices_ContainsFunc_tlb_Cpu_tlb_Cpu_ok (n : Nat) (v_s527 : (List S_tlb_Cpu)) (v_f528 : (S_tlb_Cpu → Option (Bool))) (v_f528_g : FuncId) (v_f528_c : List PV) (v_f528_h : ∀ (x0 : S_tlb_Cpu) (r : Bool), v_f528 x0 = some r → Ret Try.prog v_f528_g ([eS_tlb_Cpu x0] ++ v_f528_c) (eB r)) (r : Bool) (h : G_slices_ContainsFunc_tlb_Cpu_tlb_Cpu n v_s527 v_f528 = some r) : Ret Try.prog 72 [(eL eS_tlb_Cpu) v_s527, (.clo v_f528_g v_f528_c)] (eB r) := by
  refine ret_run (n := 9) (fn := Try.f72) (c := bodyOf Try.f72) (by kernel_rfl) (by kernel_rfl) (by kernel_rfl) (by kernel_rfl) ?_
  have hF : KC 9 (FinR Try.prog Try.f72 (eB r)) := FinR.kc' (by kernel_rfl)
  unfold G_slices_ContainsFunc_tlb_Cpu_tlb_Cpu at h
  obtain ⟨v_r542, h353, h⟩ := bind_some h
  obtain rfl := Option.some.inj h
  exact pend_sound TTok mix 5 (hs := [.r ((eI .i64) v_r542)]) (by kernel_rfl) (by kernel_rfl) (by kernel_rfl) (.cons (G_slices_IndexFunc_tlb_Cpu_tlb_Cpu_ok n v_s527 v_f528 v_f528_g v_f528_c v_f528_h _ h353) .nil)
inductive G_slices_Index_tlb_Order_tlb_Order_L1_R where
  | x0 (v_x560 : Int)
  | x1 
def G_slices_Index_tlb_Order_tlb_Order_L1_ex : G_slices_Index_tlb_Order_tlb_Order_L1_R → Ex
  | .x0 _ => .ret
  | .x1  => .exit 0
def G_slices_Index_tlb_Order_tlb_Order_L1_st (v_s547 : (List S_tlb_Order)) (v_v548 : S_tlb_Order) : G_slices_Index_tlb_Order_tlb_Order_L1_R → PS
  | .x0 v_x560 => ⟨[dd, dd, dd, dd, .d (.v (.int .i64 v_x560)), dd, dd, dd, dd, dd, dd, dd, dd, dd, dd, dd, dd, dd, dd], []⟩
  | .x1  => ⟨[dd, dd, dd, dd, dd, dd, dd, dd, dd, dd, dd, dd, dd, dd, dd, dd, dd, dd, dd], []⟩
def G_slices_Index_tlb_Order_tlb_Order_L1_hd (v_s547 : (List S_tlb_Order)) (v_v548 : S_tlb_Order) (v_x556 : Int) : PS := ⟨[.d (.sl (v_s547.map eS_tlb_Order)), dd, dd, .ref 0 0, dd, dd, dd, .d (.v (.int .i64 (v_s547.length : Int))), .d (.v (.int .i64 v_x556)), dd, dd, dd, dd, dd, dd, dd, dd, dd, dd], [.box [.d (.v (.int .i64 v_v548.fSpace)), .d (.v (.int .i64 v_v548.fPage))]]⟩
def G_slices_Index_tlb_Order_tlb_Order_L1 (n : Nat) (v_s547 : (List S_tlb_Order)) (v_v548 : S_tlb_Order) : Nat → Int → Option G_slices_Index_tlb_Order_tlb_Order_L1_R
  | 0, _ => none
  | k + 1, v_x556 =>
    if v_x556 < (v_s547.length : Int) then
     (getI v_s547 v_x556).bind fun (v_y559 : S_tlb_Order) =>
     if (eqRes .eql (eqS_tlb_Order v_v548 v_y559)) = true then
      some (.x0 v_x556)
     else
      G_slices_Index_tlb_Order_tlb_Order_L1 n v_s547 v_v548 k (wi .i64 (v_x556 + 1))
    else
     some (.x1 )
theorem G_slices_Index_tlb_Order_tlb_Order_L1_ok {Fi : Ex → PS → Prop} (hF : KC 19 Fi) (ks : List Fr) (n : Nat) (v_s547 : (List S_tlb_Order)) (v_v548 : S_tlb_Order)  : ∀ (k : Nat) (v_x556 : Int) (o : G_slices_Index_tlb_Order_tlb_Order_L1_R), G_slices_Index_tlb_Order_tlb_Order_L1 n v_s547 v_v548 k v_x556 = some o → RunE Try.prog 19 Fi ks (G_slices_Index_tlb_Order_tlb_Order_L1_ex o) (G_slices_Index_tlb_Order_tlb_Order_L1_st v_s547 v_v548 o) → RunE Try.prog 19 Fi (.l k (cP (cB (cR (cL (cR (bodyOf Try.f74)))))) :: ks) .normal (G_slices_Index_tlb_Order_tlb_Order_L1_hd v_s547 v_v548 v_x556)
  | 0, v_x556, o, h, q => by rw [G_slices_Index_tlb_Order_tlb_Order_L1] at h; cases h
  | k + 1, v_x556, o, h, q => by
    rw [G_slices_Index_tlb_Order_tlb_Order_L1] at h
    by_cases h354 : v_x556 < (v_s547.length : Int)
    · rw [if_pos h354] at h
      obtain ⟨v_y559, h357, h⟩ := bind_some h
      by_cases h358 : (eqRes .eql (eqS_tlb_Order v_v548 v_y559)) = true
      · rw [if_pos h358] at h
        cases h
        exact pkk_sound TTok mix hF 19 (hs := [.t true, .c, .y (eS_tlb_Order v_y559), .q (eqS_tlb_Order v_v548 v_y559), .t true]) (ts := []) (s := []) (l := [4]) (by kernel_rfl) (by kernel_rfl) (.cons (dt h354) (.cons (getI_ob (f := eS_tlb_Order) h357) (.cons (eqS_tlb_Order_ok v_v548 v_y559) (.cons h358 .nil)))) q
      · rw [if_neg h358] at h
        exact pkk_sound TTok mix hF 16 (hs := [.t true, .c, .y (eS_tlb_Order v_y559), .q (eqS_tlb_Order v_v548 v_y559), .t false]) (ts := []) (s := [0]) (l := [0, 3, 7, 8]) (by kernel_rfl) (by kernel_rfl) (.cons (dt h354) (.cons (getI_ob (f := eS_tlb_Order) h357) (.cons (eqS_tlb_Order_ok v_v548 v_y559) (.cons (vf h358) .nil)))) (G_slices_Index_tlb_Order_tlb_Order_L1_ok hF ks n v_s547 v_v548 k (wi .i64 (v_x556 + 1)) _ h q)
    · rw [if_neg h354] at h
      cases h
      exact pkk_sound TTok mix hF 8 (hs := [.t false]) (ts := []) (s := []) (l := []) (by kernel_rfl) (by kernel_rfl) (.cons (df h354) .nil) q
/- slices.Index[[]ringhall/tlb.Order,ringhall/tlb.Order] -/
def G_slices_Index_tlb_Order_tlb_Order (n : Nat) (v_s547 : (List S_tlb_Order)) (v_v548 : S_tlb_Order) : Option (Int) :=
  (G_slices_Index_tlb_Order_tlb_Order_L1 n v_s547 v_v548 n 0).bind fun v_o561 => match v_o561 with
  | .x0 v_z562 =>
    some v_z562
  | .x1  =>
    some (-1)
theorem G_slices_Index_tlb_Order_tlb_Order_ok (n : Nat) (v_s547 : (List S_tlb_Order)) (v_v548 : S_tlb_Order) (r : Int) (h : G_slices_Index_tlb_Order_tlb_Order n v_s547 v_v548 = some r) : Ret Try.prog 74 [(eL eS_tlb_Order) v_s547, eS_tlb_Order v_v548] ((eI .i64) r) := by
  refine ret_run (n := 19) (fn := Try.f74) (c := bodyOf Try.f74) (by kernel_rfl) (by kernel_rfl) (by kernel_rfl) (by kernel_rfl) ?_
  have hF : KC 19 (FinR Try.prog Try.f74 ((eI .i64) r)) := FinR.kc' (by kernel_rfl)
  unfold G_slices_Index_tlb_Order_tlb_Order at h
  obtain ⟨v_o561, h359, h⟩ := bind_some h
  refine pkk_sound TTok mix hF 7 (hs := [.u (.d (.v (.int .i64 (v_s547.length : Int)))), .n n]) (ts := []) (s := [0]) (l := [0, 3, 7, 8]) (by kernel_rfl) (by kernel_rfl) (.cons (len_ob (f := eS_tlb_Order) (l := v_s547)) .nil) (G_slices_Index_tlb_Order_tlb_Order_L1_ok hF (.b 0 :: .s (cR (cR (bodyOf Try.f74))) :: []) n v_s547 v_v548 n 0 _ h359 ?_)
  cases v_o561 with
  | x0 v_z562 =>
    try dsimp only at h
    obtain rfl := Option.some.inj h
    exact pend_sound TTok mix 2 (hs := []) (by kernel_rfl) (by kernel_rfl) (by kernel_rfl) .nil
  | x1  =>
    try dsimp only at h
    obtain rfl := Option.some.inj h
    exact pend_sound TTok mix 4 (hs := []) (by kernel_rfl) (by kernel_rfl) (by kernel_rfl) .nil
/- slices.Contains[[]ringhall/tlb.Order,ringhall/tlb.Order] -/
def G_slices_Contains_tlb_Order_tlb_Order (n : Nat) (v_s545 : (List S_tlb_Order)) (v_v546 : S_tlb_Order) : Option (Bool) :=
  (G_slices_Index_tlb_Order_tlb_Order n v_s545 v_v546).bind fun (v_r563 : (Int)) =>
  some (decide (v_r563 ≥ 0))
theorem G_slices_Contains_tlb_Order_tlb_Order_ok (n : Nat) (v_s545 : (List S_tlb_Order)) (v_v546 : S_tlb_Order) (r : Bool) (h : G_slices_Contains_tlb_Order_tlb_Order n v_s545 v_v546 = some r) : Ret Try.prog 30 [(eL eS_tlb_Order) v_s545, eS_tlb_Order v_v546] (eB r) := by
  refine ret_run (n := 9) (fn := Try.f30) (c := bodyOf Try.f30) (by kernel_rfl) (by kernel_rfl) (by kernel_rfl) (by kernel_rfl) ?_
  have hF : KC 9 (FinR Try.prog Try.f30 (eB r)) := FinR.kc' (by kernel_rfl)
  unfold G_slices_Contains_tlb_Order_tlb_Order at h
  obtain ⟨v_r563, h360, h⟩ := bind_some h
  obtain rfl := Option.some.inj h
  exact pend_sound TTok mix 5 (hs := [.c, .r ((eI .i64) v_r563)]) (by kernel_rfl) (by kernel_rfl) (by kernel_rfl) (.cons (G_slices_Index_tlb_Order_tlb_Order_ok n v_s545 v_v546 _ h360) .nil)
/- ringhall/tlb.Done$1 -/
def G_tlb_Done_1 (n : Nat) (v_c543 : S_tlb_Cpu) (v_c544 : S_tlb_Order) : Option (Bool) :=
  (G_slices_Contains_tlb_Order_tlb_Order n v_c543.fOrders v_c544).bind fun (v_r564 : (Bool)) =>
  some v_r564
theorem G_tlb_Done_1_ok (n : Nat) (v_c543 : S_tlb_Cpu) (v_c544 : S_tlb_Order) (r : Bool) (h : G_tlb_Done_1 n v_c543 v_c544 = some r) : Ret Try.prog 73 [eS_tlb_Cpu v_c543, .iptr [.v (.int .i64 v_c544.fSpace), .v (.int .i64 v_c544.fPage)] 0] (eB r) := by
  refine ret_run (n := 8) (fn := Try.f73) (c := bodyOf Try.f73) (by kernel_rfl) (by kernel_rfl) (by kernel_rfl) (by kernel_rfl) ?_
  have hF : KC 8 (FinR Try.prog Try.f73 (eB r)) := FinR.kc' (by kernel_rfl)
  unfold G_tlb_Done_1 at h
  obtain ⟨v_r564, h361, h⟩ := bind_some h
  obtain rfl := Option.some.inj h
  exact pend_sound TTok mix 5 (hs := [.c, .r (eB v_r564)]) (by kernel_rfl) (by kernel_rfl) (by kernel_rfl) (.cons (G_slices_Contains_tlb_Order_tlb_Order_ok n v_c543.fOrders v_c544 _ h361) .nil)
/- ringhall/tlb.Done -/
def G_tlb_Done (n : Nat) (v_l517 : (List S_tlb_Cpu)) (v_o518 : S_tlb_Order) : Option (Bool × Int) :=
  (G_tlb_Check n v_l517).bind fun (v_r522 : (Int)) =>
  if v_r522 = 0 then
   (G_slices_ContainsFunc_tlb_Cpu_tlb_Cpu n v_l517 (fun (y0 : S_tlb_Cpu) => G_tlb_Done_1 n y0 v_o518)).bind fun (v_r565 : (Bool)) =>
   some ((!v_r565), 0)
  else
   some (false, v_r522)
theorem G_tlb_Done_ok (n : Nat) (v_l517 : (List S_tlb_Cpu)) (v_o518 : S_tlb_Order) (r : Bool × Int) (h : G_tlb_Done n v_l517 v_o518 = some r) : Ret Try.prog 26 [(eL eS_tlb_Cpu) v_l517, eS_tlb_Order v_o518] (.tup [eB r.1, (eI .i64) r.2]) := by
  refine ret_run (n := 16) (fn := Try.f26) (c := bodyOf Try.f26) (by kernel_rfl) (by kernel_rfl) (by kernel_rfl) (by kernel_rfl) ?_
  have hF : KC 16 (FinR Try.prog Try.f26 (.tup [eB r.1, (eI .i64) r.2])) := FinR.kc' (by kernel_rfl)
  unfold G_tlb_Done at h
  obtain ⟨v_r522, h342, h⟩ := bind_some h
  by_cases h344 : v_r522 = 0
  · rw [if_pos h344] at h
    obtain ⟨v_r565, h362, h⟩ := bind_some h
    obtain rfl := Option.some.inj h
    exact pend_sound TTok mix 12 (hs := [.r ((eI .i64) v_r522), .t false, .c, .r (eB v_r565)]) (by kernel_rfl) (by kernel_rfl) (by kernel_rfl) (.cons (G_tlb_Check_ok n v_l517 _ h342) (.cons (nf h344) (.cons (G_slices_ContainsFunc_tlb_Cpu_tlb_Cpu_ok n v_l517 (fun (y0 : S_tlb_Cpu) => G_tlb_Done_1 n y0 v_o518) 73 [.iptr [.v (.int .i64 v_o518.fSpace), .v (.int .i64 v_o518.fPage)] 0] (fun y0 r h => G_tlb_Done_1_ok n y0 v_o518 r h) _ h362) .nil)))
  · rw [if_neg h344] at h
    obtain rfl := Option.some.inj h
    exact pend_sound TTok mix 12 (hs := [.r ((eI .i64) v_r522), .t true]) (by kernel_rfl) (by kernel_rfl) (by kernel_rfl) (.cons (G_tlb_Check_ok n v_l517 _ h342) (.cons (nt h344) .nil))
/- ringhall/ringref2.In -/
def G_ringref2_In (n : Nat) (v_n612 : Int) (v_least613 : Int) (v_most614 : Int) : Option (Bool) :=
  if v_n612 ≥ v_least613 then
   some (decide (v_n612 ≤ v_most614))
  else
   some false
theorem G_ringref2_In_ok (n : Nat) (v_n612 : Int) (v_least613 : Int) (v_most614 : Int) (r : Bool) (h : G_ringref2_In n v_n612 v_least613 v_most614 = some r) : Ret Try.prog 14 [(eI .i64) v_n612, (eI .i64) v_least613, (eI .i64) v_most614] (eB r) := by
  refine ret_run (n := 15) (fn := Try.f14) (c := bodyOf Try.f14) (by kernel_rfl) (by kernel_rfl) (by kernel_rfl) (by kernel_rfl) ?_
  have hF : KC 15 (FinR Try.prog Try.f14 (eB r)) := FinR.kc' (by kernel_rfl)
  unfold G_ringref2_In at h
  by_cases h364 : v_n612 ≥ v_least613
  · rw [if_pos h364] at h
    obtain rfl := Option.some.inj h
    exact pend_sound TTok mix 5 (hs := [.t true, .c, .c]) (by kernel_rfl) (by kernel_rfl) (by kernel_rfl) (.cons (dt h364) .nil)
  · rw [if_neg h364] at h
    obtain rfl := Option.some.inj h
    exact pend_sound TTok mix 5 (hs := [.t false, .c, .c]) (by kernel_rfl) (by kernel_rfl) (by kernel_rfl) (.cons (df h364) .nil)
inductive G_ringref2_TlbSame_C1_R where
  | x0 (v_x632 : Bool)
def G_ringref2_TlbSame_C1_ex : G_ringref2_TlbSame_C1_R → Ex
  | .x0 _ => .normal
def G_ringref2_TlbSame_C1_st (v_a618 : (List S_tlb_Cpu)) (v_b619 : (List S_tlb_Cpu)) (v_x623 : Int) : G_ringref2_TlbSame_C1_R → PS
  | .x0 v_x632 => ⟨[.d (.sl (v_a618.map eS_tlb_Cpu)), .d (.sl (v_b619.map eS_tlb_Cpu)), dd, dd, dd, .d (.v (.int .i64 v_x623)), dd, dd, dd, dd, dd, dd, dd, dd, .d (.v (.int .i64 (v_a618.length : Int))), .d (.v (.int .i64 v_x623)), dd, dd, dd, dd, dd, dd, dd, dd, dd, dd, dd, dd, dd, dd, dd, dd, dd, dd, dd, dd, dd, dd, dd, dd, dd, dd, dd, dd, dd, .d (.v (.bool v_x632)), dd, dd, dd, dd, dd, dd, dd, dd, dd, dd, dd, dd, dd, dd, dd, dd, dd, dd, dd, dd, dd, dd, dd, dd, dd, dd, dd, dd, dd, dd, dd, dd, dd, dd, dd, dd, dd, dd, dd, dd, dd, dd, dd, dd, dd, dd, dd, dd, dd, dd, dd, dd, dd, dd, dd], []⟩
def G_ringref2_TlbSame_C1_hd (v_a618 : (List S_tlb_Cpu)) (v_b619 : (List S_tlb_Cpu)) (v_x623 : Int)  : PS := ⟨[.d (.sl (v_a618.map eS_tlb_Cpu)), .d (.sl (v_b619.map eS_tlb_Cpu)), dd, dd, dd, .d (.v (.int .i64 v_x623)), dd, dd, dd, dd, dd, dd, dd, dd, .d (.v (.int .i64 (v_a618.length : Int))), .d (.v (.int .i64 v_x623)), dd, dd, dd, dd, dd, dd, dd, dd, dd, dd, dd, dd, dd, dd, dd, dd, dd, dd, dd, dd, dd, dd, dd, dd, dd, dd, dd, dd, dd, dd, dd, dd, dd, dd, dd, dd, dd, dd, dd, dd, dd, dd, dd, dd, dd, dd, dd, dd, dd, dd, dd, dd, dd, dd, dd, dd, dd, dd, dd, dd, dd, dd, dd, dd, dd, dd, dd, dd, dd, dd, dd, dd, dd, dd, dd, dd, dd, dd, dd, dd, dd, dd, dd, dd, dd], []⟩
def G_ringref2_TlbSame_C1 (n : Nat) (v_a618 : (List S_tlb_Cpu)) (v_b619 : (List S_tlb_Cpu)) (v_x623 : Int) : Option G_ringref2_TlbSame_C1_R :=
  (getI v_a618 v_x623).bind fun (v_y630 : S_tlb_Cpu) =>
  (getI v_b619 v_x623).bind fun (v_y631 : S_tlb_Cpu) =>
  if (v_y630.fLines.length : Int) = (v_y631.fLines.length : Int) then
   (getI v_a618 v_x623).bind fun (v_y633 : S_tlb_Cpu) =>
   (getI v_b619 v_x623).bind fun (v_y634 : S_tlb_Cpu) =>
   some (.x0 ((v_y633.fOrders.length : Int) != (v_y634.fOrders.length : Int)))
  else
   some (.x0 true)
theorem G_ringref2_TlbSame_C1_ok {Fi : Ex → PS → Prop} (hF : KC 101 Fi) (ks : List Fr) (n : Nat) (v_a618 : (List S_tlb_Cpu)) (v_b619 : (List S_tlb_Cpu)) (v_x623 : Int)  (o : G_ringref2_TlbSame_C1_R) (h : G_ringref2_TlbSame_C1 n v_a618 v_b619 v_x623 = some o) (q : RunE Try.prog 101 Fi ks (G_ringref2_TlbSame_C1_ex o) (G_ringref2_TlbSame_C1_st v_a618 v_b619 v_x623 o)) : RunE Try.prog 101 Fi (.s (cL (cL (cR (cB (cL (cR (cR (cP (cB (cR (cL (cR (cR (bodyOf Try.f27)))))))))))))) :: ks) .normal (G_ringref2_TlbSame_C1_hd v_a618 v_b619 v_x623) := by
  unfold G_ringref2_TlbSame_C1 at h
  obtain ⟨v_y630, h379, h⟩ := bind_some h
  obtain ⟨v_y631, h380, h⟩ := bind_some h
  by_cases h381 : (v_y630.fLines.length : Int) = (v_y631.fLines.length : Int)
  · rw [if_pos h381] at h
    obtain ⟨v_y633, h382, h⟩ := bind_some h
    obtain ⟨v_y634, h383, h⟩ := bind_some h
    cases h
    exact pkk_sound TTok mix hF 1 (hs := [.y (eS_tlb_Cpu v_y630), .c, .u (.d (.v (.int .i64 (v_y630.fLines.length : Int)))), .y (eS_tlb_Cpu v_y631), .c, .u (.d (.v (.int .i64 (v_y631.fLines.length : Int)))), .t false, .c, .c, .y (eS_tlb_Cpu v_y633), .c, .c, .c, .c, .u (.d (.v (.int .i64 (v_y633.fOrders.length : Int)))), .c, .c, .c, .y (eS_tlb_Cpu v_y634), .c, .c, .c, .c, .u (.d (.v (.int .i64 (v_y634.fOrders.length : Int)))), .c]) (ts := []) (s := []) (l := [0, 1, 5, 14, 15, 45]) (by kernel_rfl) (by kernel_rfl) (.cons (getI_ob (f := eS_tlb_Cpu) h379) (.cons (len_ob (f := eS_tlb_Line) (l := v_y630.fLines)) (.cons (getI_ob (f := eS_tlb_Cpu) h380) (.cons (len_ob (f := eS_tlb_Line) (l := v_y631.fLines)) (.cons (nf h381) (.cons (getI_ob (f := eS_tlb_Cpu) h382) (.cons (len_ob (f := eS_tlb_Order) (l := v_y633.fOrders)) (.cons (getI_ob (f := eS_tlb_Cpu) h383) (.cons (len_ob (f := eS_tlb_Order) (l := v_y634.fOrders)) .nil))))))))) q
  · rw [if_neg h381] at h
    cases h
    exact pkk_sound TTok mix hF 1 (hs := [.y (eS_tlb_Cpu v_y630), .c, .u (.d (.v (.int .i64 (v_y630.fLines.length : Int)))), .y (eS_tlb_Cpu v_y631), .c, .u (.d (.v (.int .i64 (v_y631.fLines.length : Int)))), .t true, .c, .c, .c, .c, .c, .c, .c, .c, .c, .c, .c, .c]) (ts := []) (s := []) (l := [0, 1, 5, 14, 15, 45]) (by kernel_rfl) (by kernel_rfl) (.cons (getI_ob (f := eS_tlb_Cpu) h379) (.cons (len_ob (f := eS_tlb_Line) (l := v_y630.fLines)) (.cons (getI_ob (f := eS_tlb_Cpu) h380) (.cons (len_ob (f := eS_tlb_Line) (l := v_y631.fLines)) (.cons (nt h381) .nil))))) q
inductive G_ringref2_TlbSame_L2_R where
  | x0 (v_x650 : Bool)
  | x1 
def G_ringref2_TlbSame_L2_ex : G_ringref2_TlbSame_L2_R → Ex
  | .x0 _ => .ret
  | .x1  => .exit 2
def G_ringref2_TlbSame_L2_st (v_a618 : (List S_tlb_Cpu)) (v_b619 : (List S_tlb_Cpu)) (v_x623 : Int) (v_y639 : S_tlb_Cpu) : G_ringref2_TlbSame_L2_R → PS
  | .x0 v_x650 => ⟨[dd, dd, dd, dd, .d (.v (.bool v_x650)), dd, dd, dd, dd, dd, dd, dd, dd, dd, dd, dd, dd, dd, dd, dd, dd, dd, dd, dd, dd, dd, dd, dd, dd, dd, dd, dd, dd, dd, dd, dd, dd, dd, dd, dd, dd, dd, dd, dd, dd, dd, dd, dd, dd, dd, dd, dd, dd, dd, dd, dd, dd, dd, dd, dd, dd, dd, dd, dd, dd, dd, dd, dd, dd, dd, dd, dd, dd, dd, dd, dd, dd, dd, dd, dd, dd, dd, dd, dd, dd, dd, dd, dd, dd, dd, dd, dd, dd, dd, dd, dd, dd, dd, dd, dd, dd], []⟩
  | .x1  => ⟨[.d (.sl (v_a618.map eS_tlb_Cpu)), .d (.sl (v_b619.map eS_tlb_Cpu)), dd, dd, dd, .d (.v (.int .i64 v_x623)), dd, dd, dd, dd, dd, dd, dd, dd, .d (.v (.int .i64 (v_a618.length : Int))), .d (.v (.int .i64 v_x623)), dd, dd, dd, dd, dd, dd, dd, dd, dd, dd, dd, dd, dd, dd, dd, dd, dd, dd, dd, dd, dd, dd, dd, dd, dd, dd, dd, dd, dd, dd, dd, dd, dd, dd, dd, dd, dd, dd, dd, dd, dd, dd, dd, dd, dd, dd, dd, dd, dd, dd, dd, dd, dd, dd, dd, dd, dd, dd, dd, dd, dd, dd, dd, dd, dd, dd, dd, dd, dd, dd, dd, dd, dd, dd, dd, dd, dd, dd, dd, dd, dd, dd, dd, dd, dd], []⟩
def G_ringref2_TlbSame_L2_hd (v_a618 : (List S_tlb_Cpu)) (v_b619 : (List S_tlb_Cpu)) (v_x623 : Int) (v_y639 : S_tlb_Cpu) (v_x640 : Int) : PS := ⟨[.d (.sl (v_a618.map eS_tlb_Cpu)), .d (.sl (v_b619.map eS_tlb_Cpu)), dd, dd, dd, .d (.v (.int .i64 v_x623)), dd, dd, dd, dd, dd, dd, dd, dd, .d (.v (.int .i64 (v_a618.length : Int))), .d (.v (.int .i64 v_x623)), dd, dd, dd, dd, dd, dd, dd, dd, dd, dd, dd, dd, dd, dd, dd, dd, dd, dd, dd, dd, dd, dd, dd, dd, dd, dd, dd, dd, dd, dd, dd, dd, dd, dd, dd, .d (.v (.int .i64 (v_y639.fLines.length : Int))), .d (.v (.int .i64 v_x640)), dd, dd, dd, dd, dd, dd, dd, dd, dd, dd, dd, dd, dd, dd, dd, dd, dd, dd, dd, dd, dd, dd, dd, dd, dd, dd, dd, dd, dd, dd, dd, dd, dd, dd, dd, dd, dd, dd, dd, dd, dd, dd, dd, dd, dd, dd, dd, dd], []⟩
def G_ringref2_TlbSame_L2 (n : Nat) (v_a618 : (List S_tlb_Cpu)) (v_b619 : (List S_tlb_Cpu)) (v_x623 : Int) (v_y639 : S_tlb_Cpu) : Nat → Int → Option G_ringref2_TlbSame_L2_R
  | 0, _ => none
  | k + 1, v_x640 =>
    if v_x640 < (v_y639.fLines.length : Int) then
     (getI v_a618 v_x623).bind fun (v_y646 : S_tlb_Cpu) =>
     (getI v_y646.fLines v_x640).bind fun (v_y647 : S_tlb_Line) =>
     (getI v_b619 v_x623).bind fun (v_y648 : S_tlb_Cpu) =>
     (getI v_y648.fLines v_x640).bind fun (v_y649 : S_tlb_Line) =>
     if (eqRes .neq (eqS_tlb_Line v_y647 v_y649)) = true then
      some (.x0 false)
     else
      G_ringref2_TlbSame_L2 n v_a618 v_b619 v_x623 v_y639 k (wi .i64 (v_x640 + 1))
    else
     some (.x1 )
theorem G_ringref2_TlbSame_L2_ok {Fi : Ex → PS → Prop} (hF : KC 101 Fi) (ks : List Fr) (n : Nat) (v_a618 : (List S_tlb_Cpu)) (v_b619 : (List S_tlb_Cpu)) (v_x623 : Int) (v_y639 : S_tlb_Cpu)  : ∀ (k : Nat) (v_x640 : Int) (o : G_ringref2_TlbSame_L2_R), G_ringref2_TlbSame_L2 n v_a618 v_b619 v_x623 v_y639 k v_x640 = some o → RunE Try.prog 101 Fi ks (G_ringref2_TlbSame_L2_ex o) (G_ringref2_TlbSame_L2_st v_a618 v_b619 v_x623 v_y639 o) → RunE Try.prog 101 Fi (.l k (cP (cB (cR (cL (cR (cR (cB (cL (cR (cR (cP (cB (cR (cL (cR (cR (bodyOf Try.f27))))))))))))))))) :: ks) .normal (G_ringref2_TlbSame_L2_hd v_a618 v_b619 v_x623 v_y639 v_x640)
  | 0, v_x640, o, h, q => by rw [G_ringref2_TlbSame_L2] at h; cases h
  | k + 1, v_x640, o, h, q => by
    rw [G_ringref2_TlbSame_L2] at h
    by_cases h387 : v_x640 < (v_y639.fLines.length : Int)
    · rw [if_pos h387] at h
      obtain ⟨v_y646, h393, h⟩ := bind_some h
      obtain ⟨v_y647, h394, h⟩ := bind_some h
      obtain ⟨v_y648, h395, h⟩ := bind_some h
      obtain ⟨v_y649, h396, h⟩ := bind_some h
      by_cases h397 : (eqRes .neq (eqS_tlb_Line v_y647 v_y649)) = true
      · rw [if_pos h397] at h
        cases h
        exact pkk_sound TTok mix hF 19 (hs := [.t true, .y (eS_tlb_Cpu v_y646), .c, .y (eS_tlb_Line v_y647), .y (eS_tlb_Cpu v_y648), .c, .y (eS_tlb_Line v_y649), .q (eqS_tlb_Line v_y647 v_y649), .t true]) (ts := []) (s := []) (l := [4]) (by kernel_rfl) (by kernel_rfl) (.cons (dt h387) (.cons (getI_ob (f := eS_tlb_Cpu) h393) (.cons (getI_ob (f := eS_tlb_Line) h394) (.cons (getI_ob (f := eS_tlb_Cpu) h395) (.cons (getI_ob (f := eS_tlb_Line) h396) (.cons (eqS_tlb_Line_ok v_y647 v_y649) (.cons h397 .nil))))))) q
      · rw [if_neg h397] at h
        exact pkk_sound TTok mix hF 16 (hs := [.t true, .y (eS_tlb_Cpu v_y646), .c, .y (eS_tlb_Line v_y647), .y (eS_tlb_Cpu v_y648), .c, .y (eS_tlb_Line v_y649), .q (eqS_tlb_Line v_y647 v_y649), .t false]) (ts := []) (s := []) (l := [0, 1, 5, 14, 15, 51, 52]) (by kernel_rfl) (by kernel_rfl) (.cons (dt h387) (.cons (getI_ob (f := eS_tlb_Cpu) h393) (.cons (getI_ob (f := eS_tlb_Line) h394) (.cons (getI_ob (f := eS_tlb_Cpu) h395) (.cons (getI_ob (f := eS_tlb_Line) h396) (.cons (eqS_tlb_Line_ok v_y647 v_y649) (.cons (vf h397) .nil))))))) (G_ringref2_TlbSame_L2_ok hF ks n v_a618 v_b619 v_x623 v_y639 k (wi .i64 (v_x640 + 1)) _ h q)
    · rw [if_neg h387] at h
      cases h
      exact pkk_sound TTok mix hF 8 (hs := [.t false]) (ts := []) (s := []) (l := [0, 1, 5, 14, 15]) (by kernel_rfl) (by kernel_rfl) (.cons (df h387) .nil) q
inductive G_ringref2_TlbSame_L3_R where
  | x0 (v_x665 : Bool)
  | x1 
def G_ringref2_TlbSame_L3_ex : G_ringref2_TlbSame_L3_R → Ex
  | .x0 _ => .ret
  | .x1  => .exit 4
def G_ringref2_TlbSame_L3_st (v_a618 : (List S_tlb_Cpu)) (v_b619 : (List S_tlb_Cpu)) (v_x623 : Int) (v_y654 : S_tlb_Cpu) : G_ringref2_TlbSame_L3_R → PS
  | .x0 v_x665 => ⟨[dd, dd, dd, dd, .d (.v (.bool v_x665)), dd, dd, dd, dd, dd, dd, dd, dd, dd, dd, dd, dd, dd, dd, dd, dd, dd, dd, dd, dd, dd, dd, dd, dd, dd, dd, dd, dd, dd, dd, dd, dd, dd, dd, dd, dd, dd, dd, dd, dd, dd, dd, dd, dd, dd, dd, dd, dd, dd, dd, dd, dd, dd, dd, dd, dd, dd, dd, dd, dd, dd, dd, dd, dd, dd, dd, dd, dd, dd, dd, dd, dd, dd, dd, dd, dd, dd, dd, dd, dd, dd, dd, dd, dd, dd, dd, dd, dd, dd, dd, dd, dd, dd, dd, dd, dd], []⟩
  | .x1  => ⟨[.d (.sl (v_a618.map eS_tlb_Cpu)), .d (.sl (v_b619.map eS_tlb_Cpu)), dd, dd, dd, dd, dd, dd, dd, dd, dd, dd, dd, dd, .d (.v (.int .i64 (v_a618.length : Int))), .d (.v (.int .i64 v_x623)), dd, dd, dd, dd, dd, dd, dd, dd, dd, dd, dd, dd, dd, dd, dd, dd, dd, dd, dd, dd, dd, dd, dd, dd, dd, dd, dd, dd, dd, dd, dd, dd, dd, dd, dd, dd, dd, dd, dd, dd, dd, dd, dd, dd, dd, dd, dd, dd, dd, dd, dd, dd, dd, dd, dd, dd, dd, dd, dd, dd, dd, dd, dd, dd, dd, dd, dd, dd, dd, dd, dd, dd, dd, dd, dd, dd, dd, dd, dd, dd, dd, dd, dd, dd, dd], []⟩
def G_ringref2_TlbSame_L3_hd (v_a618 : (List S_tlb_Cpu)) (v_b619 : (List S_tlb_Cpu)) (v_x623 : Int) (v_y654 : S_tlb_Cpu) (v_x655 : Int) : PS := ⟨[.d (.sl (v_a618.map eS_tlb_Cpu)), .d (.sl (v_b619.map eS_tlb_Cpu)), dd, dd, dd, .d (.v (.int .i64 v_x623)), dd, dd, dd, dd, dd, dd, dd, dd, .d (.v (.int .i64 (v_a618.length : Int))), .d (.v (.int .i64 v_x623)), dd, dd, dd, dd, dd, dd, dd, dd, dd, dd, dd, dd, dd, dd, dd, dd, dd, dd, dd, dd, dd, dd, dd, dd, dd, dd, dd, dd, dd, dd, dd, dd, dd, dd, dd, dd, dd, dd, dd, dd, dd, dd, dd, dd, dd, dd, dd, dd, dd, dd, dd, dd, dd, dd, dd, dd, dd, dd, dd, dd, dd, dd, .d (.v (.int .i64 (v_y654.fOrders.length : Int))), .d (.v (.int .i64 v_x655)), dd, dd, dd, dd, dd, dd, dd, dd, dd, dd, dd, dd, dd, dd, dd, dd, dd, dd, dd, dd, dd], []⟩
def G_ringref2_TlbSame_L3 (n : Nat) (v_a618 : (List S_tlb_Cpu)) (v_b619 : (List S_tlb_Cpu)) (v_x623 : Int) (v_y654 : S_tlb_Cpu) : Nat → Int → Option G_ringref2_TlbSame_L3_R
  | 0, _ => none
  | k + 1, v_x655 =>
    if v_x655 < (v_y654.fOrders.length : Int) then
     (getI v_a618 v_x623).bind fun (v_y661 : S_tlb_Cpu) =>
     (getI v_y661.fOrders v_x655).bind fun (v_y662 : S_tlb_Order) =>
     (getI v_b619 v_x623).bind fun (v_y663 : S_tlb_Cpu) =>
     (getI v_y663.fOrders v_x655).bind fun (v_y664 : S_tlb_Order) =>
     if (eqRes .neq (eqS_tlb_Order v_y662 v_y664)) = true then
      some (.x0 false)
     else
      G_ringref2_TlbSame_L3 n v_a618 v_b619 v_x623 v_y654 k (wi .i64 (v_x655 + 1))
    else
     some (.x1 )
theorem G_ringref2_TlbSame_L3_ok {Fi : Ex → PS → Prop} (hF : KC 101 Fi) (ks : List Fr) (n : Nat) (v_a618 : (List S_tlb_Cpu)) (v_b619 : (List S_tlb_Cpu)) (v_x623 : Int) (v_y654 : S_tlb_Cpu)  : ∀ (k : Nat) (v_x655 : Int) (o : G_ringref2_TlbSame_L3_R), G_ringref2_TlbSame_L3 n v_a618 v_b619 v_x623 v_y654 k v_x655 = some o → RunE Try.prog 101 Fi ks (G_ringref2_TlbSame_L3_ex o) (G_ringref2_TlbSame_L3_st v_a618 v_b619 v_x623 v_y654 o) → RunE Try.prog 101 Fi (.l k (cP (cB (cR (cR (cR (cR (cB (cL (cR (cR (cP (cB (cR (cL (cR (cR (bodyOf Try.f27))))))))))))))))) :: ks) .normal (G_ringref2_TlbSame_L3_hd v_a618 v_b619 v_x623 v_y654 v_x655)
  | 0, v_x655, o, h, q => by rw [G_ringref2_TlbSame_L3] at h; cases h
  | k + 1, v_x655, o, h, q => by
    rw [G_ringref2_TlbSame_L3] at h
    by_cases h400 : v_x655 < (v_y654.fOrders.length : Int)
    · rw [if_pos h400] at h
      obtain ⟨v_y661, h406, h⟩ := bind_some h
      obtain ⟨v_y662, h407, h⟩ := bind_some h
      obtain ⟨v_y663, h408, h⟩ := bind_some h
      obtain ⟨v_y664, h409, h⟩ := bind_some h
      by_cases h410 : (eqRes .neq (eqS_tlb_Order v_y662 v_y664)) = true
      · rw [if_pos h410] at h
        cases h
        exact pkk_sound TTok mix hF 19 (hs := [.t true, .y (eS_tlb_Cpu v_y661), .c, .y (eS_tlb_Order v_y662), .y (eS_tlb_Cpu v_y663), .c, .y (eS_tlb_Order v_y664), .q (eqS_tlb_Order v_y662 v_y664), .t true]) (ts := []) (s := []) (l := [4]) (by kernel_rfl) (by kernel_rfl) (.cons (dt h400) (.cons (getI_ob (f := eS_tlb_Cpu) h406) (.cons (getI_ob (f := eS_tlb_Order) h407) (.cons (getI_ob (f := eS_tlb_Cpu) h408) (.cons (getI_ob (f := eS_tlb_Order) h409) (.cons (eqS_tlb_Order_ok v_y662 v_y664) (.cons h410 .nil))))))) q
      · rw [if_neg h410] at h
        exact pkk_sound TTok mix hF 16 (hs := [.t true, .y (eS_tlb_Cpu v_y661), .c, .y (eS_tlb_Order v_y662), .y (eS_tlb_Cpu v_y663), .c, .y (eS_tlb_Order v_y664), .q (eqS_tlb_Order v_y662 v_y664), .t false]) (ts := []) (s := []) (l := [0, 1, 5, 14, 15, 78, 79]) (by kernel_rfl) (by kernel_rfl) (.cons (dt h400) (.cons (getI_ob (f := eS_tlb_Cpu) h406) (.cons (getI_ob (f := eS_tlb_Order) h407) (.cons (getI_ob (f := eS_tlb_Cpu) h408) (.cons (getI_ob (f := eS_tlb_Order) h409) (.cons (eqS_tlb_Order_ok v_y662 v_y664) (.cons (vf h410) .nil))))))) (G_ringref2_TlbSame_L3_ok hF ks n v_a618 v_b619 v_x623 v_y654 k (wi .i64 (v_x655 + 1)) _ h q)
    · rw [if_neg h400] at h
      cases h
      exact pkk_sound TTok mix hF 8 (hs := [.t false]) (ts := []) (s := []) (l := [0, 1, 14, 15]) (by kernel_rfl) (by kernel_rfl) (.cons (df h400) .nil) q
inductive G_ringref2_TlbSame_L4_R where
  | x0 (v_x638 : Bool)
  | x1 
def G_ringref2_TlbSame_L4_ex : G_ringref2_TlbSame_L4_R → Ex
  | .x0 _ => .ret
  | .x1  => .exit 0
def G_ringref2_TlbSame_L4_st (v_a618 : (List S_tlb_Cpu)) (v_b619 : (List S_tlb_Cpu)) : G_ringref2_TlbSame_L4_R → PS
  | .x0 v_x638 => ⟨[dd, dd, dd, dd, .d (.v (.bool v_x638)), dd, dd, dd, dd, dd, dd, dd, dd, dd, dd, dd, dd, dd, dd, dd, dd, dd, dd, dd, dd, dd, dd, dd, dd, dd, dd, dd, dd, dd, dd, dd, dd, dd, dd, dd, dd, dd, dd, dd, dd, dd, dd, dd, dd, dd, dd, dd, dd, dd, dd, dd, dd, dd, dd, dd, dd, dd, dd, dd, dd, dd, dd, dd, dd, dd, dd, dd, dd, dd, dd, dd, dd, dd, dd, dd, dd, dd, dd, dd, dd, dd, dd, dd, dd, dd, dd, dd, dd, dd, dd, dd, dd, dd, dd, dd, dd], []⟩
  | .x1  => ⟨[dd, dd, dd, dd, dd, dd, dd, dd, dd, dd, dd, dd, dd, dd, dd, dd, dd, dd, dd, dd, dd, dd, dd, dd, dd, dd, dd, dd, dd, dd, dd, dd, dd, dd, dd, dd, dd, dd, dd, dd, dd, dd, dd, dd, dd, dd, dd, dd, dd, dd, dd, dd, dd, dd, dd, dd, dd, dd, dd, dd, dd, dd, dd, dd, dd, dd, dd, dd, dd, dd, dd, dd, dd, dd, dd, dd, dd, dd, dd, dd, dd, dd, dd, dd, dd, dd, dd, dd, dd, dd, dd, dd, dd, dd, dd, dd, dd, dd, dd, dd, dd], []⟩
def G_ringref2_TlbSame_L4_hd (v_a618 : (List S_tlb_Cpu)) (v_b619 : (List S_tlb_Cpu)) (v_x623 : Int) : PS := ⟨[.d (.sl (v_a618.map eS_tlb_Cpu)), .d (.sl (v_b619.map eS_tlb_Cpu)), dd, dd, dd, dd, dd, dd, dd, dd, dd, dd, dd, dd, .d (.v (.int .i64 (v_a618.length : Int))), .d (.v (.int .i64 v_x623)), dd, dd, dd, dd, dd, dd, dd, dd, dd, dd, dd, dd, dd, dd, dd, dd, dd, dd, dd, dd, dd, dd, dd, dd, dd, dd, dd, dd, dd, dd, dd, dd, dd, dd, dd, dd, dd, dd, dd, dd, dd, dd, dd, dd, dd, dd, dd, dd, dd, dd, dd, dd, dd, dd, dd, dd, dd, dd, dd, dd, dd, dd, dd, dd, dd, dd, dd, dd, dd, dd, dd, dd, dd, dd, dd, dd, dd, dd, dd, dd, dd, dd, dd, dd, dd], []⟩
def G_ringref2_TlbSame_L4 (n : Nat) (v_a618 : (List S_tlb_Cpu)) (v_b619 : (List S_tlb_Cpu)) : Nat → Int → Option G_ringref2_TlbSame_L4_R
  | 0, _ => none
  | k + 1, v_x623 =>
    if v_x623 < (v_a618.length : Int) then
     (G_ringref2_TlbSame_C1 n v_a618 v_b619 v_x623).bind fun v_o636 => match v_o636 with
     | .x0 v_z637 =>
       if v_z637 = true then
        some (.x0 false)
       else
        (getI v_a618 v_x623).bind fun (v_y639 : S_tlb_Cpu) =>
        (G_ringref2_TlbSame_L2 n v_a618 v_b619 v_x623 v_y639 n 0).bind fun v_o651 => match v_o651 with
        | .x0 v_z652 =>
          some (.x0 v_z652)
        | .x1  =>
          (getI v_a618 v_x623).bind fun (v_y654 : S_tlb_Cpu) =>
          (G_ringref2_TlbSame_L3 n v_a618 v_b619 v_x623 v_y654 n 0).bind fun v_o666 => match v_o666 with
          | .x0 v_z667 =>
            some (.x0 v_z667)
          | .x1  =>
            G_ringref2_TlbSame_L4 n v_a618 v_b619 k (wi .i64 (v_x623 + 1))
    else
     some (.x1 )
theorem G_ringref2_TlbSame_L4_ok {Fi : Ex → PS → Prop} (hF : KC 101 Fi) (ks : List Fr) (n : Nat) (v_a618 : (List S_tlb_Cpu)) (v_b619 : (List S_tlb_Cpu))  : ∀ (k : Nat) (v_x623 : Int) (o : G_ringref2_TlbSame_L4_R), G_ringref2_TlbSame_L4 n v_a618 v_b619 k v_x623 = some o → RunE Try.prog 101 Fi ks (G_ringref2_TlbSame_L4_ex o) (G_ringref2_TlbSame_L4_st v_a618 v_b619 o) → RunE Try.prog 101 Fi (.l k (cP (cB (cR (cL (cR (cR (bodyOf Try.f27))))))) :: ks) .normal (G_ringref2_TlbSame_L4_hd v_a618 v_b619 v_x623)
  | 0, v_x623, o, h, q => by rw [G_ringref2_TlbSame_L4] at h; cases h
  | k + 1, v_x623, o, h, q => by
    rw [G_ringref2_TlbSame_L4] at h
    by_cases h373 : v_x623 < (v_a618.length : Int)
    · rw [if_pos h373] at h
      obtain ⟨v_o636, h384, h⟩ := bind_some h
      refine pkk_sound TTok mix hF 12 (hs := [.t true]) (ts := []) (s := []) (l := [0, 1, 5, 14, 15]) (by kernel_rfl) (by kernel_rfl) (.cons (dt h373) .nil) (G_ringref2_TlbSame_C1_ok hF (.s (cR (cL (cR (cB (cL (cR (cR (cP (cB (cR (cL (cR (cR (bodyOf Try.f27)))))))))))))) :: .s (cR (cR (cB (cL (cR (cR (cP (cB (cR (cL (cR (cR (bodyOf Try.f27))))))))))))) :: .b 1 :: .s (cR (cR (cR (cP (cB (cR (cL (cR (cR (bodyOf Try.f27)))))))))) :: .l k (cP (cB (cR (cL (cR (cR (bodyOf Try.f27))))))) :: ks) n v_a618 v_b619 v_x623 _ h384 ?_)
      cases v_o636 with
      | x0 v_z637 =>
        try dsimp only at h
        by_cases h385 : v_z637 = true
        · rw [if_pos h385] at h
          cases h
          exact pkk_sound TTok mix hF 8 (hs := [.t true]) (ts := []) (s := []) (l := [4]) (by kernel_rfl) (by kernel_rfl) (.cons h385 .nil) q
        · rw [if_neg h385] at h
          obtain ⟨v_y639, h386, h⟩ := bind_some h
          obtain ⟨v_o651, h398, h⟩ := bind_some h
          refine pkk_sound TTok mix hF 7 (hs := [.t false, .y (eS_tlb_Cpu v_y639), .c, .u (.d (.v (.int .i64 (v_y639.fLines.length : Int)))), .n n]) (ts := []) (s := []) (l := [0, 1, 5, 14, 15, 51, 52]) (by kernel_rfl) (by kernel_rfl) (.cons (vf h385) (.cons (getI_ob (f := eS_tlb_Cpu) h386) (.cons (len_ob (f := eS_tlb_Line) (l := v_y639.fLines)) .nil))) (G_ringref2_TlbSame_L2_ok hF (.b 2 :: .s (cR (cR (cR (cB (cL (cR (cR (cP (cB (cR (cL (cR (cR (bodyOf Try.f27)))))))))))))) :: .b 1 :: .s (cR (cR (cR (cP (cB (cR (cL (cR (cR (bodyOf Try.f27)))))))))) :: .l k (cP (cB (cR (cL (cR (cR (bodyOf Try.f27))))))) :: ks) n v_a618 v_b619 v_x623 v_y639 n 0 _ h398 ?_)
          cases v_o651 with
          | x0 v_z652 =>
            try dsimp only at h
            cases h
            exact pkk_sound TTok mix hF 5 (hs := []) (ts := []) (s := []) (l := [4]) (by kernel_rfl) (by kernel_rfl) .nil q
          | x1  =>
            try dsimp only at h
            obtain ⟨v_y654, h399, h⟩ := bind_some h
            obtain ⟨v_o666, h411, h⟩ := bind_some h
            refine pkk_sound TTok mix hF 5 (hs := [.y (eS_tlb_Cpu v_y654), .c, .u (.d (.v (.int .i64 (v_y654.fOrders.length : Int)))), .n n]) (ts := []) (s := []) (l := [0, 1, 5, 14, 15, 78, 79]) (by kernel_rfl) (by kernel_rfl) (.cons (getI_ob (f := eS_tlb_Cpu) h399) (.cons (len_ob (f := eS_tlb_Order) (l := v_y654.fOrders)) .nil)) (G_ringref2_TlbSame_L3_ok hF (.b 4 :: .b 1 :: .s (cR (cR (cR (cP (cB (cR (cL (cR (cR (bodyOf Try.f27)))))))))) :: .l k (cP (cB (cR (cL (cR (cR (bodyOf Try.f27))))))) :: ks) n v_a618 v_b619 v_x623 v_y654 n 0 _ h411 ?_)
            cases v_o666 with
            | x0 v_z667 =>
              try dsimp only at h
              cases h
              exact pkk_sound TTok mix hF 4 (hs := []) (ts := []) (s := []) (l := [4]) (by kernel_rfl) (by kernel_rfl) .nil q
            | x1  =>
              try dsimp only at h
              exact pkk_sound TTok mix hF 3 (hs := []) (ts := []) (s := []) (l := [0, 1, 14, 15]) (by kernel_rfl) (by kernel_rfl) .nil (G_ringref2_TlbSame_L4_ok hF ks n v_a618 v_b619 k (wi .i64 (v_x623 + 1)) _ h q)
    · rw [if_neg h373] at h
      cases h
      exact pkk_sound TTok mix hF 8 (hs := [.t false]) (ts := []) (s := []) (l := []) (by kernel_rfl) (by kernel_rfl) (.cons (df h373) .nil) q
/- ringhall/ringref2.TlbSame -/
def G_ringref2_TlbSame (n : Nat) (v_a618 : (List S_tlb_Cpu)) (v_b619 : (List S_tlb_Cpu)) : Option (Bool) :=
  if (v_a618.length : Int) = (v_b619.length : Int) then
   (G_ringref2_TlbSame_L4 n v_a618 v_b619 n 0).bind fun v_o669 => match v_o669 with
   | .x0 v_z670 =>
     some v_z670
   | .x1  =>
     some true
  else
   some false
theorem G_ringref2_TlbSame_ok (n : Nat) (v_a618 : (List S_tlb_Cpu)) (v_b619 : (List S_tlb_Cpu)) (r : Bool) (h : G_ringref2_TlbSame n v_a618 v_b619 = some r) : Ret Try.prog 27 [(eL eS_tlb_Cpu) v_a618, (eL eS_tlb_Cpu) v_b619] (eB r) := by
  refine ret_run (n := 101) (fn := Try.f27) (c := bodyOf Try.f27) (by kernel_rfl) (by kernel_rfl) (by kernel_rfl) (by kernel_rfl) ?_
  have hF : KC 101 (FinR Try.prog Try.f27 (eB r)) := FinR.kc' (by kernel_rfl)
  unfold G_ringref2_TlbSame at h
  by_cases h372 : (v_a618.length : Int) = (v_b619.length : Int)
  · rw [if_pos h372] at h
    obtain ⟨v_o669, h412, h⟩ := bind_some h
    refine pkk_sound TTok mix hF 12 (hs := [.u (.d (.v (.int .i64 (v_a618.length : Int)))), .u (.d (.v (.int .i64 (v_b619.length : Int)))), .t false, .u (.d (.v (.int .i64 (v_a618.length : Int)))), .n n]) (ts := []) (s := []) (l := [0, 1, 14, 15]) (by kernel_rfl) (by kernel_rfl) (.cons (len_ob (f := eS_tlb_Cpu) (l := v_a618)) (.cons (len_ob (f := eS_tlb_Cpu) (l := v_b619)) (.cons (nf h372) (.cons (len_ob (f := eS_tlb_Cpu) (l := v_a618)) .nil)))) (G_ringref2_TlbSame_L4_ok hF (.b 0 :: .s (cR (cR (cR (bodyOf Try.f27)))) :: []) n v_a618 v_b619 n 0 _ h412 ?_)
    cases v_o669 with
    | x0 v_z670 =>
      try dsimp only at h
      obtain rfl := Option.some.inj h
      exact pend_sound TTok mix 2 (hs := []) (by kernel_rfl) (by kernel_rfl) (by kernel_rfl) .nil
    | x1  =>
      try dsimp only at h
      obtain rfl := Option.some.inj h
      exact pend_sound TTok mix 4 (hs := []) (by kernel_rfl) (by kernel_rfl) (by kernel_rfl) .nil
  · rw [if_neg h372] at h
    obtain rfl := Option.some.inj h
    exact pend_sound TTok mix 10 (hs := [.u (.d (.v (.int .i64 (v_a618.length : Int)))), .u (.d (.v (.int .i64 (v_b619.length : Int)))), .t true]) (by kernel_rfl) (by kernel_rfl) (by kernel_rfl) (.cons (len_ob (f := eS_tlb_Cpu) (l := v_a618)) (.cons (len_ob (f := eS_tlb_Cpu) (l := v_b619)) (.cons (nt h372) .nil)))
/- ringhall/ringref2.PageOf -/
def G_ringref2_PageOf (n : Nat) (v_space765 : Int) (v_page766 : Int) : Option (Bool) :=
  (G_ringref2_In n v_space765 1 16).bind fun (v_r767 : (Bool)) =>
  if v_r767 = true then
   (G_ringref2_In n v_page766 0 63).bind fun (v_r768 : (Bool)) =>
   some v_r768
  else
   some false
theorem G_ringref2_PageOf_ok (n : Nat) (v_space765 : Int) (v_page766 : Int) (r : Bool) (h : G_ringref2_PageOf n v_space765 v_page766 = some r) : Ret Try.prog 31 [(eI .i64) v_space765, (eI .i64) v_page766] (eB r) := by
  refine ret_run (n := 11) (fn := Try.f31) (c := bodyOf Try.f31) (by kernel_rfl) (by kernel_rfl) (by kernel_rfl) (by kernel_rfl) ?_
  have hF : KC 11 (FinR Try.prog Try.f31 (eB r)) := FinR.kc' (by kernel_rfl)
  unfold G_ringref2_PageOf at h
  obtain ⟨v_r767, h446, h⟩ := bind_some h
  by_cases h447 : v_r767 = true
  · rw [if_pos h447] at h
    obtain ⟨v_r768, h448, h⟩ := bind_some h
    obtain rfl := Option.some.inj h
    exact pend_sound TTok mix 5 (hs := [.r (eB v_r767), .t true, .c, .r (eB v_r768)]) (by kernel_rfl) (by kernel_rfl) (by kernel_rfl) (.cons (G_ringref2_In_ok n v_space765 1 16 _ h446) (.cons h447 (.cons (G_ringref2_In_ok n v_page766 0 63 _ h448) .nil)))
  · rw [if_neg h447] at h
    obtain rfl := Option.some.inj h
    exact pend_sound TTok mix 5 (hs := [.r (eB v_r767), .t false, .c]) (by kernel_rfl) (by kernel_rfl) (by kernel_rfl) (.cons (G_ringref2_In_ok n v_space765 1 16 _ h446) (.cons (vf h447) .nil))
/- ringhall/ringref2.OrderIs -/
def G_ringref2_OrderIs (n : Nat) (v_o786 : S_tlb_Order) : Option (Bool) :=
  (G_ringref2_In n v_o786.fSpace 1 16).bind fun (v_r787 : (Bool)) =>
  if v_r787 = true then
   (G_ringref2_In n v_o786.fPage (-1) 63).bind fun (v_r788 : (Bool)) =>
   some v_r788
  else
   some false
theorem G_ringref2_OrderIs_ok (n : Nat) (v_o786 : S_tlb_Order) (r : Bool) (h : G_ringref2_OrderIs n v_o786 = some r) : Ret Try.prog 35 [eS_tlb_Order v_o786] (eB r) := by
  refine ret_run (n := 11) (fn := Try.f35) (c := bodyOf Try.f35) (by kernel_rfl) (by kernel_rfl) (by kernel_rfl) (by kernel_rfl) ?_
  have hF : KC 11 (FinR Try.prog Try.f35 (eB r)) := FinR.kc' (by kernel_rfl)
  unfold G_ringref2_OrderIs at h
  obtain ⟨v_r787, h465, h⟩ := bind_some h
  by_cases h466 : v_r787 = true
  · rw [if_pos h466] at h
    obtain ⟨v_r788, h467, h⟩ := bind_some h
    obtain rfl := Option.some.inj h
    exact pend_sound TTok mix 5 (hs := [.c, .r (eB v_r787), .t true, .c, .c, .c, .r (eB v_r788)]) (by kernel_rfl) (by kernel_rfl) (by kernel_rfl) (.cons (G_ringref2_In_ok n v_o786.fSpace 1 16 _ h465) (.cons h466 (.cons (G_ringref2_In_ok n v_o786.fPage (-1) 63 _ h467) .nil)))
  · rw [if_neg h466] at h
    obtain rfl := Option.some.inj h
    exact pend_sound TTok mix 5 (hs := [.c, .r (eB v_r787), .t false, .c, .c]) (by kernel_rfl) (by kernel_rfl) (by kernel_rfl) (.cons (G_ringref2_In_ok n v_o786.fSpace 1 16 _ h465) (.cons (vf h466) .nil))
inductive G_ringref2_Tlbs_C1_R where
  | x0 (v_x757 : Bool)
def G_ringref2_Tlbs_C1_ex : G_ringref2_Tlbs_C1_R → Ex
  | .x0 _ => .normal
def G_ringref2_Tlbs_C1_st (v_l747 : (List S_tlb_Cpu)) (v_x753 : Int) (v_y755 : S_tlb_Cpu) : G_ringref2_Tlbs_C1_R → PS
  | .x0 v_x757 => ⟨[dd, dd, dd, dd, .ref 0 0, dd, dd, dd, dd, dd, dd, dd, dd, dd, dd, .d (.sl (v_l747.map eS_tlb_Cpu)), .d (.v (.int .i64 (v_l747.length : Int))), .d (.v (.int .i64 v_x753)), dd, dd, dd, dd, dd, dd, dd, dd, dd, dd, dd, dd, .d (.v (.bool v_x757)), dd, dd, dd, dd, dd, dd, dd, dd, dd, dd, dd, dd, dd, dd, dd, dd, dd, dd, dd, dd, dd, dd, dd, dd, dd, dd, dd, dd, dd, dd, dd, dd, dd, dd, dd, dd, dd, dd, dd, dd, dd, dd, dd, dd, dd, dd, dd, dd, dd], [.box [.d (.sl (v_y755.fLines.map eS_tlb_Line)), .d (.sl (v_y755.fOrders.map eS_tlb_Order))]]⟩
def G_ringref2_Tlbs_C1_hd (v_l747 : (List S_tlb_Cpu)) (v_x753 : Int) (v_y755 : S_tlb_Cpu)  : PS := ⟨[dd, dd, dd, dd, .ref 0 0, dd, dd, dd, dd, dd, dd, dd, dd, dd, dd, .d (.sl (v_l747.map eS_tlb_Cpu)), .d (.v (.int .i64 (v_l747.length : Int))), .d (.v (.int .i64 v_x753)), dd, dd, dd, dd, dd, dd, dd, dd, dd, dd, dd, dd, dd, dd, dd, dd, dd, dd, dd, dd, dd, dd, dd, dd, dd, dd, dd, dd, dd, dd, dd, dd, dd, dd, dd, dd, dd, dd, dd, dd, dd, dd, dd, dd, dd, dd, dd, dd, dd, dd, dd, dd, dd, dd, dd, dd, dd, dd, dd, dd, dd, dd], [.box [.d (.sl (v_y755.fLines.map eS_tlb_Line)), .d (.sl (v_y755.fOrders.map eS_tlb_Order))]]⟩
def G_ringref2_Tlbs_C1 (n : Nat) (v_l747 : (List S_tlb_Cpu)) (v_x753 : Int) (v_y755 : S_tlb_Cpu) : Option G_ringref2_Tlbs_C1_R :=
  if (v_y755.fLines.length : Int) > 8 then
   some (.x0 true)
  else
   some (.x0 (decide ((v_y755.fOrders.length : Int) > 4)))
theorem G_ringref2_Tlbs_C1_ok {Fi : Ex → PS → Prop} (hF : KC 80 Fi) (ks : List Fr) (n : Nat) (v_l747 : (List S_tlb_Cpu)) (v_x753 : Int) (v_y755 : S_tlb_Cpu)  (o : G_ringref2_Tlbs_C1_R) (h : G_ringref2_Tlbs_C1 n v_l747 v_x753 v_y755 = some o) (q : RunE Try.prog 80 Fi ks (G_ringref2_Tlbs_C1_ex o) (G_ringref2_Tlbs_C1_st v_l747 v_x753 v_y755 o)) : RunE Try.prog 80 Fi (.s (cL (cL (cR (cB (cL (cR (cR (cP (cB (cR (cL (cR (cR (bodyOf Try.f28)))))))))))))) :: ks) .normal (G_ringref2_Tlbs_C1_hd v_l747 v_x753 v_y755) := by
  unfold G_ringref2_Tlbs_C1 at h
  by_cases h441 : (v_y755.fLines.length : Int) > 8
  · rw [if_pos h441] at h
    cases h
    exact pkk_sound TTok mix hF 1 (hs := [.c, .u (.d (.v (.int .i64 (v_y755.fLines.length : Int)))), .t true, .c, .c, .c]) (ts := []) (s := [0]) (l := [4, 15, 16, 17, 30]) (by kernel_rfl) (by kernel_rfl) (.cons (len_ob (f := eS_tlb_Line) (l := v_y755.fLines)) (.cons (dt h441) .nil)) q
  · rw [if_neg h441] at h
    cases h
    exact pkk_sound TTok mix hF 1 (hs := [.c, .u (.d (.v (.int .i64 (v_y755.fLines.length : Int)))), .t false, .c, .c, .c, .u (.d (.v (.int .i64 (v_y755.fOrders.length : Int)))), .c]) (ts := []) (s := [0]) (l := [4, 15, 16, 17, 30]) (by kernel_rfl) (by kernel_rfl) (.cons (len_ob (f := eS_tlb_Line) (l := v_y755.fLines)) (.cons (df h441) (.cons (len_ob (f := eS_tlb_Order) (l := v_y755.fOrders)) .nil))) q
inductive G_ringref2_Tlbs_L2_R where
  | x0 (v_x776 : Int)
  | x1 
def G_ringref2_Tlbs_L2_ex : G_ringref2_Tlbs_L2_R → Ex
  | .x0 _ => .ret
  | .x1  => .exit 4
def G_ringref2_Tlbs_L2_st (v_l747 : (List S_tlb_Cpu)) (v_x753 : Int) (v_y755 : S_tlb_Cpu) (v_x762 : Int) (v_s771 : (List S_tlb_Line)) (v_y764 : S_tlb_Line) : G_ringref2_Tlbs_L2_R → PS
  | .x0 v_x776 => ⟨[dd, dd, .d (.v (.int .i64 v_x776)), dd, dd, dd, dd, dd, dd, dd, dd, dd, dd, dd, dd, dd, dd, dd, dd, dd, dd, dd, dd, dd, dd, dd, dd, dd, dd, dd, dd, dd, dd, dd, dd, dd, dd, dd, dd, dd, dd, dd, dd, dd, dd, dd, dd, dd, dd, dd, dd, dd, dd, dd, dd, dd, dd, dd, dd, dd, dd, dd, dd, dd, dd, dd, dd, dd, dd, dd, dd, dd, dd, dd, dd, dd, dd, dd, dd, dd], []⟩
  | .x1  => ⟨[dd, dd, dd, dd, .ref 0 0, dd, dd, dd, dd, dd, dd, dd, dd, dd, dd, .d (.sl (v_l747.map eS_tlb_Cpu)), .d (.v (.int .i64 (v_l747.length : Int))), .d (.v (.int .i64 v_x753)), dd, dd, dd, dd, dd, dd, dd, dd, dd, dd, dd, dd, dd, dd, .d (.sl (v_y755.fLines.map eS_tlb_Line)), .d (.v (.int .i64 (v_y755.fLines.length : Int))), .d (.v (.int .i64 v_x762)), dd, dd, dd, dd, dd, dd, dd, dd, dd, dd, dd, dd, dd, dd, dd, dd, dd, dd, dd, dd, dd, dd, dd, dd, dd, dd, dd, dd, dd, dd, dd, dd, dd, dd, dd, dd, dd, dd, dd, dd, dd, dd, dd, dd, dd], [.box [.d (.sl (v_y755.fLines.map eS_tlb_Line)), .d (.sl (v_y755.fOrders.map eS_tlb_Order))]]⟩
def G_ringref2_Tlbs_L2_hd (v_l747 : (List S_tlb_Cpu)) (v_x753 : Int) (v_y755 : S_tlb_Cpu) (v_x762 : Int) (v_s771 : (List S_tlb_Line)) (v_y764 : S_tlb_Line) (v_x772 : Int) : PS := ⟨[dd, dd, dd, dd, .ref 0 0, dd, .ref 1 0, dd, dd, dd, dd, dd, dd, dd, dd, .d (.sl (v_l747.map eS_tlb_Cpu)), .d (.v (.int .i64 (v_l747.length : Int))), .d (.v (.int .i64 v_x753)), dd, dd, dd, dd, dd, dd, dd, dd, dd, dd, dd, dd, dd, dd, .d (.sl (v_y755.fLines.map eS_tlb_Line)), .d (.v (.int .i64 (v_y755.fLines.length : Int))), .d (.v (.int .i64 v_x762)), dd, dd, dd, dd, dd, dd, dd, dd, dd, dd, dd, dd, dd, .d (.sl (v_s771.map eS_tlb_Line)), .d (.v (.int .i64 (v_s771.length : Int))), .d (.v (.int .i64 v_x772)), dd, dd, dd, dd, dd, dd, dd, dd, dd, dd, dd, dd, dd, dd, dd, dd, dd, dd, dd, dd, dd, dd, dd, dd, dd, dd, dd, dd, dd], [.box [.d (.sl (v_y755.fLines.map eS_tlb_Line)), .d (.sl (v_y755.fOrders.map eS_tlb_Order))], .box [.d (.v (.int .i64 v_y764.fSpace)), .d (.v (.int .i64 v_y764.fPage)), .d (.v (.int .u32 v_y764.fWord))]]⟩
def G_ringref2_Tlbs_L2 (n : Nat) (v_l747 : (List S_tlb_Cpu)) (v_x753 : Int) (v_y755 : S_tlb_Cpu) (v_x762 : Int) (v_s771 : (List S_tlb_Line)) (v_y764 : S_tlb_Line) : Nat → Int → Option G_ringref2_Tlbs_L2_R
  | 0, _ => none
  | k + 1, v_x772 =>
    if v_x772 < (v_s771.length : Int) then
     (getI v_s771 v_x772).bind fun (v_y775 : S_tlb_Line) =>
     if v_y775.fSpace = v_y764.fSpace then
      if v_y775.fPage = v_y764.fPage then
       some (.x0 3)
      else
       G_ringref2_Tlbs_L2 n v_l747 v_x753 v_y755 v_x762 v_s771 v_y764 k (wi .i64 (v_x772 + 1))
     else
      G_ringref2_Tlbs_L2 n v_l747 v_x753 v_y755 v_x762 v_s771 v_y764 k (wi .i64 (v_x772 + 1))
    else
     some (.x1 )
theorem G_ringref2_Tlbs_L2_ok {Fi : Ex → PS → Prop} (hF : KC 80 Fi) (ks : List Fr) (n : Nat) (v_l747 : (List S_tlb_Cpu)) (v_x753 : Int) (v_y755 : S_tlb_Cpu) (v_x762 : Int) (v_s771 : (List S_tlb_Line)) (v_y764 : S_tlb_Line)  : ∀ (k : Nat) (v_x772 : Int) (o : G_ringref2_Tlbs_L2_R), G_ringref2_Tlbs_L2 n v_l747 v_x753 v_y755 v_x762 v_s771 v_y764 k v_x772 = some o → RunE Try.prog 80 Fi ks (G_ringref2_Tlbs_L2_ex o) (G_ringref2_Tlbs_L2_st v_l747 v_x753 v_y755 v_x762 v_s771 v_y764 o) → RunE Try.prog 80 Fi (.l k (cP (cB (cR (cR (cR (cB (cL (cR (cR (cP (cB (cR (cL (cR (cR (cB (cL (cR (cR (cP (cB (cR (cL (cR (cR (bodyOf Try.f28)))))))))))))))))))))))))) :: ks) .normal (G_ringref2_Tlbs_L2_hd v_l747 v_x753 v_y755 v_x762 v_s771 v_y764 v_x772)
  | 0, v_x772, o, h, q => by rw [G_ringref2_Tlbs_L2] at h; cases h
  | k + 1, v_x772, o, h, q => by
    rw [G_ringref2_Tlbs_L2] at h
    by_cases h452 : v_x772 < (v_s771.length : Int)
    · rw [if_pos h452] at h
      obtain ⟨v_y775, h457, h⟩ := bind_some h
      by_cases h459 : v_y775.fSpace = v_y764.fSpace
      · rw [if_pos h459] at h
        by_cases h460 : v_y775.fPage = v_y764.fPage
        · rw [if_pos h460] at h
          cases h
          exact pkk_sound TTok mix hF 19 (hs := [.t true, .y (eS_tlb_Line v_y775), .c, .c, .c, .t true, .c, .c, .c, .c, .c, .c, .t true]) (ts := []) (s := []) (l := [2]) (by kernel_rfl) (by kernel_rfl) (.cons (dt h452) (.cons (getI_ob (f := eS_tlb_Line) h457) (.cons (show 0 + 3 ≤ 3 by decide) (.cons (bt h459) (.cons (bt h460) .nil))))) q
        · rw [if_neg h460] at h
          exact pkk_sound TTok mix hF 16 (hs := [.t true, .y (eS_tlb_Line v_y775), .c, .c, .c, .t true, .c, .c, .c, .c, .c, .c, .t false]) (ts := []) (s := [0, 1]) (l := [4, 6, 15, 16, 17, 32, 33, 34, 48, 49, 50]) (by kernel_rfl) (by kernel_rfl) (.cons (dt h452) (.cons (getI_ob (f := eS_tlb_Line) h457) (.cons (show 0 + 3 ≤ 3 by decide) (.cons (bt h459) (.cons (bf h460) .nil))))) (G_ringref2_Tlbs_L2_ok hF ks n v_l747 v_x753 v_y755 v_x762 v_s771 v_y764 k (wi .i64 (v_x772 + 1)) _ h q)
      · rw [if_neg h459] at h
        exact pkk_sound TTok mix hF 16 (hs := [.t true, .y (eS_tlb_Line v_y775), .c, .c, .c, .t false, .c, .c, .c, .c, .c]) (ts := []) (s := [0, 1]) (l := [4, 6, 15, 16, 17, 32, 33, 34, 48, 49, 50]) (by kernel_rfl) (by kernel_rfl) (.cons (dt h452) (.cons (getI_ob (f := eS_tlb_Line) h457) (.cons (show 0 + 3 ≤ 3 by decide) (.cons (bf h459) .nil)))) (G_ringref2_Tlbs_L2_ok hF ks n v_l747 v_x753 v_y755 v_x762 v_s771 v_y764 k (wi .i64 (v_x772 + 1)) _ h q)
    · rw [if_neg h452] at h
      cases h
      exact pkk_sound TTok mix hF 8 (hs := [.t false]) (ts := []) (s := [0]) (l := [4, 15, 16, 17, 32, 33, 34]) (by kernel_rfl) (by kernel_rfl) (.cons (df h452) .nil) q
inductive G_ringref2_Tlbs_L3_R where
  | x0 (v_x770 : Int)
  | x1 
def G_ringref2_Tlbs_L3_ex : G_ringref2_Tlbs_L3_R → Ex
  | .x0 _ => .ret
  | .x1  => .exit 2
def G_ringref2_Tlbs_L3_st (v_l747 : (List S_tlb_Cpu)) (v_x753 : Int) (v_y755 : S_tlb_Cpu) : G_ringref2_Tlbs_L3_R → PS
  | .x0 v_x770 => ⟨[dd, dd, .d (.v (.int .i64 v_x770)), dd, dd, dd, dd, dd, dd, dd, dd, dd, dd, dd, dd, dd, dd, dd, dd, dd, dd, dd, dd, dd, dd, dd, dd, dd, dd, dd, dd, dd, dd, dd, dd, dd, dd, dd, dd, dd, dd, dd, dd, dd, dd, dd, dd, dd, dd, dd, dd, dd, dd, dd, dd, dd, dd, dd, dd, dd, dd, dd, dd, dd, dd, dd, dd, dd, dd, dd, dd, dd, dd, dd, dd, dd, dd, dd, dd, dd], []⟩
  | .x1  => ⟨[dd, dd, dd, dd, .ref 0 0, dd, dd, dd, dd, dd, dd, dd, dd, dd, dd, .d (.sl (v_l747.map eS_tlb_Cpu)), .d (.v (.int .i64 (v_l747.length : Int))), .d (.v (.int .i64 v_x753)), dd, dd, dd, dd, dd, dd, dd, dd, dd, dd, dd, dd, dd, dd, dd, dd, dd, dd, dd, dd, dd, dd, dd, dd, dd, dd, dd, dd, dd, dd, dd, dd, dd, dd, dd, dd, dd, dd, dd, dd, dd, dd, dd, dd, dd, dd, dd, dd, dd, dd, dd, dd, dd, dd, dd, dd, dd, dd, dd, dd, dd, dd], [.box [.d (.sl (v_y755.fLines.map eS_tlb_Line)), .d (.sl (v_y755.fOrders.map eS_tlb_Order))]]⟩
def G_ringref2_Tlbs_L3_hd (v_l747 : (List S_tlb_Cpu)) (v_x753 : Int) (v_y755 : S_tlb_Cpu) (v_x762 : Int) : PS := ⟨[dd, dd, dd, dd, .ref 0 0, dd, dd, dd, dd, dd, dd, dd, dd, dd, dd, .d (.sl (v_l747.map eS_tlb_Cpu)), .d (.v (.int .i64 (v_l747.length : Int))), .d (.v (.int .i64 v_x753)), dd, dd, dd, dd, dd, dd, dd, dd, dd, dd, dd, dd, dd, dd, .d (.sl (v_y755.fLines.map eS_tlb_Line)), .d (.v (.int .i64 (v_y755.fLines.length : Int))), .d (.v (.int .i64 v_x762)), dd, dd, dd, dd, dd, dd, dd, dd, dd, dd, dd, dd, dd, dd, dd, dd, dd, dd, dd, dd, dd, dd, dd, dd, dd, dd, dd, dd, dd, dd, dd, dd, dd, dd, dd, dd, dd, dd, dd, dd, dd, dd, dd, dd, dd], [.box [.d (.sl (v_y755.fLines.map eS_tlb_Line)), .d (.sl (v_y755.fOrders.map eS_tlb_Order))]]⟩
def G_ringref2_Tlbs_L3 (n : Nat) (v_l747 : (List S_tlb_Cpu)) (v_x753 : Int) (v_y755 : S_tlb_Cpu) : Nat → Int → Option G_ringref2_Tlbs_L3_R
  | 0, _ => none
  | k + 1, v_x762 =>
    if v_x762 < (v_y755.fLines.length : Int) then
     (getI v_y755.fLines v_x762).bind fun (v_y764 : S_tlb_Line) =>
     (G_ringref2_PageOf n v_y764.fSpace v_y764.fPage).bind fun (v_r769 : (Bool)) =>
     if v_r769 = true then
      (sub v_y755.fLines 0 v_x762).bind fun (v_s771 : (List S_tlb_Line)) =>
      (G_ringref2_Tlbs_L2 n v_l747 v_x753 v_y755 v_x762 v_s771 v_y764 n 0).bind fun v_o777 => match v_o777 with
      | .x0 v_z778 =>
        some (.x0 v_z778)
      | .x1  =>
        G_ringref2_Tlbs_L3 n v_l747 v_x753 v_y755 k (wi .i64 (v_x762 + 1))
     else
      some (.x0 3)
    else
     some (.x1 )
theorem G_ringref2_Tlbs_L3_ok {Fi : Ex → PS → Prop} (hF : KC 80 Fi) (ks : List Fr) (n : Nat) (v_l747 : (List S_tlb_Cpu)) (v_x753 : Int) (v_y755 : S_tlb_Cpu)  : ∀ (k : Nat) (v_x762 : Int) (o : G_ringref2_Tlbs_L3_R), G_ringref2_Tlbs_L3 n v_l747 v_x753 v_y755 k v_x762 = some o → RunE Try.prog 80 Fi ks (G_ringref2_Tlbs_L3_ex o) (G_ringref2_Tlbs_L3_st v_l747 v_x753 v_y755 o) → RunE Try.prog 80 Fi (.l k (cP (cB (cR (cL (cR (cR (cB (cL (cR (cR (cP (cB (cR (cL (cR (cR (bodyOf Try.f28))))))))))))))))) :: ks) .normal (G_ringref2_Tlbs_L3_hd v_l747 v_x753 v_y755 v_x762)
  | 0, v_x762, o, h, q => by rw [G_ringref2_Tlbs_L3] at h; cases h
  | k + 1, v_x762, o, h, q => by
    rw [G_ringref2_Tlbs_L3] at h
    by_cases h444 : v_x762 < (v_y755.fLines.length : Int)
    · rw [if_pos h444] at h
      obtain ⟨v_y764, h445, h⟩ := bind_some h
      obtain ⟨v_r769, h449, h⟩ := bind_some h
      by_cases h450 : v_r769 = true
      · rw [if_pos h450] at h
        obtain ⟨v_s771, h451, h⟩ := bind_some h
        obtain ⟨v_o777, h461, h⟩ := bind_some h
        refine pkk_sound TTok mix hF 19 (hs := [.t true, .y (eS_tlb_Line v_y764), .c, .c, .c, .r (eB v_r769), .t false, .c, .w (v_s771.map eS_tlb_Line), .u (.d (.v (.int .i64 (v_s771.length : Int)))), .n n]) (ts := []) (s := [0, 21]) (l := [4, 6, 15, 16, 17, 32, 33, 34, 48, 49, 50]) (by kernel_rfl) (by kernel_rfl) (.cons (dt h444) (.cons (getI_ob (f := eS_tlb_Line) h445) (.cons (show 0 + 3 ≤ 3 by decide) (.cons (G_ringref2_PageOf_ok n v_y764.fSpace v_y764.fPage _ h449) (.cons (bnf h450) (.cons (sub_ob (f := eS_tlb_Line) (s := 3) h451 (fun _ => rfl)).1 (.cons (sub_ob (f := eS_tlb_Line) (s := 3) h451 (fun _ => rfl)).2.1 (.cons (sub_ob (f := eS_tlb_Line) (s := 3) h451 (fun _ => rfl)).2.2.1 (.cons (sub_ob (f := eS_tlb_Line) (s := 3) h451 (fun _ => rfl)).2.2.2.1 (.cons (sub_ob (f := eS_tlb_Line) (s := 3) h451 (fun _ => rfl)).2.2.2.2 (.cons (len_ob (f := eS_tlb_Line) (l := v_s771)) .nil))))))))))) (G_ringref2_Tlbs_L2_ok hF (.b 4 :: .b 3 :: .s (cR (cR (cR (cP (cB (cR (cL (cR (cR (cB (cL (cR (cR (cP (cB (cR (cL (cR (cR (bodyOf Try.f28)))))))))))))))))))) :: .l k (cP (cB (cR (cL (cR (cR (cB (cL (cR (cR (cP (cB (cR (cL (cR (cR (bodyOf Try.f28))))))))))))))))) :: ks) n v_l747 v_x753 v_y755 v_x762 v_s771 v_y764 n 0 _ h461 ?_)
        cases v_o777 with
        | x0 v_z778 =>
          try dsimp only at h
          cases h
          exact pkk_sound TTok mix hF 4 (hs := []) (ts := []) (s := []) (l := [2]) (by kernel_rfl) (by kernel_rfl) .nil q
        | x1  =>
          try dsimp only at h
          exact pkk_sound TTok mix hF 3 (hs := []) (ts := []) (s := [0]) (l := [4, 15, 16, 17, 32, 33, 34]) (by kernel_rfl) (by kernel_rfl) .nil (G_ringref2_Tlbs_L3_ok hF ks n v_l747 v_x753 v_y755 k (wi .i64 (v_x762 + 1)) _ h q)
      · rw [if_neg h450] at h
        cases h
        exact pkk_sound TTok mix hF 21 (hs := [.t true, .y (eS_tlb_Line v_y764), .c, .c, .c, .r (eB v_r769), .t true]) (ts := []) (s := []) (l := [2]) (by kernel_rfl) (by kernel_rfl) (.cons (dt h444) (.cons (getI_ob (f := eS_tlb_Line) h445) (.cons (show 0 + 3 ≤ 3 by decide) (.cons (G_ringref2_PageOf_ok n v_y764.fSpace v_y764.fPage _ h449) (.cons (bnt (vf h450)) .nil))))) q
    · rw [if_neg h444] at h
      cases h
      exact pkk_sound TTok mix hF 8 (hs := [.t false]) (ts := []) (s := [0]) (l := [4, 15, 16, 17]) (by kernel_rfl) (by kernel_rfl) (.cons (df h444) .nil) q
inductive G_ringref2_Tlbs_L4_R where
  | x0 (v_x792 : Int)
  | x1 
def G_ringref2_Tlbs_L4_ex : G_ringref2_Tlbs_L4_R → Ex
  | .x0 _ => .ret
  | .x1  => .exit 6
def G_ringref2_Tlbs_L4_st (v_l747 : (List S_tlb_Cpu)) (v_x753 : Int) (v_y755 : S_tlb_Cpu) : G_ringref2_Tlbs_L4_R → PS
  | .x0 v_x792 => ⟨[dd, dd, .d (.v (.int .i64 v_x792)), dd, dd, dd, dd, dd, dd, dd, dd, dd, dd, dd, dd, dd, dd, dd, dd, dd, dd, dd, dd, dd, dd, dd, dd, dd, dd, dd, dd, dd, dd, dd, dd, dd, dd, dd, dd, dd, dd, dd, dd, dd, dd, dd, dd, dd, dd, dd, dd, dd, dd, dd, dd, dd, dd, dd, dd, dd, dd, dd, dd, dd, dd, dd, dd, dd, dd, dd, dd, dd, dd, dd, dd, dd, dd, dd, dd, dd], []⟩
  | .x1  => ⟨[dd, dd, dd, dd, dd, dd, dd, dd, dd, dd, dd, dd, dd, dd, dd, .d (.sl (v_l747.map eS_tlb_Cpu)), .d (.v (.int .i64 (v_l747.length : Int))), .d (.v (.int .i64 v_x753)), dd, dd, dd, dd, dd, dd, dd, dd, dd, dd, dd, dd, dd, dd, dd, dd, dd, dd, dd, dd, dd, dd, dd, dd, dd, dd, dd, dd, dd, dd, dd, dd, dd, dd, dd, dd, dd, dd, dd, dd, dd, dd, dd, dd, dd, dd, dd, dd, dd, dd, dd, dd, dd, dd, dd, dd, dd, dd, dd, dd, dd, dd], []⟩
def G_ringref2_Tlbs_L4_hd (v_l747 : (List S_tlb_Cpu)) (v_x753 : Int) (v_y755 : S_tlb_Cpu) (v_x783 : Int) : PS := ⟨[dd, dd, dd, dd, dd, dd, dd, dd, dd, dd, dd, dd, dd, dd, dd, .d (.sl (v_l747.map eS_tlb_Cpu)), .d (.v (.int .i64 (v_l747.length : Int))), .d (.v (.int .i64 v_x753)), dd, dd, dd, dd, dd, dd, dd, dd, dd, dd, dd, dd, dd, dd, dd, dd, dd, dd, dd, dd, dd, dd, dd, dd, dd, dd, dd, dd, dd, dd, dd, dd, dd, dd, dd, dd, dd, dd, dd, dd, dd, dd, dd, dd, dd, dd, dd, dd, dd, dd, dd, .d (.sl (v_y755.fOrders.map eS_tlb_Order)), .d (.v (.int .i64 (v_y755.fOrders.length : Int))), .d (.v (.int .i64 v_x783)), dd, dd, dd, dd, dd, dd, dd, dd], []⟩
def G_ringref2_Tlbs_L4 (n : Nat) (v_l747 : (List S_tlb_Cpu)) (v_x753 : Int) (v_y755 : S_tlb_Cpu) : Nat → Int → Option G_ringref2_Tlbs_L4_R
  | 0, _ => none
  | k + 1, v_x783 =>
    if v_x783 < (v_y755.fOrders.length : Int) then
     (getI v_y755.fOrders v_x783).bind fun (v_y790 : S_tlb_Order) =>
     (G_ringref2_OrderIs n v_y790).bind fun (v_r791 : (Bool)) =>
     if v_r791 = true then
      G_ringref2_Tlbs_L4 n v_l747 v_x753 v_y755 k (wi .i64 (v_x783 + 1))
     else
      some (.x0 3)
    else
     some (.x1 )
theorem G_ringref2_Tlbs_L4_ok {Fi : Ex → PS → Prop} (hF : KC 80 Fi) (ks : List Fr) (n : Nat) (v_l747 : (List S_tlb_Cpu)) (v_x753 : Int) (v_y755 : S_tlb_Cpu)  : ∀ (k : Nat) (v_x783 : Int) (o : G_ringref2_Tlbs_L4_R), G_ringref2_Tlbs_L4 n v_l747 v_x753 v_y755 k v_x783 = some o → RunE Try.prog 80 Fi ks (G_ringref2_Tlbs_L4_ex o) (G_ringref2_Tlbs_L4_st v_l747 v_x753 v_y755 o) → RunE Try.prog 80 Fi (.l k (cP (cB (cR (cR (cR (cR (cB (cL (cR (cR (cP (cB (cR (cL (cR (cR (bodyOf Try.f28))))))))))))))))) :: ks) .normal (G_ringref2_Tlbs_L4_hd v_l747 v_x753 v_y755 v_x783)
  | 0, v_x783, o, h, q => by rw [G_ringref2_Tlbs_L4] at h; cases h
  | k + 1, v_x783, o, h, q => by
    rw [G_ringref2_Tlbs_L4] at h
    by_cases h463 : v_x783 < (v_y755.fOrders.length : Int)
    · rw [if_pos h463] at h
      obtain ⟨v_y790, h470, h⟩ := bind_some h
      obtain ⟨v_r791, h471, h⟩ := bind_some h
      by_cases h472 : v_r791 = true
      · rw [if_pos h472] at h
        exact pkk_sound TTok mix hF 16 (hs := [.t true, .y (eS_tlb_Order v_y790), .c, .c, .r (eB v_r791), .t false]) (ts := []) (s := []) (l := [15, 16, 17, 69, 70, 71]) (by kernel_rfl) (by kernel_rfl) (.cons (dt h463) (.cons (getI_ob (f := eS_tlb_Order) h470) (.cons (show 0 + 2 ≤ 2 by decide) (.cons (G_ringref2_OrderIs_ok n v_y790 _ h471) (.cons (bnf h472) .nil))))) (G_ringref2_Tlbs_L4_ok hF ks n v_l747 v_x753 v_y755 k (wi .i64 (v_x783 + 1)) _ h q)
      · rw [if_neg h472] at h
        cases h
        exact pkk_sound TTok mix hF 19 (hs := [.t true, .y (eS_tlb_Order v_y790), .c, .c, .r (eB v_r791), .t true]) (ts := []) (s := []) (l := [2]) (by kernel_rfl) (by kernel_rfl) (.cons (dt h463) (.cons (getI_ob (f := eS_tlb_Order) h470) (.cons (show 0 + 2 ≤ 2 by decide) (.cons (G_ringref2_OrderIs_ok n v_y790 _ h471) (.cons (bnt (vf h472)) .nil))))) q
    · rw [if_neg h463] at h
      cases h
      exact pkk_sound TTok mix hF 8 (hs := [.t false]) (ts := []) (s := []) (l := [15, 16, 17]) (by kernel_rfl) (by kernel_rfl) (.cons (df h463) .nil) q
inductive G_ringref2_Tlbs_L5_R where
  | x0 (v_x761 : Int)
  | x1 
def G_ringref2_Tlbs_L5_ex : G_ringref2_Tlbs_L5_R → Ex
  | .x0 _ => .ret
  | .x1  => .exit 0
def G_ringref2_Tlbs_L5_st (v_l747 : (List S_tlb_Cpu)) : G_ringref2_Tlbs_L5_R → PS
  | .x0 v_x761 => ⟨[dd, dd, .d (.v (.int .i64 v_x761)), dd, dd, dd, dd, dd, dd, dd, dd, dd, dd, dd, dd, dd, dd, dd, dd, dd, dd, dd, dd, dd, dd, dd, dd, dd, dd, dd, dd, dd, dd, dd, dd, dd, dd, dd, dd, dd, dd, dd, dd, dd, dd, dd, dd, dd, dd, dd, dd, dd, dd, dd, dd, dd, dd, dd, dd, dd, dd, dd, dd, dd, dd, dd, dd, dd, dd, dd, dd, dd, dd, dd, dd, dd, dd, dd, dd, dd], []⟩
  | .x1  => ⟨[dd, dd, dd, dd, dd, dd, dd, dd, dd, dd, dd, dd, dd, dd, dd, dd, dd, dd, dd, dd, dd, dd, dd, dd, dd, dd, dd, dd, dd, dd, dd, dd, dd, dd, dd, dd, dd, dd, dd, dd, dd, dd, dd, dd, dd, dd, dd, dd, dd, dd, dd, dd, dd, dd, dd, dd, dd, dd, dd, dd, dd, dd, dd, dd, dd, dd, dd, dd, dd, dd, dd, dd, dd, dd, dd, dd, dd, dd, dd, dd], []⟩
def G_ringref2_Tlbs_L5_hd (v_l747 : (List S_tlb_Cpu)) (v_x753 : Int) : PS := ⟨[dd, dd, dd, dd, dd, dd, dd, dd, dd, dd, dd, dd, dd, dd, dd, .d (.sl (v_l747.map eS_tlb_Cpu)), .d (.v (.int .i64 (v_l747.length : Int))), .d (.v (.int .i64 v_x753)), dd, dd, dd, dd, dd, dd, dd, dd, dd, dd, dd, dd, dd, dd, dd, dd, dd, dd, dd, dd, dd, dd, dd, dd, dd, dd, dd, dd, dd, dd, dd, dd, dd, dd, dd, dd, dd, dd, dd, dd, dd, dd, dd, dd, dd, dd, dd, dd, dd, dd, dd, dd, dd, dd, dd, dd, dd, dd, dd, dd, dd, dd], []⟩
def G_ringref2_Tlbs_L5 (n : Nat) (v_l747 : (List S_tlb_Cpu)) : Nat → Int → Option G_ringref2_Tlbs_L5_R
  | 0, _ => none
  | k + 1, v_x753 =>
    if v_x753 < (v_l747.length : Int) then
     (getI v_l747 v_x753).bind fun (v_y755 : S_tlb_Cpu) =>
     (G_ringref2_Tlbs_C1 n v_l747 v_x753 v_y755).bind fun v_o759 => match v_o759 with
     | .x0 v_z760 =>
       if v_z760 = true then
        some (.x0 2)
       else
        (G_ringref2_Tlbs_L3 n v_l747 v_x753 v_y755 n 0).bind fun v_o780 => match v_o780 with
        | .x0 v_z781 =>
          some (.x0 v_z781)
        | .x1  =>
          (G_ringref2_Tlbs_L4 n v_l747 v_x753 v_y755 n 0).bind fun v_o793 => match v_o793 with
          | .x0 v_z794 =>
            some (.x0 v_z794)
          | .x1  =>
            G_ringref2_Tlbs_L5 n v_l747 k (wi .i64 (v_x753 + 1))
    else
     some (.x1 )
theorem G_ringref2_Tlbs_L5_ok {Fi : Ex → PS → Prop} (hF : KC 80 Fi) (ks : List Fr) (n : Nat) (v_l747 : (List S_tlb_Cpu))  : ∀ (k : Nat) (v_x753 : Int) (o : G_ringref2_Tlbs_L5_R), G_ringref2_Tlbs_L5 n v_l747 k v_x753 = some o → RunE Try.prog 80 Fi ks (G_ringref2_Tlbs_L5_ex o) (G_ringref2_Tlbs_L5_st v_l747 o) → RunE Try.prog 80 Fi (.l k (cP (cB (cR (cL (cR (cR (bodyOf Try.f28))))))) :: ks) .normal (G_ringref2_Tlbs_L5_hd v_l747 v_x753)
  | 0, v_x753, o, h, q => by rw [G_ringref2_Tlbs_L5] at h; cases h
  | k + 1, v_x753, o, h, q => by
    rw [G_ringref2_Tlbs_L5] at h
    by_cases h438 : v_x753 < (v_l747.length : Int)
    · rw [if_pos h438] at h
      obtain ⟨v_y755, h439, h⟩ := bind_some h
      obtain ⟨v_o759, h442, h⟩ := bind_some h
      refine pkk_sound TTok mix hF 12 (hs := [.t true, .y (eS_tlb_Cpu v_y755), .c]) (ts := []) (s := [15]) (l := [4, 15, 16, 17]) (by kernel_rfl) (by kernel_rfl) (.cons (dt h438) (.cons (getI_ob (f := eS_tlb_Cpu) h439) (.cons (show 0 + 2 ≤ 2 by decide) .nil))) (G_ringref2_Tlbs_C1_ok hF (.s (cR (cL (cR (cB (cL (cR (cR (cP (cB (cR (cL (cR (cR (bodyOf Try.f28)))))))))))))) :: .s (cR (cR (cB (cL (cR (cR (cP (cB (cR (cL (cR (cR (bodyOf Try.f28))))))))))))) :: .b 1 :: .s (cR (cR (cR (cP (cB (cR (cL (cR (cR (bodyOf Try.f28)))))))))) :: .l k (cP (cB (cR (cL (cR (cR (bodyOf Try.f28))))))) :: ks) n v_l747 v_x753 v_y755 _ h442 ?_)
      cases v_o759 with
      | x0 v_z760 =>
        try dsimp only at h
        by_cases h443 : v_z760 = true
        · rw [if_pos h443] at h
          cases h
          exact pkk_sound TTok mix hF 8 (hs := [.t true]) (ts := []) (s := []) (l := [2]) (by kernel_rfl) (by kernel_rfl) (.cons h443 .nil) q
        · rw [if_neg h443] at h
          obtain ⟨v_o780, h462, h⟩ := bind_some h
          refine pkk_sound TTok mix hF 7 (hs := [.t false, .c, .u (.d (.v (.int .i64 (v_y755.fLines.length : Int)))), .n n]) (ts := []) (s := [0]) (l := [4, 15, 16, 17, 32, 33, 34]) (by kernel_rfl) (by kernel_rfl) (.cons (vf h443) (.cons (len_ob (f := eS_tlb_Line) (l := v_y755.fLines)) .nil)) (G_ringref2_Tlbs_L3_ok hF (.b 2 :: .s (cR (cR (cR (cB (cL (cR (cR (cP (cB (cR (cL (cR (cR (bodyOf Try.f28)))))))))))))) :: .b 1 :: .s (cR (cR (cR (cP (cB (cR (cL (cR (cR (bodyOf Try.f28)))))))))) :: .l k (cP (cB (cR (cL (cR (cR (bodyOf Try.f28))))))) :: ks) n v_l747 v_x753 v_y755 n 0 _ h462 ?_)
          cases v_o780 with
          | x0 v_z781 =>
            try dsimp only at h
            cases h
            exact pkk_sound TTok mix hF 5 (hs := []) (ts := []) (s := []) (l := [2]) (by kernel_rfl) (by kernel_rfl) .nil q
          | x1  =>
            try dsimp only at h
            obtain ⟨v_o793, h473, h⟩ := bind_some h
            refine pkk_sound TTok mix hF 5 (hs := [.c, .u (.d (.v (.int .i64 (v_y755.fOrders.length : Int)))), .n n]) (ts := []) (s := []) (l := [15, 16, 17, 69, 70, 71]) (by kernel_rfl) (by kernel_rfl) (.cons (len_ob (f := eS_tlb_Order) (l := v_y755.fOrders)) .nil) (G_ringref2_Tlbs_L4_ok hF (.b 6 :: .b 1 :: .s (cR (cR (cR (cP (cB (cR (cL (cR (cR (bodyOf Try.f28)))))))))) :: .l k (cP (cB (cR (cL (cR (cR (bodyOf Try.f28))))))) :: ks) n v_l747 v_x753 v_y755 n 0 _ h473 ?_)
            cases v_o793 with
            | x0 v_z794 =>
              try dsimp only at h
              cases h
              exact pkk_sound TTok mix hF 4 (hs := []) (ts := []) (s := []) (l := [2]) (by kernel_rfl) (by kernel_rfl) .nil q
            | x1  =>
              try dsimp only at h
              exact pkk_sound TTok mix hF 3 (hs := []) (ts := []) (s := []) (l := [15, 16, 17]) (by kernel_rfl) (by kernel_rfl) .nil (G_ringref2_Tlbs_L5_ok hF ks n v_l747 k (wi .i64 (v_x753 + 1)) _ h q)
    · rw [if_neg h438] at h
      cases h
      exact pkk_sound TTok mix hF 8 (hs := [.t false]) (ts := []) (s := []) (l := []) (by kernel_rfl) (by kernel_rfl) (.cons (df h438) .nil) q
/- ringhall/ringref2.Tlbs -/
def G_ringref2_Tlbs (n : Nat) (v_l747 : (List S_tlb_Cpu)) : Option (Int) :=
  (G_ringref2_In n (v_l747.length : Int) 1 4).bind fun (v_r748 : (Bool)) =>
  if v_r748 = true then
   (G_ringref2_Tlbs_L5 n v_l747 n 0).bind fun v_o796 => match v_o796 with
   | .x0 v_z797 =>
     some v_z797
   | .x1  =>
     some 0
  else
   some 1
theorem G_ringref2_Tlbs_ok (n : Nat) (v_l747 : (List S_tlb_Cpu)) (r : Int) (h : G_ringref2_Tlbs n v_l747 = some r) : Ret Try.prog 28 [(eL eS_tlb_Cpu) v_l747] ((eI .i64) r) := by
  refine ret_run (n := 80) (fn := Try.f28) (c := bodyOf Try.f28) (by kernel_rfl) (by kernel_rfl) (by kernel_rfl) (by kernel_rfl) ?_
  have hF : KC 80 (FinR Try.prog Try.f28 ((eI .i64) r)) := FinR.kc' (by kernel_rfl)
  unfold G_ringref2_Tlbs at h
  obtain ⟨v_r748, h436, h⟩ := bind_some h
  by_cases h437 : v_r748 = true
  · rw [if_pos h437] at h
    obtain ⟨v_o796, h474, h⟩ := bind_some h
    refine pkk_sound TTok mix hF 12 (hs := [.u (.d (.v (.int .i64 (v_l747.length : Int)))), .r (eB v_r748), .t false, .u (.d (.v (.int .i64 (v_l747.length : Int)))), .n n]) (ts := []) (s := []) (l := [15, 16, 17]) (by kernel_rfl) (by kernel_rfl) (.cons (len_ob (f := eS_tlb_Cpu) (l := v_l747)) (.cons (G_ringref2_In_ok n (v_l747.length : Int) 1 4 _ h436) (.cons (bnf h437) (.cons (len_ob (f := eS_tlb_Cpu) (l := v_l747)) .nil)))) (G_ringref2_Tlbs_L5_ok hF (.b 0 :: .s (cR (cR (cR (bodyOf Try.f28)))) :: []) n v_l747 n 0 _ h474 ?_)
    cases v_o796 with
    | x0 v_z797 =>
      try dsimp only at h
      obtain rfl := Option.some.inj h
      exact pend_sound TTok mix 2 (hs := []) (by kernel_rfl) (by kernel_rfl) (by kernel_rfl) .nil
    | x1  =>
      try dsimp only at h
      obtain rfl := Option.some.inj h
      exact pend_sound TTok mix 4 (hs := []) (by kernel_rfl) (by kernel_rfl) (by kernel_rfl) .nil
  · rw [if_neg h437] at h
    obtain rfl := Option.some.inj h
    exact pend_sound TTok mix 10 (hs := [.u (.d (.v (.int .i64 (v_l747.length : Int)))), .r (eB v_r748), .t true]) (by kernel_rfl) (by kernel_rfl) (by kernel_rfl) (.cons (len_ob (f := eS_tlb_Cpu) (l := v_l747)) (.cons (G_ringref2_In_ok n (v_l747.length : Int) 1 4 _ h436) (.cons (bnt (vf h437)) .nil)))
/- ringhall/ringref2.TlbWith -/
def G_ringref2_TlbWith (n : Nat) (v_l1564 : (List S_tlb_Cpu)) (v_k1565 : Int) (v_c1566 : S_tlb_Cpu) : Option ((List S_tlb_Cpu)) :=
  (app 48 ([] : (List S_tlb_Cpu)) v_l1564).bind fun (v_a1567 : (List S_tlb_Cpu)) =>
  if 0 ≤ v_k1565 ∧ (v_k1565).toNat < v_a1567.length then
   (v_a1567[(v_k1565).toNat]?).bind fun (v_y1568 : S_tlb_Cpu) =>
   some (v_a1567.set (v_k1565).toNat v_c1566)
  else none
theorem G_ringref2_TlbWith_ok (n : Nat) (v_l1564 : (List S_tlb_Cpu)) (v_k1565 : Int) (v_c1566 : S_tlb_Cpu) (r : (List S_tlb_Cpu)) (h : G_ringref2_TlbWith n v_l1564 v_k1565 v_c1566 = some r) : Ret Try.prog 32 [(eL eS_tlb_Cpu) v_l1564, (eI .i64) v_k1565, eS_tlb_Cpu v_c1566] ((eL eS_tlb_Cpu) r) := by
  refine ret_run (n := 15) (fn := Try.f32) (c := bodyOf Try.f32) (by kernel_rfl) (by kernel_rfl) (by kernel_rfl) (by kernel_rfl) ?_
  have hF : KC 15 (FinR Try.prog Try.f32 ((eL eS_tlb_Cpu) r)) := FinR.kc' (by kernel_rfl)
  unfold G_ringref2_TlbWith at h
  obtain ⟨v_a1567, h588, h⟩ := bind_some h
  by_cases h589 : 0 ≤ v_k1565 ∧ (v_k1565).toNat < v_a1567.length
  · rw [if_pos h589] at h
    obtain ⟨v_y1568, h590, h⟩ := bind_some h
    obtain rfl := Option.some.inj h
    exact pend_sound TTok mix 9 (hs := [.w (v_a1567.map eS_tlb_Cpu), .c, .w ((v_a1567.set (v_k1565).toNat v_c1566).map eS_tlb_Cpu), .y (eS_tlb_Cpu v_y1568)]) (by kernel_rfl) (by kernel_rfl) (by kernel_rfl) (.cons (app_ob (f := eS_tlb_Cpu) (s := 2) h588 (fun _ => rfl)).1 (.cons (app_ob (f := eS_tlb_Cpu) (s := 2) h588 (fun _ => rfl)).2.1 (.cons (app_ob (f := eS_tlb_Cpu) (s := 2) h588 (fun _ => rfl)).2.2.1 (.cons (app_ob (f := eS_tlb_Cpu) (s := 2) h588 (fun _ => rfl)).2.2.2 (.cons (idx_ob (f := eS_tlb_Cpu) h589) (.cons (get_ob (f := eS_tlb_Cpu) h590) (.cons (Eq.refl (pcells (.agg [.sl (v_c1566.fLines.map eS_tlb_Line), .sl (v_c1566.fOrders.map eS_tlb_Order)]))) (.cons (set_ob (f := eS_tlb_Cpu) (l := v_a1567) (k := (v_k1565).toNat) (z := v_c1566) (p := .agg [.sl (v_c1566.fLines.map eS_tlb_Line), .sl (v_c1566.fOrders.map eS_tlb_Order)]) rfl) .nil))))))))
  · rw [if_neg h589] at h; cases h
inductive G_ringref2_TlbForget_C1_R where
  | x0 (v_x1662 : Bool) (v_w1663 : (List S_tlb_Line))
def G_ringref2_TlbForget_C1_ex : G_ringref2_TlbForget_C1_R → Ex
  | .x0 _ _ => .normal
def G_ringref2_TlbForget_C1_st (v_l1633 : (List S_tlb_Line)) (v_x1644 : Int) (v_o1634 : S_tlb_Order) (v_w1645 : (List S_tlb_Line)) (v_y1660 : S_tlb_Line) : G_ringref2_TlbForget_C1_R → PS
  | .x0 v_x1662 v_w1663 => ⟨[dd, dd, dd, .ref 0 0, dd, .srf 1, dd, .ref 2 0, .d (.sl (v_l1633.map eS_tlb_Line)), .d (.v (.int .i64 (v_l1633.length : Int))), .d (.v (.int .i64 v_x1644)), dd, dd, dd, dd, dd, dd, dd, dd, dd, dd, dd, dd, dd, dd, dd, dd, dd, dd, dd, .d (.v (.bool v_x1662)), dd, dd, dd, dd, dd, dd], [.box [.d (.v (.int .i64 v_o1634.fSpace)), .d (.v (.int .i64 v_o1634.fPage))], .row 69 3 (v_w1663.map eS_tlb_Line), .box [.d (.v (.int .i64 v_y1660.fSpace)), .d (.v (.int .i64 v_y1660.fPage)), .d (.v (.int .u32 v_y1660.fWord))]]⟩
def G_ringref2_TlbForget_C1_hd (v_l1633 : (List S_tlb_Line)) (v_x1644 : Int) (v_o1634 : S_tlb_Order) (v_w1645 : (List S_tlb_Line)) (v_y1660 : S_tlb_Line)  : PS := ⟨[dd, dd, dd, .ref 0 0, dd, .srf 1, dd, .ref 2 0, .d (.sl (v_l1633.map eS_tlb_Line)), .d (.v (.int .i64 (v_l1633.length : Int))), .d (.v (.int .i64 v_x1644)), dd, dd, dd, dd, dd, dd, dd, dd, dd, dd, dd, dd, dd, dd, dd, dd, dd, dd, dd, dd, dd, dd, dd, dd, dd, dd], [.box [.d (.v (.int .i64 v_o1634.fSpace)), .d (.v (.int .i64 v_o1634.fPage))], .row 69 3 (v_w1645.map eS_tlb_Line), .box [.d (.v (.int .i64 v_y1660.fSpace)), .d (.v (.int .i64 v_y1660.fPage)), .d (.v (.int .u32 v_y1660.fWord))]]⟩
def G_ringref2_TlbForget_C1 (n : Nat) (v_l1633 : (List S_tlb_Line)) (v_x1644 : Int) (v_o1634 : S_tlb_Order) (v_w1645 : (List S_tlb_Line)) (v_y1660 : S_tlb_Line) : Option G_ringref2_TlbForget_C1_R :=
  if v_y1660.fSpace = v_o1634.fSpace then
   if v_o1634.fPage = (-1) then
    some (.x0 false v_w1645)
   else
    some (.x0 (v_y1660.fPage != v_o1634.fPage) v_w1645)
  else
   some (.x0 true v_w1645)
theorem G_ringref2_TlbForget_C1_ok {Fi : Ex → PS → Prop} (hF : KC 37 Fi) (ks : List Fr) (n : Nat) (v_l1633 : (List S_tlb_Line)) (v_x1644 : Int) (v_o1634 : S_tlb_Order) (v_w1645 : (List S_tlb_Line)) (v_y1660 : S_tlb_Line)  (o : G_ringref2_TlbForget_C1_R) (h : G_ringref2_TlbForget_C1 n v_l1633 v_x1644 v_o1634 v_w1645 v_y1660 = some o) (q : RunE Try.prog 37 Fi ks (G_ringref2_TlbForget_C1_ex o) (G_ringref2_TlbForget_C1_st v_l1633 v_x1644 v_o1634 v_w1645 v_y1660 o)) : RunE Try.prog 37 Fi (.s (cL (cR (cB (cL (cR (cR (cP (cB (cR (cL (cR (cR (bodyOf Try.f33))))))))))))) :: ks) .normal (G_ringref2_TlbForget_C1_hd v_l1633 v_x1644 v_o1634 v_w1645 v_y1660) := by
  unfold G_ringref2_TlbForget_C1 at h
  by_cases h632 : v_y1660.fSpace = v_o1634.fSpace
  · rw [if_pos h632] at h
    by_cases h633 : v_o1634.fPage = (-1)
    · rw [if_pos h633] at h
      cases h
      exact pkk_sound TTok mix hF 1 (hs := [.c, .c, .t false, .c, .c, .c, .c, .t false, .c, .c, .c, .c, .c]) (ts := []) (s := [0, 1, 2]) (l := [3, 5, 7, 8, 9, 10, 30]) (by kernel_rfl) (by kernel_rfl) (.cons (nf h632) (.cons (nf h633) .nil)) q
    · rw [if_neg h633] at h
      cases h
      exact pkk_sound TTok mix hF 1 (hs := [.c, .c, .t false, .c, .c, .c, .c, .t true, .c, .c, .c, .c, .c, .c, .c]) (ts := []) (s := [0, 1, 2]) (l := [3, 5, 7, 8, 9, 10, 30]) (by kernel_rfl) (by kernel_rfl) (.cons (nf h632) (.cons (nt h633) .nil)) q
  · rw [if_neg h632] at h
    cases h
    exact pkk_sound TTok mix hF 1 (hs := [.c, .c, .t true, .c, .c, .c, .c]) (ts := []) (s := [0, 1, 2]) (l := [3, 5, 7, 8, 9, 10, 30]) (by kernel_rfl) (by kernel_rfl) (.cons (nt h632) .nil) q
inductive G_ringref2_TlbForget_L2_R where
  | x0 (v_w1673 : (List S_tlb_Line))
def G_ringref2_TlbForget_L2_ex : G_ringref2_TlbForget_L2_R → Ex
  | .x0 _ => .exit 0
def G_ringref2_TlbForget_L2_st (v_l1633 : (List S_tlb_Line)) (v_o1634 : S_tlb_Order) : G_ringref2_TlbForget_L2_R → PS
  | .x0 v_w1673 => ⟨[dd, dd, dd, dd, dd, .srf 0, dd, dd, dd, dd, dd, dd, dd, dd, dd, dd, dd, dd, dd, dd, dd, dd, dd, dd, dd, dd, dd, dd, dd, dd, dd, dd, dd, dd, dd, dd, dd], [.row 69 3 (v_w1673.map eS_tlb_Line)]⟩
def G_ringref2_TlbForget_L2_hd (v_l1633 : (List S_tlb_Line)) (v_o1634 : S_tlb_Order) (v_x1644 : Int) (v_w1645 : (List S_tlb_Line)) : PS := ⟨[dd, dd, dd, .ref 0 0, dd, .srf 1, dd, dd, .d (.sl (v_l1633.map eS_tlb_Line)), .d (.v (.int .i64 (v_l1633.length : Int))), .d (.v (.int .i64 v_x1644)), dd, dd, dd, dd, dd, dd, dd, dd, dd, dd, dd, dd, dd, dd, dd, dd, dd, dd, dd, dd, dd, dd, dd, dd, dd, dd], [.box [.d (.v (.int .i64 v_o1634.fSpace)), .d (.v (.int .i64 v_o1634.fPage))], .row 69 3 (v_w1645.map eS_tlb_Line)]⟩
def G_ringref2_TlbForget_L2 (n : Nat) (v_l1633 : (List S_tlb_Line)) (v_o1634 : S_tlb_Order) : Nat → Int → (List S_tlb_Line) → Option G_ringref2_TlbForget_L2_R
  | 0, _, _ => none
  | k + 1, v_x1644, v_w1645 =>
    if v_x1644 < (v_l1633.length : Int) then
     (getI v_l1633 v_x1644).bind fun (v_y1660 : S_tlb_Line) =>
     (G_ringref2_TlbForget_C1 n v_l1633 v_x1644 v_o1634 v_w1645 v_y1660).bind fun v_o1668 => match v_o1668 with
     | .x0 v_z1669 v_z1670 =>
       if v_z1669 = true then
        (app 24 v_z1670 ([v_y1660])).bind fun (v_a1672 : (List S_tlb_Line)) =>
        G_ringref2_TlbForget_L2 n v_l1633 v_o1634 k (wi .i64 (v_x1644 + 1)) v_a1672
       else
        G_ringref2_TlbForget_L2 n v_l1633 v_o1634 k (wi .i64 (v_x1644 + 1)) v_z1670
    else
     some (.x0 v_w1645)
theorem G_ringref2_TlbForget_L2_ok {Fi : Ex → PS → Prop} (hF : KC 37 Fi) (ks : List Fr) (n : Nat) (v_l1633 : (List S_tlb_Line)) (v_o1634 : S_tlb_Order)  : ∀ (k : Nat) (v_x1644 : Int) (v_w1645 : (List S_tlb_Line)) (o : G_ringref2_TlbForget_L2_R), G_ringref2_TlbForget_L2 n v_l1633 v_o1634 k v_x1644 v_w1645 = some o → RunE Try.prog 37 Fi ks (G_ringref2_TlbForget_L2_ex o) (G_ringref2_TlbForget_L2_st v_l1633 v_o1634 o) → RunE Try.prog 37 Fi (.l k (cP (cB (cR (cL (cR (cR (bodyOf Try.f33))))))) :: ks) .normal (G_ringref2_TlbForget_L2_hd v_l1633 v_o1634 v_x1644 v_w1645)
  | 0, v_x1644, v_w1645, o, h, q => by rw [G_ringref2_TlbForget_L2] at h; cases h
  | k + 1, v_x1644, v_w1645, o, h, q => by
    rw [G_ringref2_TlbForget_L2] at h
    by_cases h618 : v_x1644 < (v_l1633.length : Int)
    · rw [if_pos h618] at h
      obtain ⟨v_y1660, h629, h⟩ := bind_some h
      obtain ⟨v_o1668, h634, h⟩ := bind_some h
      refine pkk_sound TTok mix hF 11 (hs := [.t true, .y (eS_tlb_Line v_y1660), .c]) (ts := []) (s := [0, 1, 17]) (l := [3, 5, 7, 8, 9, 10]) (by kernel_rfl) (by kernel_rfl) (.cons (dt h618) (.cons (getI_ob (f := eS_tlb_Line) h629) (.cons (show 0 + 3 ≤ 3 by decide) .nil))) (G_ringref2_TlbForget_C1_ok hF (.s (cR (cR (cB (cL (cR (cR (cP (cB (cR (cL (cR (cR (bodyOf Try.f33))))))))))))) :: .b 1 :: .s (cR (cR (cR (cP (cB (cR (cL (cR (cR (bodyOf Try.f33)))))))))) :: .l k (cP (cB (cR (cL (cR (cR (bodyOf Try.f33))))))) :: ks) n v_l1633 v_x1644 v_o1634 v_w1645 v_y1660 _ h634 ?_)
      cases v_o1668 with
      | x0 v_z1669 v_z1670 =>
        try dsimp only at h
        by_cases h637 : v_z1669 = true
        · rw [if_pos h637] at h
          obtain ⟨v_a1672, h638, h⟩ := bind_some h
          exact pkk_sound TTok mix hF 4 (hs := [.t true, .c, .bd, .w (v_a1672.map eS_tlb_Line)]) (ts := []) (s := [0, 18]) (l := [3, 5, 8, 9, 10]) (by kernel_rfl) (by kernel_rfl) (.cons h637 (.cons (app_ob (f := eS_tlb_Line) (s := 3) h638 (fun _ => rfl)).1 (.cons (app_ob (f := eS_tlb_Line) (s := 3) h638 (fun _ => rfl)).2.1 (.cons (app_ob (f := eS_tlb_Line) (s := 3) h638 (fun _ => rfl)).2.2.1 (.cons (app_ob (f := eS_tlb_Line) (s := 3) h638 (fun _ => rfl)).2.2.2 .nil))))) (G_ringref2_TlbForget_L2_ok hF ks n v_l1633 v_o1634 k (wi .i64 (v_x1644 + 1)) v_a1672 _ h q)
        · rw [if_neg h637] at h
          exact pkk_sound TTok mix hF 4 (hs := [.t false]) (ts := []) (s := [0, 1]) (l := [3, 5, 8, 9, 10]) (by kernel_rfl) (by kernel_rfl) (.cons (vf h637) .nil) (G_ringref2_TlbForget_L2_ok hF ks n v_l1633 v_o1634 k (wi .i64 (v_x1644 + 1)) v_z1670 _ h q)
    · rw [if_neg h618] at h
      cases h
      exact pkk_sound TTok mix hF 8 (hs := [.t false]) (ts := []) (s := [1]) (l := [5]) (by kernel_rfl) (by kernel_rfl) (.cons (df h618) .nil) q
/- ringhall/ringref2.TlbForget -/
def G_ringref2_TlbForget (n : Nat) (v_l1633 : (List S_tlb_Line)) (v_o1634 : S_tlb_Order) : Option ((List S_tlb_Line)) :=
  (G_ringref2_TlbForget_L2 n v_l1633 v_o1634 n 0 ([] : List S_tlb_Line)).bind fun v_o1674 => match v_o1674 with
  | .x0 v_z1675 =>
    some v_z1675
theorem G_ringref2_TlbForget_ok (n : Nat) (v_l1633 : (List S_tlb_Line)) (v_o1634 : S_tlb_Order) (r : (List S_tlb_Line)) (h : G_ringref2_TlbForget n v_l1633 v_o1634 = some r) : Ret Try.prog 33 [(eL eS_tlb_Line) v_l1633, eS_tlb_Order v_o1634] ((eL eS_tlb_Line) r) := by
  refine ret_run (n := 37) (fn := Try.f33) (c := bodyOf Try.f33) (by kernel_rfl) (by kernel_rfl) (by kernel_rfl) (by kernel_rfl) ?_
  have hF : KC 37 (FinR Try.prog Try.f33 ((eL eS_tlb_Line) r)) := FinR.kc' (by kernel_rfl)
  unfold G_ringref2_TlbForget at h
  obtain ⟨v_o1674, h639, h⟩ := bind_some h
  refine pkk_sound TTok mix hF 9 (hs := [.u (.d (.v (.int .i64 (v_l1633.length : Int)))), .n n]) (ts := [(5, 69, 3)]) (s := [0, 30]) (l := [3, 5, 8, 9, 10]) (by kernel_rfl) (by kernel_rfl) (.cons (len_ob (f := eS_tlb_Line) (l := v_l1633)) .nil) (G_ringref2_TlbForget_L2_ok hF (.b 0 :: .s (cR (cR (cR (bodyOf Try.f33)))) :: []) n v_l1633 v_o1634 n 0 ([] : List S_tlb_Line) _ h639 ?_)
  cases v_o1674 with
  | x0 v_z1675 =>
    try dsimp only at h
    obtain rfl := Option.some.inj h
    exact pend_sound TTok mix 4 (hs := []) (by kernel_rfl) (by kernel_rfl) (by kernel_rfl) .nil
inductive G_ringlaw2_TlbTells_C1_R where
  | x0 (v_x3691 : Bool)
def G_ringlaw2_TlbTells_C1_ex : G_ringlaw2_TlbTells_C1_R → Ex
  | .x0 _ => .normal
def G_ringlaw2_TlbTells_C1_st (v_l1 : (List S_tlb_Cpu)) (v_cpus2 : Int) (v_cpu3 : Int) (v_space4 : Int) (v_page5 : Int) (v_word6 : Int) (v_r3553 : ((List S_tlb_Cpu) × Int)) (v_r3560 : ((List S_tlb_Cpu) × Int)) (v_r3571 : (Int × Bool × Int)) (v_r3588 : ((List S_tlb_Cpu) × Int)) (v_r3609 : ((List S_tlb_Cpu) × Bool × Int)) (v_r3636 : (Bool × Int)) (v_o7 : S_tlb_Order) : G_ringlaw2_TlbTells_C1_R → PS
  | .x0 v_x3691 => ⟨[.d (.sl (v_l1.map eS_tlb_Cpu)), dd, .d (.v (.int .i64 v_cpu3)), .d (.v (.int .i64 v_space4)), .d (.v (.int .i64 v_page5)), .d (.v (.int .u32 v_word6)), dd, dd, dd, dd, dd, dd, dd, .ref 0 0, dd, dd, dd, .d (.sl (v_r3560.1.map eS_tlb_Cpu)), .d (.v (.int .i64 v_r3560.2)), .d (.v (.int .u32 v_r3571.1)), .d (.v (.bool v_r3571.2.1)), .d (.v (.int .i64 v_r3571.2.2)), .d (.sl (v_r3588.1.map eS_tlb_Cpu)), .d (.v (.int .i64 v_r3588.2)), .d (.sl (v_r3609.1.map eS_tlb_Cpu)), .d (.v (.bool v_r3609.2.1)), .d (.v (.int .i64 v_r3609.2.2)), .d (.v (.bool v_r3636.1)), .d (.v (.int .i64 v_r3636.2)), dd, dd, dd, dd, dd, dd, dd, dd, dd, dd, dd, dd, dd, dd, dd, dd, dd, dd, dd, dd, dd, dd, dd, dd, dd, dd, dd, dd, dd, dd, dd, dd, dd, dd, dd, dd, dd, dd, dd, dd, dd, dd, dd, dd, dd, dd, dd, dd, dd, dd, dd, dd, dd, dd, dd, dd, dd, dd, dd, dd, dd, dd, dd, dd, dd, dd, dd, dd, dd, dd, dd, dd, dd, dd, dd, dd, dd, dd, dd, dd, dd, dd, dd, .d (.v (.bool v_x3691)), dd, dd, dd, dd, dd, dd, dd, dd, dd, dd, dd, dd, dd, dd, dd, dd, dd, dd, dd, dd, dd, dd, dd, dd, dd, dd, dd, dd, dd, dd, dd, dd, dd, dd, dd, dd, dd, dd, dd, dd, dd, dd, dd, dd, dd, dd, dd, dd, dd, dd, dd, dd, dd, dd, dd, dd, dd, dd, dd, dd, dd, dd, dd, dd, dd, dd, dd, dd, dd, dd, dd, dd, dd, dd, dd, dd, dd, dd, dd, dd, dd, dd, dd, dd, dd, dd, dd, dd, dd, dd, dd, dd, dd, dd, dd, dd, dd, dd, dd, dd, dd, dd, dd, dd, dd, dd, dd, dd, dd, dd, dd, dd, dd, dd, dd, dd, dd, dd, dd, dd, dd, dd, dd, dd, dd, dd, dd, dd, dd, dd, dd, dd, dd, dd, dd, dd, dd, dd, dd, dd, dd, dd, dd, dd, dd, dd, dd, dd, dd, dd, dd, dd, dd, dd, dd, dd, dd, dd, dd, dd, dd, dd, dd, dd, dd, dd, dd, dd, dd, dd, dd, dd, dd, dd, dd, dd, dd, dd, dd, dd, dd, dd, dd, dd, dd, dd, dd, dd, dd, dd, dd, dd, dd, dd, dd, dd, dd, dd, dd, dd, dd, dd, dd, dd, dd, dd, dd, dd, dd, dd, dd, dd, dd, dd, dd, dd, dd, dd, dd, dd, dd, dd, dd, dd, dd, dd, dd, dd, dd, dd, dd, dd, dd, dd, dd, dd, dd, dd, dd, dd, dd, dd, dd, dd, dd, dd, dd, dd, dd, dd, dd, dd, dd, dd, dd, dd, dd, dd, dd, dd, dd, dd, dd, dd, dd, dd, dd, dd, dd, dd, dd, dd, dd, dd, dd, dd], [.box [.d (.v (.int .i64 v_o7.fSpace)), .d (.v (.int .i64 v_o7.fPage))]]⟩
def G_ringlaw2_TlbTells_C1_hd (v_l1 : (List S_tlb_Cpu)) (v_cpus2 : Int) (v_cpu3 : Int) (v_space4 : Int) (v_page5 : Int) (v_word6 : Int) (v_r3553 : ((List S_tlb_Cpu) × Int)) (v_r3560 : ((List S_tlb_Cpu) × Int)) (v_r3571 : (Int × Bool × Int)) (v_r3588 : ((List S_tlb_Cpu) × Int)) (v_r3609 : ((List S_tlb_Cpu) × Bool × Int)) (v_r3636 : (Bool × Int)) (v_o7 : S_tlb_Order)  : PS := ⟨[.d (.sl (v_l1.map eS_tlb_Cpu)), .d (.v (.int .i64 v_cpus2)), .d (.v (.int .i64 v_cpu3)), .d (.v (.int .i64 v_space4)), .d (.v (.int .i64 v_page5)), .d (.v (.int .u32 v_word6)), dd, dd, dd, dd, dd, dd, dd, .ref 0 0, dd, .d (.sl (v_r3553.1.map eS_tlb_Cpu)), .d (.v (.int .i64 v_r3553.2)), .d (.sl (v_r3560.1.map eS_tlb_Cpu)), .d (.v (.int .i64 v_r3560.2)), .d (.v (.int .u32 v_r3571.1)), .d (.v (.bool v_r3571.2.1)), .d (.v (.int .i64 v_r3571.2.2)), .d (.sl (v_r3588.1.map eS_tlb_Cpu)), .d (.v (.int .i64 v_r3588.2)), .d (.sl (v_r3609.1.map eS_tlb_Cpu)), .d (.v (.bool v_r3609.2.1)), .d (.v (.int .i64 v_r3609.2.2)), .d (.v (.bool v_r3636.1)), .d (.v (.int .i64 v_r3636.2)), dd, dd, dd, dd, dd, dd, dd, dd, dd, dd, dd, dd, dd, dd, dd, dd, dd, dd, dd, dd, dd, dd, dd, dd, dd, dd, dd, dd, dd, dd, dd, dd, dd, dd, dd, dd, dd, dd, dd, dd, dd, dd, dd, dd, dd, dd, dd, dd, dd, dd, dd, dd, dd, dd, dd, dd, dd, dd, dd, dd, dd, dd, dd, dd, dd, dd, dd, dd, dd, dd, dd, dd, dd, dd, dd, dd, dd, dd, dd, dd, dd, dd, dd, dd, dd, dd, dd, dd, dd, dd, dd, dd, dd, dd, dd, dd, dd, dd, dd, dd, dd, dd, dd, dd, dd, dd, dd, dd, dd, dd, dd, dd, dd, dd, dd, dd, dd, dd, dd, dd, dd, dd, dd, dd, dd, dd, dd, dd, dd, dd, dd, dd, dd, dd, dd, dd, dd, dd, dd, dd, dd, dd, dd, dd, dd, dd, dd, dd, dd, dd, dd, dd, dd, dd, dd, dd, dd, dd, dd, dd, dd, dd, dd, dd, dd, dd, dd, dd, dd, dd, dd, dd, dd, dd, dd, dd, dd, dd, dd, dd, dd, dd, dd, dd, dd, dd, dd, dd, dd, dd, dd, dd, dd, dd, dd, dd, dd, dd, dd, dd, dd, dd, dd, dd, dd, dd, dd, dd, dd, dd, dd, dd, dd, dd, dd, dd, dd, dd, dd, dd, dd, dd, dd, dd, dd, dd, dd, dd, dd, dd, dd, dd, dd, dd, dd, dd, dd, dd, dd, dd, dd, dd, dd, dd, dd, dd, dd, dd, dd, dd, dd, dd, dd, dd, dd, dd, dd, dd, dd, dd, dd, dd, dd, dd, dd, dd, dd, dd, dd, dd, dd, dd, dd, dd, dd, dd, dd, dd, dd, dd, dd, dd, dd, dd, dd, dd, dd, dd, dd, dd, dd, dd, dd, dd, dd, dd, dd, dd, dd, dd, dd, dd, dd, dd, dd, dd, dd, dd, dd, dd, dd, dd, dd, dd, dd, dd, dd, dd, dd, dd, dd, dd, dd, dd, dd, dd, dd, dd, dd, dd, dd, dd, dd, dd, dd, dd, dd, dd, dd, dd, dd, dd, dd, dd, dd, dd, dd, dd, dd, dd, dd, dd, dd, dd, dd, dd, dd, dd, dd, dd], [.box [.d (.v (.int .i64 v_o7.fSpace)), .d (.v (.int .i64 v_o7.fPage))]]⟩
def G_ringlaw2_TlbTells_C1 (n : Nat) (v_l1 : (List S_tlb_Cpu)) (v_cpus2 : Int) (v_cpu3 : Int) (v_space4 : Int) (v_page5 : Int) (v_word6 : Int) (v_r3553 : ((List S_tlb_Cpu) × Int)) (v_r3560 : ((List S_tlb_Cpu) × Int)) (v_r3571 : (Int × Bool × Int)) (v_r3588 : ((List S_tlb_Cpu) × Int)) (v_r3609 : ((List S_tlb_Cpu) × Bool × Int)) (v_r3636 : (Bool × Int)) (v_o7 : S_tlb_Order) : Option G_ringlaw2_TlbTells_C1_R :=
  (G_ringref2_In n v_cpus2 1 4).bind fun (v_r3690 : (Bool)) =>
  if v_r3690 = true then
   (G_ringref2_In n v_cpus2 1 4).bind fun (v_r3699 : (Bool)) =>
   if v_r3699 = true then
    (mkL 48 (S_tlb_Cpu.mk [] []) v_cpus2).bind fun (v_m3700 : (List S_tlb_Cpu)) =>
    (G_ringref2_TlbSame n v_r3553.1 v_m3700).bind fun (v_r3701 : (Bool)) =>
    if v_r3701 = true then
     some (.x0 (v_r3553.2 != 0))
    else
     some (.x0 true)
   else
    some (.x0 false)
  else
   if (v_r3553.1.length : Int) > 0 then
    some (.x0 true)
   else
    if v_r3553.2 = 1 then
     (G_ringref2_In n v_cpus2 1 4).bind fun (v_r3693 : (Bool)) =>
     if v_r3693 = true then
      (mkL 48 (S_tlb_Cpu.mk [] []) v_cpus2).bind fun (v_m3694 : (List S_tlb_Cpu)) =>
      (G_ringref2_TlbSame n v_r3553.1 v_m3694).bind fun (v_r3695 : (Bool)) =>
      if v_r3695 = true then
       some (.x0 (v_r3553.2 != 0))
      else
       some (.x0 true)
     else
      some (.x0 false)
    else
     some (.x0 true)
theorem G_ringlaw2_TlbTells_C1_e0 {Fi : Ex → PS → Prop} (hF : KC 389 Fi) (ks : List Fr) (n : Nat) (v_l1 : (List S_tlb_Cpu)) (v_cpus2 : Int) (v_cpu3 : Int) (v_space4 : Int) (v_page5 : Int) (v_word6 : Int) (v_r3553 : ((List S_tlb_Cpu) × Int)) (v_r3560 : ((List S_tlb_Cpu) × Int)) (v_r3571 : (Int × Bool × Int)) (v_r3588 : ((List S_tlb_Cpu) × Int)) (v_r3609 : ((List S_tlb_Cpu) × Bool × Int)) (v_r3636 : (Bool × Int)) (v_o7 : S_tlb_Order)  (v_r3690 : (Bool)) (h1038 : G_ringref2_In n v_cpus2 1 4 = some v_r3690) (h1039 : v_r3690 = true) (v_r3699 : (Bool)) (h1047 : G_ringref2_In n v_cpus2 1 4 = some v_r3699) (h1048 : v_r3699 = true) (v_m3700 : (List S_tlb_Cpu)) (h1049 : mkL 48 (S_tlb_Cpu.mk [] []) v_cpus2 = some v_m3700) (v_r3701 : (Bool)) (h1050 : G_ringref2_TlbSame n v_r3553.1 v_m3700 = some v_r3701) (h1051 : v_r3701 = true) (q : RunE Try.prog 389 Fi ks (G_ringlaw2_TlbTells_C1_ex (.x0 (v_r3553.2 != 0))) (G_ringlaw2_TlbTells_C1_st v_l1 v_cpus2 v_cpu3 v_space4 v_page5 v_word6 v_r3553 v_r3560 v_r3571 v_r3588 v_r3609 v_r3636 v_o7 (.x0 (v_r3553.2 != 0)))) : RunE Try.prog 389 Fi (.s (cL (cL (cR (cR (cR (cR (cR (cR (cR (bodyOf Try.f4)))))))))) :: ks) .normal (G_ringlaw2_TlbTells_C1_hd v_l1 v_cpus2 v_cpu3 v_space4 v_page5 v_word6 v_r3553 v_r3560 v_r3571 v_r3588 v_r3609 v_r3636 v_o7) := pkk_sound TTok mix hF 1 (hs := [.r (eB v_r3690), .t false, .c, .c, .c, .c, .c, .c, .r (eB v_r3699), .c, .t true, .c, .c, .w (v_m3700.map eS_tlb_Cpu), .c, .c, .r (eB v_r3701), .c, .c, .t false, .c, .c, .c]) (ts := []) (s := [0]) (l := [0, 2, 3, 4, 5, 13, 17, 18, 19, 20, 21, 22, 23, 24, 25, 26, 27, 28, 112]) (by kernel_rfl) (by kernel_rfl) (.cons (G_ringref2_In_ok n v_cpus2 1 4 _ h1038) (.cons (bnf h1039) (.cons (G_ringref2_In_ok n v_cpus2 1 4 _ h1047) (.cons h1048 (.cons (mkL_ob (f := eS_tlb_Cpu) (p := .agg [.sl [], .sl []]) h1049 rfl).1 (.cons (mkL_ob (f := eS_tlb_Cpu) (p := .agg [.sl [], .sl []]) h1049 rfl).2.1 (.cons (mkL_ob (f := eS_tlb_Cpu) (p := .agg [.sl [], .sl []]) h1049 rfl).2.2.1 (.cons (mkL_ob (f := eS_tlb_Cpu) (p := .agg [.sl [], .sl []]) h1049 rfl).2.2.2.1 (.cons (mkL_ob (f := eS_tlb_Cpu) (p := .agg [.sl [], .sl []]) h1049 rfl).2.2.2.2 (.cons (G_ringref2_TlbSame_ok n v_r3553.1 v_m3700 _ h1050) (.cons (bnf h1051) .nil))))))))))) q

end Go.Proofs.Ytpeakaeblibfmaa.pv
